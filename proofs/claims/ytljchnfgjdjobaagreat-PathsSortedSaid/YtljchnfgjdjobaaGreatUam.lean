/- Part 13 of 18 of the proof. -/
import Derived.Test.YtljchnfgjdjobaaGreatUal
import Derived.Test.YtljchnfgjdjobaaGreatUak
import Derived.Test.YtljchnfgjdjobaaGreatUai
import Derived.Test.YtljchnfgjdjobaaGreatUag
import Derived.KernelRfl
import Derived.Test.YtljchnfgjdjobaaGreatUac
set_option linter.unusedVariables false
set_option linter.unusedSimpArgs false
set_option linter.defProp false
set_option linter.unusedSectionVars false
section
set_option maxRecDepth 100000
namespace Go.aK
open Go Go.Proofs Go.fq
def dP : AV := .agg [.ft, .fn (.func 183) [] [], .fn (.func 184) [] [], .fn (.func 185) [] [], .fn (.func 186) [] []]
theorem Zo (φ : AV → Prop) : cC [.ft, .ft, .ft, .ft, .ft] [(1, 1, .fn (.func 183) [] []), (2, 1, .fn (.func 184) [] []), (3, 1, .fn (.func 185) [] []), (4, 1, .fn (.func 186) [] [])] φ = φ dP := by
 simp only [cC, gI, eq_iff_iff]
 constructor
 ·rintro ⟨_, _, _, _, _, _, _, _, _, _, _, _, h⟩; exact h
 ·exact fun h => ⟨rfl, rfl, by decide, rfl, rfl, by decide, rfl, rfl, by decide, rfl, rfl, by decide, h⟩
theorem Ac : dP.val = true ∧ dP.cells.length = 5 ∧ dP.cells.all AV.one = true ∧ (∀ n, aj n (dP.cells.map AV.ab) = true) ∧ ag [AV.ft, .ft, .ft, .ft, .ft] 0 (dP.cells.map AV.ab) = dP.cells := ⟨rfl, rfl, rfl, fun _ => rfl, rfl⟩
theorem Kc : Pure Tryz.prog 136 [] dP := by
 refine fun H => Ut.2.calls rfl ?_
 simp only [Ut, aI]
 obtain ⟨r1, r2, r3, r4, r5⟩ := Ac
 simp +contextual only [Zo, r1, r2, r3, r4, r5, sZ, Nat.reduceAdd, ↓reduceIte, reduceCtorEq]
 have e : db (some (aa.cells dP.cells)) (some 5) 0 = fun φ => (5 ≤ 5 ∧ φ dP) := rfl
 rw [e]
 exact ⟨Nat.le_refl _, Pa (n0 := H.length) (by simp) rfl rfl ⟨rfl, rfl⟩⟩
theorem Ts (j : Nat) (f : AV) (h : dP.cells[j]? = some f) (hj : j < 5) (φ : AV → Prop) (hd : f.drop = f) : bQ 5 dP (.int .i64 (j : Int)) φ = φ f := by
 simp only [bQ, dP, Int.toNat_natCast, eq_iff_iff]
 have e : [AV.ft, .fn (.func 183) [] [], .fn (.func 184) [] [], .fn (.func 185) [] [], .fn (.func 186) [] []].getD j .any = f := by
  rw [List.getD_eq_getElem?_getD]; show (dP.cells[j]?).getD .any = f; rw [h]; rfl
 rw [e, hd]
 exact ⟨fun h => h.2.2.2, fun h => ⟨rfl, by omega, hj, h⟩⟩
def Kd (c : Cx) (i k : Int) : Prop := ∃ x ∈ c.kd i, E c.O (c.tm x) (c.tm k) ∨ R c.O (c.tm x) (c.tm k)
def rU (c : Cx) (i k : Int) : Prop := qQ c k = true ∧ pe c k < pe c i ∧ ∀ x ∈ c.kd k, R c.O (c.tm i) (c.tm x)
def gC (c : Cx) (i k : Int) (n : Nat) : Prop := (n = 1 ∧ Kd c i k) ∨ (n = 2 ∧ rU c i k) ∨ (n = 3 ∧ z8 c i k) ∨ (n = 4 ∧ wZ c i k)
structure FB (c : Cx) (i k : Int) : Prop where
 r1 : ∀ H, Du c H → aq Tryz.prog 183 [.ptr c.d 0, .int .i64 i, .int .i64 k] H (ic c (Kd c i k) H)
 r2 : ∀ H, Du c H → aq Tryz.prog 184 [.ptr c.d 0, .int .i64 i, .int .i64 k] H (ic c (rU c i k) H)
 r3 : ∀ H, Du c H → aq Tryz.prog 185 [.ptr c.d 0, .int .i64 i, .int .i64 k] H (ic c (z8 c i k) H)
 r4 : ∀ H, Du c H → aq Tryz.prog 186 [.ptr c.d 0, .int .i64 i, .int .i64 k] H (ic c (wZ c i k) H)
theorem FB.at {c : Cx} {i k : Int} (h : FB c i k) {n : Nat} (h1 : 0 < n) (h2 : n < 5) {H : List aa} (hD : Du c H) : aq Tryz.prog (182 + n) [.ptr c.d 0, .int .i64 i, .int .i64 k] H (ic c (gC c i k n) H) := by
 have : n = 1 ∨ n = 2 ∨ n = 3 ∨ n = 4 := by omega
 have key : ∀ {Q Q' : Prop} {f : Nat}, aq Tryz.prog f [.ptr c.d 0, .int .i64 i, .int .i64 k] H (ic c Q H) → (Q ↔ Q') → aq Tryz.prog f [.ptr c.d 0, .int .i64 i, .int .i64 k] H (ic c Q' H) := by
  intro Q Q' f h e
  refine h.mono ?_
  rintro r H' ⟨b, h1, h2, h3, h4⟩
  exact ⟨b, h1, h2.trans e, h3, h4⟩
 rcases this with rfl | rfl | rfl | rfl
 ·exact key (h.r1 H hD) (by simp [gC])
 ·exact key (h.r2 H hD) (by simp [gC])
 ·exact key (h.r3 H hD) (by simp [gC])
 ·exact key (h.r4 H hD) (by simp [gC])
theorem Zp {c : Cx} (hc : c.Ok) {i k : Int} (hi : c.dH i) (hr : FB c i k) {H : List aa} (hD : Du c H) : aq Tryz.prog 134 (Ch c i k) H (ic c (qQ c i = true ∧ ∃ n, n < 5 ∧ gC c i k n) H) := by
 refine Ur.2.calls rfl ?_
 simp only [Ur, aI, Ch]
 simp +contextual only [sZ, Nat.reduceEqDiff, Nat.reduceAdd, ↓reduceIte, reduceCtorEq]
 refine af (pf hc hi hD) ?_
 rintro r H1 ⟨rfl, rfl⟩
 simp +contextual only [dt, fg, fh, fj, sZ, Nat.reduceEqDiff, ↓reduceIte, reduceCtorEq]
 cases hb : qQ c i with
 | false =>
   simp +contextual only [Bool.not_false, sZ, ↓reduceIte, reduceCtorEq]
   exact ee rfl ⟨fun h => by simp at h, fun h => absurd h.1 (by simp)⟩ (Up.refl c _) hD
 | true =>
   simp +contextual only [Bool.not_true, sZ]
   refine ae Kc ?_
   simp +contextual only [sZ, Nat.reduceEqDiff, ↓reduceIte, reduceCtorEq]
   refine aN 5 (fun n (G : List aa) => SD c H1 G ∧ ∀ m, m < n → ¬ gC c i k m)
    (fun n G => [(0, .ai (.ptr c.d 0)), (1, .ai (.int .i64 i)), (2, .ai (.int .i64 k)), (18, dP), (19, .int .i64 n)]) (fun n G => G) H1 ⟨⟨⟨hD, Up.refl c _⟩, fun m hm => by omega⟩, aA _ _ _⟩ fun n G hn hI => ?_
   obtain ⟨hG, jJ⟩ := hI
   by_cases h0 : n = 0
   ·subst h0
    have e0 := Ts 0 .ft rfl (by decide)
    have d1 : decide (((0 : Nat) : Int) < 5) = true := rfl
    have d2 : decide ((0 : Int) < ((0 : Nat) : Int)) = false := rfl
    simp +contextual only [lN, e0 _ rfl, d1, d2, sZ, Nat.reduceEqDiff, ↓reduceIte, reduceCtorEq]
    refine ⟨1, G, ⟨by omega, hG, fun m hm => ?_⟩, by omega, aG rfl rfl⟩
    intro h
    simp only [gC] at h
    omega
   ·by_cases h5 : n < 5
    ·have hf : dP.cells[n]? = some (.fn (.func (182 + n)) [] []) := by
      have : n = 1 ∨ n = 2 ∨ n = 3 ∨ n = 4 := by omega
      rcases this with rfl | rfl | rfl | rfl <;> rfl
     have en := Ts n _ hf h5
     have d1 : decide ((n : Int) < 5) = true := decide_eq_true (by omega)
     have d2 : decide ((0 : Int) < n) = true := decide_eq_true (by omega)
     simp +contextual only [lN, en _ rfl, d1, d2, sZ, Nat.reduceEqDiff, Nat.reduceAdd, ↓reduceIte, reduceCtorEq]
     refine af (hr.at (by omega) h5 hG.1) ?_
     rintro r G' ⟨b, rfl, dU, hU, ja⟩
     have dZ : SD c H1 G' := ⟨ja, hG.2.trans hU⟩
     cases b with
     | true =>
       simp +contextual only [sZ, Nat.reduceEqDiff, ↓reduceIte, reduceCtorEq]
       exact ee rfl ⟨fun _ => ⟨rfl, n, h5, dU.1 rfl⟩, fun _ => rfl⟩ dZ.2 dZ.1
     | false =>
       simp +contextual only [sZ, Nat.reduceEqDiff, ↓reduceIte, reduceCtorEq]
       refine ⟨n + 1, G', ⟨by omega, dZ, fun m hm => ?_⟩, by omega, aG (by rw [au n (by omega)]) rfl⟩
       by_cases e : m = n
       ·subst e; exact fun h => absurd (dU.2 h) (by simp)
       ·exact jJ m (by omega)
    ·have d1 : decide ((n : Int) < 5) = false := decide_eq_false (by omega)
     simp +contextual only [d1, sZ, Nat.reduceEqDiff, ↓reduceIte, reduceCtorEq]
     exact ee rfl ⟨fun h => by simp at h, fun ⟨_, m, hm, h⟩ => absurd h (jJ m (by omega))⟩ hG.2 hG.1
theorem jg {f : Int → T} {s : Int} {l : List Int} : side s (l.map f) = (bD s l).map f := by unfold side bD; split <;> simp
theorem HZ.lx {f : Int → T} {G : T → T → Prop} (irr : ∀ x, ¬ G x x) : ∀ {a b : List Int} {n : Nat}, HZ (fun x y => f x = f y) a b n → (Lx G (a.map f) (b.map f) ↔ n < a.length ∧ (n = b.length ∨ G (f (a.getD n 0)) (f (b.getD n 0))))
 | [], b, n, h => by simp [Lx]
 | x :: r, [], n, h => by
   have := h.lb
   simp at this
   subst this
   simp [Lx]
 | x :: r, y :: s, 0, h => by
   have dS : ¬ f x = f y := h.no (by simp) (by simp)
   simp [Lx, dS]
 | x :: r, y :: s, m + 1, h => by
   have Zc : f x = f y := h.eq 0 (by omega)
   have ih := HZ.lx irr (a := r) (b := s) (n := m) ⟨by have := h.la; simp at this; omega, by have := h.lb; simp at this; omega, fun j hj => h.eq (j + 1) (by omega), fun h1 h2 => h.no (by simpa using h1) (by simpa using h2)⟩
   simp only [List.map_cons, Lx, Zc, true_and, List.length_cons, List.getD_cons_succ, Nat.add_lt_add_iff_right, Nat.add_right_cancel_iff]
   rw [ih]
   exact ⟨fun h => by rcases h with h | h; exact h; exact absurd h (irr _), fun h => .inl h⟩
theorem vD {Q : Int → Int → Prop} : ∀ (a b : List Int), ∃ n, HZ Q a b n
 | [], b => ⟨0, by simp, by simp, fun j h => by omega, fun h => by simp at h⟩
 | x :: r, [] => ⟨0, by simp, by simp, fun j h => by omega, fun _ h => by simp at h⟩
 | x :: r, y :: s => by
   by_cases hq : Q x y
   ·obtain ⟨n, h⟩ := vD (Q := Q) r s
    refine ⟨n + 1, by have := h.la; simp; omega, by have := h.lb; simp; omega, fun j hj => ?_, fun h1 h2 => h.no (by simpa using h1) (by simpa using h2)⟩
    cases j with
    | zero => exact hq
    | succ j => exact h.eq j (by omega)
   ·exact ⟨0, by simp, by simp, fun j h => by omega, fun _ _ => hq⟩
theorem rV {c : Cx} (hc : c.Ok) {i k : Int} (hi : c.dH i) (hk : c.dH k) : (qQ c i = true ∧ ∃ n, n < 5 ∧ gC c i k n) ↔ R c.O (c.tm i) (c.tm k) := by
 rw [qw, tU hc hi, tU hc hk]
 have XR : qQ c i = true ↔ (c.tm i).k = 2 := by simp [qQ]
 have Em : qQ c k = true ↔ (c.tm k).k = 2 := by simp [qQ]
 rw [XR]
 refine and_congr_right fun XT => ?_
 have epi : pe c i = c.O.pl (c.tm i).n := if_pos XT
 have esi : dq c i = c.O.sp (c.O.pl (c.tm i).n) := if_pos XT
 have lk := (hc.kids k hk).1
 have li := (hc.kids i hi).1
 have all : (∀ x ∈ c.kd k, R c.O (c.tm i) (c.tm x)) ↔ ∀ y ∈ (c.tm k).l, R c.O (c.tm i) y := by rw [← lk]; simp
 have sub : Kd c i k ↔ ∃ x ∈ (c.tm i).l, E c.O x (c.tm k) ∨ R c.O x (c.tm k) := by
  rw [← li]; unfold Kd
  constructor
  ·rintro ⟨x, hx, h⟩; exact ⟨_, List.mem_map.2 ⟨x, hx, rfl⟩, h⟩
  ·rintro ⟨y, hy, h⟩; obtain ⟨x, hx, rfl⟩ := List.mem_map.1 hy; exact ⟨x, hx, h⟩
 have lex : z8 c i k ↔ (c.tm k).k = 2 ∧ c.O.pl (c.tm k).n = c.O.pl (c.tm i).n ∧ c.O.sp (c.O.pl (c.tm i).n) ≠ 3 ∧ (∀ y ∈ (c.tm k).l, R c.O (c.tm i) y) ∧ Lx (Gt c.O.sp) (side (c.O.sp (c.O.pl (c.tm i).n)) ((c.kd i).map (nf c))) (side (c.O.sp (c.O.pl (c.tm i).n)) ((c.kd k).map (nf c))) := by
  unfold z8
  rw [jV, all, ← esi, jg, jg]
  obtain ⟨n, hn⟩ := vD (Q := fun x y => nf c x = nf c y) (bD (dq c i) (c.kd i)) (bD (dq c i) (c.kd k))
  have Zq := HZ.lx (G := Gt c.O.sp) (fun x => zY x) hn
  rw [Zq]
  constructor
  ·rintro ⟨⟨_, h1, h2⟩, h3, h4, m, hm, h5⟩
   have := hm.Sl hn
   subst this
   exact ⟨h1, h2.symm, h3, h4, h5⟩
  ·rintro ⟨h1, h2, h3, h4, h5⟩
   exact ⟨⟨XT, h1, h2.symm⟩, h3, h4, n, hn, h5⟩
 have mul : wZ c i k ↔ (c.tm k).k = 2 ∧ c.O.pl (c.tm k).n = c.O.pl (c.tm i).n ∧ c.O.sp (c.O.pl (c.tm i).n) = 3 ∧ Mu (Gt c.O.sp) ((c.kd i).map (nf c)) ((c.kd k).map (nf c)) := by
  unfold wZ
  rw [jV, ← esi]
  exact ⟨fun ⟨⟨_, h1, h2⟩, h3⟩ => ⟨h1, h2.symm, h3⟩, fun ⟨h1, h2, h3⟩ => ⟨⟨XT, h1, h2.symm⟩, h3⟩⟩
 have pla : rU c i k ↔ (c.tm k).k = 2 ∧ c.O.pl (c.tm k).n < c.O.pl (c.tm i).n ∧ ∀ y ∈ (c.tm k).l, R c.O (c.tm i) y := by
  unfold rU
  rw [all, Em, epi]
  refine and_congr_right fun h => ?_
  rw [show pe c k = c.O.pl (c.tm k).n from if_pos h]
 have e : (∃ n, n < 5 ∧ gC c i k n) ↔ Kd c i k ∨ rU c i k ∨ z8 c i k ∨ wZ c i k := by
  constructor
  ·rintro ⟨n, _, h | h | h | h⟩
   ·exact .inl h.2
   ·exact .inr (.inl h.2)
   ·exact .inr (.inr (.inl h.2))
   ·exact .inr (.inr (.inr h.2))
  ·rintro (h | h | h | h)
   ·exact ⟨1, by omega, .inl ⟨rfl, h⟩⟩
   ·exact ⟨2, by omega, .inr (.inl ⟨rfl, h⟩)⟩
   ·exact ⟨3, by omega, .inr (.inr (.inl ⟨rfl, h⟩))⟩
   ·exact ⟨4, by omega, .inr (.inr (.inr ⟨rfl, h⟩))⟩
 rw [e, sub, pla, lex, mul]
 refine or_congr_right ?_
 constructor
 ·rintro (⟨h1, h2⟩ | ⟨h1, h2⟩ | ⟨h1, h2⟩)
  ·exact ⟨h1, .inl h2⟩
  ·exact ⟨h1, .inr (.inl h2)⟩
  ·exact ⟨h1, .inr (.inr h2)⟩
 ·rintro ⟨h1, h2 | h2 | h2⟩
  ·exact .inl ⟨h1, h2⟩
  ·exact .inr (.inl ⟨h1, h2⟩)
  ·exact .inr (.inr ⟨h1, h2⟩)
theorem ic.iff {c : Cx} {Q Q' : Prop} {f : Nat} {args : List AV} {H : List aa} (h : aq Tryz.prog f args H (ic c Q H)) (e : Q ↔ Q') : aq Tryz.prog f args H (ic c Q' H) := by
 refine h.mono ?_
 rintro r H' ⟨b, h1, h2, h3, h4⟩
 exact ⟨b, h1, h2.trans e, h3, h4⟩
theorem Cp {c : Cx} (hc : c.Ok) : ∀ (N : Nat) (i k : Int), c.dH i → c.dH k → wt (c.tm i) + wt (c.tm k) ≤ N → jU c i k ∧ gM c i k := by
 intro N
 induction N with
 | zero => intro i k _ _ h; have := gA (c.tm i); omega
 | succ N ih =>
 intro i k hi hk hN
 have hx : ∀ {j : Int}, c.dH j → ∀ x ∈ c.kd j, c.dH x ∧ wt (c.tm x) < wt (c.tm j) := fun {j} hj x hx => by
  have h1 := hc.kids j hj
  exact ⟨h1.2 x hx, cK (by rw [← h1.1]; exact List.mem_map.2 ⟨x, hx, rfl⟩)⟩
 have s1 : ∀ x ∈ c.kd i, ∀ y ∈ c.kd k, jU c x y := fun x h y h' => (ih x y (hx hi x h).1 (hx hk y h').1 (by have := (hx hi x h).2; have := (hx hk y h').2; omega)).1
 have m1 : ∀ x ∈ c.kd i, ∀ y ∈ c.kd k, gM c x y := fun x h y h' => (ih x y (hx hi x h).1 (hx hk y h').1 (by have := (hx hi x h).2; have := (hx hk y h').2; omega)).2
 have s2 : ∀ x ∈ c.kd i, jU c x k := fun x h => (ih x k (hx hi x h).1 hk (by have := (hx hi x h).2; omega)).1
 have m2 : ∀ x ∈ c.kd i, gM c x k := fun x h => (ih x k (hx hi x h).1 hk (by have := (hx hi x h).2; omega)).2
 have m3 : ∀ y ∈ c.kd k, gM c i y := fun y h => (ih i y hi (hx hk y h).1 (by have := (hx hk y h).2; omega)).2
 refine ⟨c79 hc fun H hD => Zn hc hi hk s1 hD, c76 hc fun H hD => ic.iff (Zp hc hi ⟨fun H hD => V6 hc hi s2 m2 hD, fun H hD => V7 hc hi hk m3 hD, fun H hD => V9 hc hi hk m3 s1 m1 hD, fun H hD => Wf hc hi hk s1 m1 hD⟩ hD) (rV hc hi hk)⟩
theorem jF {c : Cx} (hc : c.Ok) {i k : Int} (hi : c.dH i) (hk : c.dH k) : jU c i k := (Cp hc _ i k hi hk (Nat.le_refl _)).1
theorem jG {c : Cx} (hc : c.Ok) {i k : Int} (hi : c.dH i) (hk : c.dH k) : gM c i k := (Cp hc _ i k hi hk (Nat.le_refl _)).2
end Go.aK
end
section
set_option maxRecDepth 100000
namespace Go.aK
open Go Go.Proofs Go.fq
def XU (nd : List Nd) (t : T) (i : Nat) : Prop := ∀ j, j < wt t → nd[i + j]? = (vx t i)[j]?
def Ke (nd : List Nd) (l : List T) (i : Nat) : Prop := ∀ j, j < gG l → nd[i + j]? = (cR l i)[j]?
theorem XU.head {nd : List Nd} {t : T} {i : Nat} (h : XU nd t i) : nd[i]? = some (t, aU t.l (i + 1)) ∧ Ke nd t.l (i + 1) := by
 have hw := Ce t
 constructor
 ·have := h 0 (gA t)
  rw [n8] at this
  simpa using this
 ·intro j hj
  have := h (j + 1) (by omega)
  rw [n8, List.getElem?_cons_succ] at this
  rw [← this]; congr 1; omega
theorem Ke.cons {nd : List Nd} {x : T} {r : List T} {i : Nat} (h : Ke nd (x :: r) i) : XU nd x i ∧ Ke nd r (i + wt x) := by
 constructor
 ·intro j hj
  have := h j (by rw [gG]; omega)
  rw [cR, List.getElem?_append_left (by rw [qx]; exact hj)] at this
  exact this
 ·intro j hj
  have := h (wt x + j) (by rw [gG]; omega)
  rw [cR, List.getElem?_append_right (by rw [qx]; omega), qx] at this
  rw [show wt x + j - wt x = j by omega] at this
  rw [← this]; congr 1; omega
theorem Ke.kids {nd : List Nd} : ∀ {l : List T} {i : Nat}, Ke nd l i → (aU l i).map (fun k => (nd.getD k.toNat default).1) = l ∧ ∀ k ∈ aU l i, 0 ≤ k ∧ k < nd.length
 | [], i, _ => ⟨rfl, fun k h => by simp [aU] at h⟩
 | x :: r, i, h => by
   obtain ⟨h1, h2⟩ := h.cons
   obtain ⟨h3, h4⟩ := Ke.kids h2
   have h5 := h1.head.1
   have h6 := (List.getElem?_eq_some_iff.1 h5).1
   refine ⟨?_, ?_⟩
   ·rw [aU, List.map_cons, h3]
    congr 1
    rw [List.getD_eq_getElem?_getD, Int.toNat_natCast, h5]; rfl
   ·intro k hk
    rw [aU] at hk
    rcases List.mem_cons.1 hk with rfl | hk
    ·omega
    ·exact h4 k hk
def Gd (nd : List Nd) (p : Int → Prop) (i : Nat) : Prop := ∃ t, nd[i]? = some (t, aU t.l (i + 1)) ∧ Ke nd t.l (i + 1) ∧ yf p t
mutual
theorem gdT {nd : List Nd} {p : Int → Prop} : ∀ (t : T) (i : Nat), XU nd t i → yf p t → ∀ j, j < wt t → Gd nd p (i + j)
 | .mk k n l, i, h, ha, j, hj => by
   obtain ⟨h1, h2⟩ := h.head
   cases j with
   | zero => exact ⟨_, h1, h2, ha⟩
   | succ j =>
     have := Zr l (i + 1) h2 (fun x hx => ha.mem hx) j (by rw [wt] at hj; omega)
     rw [show i + (j + 1) = i + 1 + j by omega]; exact this
theorem Zr {nd : List Nd} {p : Int → Prop} : ∀ (l : List T) (i : Nat), Ke nd l i → (∀ x ∈ l, yf p x) → ∀ j, j < gG l → Gd nd p (i + j)
 | [], i, h, ha, j, hj => by simp [gG] at hj
 | x :: r, i, h, ha, j, hj => by
   obtain ⟨h1, h2⟩ := h.cons
   by_cases hx : j < wt x
   ·exact gdT x i h1 (ha x List.mem_cons_self) j hx
   ·have := Zr r (i + wt x) h2 (fun y hy => ha y (List.mem_cons_of_mem _ hy)) (j - wt x) (by rw [gG] at hj; omega)
    rw [show i + j = i + wt x + (j - wt x) by omega]; exact this
end
def fZ (ps ss : List Int) (ts : List T) (n : Nat) : Cx := ⟨ps, ss, cR ts 0, n + 2, n, n + 1⟩
theorem NU (ts : List T) : Ke (cR ts 0) ts 0 := fun j _ => by rw [Nat.zero_add]
theorem Pp {ps ss : List Int} (hv : Va ps ss) {ts : List T} (dS : ts ≠ []) (hw : gG ts ≤ 100000000) (ha : ∀ t ∈ ts, yf (fun n => 0 ≤ n ∧ n < ps.length) t) (n : Nat) : (fZ ps ss ts n).Ok := by
 have hl : (cR ts 0).length = gG ts := gB ts 0
 have gd : ∀ i, (fZ ps ss ts n).dH i → ∃ t, (cR ts 0).getD i.toNat default = (t, aU t.l (i.toNat + 1)) ∧ Ke (cR ts 0) t.l (i.toNat + 1) ∧ yf (fun n => 0 ≤ n ∧ n < ps.length) t := by
  intro i hi
  have mj : i.toNat < gG ts := by have := hi.1; have := hi.2; simp only [fZ] at *; omega
  obtain ⟨t, h1, h2, h3⟩ := Zr ts 0 (NU ts) ha i.toNat mj
  rw [Nat.zero_add] at h1 h2
  exact ⟨t, by rw [List.getD_eq_getElem?_getD, h1]; rfl, h2, h3⟩
 refine ⟨hv, ?_, by simp [fZ], by simp [fZ], by simp [fZ], fun i hi => ?_, fun i hi => ?_, fun i hi hk => ?_⟩
 ·intro e
  have e : cR ts 0 = [] := e
  rw [e] at hl
  have := hZ ts
  have h0 : ts.length = 0 := by simp at hl; omega
  exact dS (List.length_eq_zero_iff.1 h0)
 ·obtain ⟨t, h1, h2, h3⟩ := gd i hi
  show ((cR ts 0).getD i.toNat default).2.length ≤ _
  rw [h1, cr]
  by_cases h0 : t.l = []
  ·rw [h0]; simp
  ·have : gG t.l ≤ (cR ts 0).length := by
    have hp : 0 < gG t.l := by
     have := hZ t.l
     have := List.length_pos_iff.2 h0
     omega
    have := h2 (gG t.l - 1) (by omega)
    have h4 : (cR t.l (i.toNat + 1))[gG t.l - 1]? ≠ none := by rw [List.getElem?_eq_getElem (by rw [gB]; omega)]; simp
    rw [← this] at h4
    have h5 : i.toNat + 1 + (gG t.l - 1) < (cR ts 0).length := by
     apply Decidable.byContradiction
     intro hc
     exact h4 (List.getElem?_eq_none (by omega))
    omega
   have := hZ t.l
   omega
 ·obtain ⟨t, h1, h2, h3⟩ := gd i hi
  have hk := h2.kids
  have e1 : (fZ ps ss ts n).kd i = aU t.l (i.toNat + 1) := by show ((cR ts 0).getD i.toNat default).2 = _; rw [h1]
  have e2 : (fZ ps ss ts n).tm i = t := by show ((cR ts 0).getD i.toNat default).1 = _; rw [h1]
  rw [e1, e2]
  exact hk
 ·obtain ⟨t, h1, h2, h3⟩ := gd i hi
  have e2 : (fZ ps ss ts n).tm i = t := by show ((cR ts 0).getD i.toNat default).1 = _; rw [h1]
  rw [e2] at hk ⊢
  exact h3.op hk
theorem yk (ps ss : List Int) {ts : List T} (dS : ts ≠ []) (H : List aa) : Du (fZ ps ss ts H.length) (H ++ [.map [], .map [], jE ps ss (cR ts 0) H.length (H.length + 1)]) := by
 have hn : cR ts 0 ≠ [] := by
  intro e
  have hl : (cR ts 0).length = gG ts := gB ts 0
  have := hZ ts
  rw [e] at hl
  have h0 : ts.length = 0 := by simp at hl; omega
  exact dS (List.length_eq_zero_iff.1 h0)
 refine ⟨?_, ⟨[], ?_, fun p hp => by simp at hp⟩, ⟨[], ?_, fun p hp => by simp at hp⟩⟩
 ·show (H ++ [aa.map [], .map [], jE ps ss (cR ts 0) H.length (H.length + 1)])[H.length + 2]? = _
  rw [jE, nr, if_neg hn]
  simp [fZ]
 ·show (H ++ [aa.map [], .map [], jE ps ss (cR ts 0) H.length (H.length + 1)])[H.length]? = _
  simp [lS]
 ·show (H ++ [aa.map [], .map [], jE ps ss (cR ts 0) H.length (H.length + 1)])[H.length + 1]? = _
  simp [lS]
theorem sW {ps ss : List Int} {ts : List T} {n j : Nat} (hj : j < ts.length) : (fZ ps ss ts n).dH ((aU ts 0).getD j 0) ∧ (fZ ps ss ts n).tm ((aU ts 0).getD j 0) = ts.getD j default := by
 obtain ⟨h1, h2⟩ := (NU ts).kids
 have hl := cr ts 0
 refine ⟨h2 _ (aO (by omega)), ?_⟩
 have := congrArg (fun l => l[j]?) h1
 have tT : j < (aU ts 0).length := by omega
 simp only [List.getElem?_map, List.getElem?_eq_getElem tT, List.getElem?_eq_getElem hj, Option.map_some, Option.some.injEq] at this
 have e1 : (aU ts 0).getD j 0 = (aU ts 0)[j] := by simp [tT]
 have e2 : ts.getD j default = ts[j] := by simp [hj]
 rw [e1, e2]
 exact this
end Go.aK
end
section
set_option maxRecDepth 100000
namespace Go.aK
open Go Go.Proofs
theorem Zs (s : ByteArray) (k : IntKind) (i : Nat) (φ : AV → Prop) : bH (.str s) (.int k (i : Int)) φ = (i < s.size ∧ φ (.int .u8 (s.data.toList.getD i 0).toNat)) := by
 simp only [bH, Int.toNat_natCast, eq_iff_iff]
 exact ⟨fun h => h.2, fun h => ⟨by omega, h⟩⟩
theorem pg (a b : ByteArray) (φ : AV → Prop) : cV .eql (.str a) (.str b) φ = φ (.bool (decide (a = b))) := by
 simp [cV]
theorem FC {g : Nat} {f : List AV → Option AV} (h : sQ Tryz.prog g (.uV f)) {xs : List AV} {r : AV} (hr : f xs = some r) : Pure Tryz.prog g xs r := fun H => h xs r H hr
theorem Zt (s : ByteArray) (c : Int) : Pure Tryz.prog 238 [.str s, .int .u8 c] (.int .i64 (firstIdx s c.toNat.toUInt8)) := FC Vp rfl
def mr (s : ByteArray) (c : Int) : Int := s.foldl (fun (n : Int) x => if x == c.toNat.toUInt8 then n + 1 else n) ((0 : Nat) : Int)
theorem Zu (s : ByteArray) (c : Int) : Pure Tryz.prog 231 [.str s, .int .u8 c] (.int .i64 (mr s c)) := FC Vq (by simp only [countP, mr])
theorem Wg (s : ByteArray) (c : Int) : Pure Tryz.prog 228 [.str s, .int .u8 c] (.int .i64 (firstIdx s c.toNat.toUInt8)) := by
 refine fun H => Mo.2.calls rfl ?_
 simp only [Mo, aI]
 simp +contextual only [zD, sZ, Nat.reduceEqDiff, Nat.reduceAdd, ↓reduceIte, reduceCtorEq]
 refine ae (Zt s c) ?_
 simp +contextual only [sZ, ↓reduceIte, reduceCtorEq]
 exact aW rfl rfl
theorem Zv (s : ByteArray) (c : Int) : Pure Tryz.prog 190 [.str s, .int .u8 c] (.int .i64 (firstIdx s c.toNat.toUInt8)) := by
 refine fun H => Mf.2.calls rfl ?_
 simp only [Mf, aI]
 simp +contextual only [zD, sZ, Nat.reduceEqDiff, Nat.reduceAdd, ↓reduceIte, reduceCtorEq]
 refine ae (Wg s c) ?_
 simp +contextual only [sZ, ↓reduceIte, reduceCtorEq]
 exact aW rfl rfl
def us : ByteArray := ⟨#[95]⟩
theorem XV (k : IntKind) (φ : AV → Prop) : bH (.str us) (.int k 0) φ = φ (.int .u8 95) := by
 simp only [bH, eq_iff_iff]
 exact ⟨fun h => h.2.2, fun h => ⟨by omega, by decide, h⟩⟩
def NV (s : ByteArray) : Int := if s = us then 0 else firstIdx s 95
theorem Zw (s : ByteArray) : Pure Tryz.prog 229 [.str s, .str us] (.int .i64 (NV s)) := by
 refine fun H => Mq.2.calls rfl ?_
 simp only [Mq, aI]
 unfold NV
 have cT : ((us.size : Nat) : Int) = 1 := rfl
 by_cases hs : s = us
 ·rw [if_pos hs]
  simp +contextual only [pg, cT, hs, Int.reduceEq, sZ, Nat.reduceEqDiff, Nat.reduceAdd, ↓reduceIte, reduceCtorEq, Int.reduceEq]
  exact aW rfl rfl
 ·rw [if_neg hs]
  have TQ : ¬ us = s := fun e => hs e.symm
  simp +contextual only [pg, cT, TQ, XV, Int.reduceEq, sZ, Nat.reduceEqDiff, Nat.reduceAdd, ↓reduceIte, reduceCtorEq, Int.reduceEq]
  refine ae (Wg s 95) ?_
  simp +contextual only [sZ, ↓reduceIte, reduceCtorEq]
  exact aW rfl rfl
theorem Zx (s : ByteArray) : Pure Tryz.prog 191 [.str s, .str us] (.int .i64 (NV s)) := by
 refine fun H => Mg.2.calls rfl ?_
 simp only [Mg, aI]
 simp +contextual only [sZ, Nat.reduceEqDiff, Nat.reduceAdd, ↓reduceIte, reduceCtorEq]
 refine ae (Zw s) ?_
 simp +contextual only [sZ, ↓reduceIte, reduceCtorEq]
 exact aW rfl rfl
theorem Zy (s : ByteArray) : Pure Tryz.prog 142 [.str s, .str us] (.bool (decide (0 ≤ NV s))) := by
 refine fun H => Ma.2.calls rfl ?_
 simp only [Ma, aI]
 simp +contextual only [sZ, Nat.reduceEqDiff, Nat.reduceAdd, ↓reduceIte, reduceCtorEq]
 refine ae (Zx s) ?_
 simp +contextual only [sZ, ↓reduceIte, reduceCtorEq]
 exact aW rfl rfl
theorem Zz (s : ByteArray) : Pure Tryz.prog 193 [.str s, .str us] (.int .i64 (mr s 95)) := by
 refine fun H => Mi.2.calls rfl ?_
 simp only [Mi, aI]
 have cT : ((us.size : Nat) : Int) = 1 := rfl
 simp +contextual only [cT, XV, Int.reduceEq, sZ, Nat.reduceEqDiff, Nat.reduceAdd, ↓reduceIte, reduceCtorEq, Int.reduceEq]
 refine ae (Zu s 95) ?_
 simp +contextual only [sZ, ↓reduceIte, reduceCtorEq]
 exact aW rfl rfl
def Ad (c : UInt8) : Bool := decide (((c.toNat : Nat) : Int) < 33) || decide ((126 : Int) < ((c.toNat : Nat) : Int)) || decide (0 ≤ firstIdx ⟨#[40, 41, 44]⟩ ((c.toNat : Nat) : Int).toNat.toUInt8)
def oK (s : ByteArray) : Bool := !decide (((s.size : Nat) : Int) < 1) && !decide ((32 : Int) < ((s.size : Nat) : Int)) && s.data.toList.all fun c => !Ad c
theorem yl {p : UInt8 → Bool} {l : List UInt8} {i : Nat} (h : i < l.length) : (l.drop i).all p = (p (l.getD i 0) && (l.drop (i + 1)).all p) := by
 rw [List.drop_eq_getElem_cons h, List.all_cons]
 simp [h]
theorem Wh (s : ByteArray) : Pure Tryz.prog 141 [.str s] (.bool (oK s)) := by
 refine fun H => OJ.calls rfl ?_
 simp only [I1, OI]
 have hl : s.data.toList.length = s.size := rfl
 unfold oK
 simp +contextual only [sZ, Nat.reduceEqDiff, Nat.reduceAdd, ↓reduceIte, reduceCtorEq]
 refine ⟨fun h1 => ⟨fun h2 => ?_, fun h2 => ?_⟩, fun h1 => ?_⟩
 ·exact aW rfl (by simp [h2])
 ·refine aB s.size (fun i => ((s.data.toList.drop i).all fun c => !Ad c) = (s.data.toList.all fun c => !Ad c))
   (fun i => [(0, .str s), (13, .int .i64 s.size), (14, .int .i64 i)]) (fun i => H) ⟨rfl, aA _ _ _⟩ fun i hi hI => ?_
  simp +contextual only [Zs, sZ, Nat.reduceEqDiff, Nat.reduceAdd, ↓reduceIte, reduceCtorEq]
  have fin : ∀ (aY : i < s.size), Ad (s.data.toList.getD i 0) = true → (s.data.toList.all fun c => !Ad c) = false := fun aY hb => by
   rw [← hI, yl (by omega), hb]; rfl
  refine ⟨fun aY => ?_, fun iW => ?_⟩
  ·have aY := bZ aY
   have fin := fin aY
   rw [yl (by omega)] at hI
   have Pj : Ad (s.data.toList.getD i 0) = (decide ((((s.data.toList.getD i 0).toNat : Nat) : Int) < 33) || decide ((126 : Int) < (((s.data.toList.getD i 0).toNat : Nat) : Int)) || decide (0 ≤ firstIdx ⟨#[40, 41, 44]⟩ (((s.data.toList.getD i 0).toNat : Nat) : Int).toNat.toUInt8)) := rfl
   generalize s.data.toList.getD i 0 = c at *
   refine ⟨aY, fun a => ⟨aY, fun b => ⟨aY, ae (Zv _ _) ?_⟩, fun b => ?_⟩, fun a => ?_⟩
   ·simp +contextual only [sZ, Nat.reduceEqDiff, ↓reduceIte, reduceCtorEq]
    refine ⟨fun d => ?_, fun d => ?_⟩
    ·exact aW rfl (by rw [fin (by rw [Pj]; simp only [decide_eq_true d, Bool.or_true])]; simp)
    ·refine ⟨i + 1, ⟨aY, ?_⟩, by omega, aG (by rw [au i (by omega)]) rfl⟩
     rw [← hI]
     have : Ad c = false := by
      rw [Pj]
      simp only [Bool.or_eq_false_iff, decide_eq_false_iff_not]
      omega
     rw [this]; simp
   ·exact aW rfl (by rw [fin (by rw [Pj]; simp only [decide_eq_true b, Bool.or_true, Bool.true_or])]; simp)
   ·exact aW rfl (by rw [fin (by rw [Pj]; simp only [decide_eq_true a, Bool.true_or])]; simp)
  ·rw [List.drop_of_length_le (by have := dl iW; omega)] at hI
   exact aW rfl (by rw [← hI]; simp; omega)
 ·exact aW rfl (by simp [h1])
end Go.aK
end
section
set_option maxRecDepth 100000
namespace Go.aK
open Go Go.Proofs
structure gD where
 name : ByteArray
 args : List Int
 AB : Int
 deriving Inhabited
structure Sg where
 aZ : List ByteArray
 ops : List gD
 deriving Inhabited
def gD.av (o : gD) : AV := .agg [.str o.name, .ap 0 (ints o.args), .int .i64 o.AB]
def ot (l : List gD) : List AV := l.map gD.av
def strs (l : List ByteArray) : List AV := l.map AV.str
def Sg.av (s : Sg) : AV := .agg [.ap 0 (strs s.aZ), .ap 0 (ot s.ops)]
theorem vE (l : List gD) : (ot l).length = l.length := by simp [ot]
theorem Cq (l : List ByteArray) : (strs l).length = l.length := by simp [strs]
theorem vF (n : Nat) (l : List gD) : aj n (ot l) = true := by
 rw [a9]; intro x hx; obtain ⟨y, _, rfl⟩ := List.mem_map.1 hx
 simp [gD.av, AV.a7, aj, bk]
theorem vG (n : Nat) (l : List ByteArray) : aj n (strs l) = true := by
 rw [a9]; intro x hx; obtain ⟨y, _, rfl⟩ := List.mem_map.1 hx; rfl
theorem gD.nh (n : Nat) (o : gD) : o.av.a7 n = true := by simp [gD.av, AV.a7, aj, bk]
theorem gD.vn (o : gD) : o.av.val = true := rfl
theorem gD.pc (o : gD) : o.av.cells.all AV.one = true := rfl
theorem gD.ni (o : gD) : o.av.ab = o.av := rfl
theorem gD.qp (o : gD) : o.av.drop = o.av := rfl
theorem gD.gr (o : gD) : o.av.cells.length = 3 := rfl
theorem Sg.nh (n : Nat) (o : Sg) : o.av.a7 n = true := by simp [Sg.av, AV.a7, aj, vG, vF]
theorem Sg.vn (o : Sg) : o.av.val = true := rfl
theorem Sg.pc (o : Sg) : o.av.cells.all AV.one = true := rfl
theorem Sg.ni (o : Sg) : o.av.ab = o.av := rfl
theorem Sg.qp (o : Sg) : o.av.drop = o.av := rfl
theorem Sg.gr (o : Sg) : o.av.cells.length = 2 := rfl
theorem Hv (o : Nat) (l : List gD) : (∀ (own : Nat) (xs : List AV), AV.ap o (ot l) = AV.ap own xs → ∀ z ∈ xs, z.cells.length = 3) = True := by
 simp only [eq_iff_iff, iff_true]
 intro own xs e z hz
 cases e
 obtain ⟨y, _, rfl⟩ := List.mem_map.1 hz
 rfl
theorem Hw (o : Nat) (l : List ByteArray) : (∀ (own : Nat) (xs : List AV), AV.ap o (strs l) = AV.ap own xs → ∀ z ∈ xs, z.cells.length = 1) = True := by
 simp only [eq_iff_iff, iff_true]
 intro own xs e z hz
 cases e
 obtain ⟨y, _, rfl⟩ := List.mem_map.1 hz
 rfl
theorem Kf (e o : Nat) (l : List gD) (k : IntKind) (i : Nat) (φ : AV → Prop) : ay e (.ap o (ot l)) (.int k (i : Int)) φ = (i < l.length ∧ φ (.ai (l.getD i default).av)) := by
 simp only [ay, vE, Int.toNat_natCast, eq_iff_iff]
 constructor
 ·rintro ⟨_, h, h2⟩; refine ⟨h, ?_⟩; simpa [ot, h] using h2
 ·rintro ⟨h, h2⟩; refine ⟨by omega, h, ?_⟩; simpa [ot, h] using h2
theorem Kg (e o : Nat) (l : List ByteArray) (k : IntKind) (i : Nat) (φ : AV → Prop) : ay e (.ap o (strs l)) (.int k (i : Int)) φ = (i < l.length ∧ φ (.ai (.str (l.getD i default)))) := by
 simp only [ay, Cq, Int.toNat_natCast, eq_iff_iff]
 constructor
 ·rintro ⟨_, h, h2⟩; refine ⟨h, ?_⟩; simpa [strs, h] using h2
 ·rintro ⟨h, h2⟩; refine ⟨by omega, h, ?_⟩; simpa [strs, h] using h2
theorem Wi (o : gD) (H : List aa) (φ : AV → Prop) : aS (some 3) (.ai o.av) H φ = φ o.av := by simp [aS, gD.av, AV.cells]
theorem qD (o : Sg) (H : List aa) (φ : AV → Prop) : aS (some 2) (.ai o.av) H φ = φ o.av := by simp [aS, Sg.av, AV.cells]
theorem fo0 (x : gD) (φ : AV → Prop) : ak 0 none (.ai x.av) φ = φ (.ai (.str x.name)) := by simp [ak, apart, gD.av, AV.cells, AV.one]
theorem fo1 (x : gD) (φ : AV → Prop) : ak 1 none (.ai x.av) φ = φ (.ai (.ap 0 (ints x.args))) := by simp [ak, apart, gD.av, AV.cells, AV.one]
theorem fo2 (x : gD) (φ : AV → Prop) : ak 2 none (.ai x.av) φ = φ (.ai (.int .i64 x.AB)) := by simp [ak, apart, gD.av, AV.cells, AV.one]
theorem fs0 (x : Sg) (φ : AV → Prop) : ak 0 none (.ai x.av) φ = φ (.ai (.ap 0 (strs x.aZ))) := by simp [ak, apart, Sg.av, AV.cells, AV.one]
theorem fs1 (x : Sg) (φ : AV → Prop) : ak 1 none (.ai x.av) φ = φ (.ai (.ap 0 (ot x.ops))) := by simp [ak, apart, Sg.av, AV.cells, AV.one]
def aC := (And.intro (And.intro (And.intro (And.intro @vE @Cq) (And.intro @vF @vG)) (And.intro (And.intro @gD.nh @gD.vn) (And.intro (And.intro @gD.pc @gD.ni) (And.intro @gD.qp @gD.gr)))) (And.intro (And.intro (And.intro (And.intro @Sg.nh @Sg.vn) (And.intro (And.intro @Sg.pc @Sg.ni) (And.intro @Sg.qp @Sg.gr))) (And.intro (And.intro @Hv @Hw) (And.intro @Kf @Kg))) (And.intro (And.intro @Wi @qD) (And.intro (And.intro @fo0 @fo1) (And.intro @fo2 (And.intro @fs0 @fs1))))))
def w5 (p : Int → Bool) : List Int → Int → Int
 | [], _ => -1
 | x :: r, k => if p x = true then k else w5 p r (k + 1)
theorem Cr (p : Int → Bool) : ∀ (l : List Int) (k : Int), 0 ≤ k → (decide (0 ≤ w5 p l k) = l.any p)
 | [], k, _ => by simp [w5]
 | x :: r, k, h => by
   simp only [w5, List.any_cons]
   split
   ·rename_i hp; simp [hp, h]
   ·rename_i hp; simp [hp, Cr p r (k + 1) (by omega)]
theorem Hy {p : Int → Bool} {l : List Int} {i : Nat} {k : Int} (h : i < l.length) : w5 p (l.drop i) k = if p (l.getD i 0) = true then k else w5 p (l.drop (i + 1)) (k + 1) := by
 rw [List.drop_eq_getElem_cons h]
 simp [w5, h]
theorem ZA (g : Nat) (cap : List AV) (cF : cap.map AV.ab = cap) (hb : aj 0 cap = true) (p : Int → Bool) (l : List Int) (hf : ∀ x ∈ l, Pure Tryz.prog g ([.int .i64 x] ++ cap) (.bool (p x))) :
 Pure Tryz.prog 100 [.ap 0 (ints l), .fn (.func g) [] cap] (.int .i64 (w5 p l 0)) := by
 refine fun H => Bs.2.calls rfl ?_
 simp only [Bs, aI]
 simp +contextual only [sZ, Nat.reduceEqDiff, Nat.reduceAdd, ↓reduceIte, reduceCtorEq]
 intro hl
 refine aB l.length (fun i => w5 p (l.drop i) i = w5 p l 0) (fun i => [(0, .ap 0 (ints l)), (1, .fn (.func g) [] cap), (7, .int .i64 l.length), (8, .int .i64 i)]) (fun _ => H) ⟨rfl, aA _ _ _⟩ fun i hi hI => ?_
 simp +contextual only [cF, sZ, Nat.reduceEqDiff, Nat.reduceAdd, ↓reduceIte, reduceCtorEq]
 refine ⟨fun aY => ?_, fun iW => ?_⟩
 ·have aY := bZ aY
  rw [Hy aY] at hI
  refine ⟨aY, ae (hf _ ?_) ?_⟩
  ·simp [aY]
  simp +contextual only [sZ, Nat.reduceEqDiff, ↓reduceIte, reduceCtorEq]
  refine qh (fun hb => ?_) (fun hb => ?_) <;> simp +contextual only [sZ, Nat.reduceEqDiff, ↓reduceIte, reduceCtorEq]
  ·rw [if_pos hb] at hI
   exact aW rfl (by rw [← hI])
  ·rw [if_neg (by rw [hb]; simp)] at hI
   exact ⟨i + 1, ⟨aY, hI⟩, by omega, aG (by rw [au i (by omega)]) rfl⟩
 ·rw [List.drop_of_length_le (dl iW)] at hI
  exact aW rfl (by rw [← hI]; rfl)
theorem ZB (g : Nat) (cap : List AV) (cF : cap.map AV.ab = cap) (hb : aj 0 cap = true) (p : Int → Bool) (l : List Int) (hf : ∀ x ∈ l, Pure Tryz.prog g ([.int .i64 x] ++ cap) (.bool (p x))) :
 Pure Tryz.prog 102 [.ap 0 (ints l), .fn (.func g) [] cap] (.bool (l.any p)) := by
 refine fun H => Bt.2.calls rfl ?_
 simp only [Bt, aI]
 simp +contextual only [sZ, Nat.reduceEqDiff, Nat.reduceAdd, ↓reduceIte, reduceCtorEq]
 refine ae (ZA g cap cF hb p l hf) ?_
 simp +contextual only [sZ, ↓reduceIte, reduceCtorEq]
 exact aW rfl (by rw [Cr p l 0 (by omega)])
end Go.aK
end
section
set_option maxRecDepth 100000
namespace Go.aK
open Go Go.Proofs
def Hz (n a : Int) : Bool := decide (0 ≤ a) && decide (a < n)
theorem Wj (n a : Int) : Pure Tryz.prog 192 [.int .i64 a, .ai (.int .i64 n)] (.bool (Hz n a)) := by
 refine fun H => Mh.2.calls rfl ?_
 simp only [Mh, aI]
 unfold Hz
 simp +contextual only [sZ, Nat.reduceEqDiff, Nat.reduceAdd, ↓reduceIte, reduceCtorEq]
 refine ⟨fun h => aW rfl (by simp [h]), fun h => aW rfl (by simp; omega)⟩
theorem ZC (n a : Int) : Pure Tryz.prog 194 [.int .i64 a, .ai (.fn (.func 192) [] [.ai (.int .i64 n)])] (.bool (!Hz n a)) := by
 refine fun H => Mj.2.calls rfl ?_
 simp only [Mj, aI]
 simp +contextual only [sZ, Nat.reduceEqDiff, Nat.reduceAdd, ↓reduceIte, reduceCtorEq]
 refine ae (Wj n a) ?_
 simp +contextual only [sZ, ↓reduceIte, reduceCtorEq]
 exact aW rfl rfl
def qE (o : gD) (n : Int) : Bool :=
 oK o.name && (decide (mr o.name 95 < o.name.size) && ((decide (mr o.name 95 = 0) || decide (mr o.name 95 = o.args.length)) && (decide ((o.args.length : Int) ≤ 8) && (Hz n o.AB && !o.args.any fun a => !Hz n a))))
theorem ZD (o : gD) (n : Int) : Pure Tryz.prog 143 [o.av, .int .i64 n] (.bool (qE o n)) := by
 refine fun H => OL.calls rfl ?_
 simp only [I2, OK]
 unfold qE
 simp +contextual only [aC, sZ, Nat.reduceEqDiff, Nat.reduceAdd, ↓reduceIte, reduceCtorEq]
 refine ae (Zz o.name) ?_
 simp +contextual only [aC, sZ, Nat.reduceEqDiff, Nat.reduceAdd, ↓reduceIte]
 refine ae (Wh o.name) ?_
 cases hn : oK o.name with
 | false =>
   simp +contextual only [sZ, Nat.reduceEqDiff, ↓reduceIte, reduceCtorEq]
   exact aW rfl rfl
 | true =>
   have ZE := ZB 194 [.ai (.fn (.func 192) [] [.ai (.int .i64 n)])] rfl rfl (fun a => !Hz n a) o.args (fun a _ => ZC n a)
   have Kh := Wj n o.AB
   generalize Hz n o.AB = q at Kh ⊢
   generalize (o.args.any fun a => !Hz n a) = z at ZE ⊢
   by_cases h1 : mr o.name 95 < o.name.size
   ·have e1 : decide (mr o.name 95 < o.name.size) = true := decide_eq_true h1
    simp +contextual only [aC, h1, sZ, Nat.reduceEqDiff, Nat.reduceAdd, ↓reduceIte, reduceCtorEq]
    refine ⟨fun ZF _ => ⟨fun ZG => ?_, fun ZG => ?_⟩, fun ZF _ => ?_⟩
    ·have e2 : (decide (mr o.name 95 = 0) || decide (mr o.name 95 = (o.args.length : Int))) = true := by simp [ZG]
     refine ⟨fun h3 => ae Kh ?_, fun h3 => ?_⟩
     ·have e903 : decide ((o.args.length : Int) ≤ 8) = true := decide_eq_true h3
      rw [e1, e2, e903]
      cases q with
      | false =>
        simp +contextual only [sZ, Nat.reduceEqDiff, ↓reduceIte, reduceCtorEq]
        exact aW rfl (by simp)
      | true =>
        simp +contextual only [aC, sZ, Nat.reduceEqDiff, Nat.reduceAdd, ↓reduceIte, reduceCtorEq]
        refine ae ZE ?_
        simp +contextual only [sZ, Nat.reduceEqDiff, ↓reduceIte, reduceCtorEq]
        exact aW rfl (by simp)
     ·have e903 : decide ((o.args.length : Int) ≤ 8) = false := decide_eq_false (by omega)
      exact aW rfl (by rw [e903]; simp)
    ·have e2 : (decide (mr o.name 95 = 0) || decide (mr o.name 95 = (o.args.length : Int))) = false := by simp [ZF, ZG]
     exact aW rfl (by rw [e2]; simp)
    ·have e2 : (decide (mr o.name 95 = 0) || decide (mr o.name 95 = (o.args.length : Int))) = true := by simp [ZF]
     refine ⟨fun h3 => ae Kh ?_, fun h3 => ?_⟩
     ·have e903 : decide ((o.args.length : Int) ≤ 8) = true := decide_eq_true h3
      rw [e1, e2, e903]
      cases q with
      | false =>
        simp +contextual only [sZ, Nat.reduceEqDiff, ↓reduceIte, reduceCtorEq]
        exact aW rfl (by simp)
      | true =>
        simp +contextual only [aC, sZ, Nat.reduceEqDiff, Nat.reduceAdd, ↓reduceIte, reduceCtorEq]
        refine ae ZE ?_
        simp +contextual only [sZ, Nat.reduceEqDiff, ↓reduceIte, reduceCtorEq]
        exact aW rfl (by simp)
     ·have e903 : decide ((o.args.length : Int) ≤ 8) = false := decide_eq_false (by omega)
      exact aW rfl (by rw [e903]; simp)
   ·have e1 : decide (mr o.name 95 < o.name.size) = false := decide_eq_false h1
    rw [e1]
    simp +contextual only [aC, h1, sZ, Nat.reduceEqDiff, ↓reduceIte, reduceCtorEq]
    exact aW rfl (by simp)
end Go.aK
end
section
set_option maxRecDepth 100000
namespace Go.aK
open Go Go.Proofs
theorem Wk (l : List Int) (hl : l.length * 8 ≤ 140737488355328) : Pure Tryz.prog 118 [.ap 0 (ints l)] (.ap 1 (ints l)) := fun H =>
 uY 0 (ints l) H (of_eq_true (lO l)) (by rw [aw]; exact hl) (bk _ _)
def HA (a : Int) : UInt8 := UInt8.ofNat (IntKind.u8.wrap a).toNat
theorem Sr (a : Int) : AV.int .u8 (IntKind.u8.wrap a) = .int .u8 (HA a).toNat := by
 have h : 0 ≤ IntKind.u8.wrap a ∧ IntKind.u8.wrap a < 256 := by
  simp only [IntKind.wrap]
  have h1 : IntKind.u8.bits = 8 := rfl
  have h2 : IntKind.u8.signed = false := rfl
  rw [h1, h2]
  simp
  omega
 congr 1
 unfold HA
 rw [UInt8.toNat_ofNat']
 omega
def HB (o : gD) : List UInt8 := (o.name ++ ⟨#[40]⟩).data.toList ++ (o.args ++ [o.AB]).map HA
def ms (o : gD) : ByteArray := ⟨(HB o).toArray⟩
theorem En (l : List UInt8) (a : Int) : bg l ++ [.int .u8 (IntKind.u8.wrap a)] = bg (l ++ [HA a]) := by
 rw [Sr]; simp [bg]
theorem HC (l : List UInt8) : (bg l).length = l.length := by simp [bg]
theorem Ss (s : ByteArray) (φ : AV → Prop) : eM 1 (.str s) φ = (s.size < 9223372036854775808 ∧ φ (.ap 1 (bg s.data.toList))) := _root_.id rfl
theorem Su (o : Nat) (l : List UInt8) (φ : AV → Prop) (h : φ (.str ⟨l.toArray⟩)) : jn (.ap o (bg l)) φ := ⟨l, rfl, h⟩
theorem Sv (k k' : IntKind) (n : Int) (φ : AV → Prop) : cp k (.int k' n) φ = φ (.int k (k.wrap n)) := _root_.id rfl
theorem Wl (o : gD) (h1 : o.name.size ≤ 32) (h2 : o.args.length ≤ 8) : Pure Tryz.prog 144 [o.av] (.str (ms o)) := by
 refine fun H => ON.calls rfl ?_
 simp only [I3, OM]
 have cT : (⟨#[40]⟩ : ByteArray).size = 1 := rfl
 have hs2 : (o.name ++ ⟨#[40]⟩ : ByteArray).size = o.name.size + 1 := by rw [ByteArray.size_append, cT]
 have hln : (o.name ++ ⟨#[40]⟩ : ByteArray).data.toList.length = o.name.size + 1 := hs2
 simp +contextual only [aC, Ss, cT, hs2, sZ, Nat.reduceEqDiff, Nat.reduceAdd, ↓reduceIte]
 refine ⟨by omega, by omega, aH (Wk o.args (by omega)) ?_⟩
 simp +contextual only [aC, m8, ok_int, rG, sZ, Nat.reduceEqDiff, Nat.reduceAdd, ↓reduceIte]
 refine ⟨by omega, ?_⟩
 generalize hv : o.args ++ [o.AB] = vs
 have pD : vs.length ≤ 9 := by rw [← hv]; simp; omega
 have hk : ms o = ⟨((o.name ++ ⟨#[40]⟩ : ByteArray).data.toList ++ vs.map HA).toArray⟩ := by rw [ms, HB, hv]
 rw [hk]
 generalize (o.name ++ ⟨#[40]⟩ : ByteArray).data.toList = nm at *
 refine aB vs.length (fun _ => True)
  (fun i => [(3, .ap 1 (bg (nm ++ (vs.take i).map HA))), (16, .ap 1 (ints vs)), (17, .int .i64 vs.length), (18, .int .i64 i)]) (fun _ => H) ⟨trivial, aG (by simp) rfl⟩ fun i hi hI => ?_
 simp +contextual only [sZ, Nat.reduceEqDiff, ↓reduceIte, reduceCtorEq]
 refine ⟨fun aY => ⟨bZ aY, ?_⟩, fun iW => ?_⟩
 ·have aY := bZ aY
  simp +contextual only [Sv, m8, ok_int, En, HC, sZ, Nat.reduceEqDiff, Nat.reduceAdd, ↓reduceIte]
  refine ⟨by simp; omega, i + 1, aY, by omega, aG ?_ rfl⟩
  rw [au i (by omega), List.take_add_one, List.map_append, ← List.append_assoc]
  simp [aY]
 ·rw [List.take_of_length_le (dl iW)]
  refine Su 0 _ _ ?_
  simp +contextual only [sZ]
  exact aW rfl rfl
instance : LawfulBEq ByteArray where
 rfl := by intro a; rw [yQ]; simp
 eq_of_beq := by intro a b h; rw [yQ] at h; exact of_decide_eq_true h
def oL (vs : List ByteArray) : List (AV × AV) := vs.map fun v => (.str v, .bool true)
theorem nt (n : ByteArray) : ∀ (vs : List ByteArray) (i : Nat), (n ∈ vs → ∃ j, dN 1 (.str n) (oL vs) i = some (some (j, .bool true))) ∧ (n ∉ vs → dN 1 (.str n) (oL vs) i = some none)
 | [], i => ⟨fun h => (by cases h), fun _ => rfl⟩
 | v :: r, i => by
   have ih := nt n r (i + 1)
   simp only [oL, List.map_cons, dN, cP]
   by_cases hv : n = v
   ·subst hv
    simp
   ·simp only [List.mem_cons, hv, false_or]
    exact ih
theorem qF (n : ByteArray) (vs : List ByteArray) (φ : AV → Prop) : gZ (some (.map (oL vs))) 1 (.bool false) (.str n) false φ = φ (.bool (decide (n ∈ vs))) := by
 have h := nt n vs 0
 unfold gZ
 by_cases hn : n ∈ vs
 ·obtain ⟨j, hj⟩ := h.1 hn
  simp [hj, hn, tO]
 ·simp [h.2 hn, hn, cP, aT, bh.aT, tO]
theorem Cs {n : ByteArray} {vs : List ByteArray} (hn : n ∉ vs) (id : Nat) (H : List aa) (K : List aa → Prop) : g9 (some (.map (oL vs))) 1 id (.str n) (.bool true) H K = K (H.set id (.map (oL (vs ++ [n])))) := by
 have h := (nt n vs 0).2 hn
 unfold g9
 simp only [h]
 simp [cP, I8, zE, Ff, oL, aT, bh.aT, tO]
def lV : List ByteArray → List ByteArray → Bool
 | [], _ => true
 | s :: r, seen => if oK s = true ∧ ¬ 0 ≤ NV s ∧ s ∉ seen then lV r (seen ++ [s]) else false
def Ae (n : Int) : List gD → List ByteArray → Bool
 | [], _ => true
 | o :: r, seen => if qE o n = true ∧ ms o ∉ seen then Ae n r (seen ++ [ms o]) else false
def nu (s : Sg) : Bool := decide ((s.aZ.length : Int) ≤ 64) && decide ((s.ops.length : Int) ≤ 256) && lV s.aZ [] && Ae s.aZ.length s.ops []
theorem sX {l : List ByteArray} {i : Nat} (h : i < l.length) (seen : List ByteArray) : lV (l.drop i) seen = if oK (l.getD i default) = true ∧ ¬ 0 ≤ NV (l.getD i default) ∧ l.getD i default ∉ seen then lV (l.drop (i + 1)) (seen ++ [l.getD i default]) else false := by
 rw [List.drop_eq_getElem_cons h, lV]
 have e : l.getD i default = l[i] := by simp [h]
 rw [e]
theorem ym {n : Int} {l : List gD} {i : Nat} (h : i < l.length) (seen : List ByteArray) : Ae n (l.drop i) seen = if qE (l.getD i default) n = true ∧ ms (l.getD i default) ∉ seen then Ae n (l.drop (i + 1)) (seen ++ [ms (l.getD i default)]) else false := by
 rw [List.drop_eq_getElem_cons h, Ae]
 have e : l.getD i default = l[i] := by simp [h]
 rw [e]
theorem Eo {o : gD} {n : Int} (h : qE o n = true) : o.name.size ≤ 32 ∧ o.args.length ≤ 8 ∧ Hz n o.AB = true ∧ ∀ a ∈ o.args, Hz n a = true := by
 simp only [qE, oK, Bool.and_eq_true, Bool.not_eq_true', decide_eq_false_iff_not, decide_eq_true_eq] at h
 obtain ⟨⟨⟨_, h1⟩, _⟩, _, _, h2, h3, h4⟩ := h
 refine ⟨by omega, by omega, h3, fun a ha => ?_⟩
 cases hx : Hz n a with
 | true => rfl
 | false =>
   rw [Bool.eq_false_iff] at h4
   exact absurd (List.any_eq_true.2 ⟨a, ha, by rw [hx]; rfl⟩) h4
theorem c81 (s : Sg) : Pure Tryz.prog 81 [s.av] (.int .i64 (if nu s = true then 0 else 40)) := by
 refine fun H => T9.calls rfl ?_
 simp only [Qm, T8]
 have bad : ∀ {G : List aa} {e : Bool}, e = false → G.take H.length = H → nu s = e → bT H.length [RX.t 2] [(2, AV.int IntKind.i64 40)] G fun r H' => r = AV.int IntKind.i64 (if nu s = true then 0 else 40) ∧ H' = H := by
  intro G e he hG hc
  rw [hc, he]
  exact NB hG rfl rfl ⟨rfl, rfl⟩
 simp +contextual only [aC, sZ, Nat.reduceEqDiff, Nat.reduceAdd, ↓reduceIte, reduceCtorEq]
 refine fun _ => ⟨fun h1 _ => ⟨fun h2 => ?_, fun h2 => ?_⟩, fun h1 => ?_⟩
 ·have h2' : ¬ (s.ops.length : Int) ≤ 256 := by omega
  exact bad rfl (by simp) (by rw [nu, decide_eq_false h2']; simp)
 ·refine aN s.aZ.length (fun i (seen : List ByteArray) => lV (s.aZ.drop i) seen = lV s.aZ [])
   (fun i seen => [(1, .ai s.av), (3, .map H.length), (21, .ap 0 (strs s.aZ)), (22, .int .i64 s.aZ.length), (23, .int .i64 i)]) (fun i seen => H ++ [.map (oL seen)]) [] ⟨rfl, aA _ _ _⟩ fun i seen hi hI => ?_
  simp +contextual only [aC, sZ, Nat.reduceEqDiff, Nat.reduceAdd, ↓reduceIte]
  refine ⟨fun aY => ⟨bZ aY, ?_⟩, fun iW => ?_⟩
  ·have aY := bZ aY
   rw [sX aY] at hI
   generalize s.aZ.getD i default = x at *
   refine ae (Wh x) ?_
   cases hn : oK x with
   | false =>
     rw [hn, if_neg (by simp)] at hI
     simp +contextual only [sZ, Nat.reduceEqDiff, ↓reduceIte, reduceCtorEq]
     exact bad rfl (by simp) (by simp [nu, ← hI])
   | true =>
     rw [hn] at hI
     simp +contextual only [sZ, Nat.reduceEqDiff, Nat.reduceAdd, ↓reduceIte]
     refine ae (Zy x) ?_
     by_cases hu : 0 ≤ NV x
     ·rw [if_neg (fun h => h.2.1 hu)] at hI
      simp +contextual only [hu, sZ, Nat.reduceEqDiff, ↓reduceIte, reduceCtorEq]
      exact bad rfl (by simp) (by simp [nu, ← hI])
     ·by_cases hm : x ∈ seen
      ·rw [if_neg (fun h => h.2.2 hm)] at hI
       simp +contextual only [hu, qF, hm, sZ, Nat.reduceEqDiff, ↓reduceIte, reduceCtorEq]
       exact bad rfl (by simp) (by simp [nu, ← hI])
      ·rw [if_pos ⟨rfl, hu, hm⟩] at hI
       simp +contextual only [hu, qF, hm, Cs hm, sZ, Nat.reduceEqDiff, ↓reduceIte]
       exact ⟨i + 1, seen ++ [x], ⟨aY, hI⟩, by omega, aG (by rw [au i (by omega)]) rfl⟩
  ·have hs : lV s.aZ [] = true := by
    rw [← hI, List.drop_of_length_le (dl iW)]; rfl
   have hc : nu s = Ae s.aZ.length s.ops [] := by simp [nu, h1, h2, hs]
   clear hI
   simp +contextual only [sZ]
   refine fun _ => aN s.ops.length (fun i (seen2 : List ByteArray) => Ae s.aZ.length (s.ops.drop i) seen2 = Ae s.aZ.length s.ops [])
    (fun i seen2 => [(1, .ai s.av), (6, .map (H.length + 1)), (44, .ap 0 (ot s.ops)), (45, .int .i64 s.ops.length), (46, .int .i64 i)]) (fun i seen2 => H ++ [.map (oL seen), .map (oL seen2)]) [] ⟨rfl, aA _ _ _⟩ fun i seen2 hi hI => ?_
   simp +contextual only [aC, sZ, Nat.reduceEqDiff, Nat.reduceAdd, ↓reduceIte, reduceCtorEq]
   refine ⟨fun aY => ⟨bZ aY, ?_⟩, fun iW => ?_⟩
   ·have aY := bZ aY
    rw [ym aY] at hI
    generalize s.ops.getD i default = x at *
    refine fun _ => ae (ZD x _) ?_
    cases hg : qE x s.aZ.length with
    | false =>
      rw [hg, if_neg (by simp)] at hI
      simp +contextual only [sZ, Nat.reduceEqDiff, ↓reduceIte, reduceCtorEq]
      exact bad rfl (by simp) (by rw [hc, ← hI])
    | true =>
      rw [hg] at hI
      have XW := Eo hg
      simp +contextual only [aC, sZ, Nat.reduceEqDiff, Nat.reduceAdd, ↓reduceIte]
      refine ae (Wl x XW.1 XW.2.1) ?_
      by_cases hm : ms x ∈ seen2
      ·rw [if_neg (fun h => h.2 hm)] at hI
       simp +contextual only [qF, hm, sZ, Nat.reduceEqDiff, ↓reduceIte, reduceCtorEq]
       exact bad rfl (by simp) (by rw [hc, ← hI])
      ·rw [if_pos ⟨rfl, hm⟩] at hI
       simp +contextual only [aC, qF, hm, sZ, Nat.reduceEqDiff, Nat.reduceAdd, ↓reduceIte]
       refine ae (Wl x XW.1 XW.2.1) ?_
       simp +contextual only [Cs hm, sZ, Nat.reduceEqDiff, ↓reduceIte]
       exact ⟨i + 1, seen2 ++ [ms x], ⟨aY, hI⟩, by omega, aG (by rw [au i (by omega)]) rfl⟩
   ·rw [List.drop_of_length_le (dl iW)] at hI
    exact NB (by simp) rfl rfl ⟨by rw [hc, ← hI]; rfl, rfl⟩
 ·have YB : ¬ (s.aZ.length : Int) ≤ 64 := by omega
  exact bad rfl (by simp) (by rw [nu, decide_eq_false YB]; simp)
end Go.aK
end
section
set_option maxRecDepth 100000
namespace Go.aK
open Go Go.Proofs Go.fq
def gN (w : List (Int × Int)) : List (AV × AV) := w.map fun p => (.int .i64 p.1, .int .i64 p.2)
theorem Ep (n : Int) : ∀ (w : List (Int × Int)) (i : Nat), (∃ j s, w[j]? = some (n, s) ∧ dN 0 (.int .i64 n) (gN w) i = some (some (i + j, .int .i64 s))) ∨ ((∀ p ∈ w, p.1 ≠ n) ∧ dN 0 (.int .i64 n) (gN w) i = some none)
 | [], i => .inr ⟨(fun p h => by cases h), rfl⟩
 | (a, b) :: r, i => by
   have ih := Ep n r (i + 1)
   simp only [gN, List.map_cons, dN, cP, if_true]
   by_cases h : n = a
   ·subst h
    exact .inl ⟨0, b, rfl, by simp⟩
   ·simp only [decide_eq_false h]
    rcases ih with ⟨j, s, h1, h2⟩ | ⟨h1, h2⟩
    ·exact .inl ⟨j + 1, s, h1, by rw [show i + (j + 1) = i + 1 + j by omega]; exact h2⟩
    ·refine .inr ⟨fun p hp => ?_, h2⟩
     rcases List.mem_cons.1 hp with rfl | hp
     ·exact fun e => h e.symm
     ·exact h1 p hp
theorem Wm {n : Int} {w : List (Int × Int)} {φ : AV → Prop} (h1 : ∀ s, (n, s) ∈ w → φ (.tuple [.int .i64 s, .bool true])) (h2 : (∀ p ∈ w, p.1 ≠ n) → φ (.tuple [.int .i64 0, .bool false])) : gZ (some (.map (gN w))) 0 (.int .i64 0) (.int .i64 n) true φ := by
 unfold gZ
 rcases Ep n w 0 with ⟨j, s, h3, h4⟩ | ⟨h3, h4⟩
 ·simp only [h4]; exact h1 s (List.mem_of_getElem? h3)
 ·simp only [h4]; exact ⟨by simp [cP], h2 h3⟩
theorem msW {n s : Int} {w : List (Int × Int)} {id : Nat} {H : List aa} {K : List aa → Prop} (h : ∀ w', (∀ p ∈ w', p ∈ w ∨ p = (n, s)) → (∀ p ∈ w, ∃ q ∈ w', q.1 = p.1) → (n, s) ∈ w' → K (H.set id (.map (gN w')))) : g9 (some (.map (gN w))) 0 id (.int .i64 n) (.int .i64 s) H K := by
 unfold g9
 refine ⟨rfl, rfl, rfl, ?_⟩
 have ec : aT (.int .i64 s) = .int .i64 s := rfl
 rcases Ep n w 0 with ⟨j, x, h3, h4⟩ | ⟨h3, h4⟩
 ·simp only [h4, ec, Nat.zero_add]
  have e : (gN w).set j (.int .i64 n, .int .i64 s) = gN (w.set j (n, s)) := by simp [gN, List.map_set]
  rw [e]
  have hj := (List.getElem?_eq_some_iff.1 h3).1
  refine h _ (fun p hp => List.mem_or_eq_of_mem_set hp) (fun p hp => ?_) (List.mem_iff_getElem?.2 ⟨j, by rw [List.getElem?_set_self hj]⟩)
  obtain ⟨m, hm⟩ := List.mem_iff_getElem?.1 hp
  by_cases e : j = m
  ·subst e
   rw [h3] at hm; cases hm
   exact ⟨(n, s), List.mem_iff_getElem?.2 ⟨j, by rw [List.getElem?_set_self hj]⟩, rfl⟩
  ·exact ⟨p, List.mem_iff_getElem?.2 ⟨m, by rw [List.getElem?_set_ne e]; exact hm⟩, rfl⟩
 ·simp only [h4, ec]
  refine ⟨by simp [cP], ?_⟩
  have e : gN w ++ [(AV.int .i64 n, AV.int .i64 s)] = gN (w ++ [(n, s)]) := by simp [gN]
  rw [e]
  exact h _ (fun p hp => by simpa using hp) (fun p hp => ⟨p, List.mem_append.2 (.inl hp), rfl⟩) (by simp)
structure NW (ps ss : List Int) (i : Nat) : Prop where
 Ov : ∀ j, j < i → 0 ≤ ps.getD j 0 ∧ ps.getD j 0 ≤ 255 ∧ 1 ≤ ss.getD j 0 ∧ ss.getD j 0 ≤ 3
 st : ∀ j k, j < i → k < i → ps.getD j 0 = ps.getD k 0 → ss.getD j 0 = ss.getD k 0
def eE (s : Sg) (ps ss : List Int) : Prop := ps.length = s.ops.length ∧ ss.length = s.ops.length ∧ NW ps ss ps.length
theorem eE.va {s : Sg} {ps ss : List Int} (h : eE s ps ss) : Va ps ss := ⟨by rw [h.2.1, h.1], h.2.2.st⟩
open Classical in
noncomputable def iR (s : Sg) (ps ss : List Int) : Int := if nu s = true then (if eE s ps ss then 0 else 60) else 40
theorem vH (ps ss : List Int) (φ : AV → Prop) : ak 0 none (.ai (eR ps ss)) φ = φ (.ai (.ap 0 (ints ps))) := by simp [ak, apart, eR, AV.cells, AV.one]
theorem w6 (ps ss : List Int) (φ : AV → Prop) : ak 1 none (.ai (eR ps ss)) φ = φ (.ai (.ap 0 (ints ss))) := by simp [ak, apart, eR, AV.cells, AV.one]
theorem bi (ps ss : List Int) : (eR ps ss).val = true ∧ (eR ps ss).cells.length = 2 ∧ (eR ps ss).cells.all AV.one = true ∧ (eR ps ss).ab = eR ps ss ∧ (eR ps ss).drop = eR ps ss ∧ ∀ n, (eR ps ss).a7 n = true :=
 ⟨rfl, rfl, rfl, rfl, rfl, fun n => by simp [eR, u0, bL, cZ, cW, bk]⟩
theorem cv (ps ss : List Int) (H : List aa) (φ : AV → Prop) : aS (some 2) (.ai (eR ps ss)) H φ = φ (eR ps ss) := NQ _ _ _ _
theorem ZH (s : Sg) (ps ss : List Int) : Pure Tryz.prog 24 [s.av, eR ps ss] (.int .i64 (iR s ps ss)) := by
 refine fun H => k24.2.calls rfl ?_
 simp only [k24, aI]
 obtain ⟨q1, q2, q3, q4, q5, q6⟩ := bi ps ss
 simp +contextual only [aC, q1, sZ, Nat.reduceEqDiff, Nat.reduceAdd, ↓reduceIte, reduceCtorEq]
 refine ae (c81 s) ?_
 cases hs : nu s with
 | false =>
   have e : iR s ps ss = 40 := by rw [iR, if_neg (by rw [hs]; simp)]
   rw [e]
   simp +contextual only [Bool.false_eq_true, sZ, Nat.reduceEqDiff, ↓reduceIte, reduceCtorEq, Int.reduceEq]
   exact aW rfl rfl
 | true =>
   simp +contextual only [aC, vH, w6, aw, sZ, Nat.reduceEqDiff, ↓reduceIte, reduceCtorEq]
   have bad : ¬ eE s ps ss → iR s ps ss = 60 := fun h => by rw [iR, if_pos hs, if_neg h]
   have Sw : eE s ps ss → iR s ps ss = 0 := fun h => by rw [iR, if_pos hs, if_pos h]
   have ret60 : ∀ (X : List aa), ¬ eE s ps ss → bT H.length [.t 4] [(4, .int .i64 60)] (H ++ X) fun r H' => r = .int .i64 (iR s ps ss) ∧ H' = H := fun X h => by rw [bad h]; exact JP rfl rfl
   have ret60' : ¬ eE s ps ss → bT H.length [.t 4] [(4, .int .i64 60)] H fun r H' => r = .int .i64 (iR s ps ss) ∧ H' = H := fun h => by rw [bad h]; exact aW rfl rfl
   refine fun _ _ => ⟨fun hl => ?_, fun hl => ?_⟩
   rotate_left
   ·first | exact ret60' fun h => hl (by omega) | (refine ret60' fun h => ?_; have := h.1; omega)
   refine fun _ => ⟨fun nJ => ret60' fun h => nJ (by have := h.2.1; omega), fun nJ => ?_⟩
   have g0 : ∀ w, (H ++ [aa.map (gN w)])[H.length]? = some (.map (gN w)) := fun w => by simp
   have gs : ∀ w w', (H ++ [aa.map (gN w)]).set H.length (.map (gN w')) = H ++ [.map (gN w')] := fun w w' => by simp
   refine aN ps.length (fun i (w : List (Int × Int)) => NW ps ss i ∧ (∀ p ∈ w, ∃ j, j < i ∧ ps.getD j 0 = p.1 ∧ ss.getD j 0 = p.2) ∧ ∀ j, j < i → ∃ p ∈ w, p.1 = ps.getD j 0)
    (fun i w => [(3, .ai (eR ps ss)), (6, .map H.length), (35, .ap 0 (ints ps)), (36, .int .i64 s.ops.length), (37, .int .i64 i)]) (fun i w => H ++ [.map (gN w)]) []
    ⟨⟨⟨fun j h => by omega, fun j k h => by omega⟩, (fun p h => by cases h), fun j h => by omega⟩, aA _ _ _⟩ fun i w hi hI => ?_
   ·obtain ⟨hu, hw1, hw2⟩ := hI
    have nbad : ∀ j, j < ps.length → ¬ (0 ≤ ps.getD j 0 ∧ ps.getD j 0 ≤ 255 ∧ 1 ≤ ss.getD j 0 ∧ ss.getD j 0 ≤ 3) → ¬ eE s ps ss := fun j hj h h' => h (h'.2.2.Ov j hj)
    by_cases Ls : (i : Int) < s.ops.length
    ·have Sx : i < ps.length := by omega
     simp +contextual only [w6, cw, Int.toNat_natCast, g0, Ls, decide_true, sZ, Nat.reduceEqDiff, ↓reduceIte]
     generalize hp : ps.getD i 0 = p
     generalize hq : ss.getD i 0 = q
     refine ⟨by omega, ⟨by omega, by omega⟩, ?_⟩
     by_cases r1 : p < 0
     ·refine Wm (fun o _ => ?_) (fun _ => ?_)
      all_goals
       simp +contextual only [r1, decide_true, sZ, Nat.reduceEqDiff, Nat.reduceAdd, Nat.reduceLT, ↓reduceIte, reduceCtorEq]
       exact ret60 _ (nbad i Sx (by rw [hp]; omega))
     ·by_cases r2 : 255 < p
      ·refine Wm (fun o _ => ?_) (fun _ => ?_)
       all_goals
        simp +contextual only [r1, r2, decide_true, decide_false, sZ, Nat.reduceEqDiff, Nat.reduceAdd, Nat.reduceLT, ↓reduceIte, reduceCtorEq]
        exact ret60 _ (nbad i Sx (by rw [hp]; omega))
      ·by_cases r3 : q < 1
       ·refine Wm (fun o _ => ?_) (fun _ => ?_)
        all_goals
         simp +contextual only [r1, r2, r3, decide_true, decide_false, sZ, Nat.reduceEqDiff, Nat.reduceAdd, Nat.reduceLT, ↓reduceIte, reduceCtorEq]
         exact ret60 _ (nbad i Sx (by rw [hq]; omega))
       ·by_cases r4 : 3 < q
        ·refine Wm (fun o _ => ?_) (fun _ => ?_)
         all_goals
          simp +contextual only [r1, r2, r3, r4, decide_true, decide_false, sZ, Nat.reduceEqDiff, Nat.reduceAdd, Nat.reduceLT, ↓reduceIte, reduceCtorEq]
          exact ret60 _ (nbad i Sx (by rw [hq]; omega))
        ·have ZI : 0 ≤ p ∧ p ≤ 255 ∧ 1 ≤ q ∧ q ≤ 3 := ⟨by omega, by omega, by omega, by omega⟩
         have next : (∀ j, j < i → ps.getD j 0 = p → ss.getD j 0 = q) → ∀ w' : List (Int × Int), (∀ x ∈ w', x ∈ w ∨ x = (p, q)) → (∀ x ∈ w, ∃ y ∈ w', y.1 = x.1) → (p, q) ∈ w' → NW ps ss (i + 1) ∧ (∀ x ∈ w', ∃ j, j < i + 1 ∧ ps.getD j 0 = x.1 ∧ ss.getD j 0 = x.2) ∧ ∀ j, j < i + 1 → ∃ x ∈ w', x.1 = ps.getD j 0 := by
          intro hsame w' m1 m2 m3
          refine ⟨⟨fun j hj => ?_, fun j k hj hk he => ?_⟩, fun x hx => ?_, fun j hj => ?_⟩
          ·by_cases e : j = i
           ·subst e; rw [hp, hq]; exact ZI
           ·exact hu.Ov j (by omega)
          ·by_cases e : j = i
           ·by_cases e' : k = i
            ·rw [e, e']
            ·subst e; rw [hp] at he; rw [hq]; exact (hsame k (by omega) he.symm).symm
           ·by_cases e' : k = i
            ·subst e'; rw [hp] at he; rw [hq]; exact hsame j (by omega) he
            ·exact hu.st j k (by omega) (by omega) he
          ·rcases m1 x hx with h | rfl
           ·obtain ⟨j, h1, h2, h3⟩ := hw1 x h; exact ⟨j, by omega, h2, h3⟩
           ·exact ⟨i, by omega, hp, hq⟩
          ·by_cases e : j = i
           ·subst e; rw [hp]; exact ⟨_, m3, rfl⟩
           ·obtain ⟨x, h1, h2⟩ := hw2 j (by omega)
            obtain ⟨y, h3, h4⟩ := m2 x h1
            exact ⟨y, h3, h4.trans h2⟩
         refine Wm (fun o ho => ?_) (fun jJ => ?_)
         ·obtain ⟨j0, hj1, ZJ, ZK⟩ := hw1 _ ho
          simp only at ZJ ZK
          by_cases VR : o = q
          ·subst VR
           have d0 : decide (¬ o = o) = false := by simp
           simp +contextual only [r1, r2, r3, r4, decide_false, g0, sZ, Nat.reduceEqDiff, Nat.reduceAdd, Nat.reduceLT, ↓reduceIte]
           refine msW fun w' m1 m2 m3 => ?_
           simp +contextual only [gs, sZ, Nat.reduceEqDiff, ↓reduceIte]
           refine ⟨i + 1, w', ⟨Sx, next (fun j hj he => ?_) w' m1 m2 m3⟩, by omega, aG (by rw [au i (by omega)]) rfl⟩
           rw [hu.st j j0 hj hj1 (he.trans ZJ.symm), ZK]
          ·have d0 : decide (¬ o = q) = true := by simp [VR]
           simp +contextual only [r1, r2, r3, r4, decide_false, d0, sZ, Nat.reduceEqDiff, Nat.reduceAdd, Nat.reduceLT, ↓reduceIte, reduceCtorEq]
           exact ret60 _ fun h => VR (by rw [← ZK, ← hq]; exact h.2.2.st j0 i (by omega) Sx (ZJ.trans hp.symm))
         ·simp +contextual only [r1, r2, r3, r4, decide_false, g0, sZ, Nat.reduceEqDiff, Nat.reduceAdd, Nat.reduceLT, ↓reduceIte]
          refine msW fun w' m1 m2 m3 => ?_
          simp +contextual only [gs, sZ, Nat.reduceEqDiff, ↓reduceIte]
          refine ⟨i + 1, w', ⟨Sx, next (fun j hj he => ?_) w' m1 m2 m3⟩, by omega, aG (by rw [au i (by omega)]) rfl⟩
          obtain ⟨x, h1, h2⟩ := hw2 j hj
          exact absurd (h2.trans he) (jJ x h1)
    ·have Zk : i = ps.length := by omega
     subst Zk
     rw [Sw ⟨by omega, by omega, hu⟩]
     simp +contextual only [Ls, decide_false, sZ, Nat.reduceEqDiff, ↓reduceIte, reduceCtorEq]
     exact JP rfl rfl
end Go.aK
end
section
set_option maxRecDepth 100000
namespace Go.aK
open Go Go.Proofs Go.fq
theorem Wn (g : Nat) (cz : List AV) (cF : cz.map AV.ab = cz) (p : T → Bool) (l : List T) (hf : ∀ x ∈ l, Pure Tryz.prog g ([x.av] ++ cz) (.bool (p x))) :
 Pure Tryz.prog 114 [.ap 0 (bU l), .fn (.func g) [] cz] (.int .i64 (rI p l 0)) := by
 refine fun H => Bu.2.calls rfl ?_
 simp only [Bu, aI]
 simp +contextual only [sZ, Nat.reduceEqDiff, Nat.reduceAdd, ↓reduceIte, reduceCtorEq]
 intro hl
 refine aB l.length (fun i => rI p (l.drop i) i = rI p l 0) (fun i => [(0, .ap 0 (bU l)), (1, .fn (.func g) [] cz), (7, .int .i64 l.length), (8, .int .i64 i)]) (fun _ => H) ⟨rfl, aA _ _ _⟩ fun i hi hI => ?_
 simp +contextual only [cF, sZ, Nat.reduceEqDiff, Nat.reduceAdd, ↓reduceIte, reduceCtorEq]
 refine ⟨fun aY => ?_, fun iW => ?_⟩
 ·have aY := bZ aY
  rw [xV aY] at hI
  refine ⟨aY, ae (hf _ (iu aY)) ?_⟩
  cases hb : p (l.getD i default) with
  | true =>
    rw [if_pos hb] at hI
    simp +contextual only [sZ, Nat.reduceEqDiff, ↓reduceIte, reduceCtorEq]
    exact aW rfl (by rw [← hI])
  | false =>
    rw [if_neg (by rw [hb]; simp)] at hI
    simp +contextual only [sZ, Nat.reduceEqDiff, ↓reduceIte, reduceCtorEq]
    exact ⟨i + 1, ⟨aY, hI⟩, by omega, aG (by rw [au i (by omega)]) rfl⟩
 ·rw [List.drop_of_length_le (dl iW)] at hI
  exact aW rfl (by rw [← hI]; rfl)
theorem Sy (g : Nat) (cz : List AV) (cF : cz.map AV.ab = cz) (p : T → Bool) (l : List T) (hf : ∀ x ∈ l, Pure Tryz.prog g ([x.av] ++ cz) (.bool (p x))) :
 Pure Tryz.prog 53 [.ap 0 (bU l), .fn (.func g) [] cz] (.bool (l.any p)) := by
 refine fun H => OH.2.calls rfl ?_
 simp only [OH, aI]
 simp +contextual only [sZ, Nat.reduceEqDiff, Nat.reduceAdd, ↓reduceIte, reduceCtorEq]
 refine ae (Wn g cz cF p l hf) ?_
 simp +contextual only [sZ, ↓reduceIte, reduceCtorEq]
 exact aW rfl (by rw [vt p l 0 (by omega)])
theorem ZL (x : T) : Pure Tryz.prog 130 [x.av] (.int .i64 (if x.tree = true then 0 else 4)) := by
 refine fun H => L9.2.calls rfl ?_
 simp only [L9, aI]
 simp +contextual only [sZ, Nat.reduceEqDiff, Nat.reduceAdd, ↓reduceIte]
 refine ae (Y5 x) ?_
 cases h : x.tree with
 | true => simp +contextual only [Bool.not_true, sZ, ↓reduceIte, reduceCtorEq]; exact aW rfl rfl
 | false => simp +contextual only [Bool.not_false, sZ, ↓reduceIte, reduceCtorEq]; exact aW rfl rfl
mutual
def nv (s : Sg) : T → Bool
 | .mk k n l => !(decide (k = 2) && (decide ((s.ops.length : Int) ≤ n) || !decide ((l.length : Int) = ((s.ops.getD n.toNat default).args.length : Nat)))) && XX s l
def XX (s : Sg) : List T → Bool
 | [] => true
 | x :: r => nv s x && XX s r
end
theorem tV (s : Sg) : ∀ l, XX s l = !(l.any fun x => !nv s x)
 | [] => rfl
 | x :: r => by rw [XX, tV s r, List.any_cons]; cases nv s x <;> simp
theorem ZM (s : Sg) : ∀ t : T, t.shaped = true → Pure Tryz.prog 131 [s.av, t.av] (.bool (nv s t)) := by
 suffices h : ∀ N t, wt t ≤ N → t.shaped = true → Pure Tryz.prog 131 [s.av, t.av] (.bool (nv s t)) from fun t ht => h _ t (Nat.le_refl _) ht
 intro N
 induction N with
 | zero => intro t h; have := gA t; omega
 | succ N ih =>
 intro t hN hs H
 have hk := nk hs
 have c182 : ∀ x ∈ t.l, Pure Tryz.prog 182 ([x.av] ++ [.ai s.av]) (.bool (!nv s x)) := by
  intro x hx H
  refine UQ.2.calls rfl ?_
  simp only [UQ, aI]
  simp +contextual only [aC, sZ, Nat.reduceEqDiff, Nat.reduceAdd, ↓reduceIte, reduceCtorEq]
  refine ae (ih x (by have := cK hx; omega) (hk.2 x hx)) ?_
  simp +contextual only [sZ, ↓reduceIte, reduceCtorEq]
  exact aW rfl rfl
 have hn : 0 ≤ t.n := by
  rw [T.fT] at hs
  simp only [Bool.and_eq_true, Bool.not_eq_true', Bool.or_eq_false_iff, decide_eq_false_iff_not] at hs
  have := hs.1.1.1.1
  omega
 obtain ⟨m, hm⟩ := Int.eq_ofNat_of_zero_le hn
 refine Uo.2.calls rfl ?_
 simp only [Uo, aI]
 have e : nv s t = (!(decide (t.k = 2) && (decide ((s.ops.length : Int) ≤ t.n) || !decide ((t.l.length : Int) = ((s.ops.getD t.n.toNat default).args.length : Nat)))) && !(t.l.any fun x => !nv s x)) := by
  rw [← tV]; cases t; rfl
 have fin : (!(decide (t.k = 2) && (decide ((s.ops.length : Int) ≤ t.n) || !decide ((t.l.length : Int) = ((s.ops.getD t.n.toNat default).args.length : Nat))))) = false → bT H.length [.t 4] [(4, .bool false)] H fun r H' => r = .bool (nv s t) ∧ H' = H := by
  intro h
  rw [e, h]; exact aW rfl rfl
 by_cases h2 : t.k = 2
 ·by_cases h3 : (s.ops.length : Int) ≤ t.n
  ·simp +contextual only [aC, h2, h3, decide_true, sZ, Nat.reduceEqDiff, Nat.reduceAdd, ↓reduceIte, reduceCtorEq]
   exact fin (by simp [h2, h3])
  ·have Wo : m < s.ops.length := by omega
   have Te : ¬ (s.ops.length : Int) ≤ (m : Int) := by omega
   have em : t.n.toNat = m := by omega
   by_cases h4 : (t.l.length : Int) = ((s.ops.getD m default).args.length : Nat)
   ·simp +contextual only [aC, h2, Te, h4, hm, Wo, aw, decide_true, decide_false, sZ, Nat.reduceEqDiff, Nat.reduceAdd, ↓reduceIte, reduceCtorEq]
    refine ae (Sy 182 [.ai s.av] rfl _ t.l c182) ?_
    simp +contextual only [sZ, ↓reduceIte, reduceCtorEq]
    refine aW rfl ?_
    rw [e, em, h4]
    simp [h2, h3]
   ·simp +contextual only [aC, h2, Te, h4, hm, Wo, aw, decide_true, decide_false, sZ, Nat.reduceEqDiff, Nat.reduceAdd, ↓reduceIte, reduceCtorEq]
    exact fin (by rw [em, decide_eq_true h2, decide_eq_false h3, decide_eq_false h4]; rfl)
 ·simp +contextual only [aC, h2, decide_false, sZ, Nat.reduceEqDiff, Nat.reduceAdd, ↓reduceIte, reduceCtorEq]
  refine ae (Sy 182 [.ai s.av] rfl _ t.l c182) ?_
  simp +contextual only [sZ, ↓reduceIte, reduceCtorEq]
  refine aW rfl ?_
  rw [e]
  simp [h2]
noncomputable def fO (s : Sg) (ps ss : List Int) (l : List T) : Int := if iR s ps ss = 0 then (if (l.all fun t => t.tree && nv s t) = true then 0 else 4) else iR s ps ss
theorem HD {p : T → Bool} {l : List T} {i : Nat} (h : i < l.length) : (l.drop i).all p = (p (l.getD i default) && (l.drop (i + 1)).all p) := by
 have e : l.getD i default = l[i] := by simp [h]
 rw [List.drop_eq_getElem_cons h, List.all_cons, e]
theorem Wp (s : Sg) (ps ss : List Int) (l : List T) : Pure Tryz.prog 74 [s.av, eR ps ss, .ap 0 (bU l)] (.int .i64 (fO s ps ss l)) := by
 refine fun H => k74.2.calls rfl ?_
 simp only [k74, aI]
 obtain ⟨q1, q2, q3, q4, q5, q6⟩ := bi ps ss
 simp +contextual only [aC, q1, q4, cv, sZ, Nat.reduceEqDiff, Nat.reduceAdd, ↓reduceIte, reduceCtorEq]
 refine ae (ZH s ps ss) ?_
 by_cases h0 : iR s ps ss = 0
 ·simp +contextual only [h0, sZ, Nat.reduceEqDiff, ↓reduceIte]
  intro _
  refine aB l.length (fun i => l.all (fun t => t.tree && nv s t) = (l.drop i).all fun t => t.tree && nv s t) (fun i => [(3, .ai s.av), (16, .ap 0 (bU l)), (17, .int .i64 l.length), (18, .int .i64 i)]) (fun _ => H) ⟨rfl, aA _ _ _⟩ fun i hi hI => ?_
  by_cases tA : (i : Int) < l.length
  ·have aY : i < l.length := by omega
   rw [HD aY] at hI
   simp +contextual only [tA, decide_true, sZ, Nat.reduceEqDiff, Nat.reduceAdd, ↓reduceIte]
   refine ⟨aY, ae (ZL _) ?_⟩
   cases ht : (l.getD i default).tree with
   | false =>
     rw [ht, Bool.false_and, Bool.false_and] at hI
     simp +contextual only [sZ, Nat.reduceEqDiff, ↓reduceIte, reduceCtorEq, Int.reduceEq]
     refine aW rfl ?_
     rw [fO, if_pos h0, hI, if_neg (by simp)]
   | true =>
     rw [ht, Bool.true_and] at hI
     simp +contextual only [aC, sZ, Nat.reduceEqDiff, Nat.reduceAdd, ↓reduceIte]
     refine ae (ZM s _ ((T.kJ _).1 ht).2.2) ?_
     cases ho : nv s (l.getD i default) with
     | false =>
       rw [ho, Bool.false_and] at hI
       simp +contextual only [Bool.not_false, sZ, Nat.reduceEqDiff, ↓reduceIte, reduceCtorEq]
       refine aW rfl ?_
       rw [fO, if_pos h0, hI, if_neg (by simp)]
     | true =>
       rw [ho, Bool.true_and] at hI
       simp +contextual only [Bool.not_true, sZ, Nat.reduceEqDiff, ↓reduceIte]
       exact ⟨i + 1, ⟨aY, hI⟩, by omega, aG (by rw [au i (by omega)]) rfl⟩
  ·simp +contextual only [tA, decide_false, sZ, Nat.reduceEqDiff, ↓reduceIte, reduceCtorEq]
   rw [List.drop_of_length_le (by omega)] at hI
   refine aW rfl ?_
   rw [fO, if_pos h0, hI]; rfl
 ·simp +contextual only [h0, sZ, Nat.reduceEqDiff, ↓reduceIte, reduceCtorEq]
  refine aW rfl ?_
  rw [fO, if_neg h0]
theorem Sz {s : Sg} : ∀ t : T, t.shaped = true → nv s t = true → yf (fun n => 0 ≤ n ∧ n < s.ops.length) t := by
 suffices h : ∀ N t, wt t ≤ N → t.shaped = true → nv s t = true → yf (fun n => 0 ≤ n ∧ n < s.ops.length) t from fun t => h _ t (Nat.le_refl _)
 intro N
 induction N with
 | zero => intro t h; have := gA t; omega
 | succ N ih =>
 intro t hN hs ho
 have hn : 0 ≤ t.n := by
  rw [T.fT] at hs
  simp only [Bool.and_eq_true, Bool.not_eq_true', Bool.or_eq_false_iff, decide_eq_false_iff_not] at hs
  have := hs.1.1.1.1
  omega
 have hk := (nk hs).2
 obtain ⟨k, n, l⟩ := t
 rw [nv, tV] at ho
 simp only [Bool.and_eq_true, Bool.not_eq_true', Bool.and_eq_false_iff, Bool.or_eq_false_iff, decide_eq_false_iff_not, List.any_eq_false, Bool.not_eq_false'] at ho
 refine yf.mk k n l (fun HS => ?_) fun x hx => ih x (by have := cK (a := .mk k n l) hx; omega) (hk x hx) ?_
 ·rcases ho.1 with h | h
  ·exact absurd HS h
  ·exact ⟨hn, by omega⟩
 ·have := ho.2 x hx
  simpa using this
end Go.aK
end
section
set_option maxRecDepth 100000
namespace Go.aK
open Go Go.Proofs Go.fq
mutual
theorem Ki : ∀ t : T, (wt t : Int) = t.sz
 | .mk k n l => by rw [wt, T.sz]; have := FD l; omega
theorem FD : ∀ l : List T, (gG l : Int) = Ea l
 | [] => rfl
 | x :: r => by rw [gG, Ea]; have := Ki x; have := FD r; omega
end
theorem lW {l : List T} (h : ∀ t ∈ l, t.tree = true) : gG l ≤ 2000 * l.length := by
 induction l with
 | nil => simp [gG]
 | cons x r ih =>
   have := ih fun t ht => h t (List.mem_cons_of_mem _ ht)
   have h1 := ((T.kJ x).1 (h x List.mem_cons_self)).1
   have h2 := Ki x
   rw [gG, List.length_cons]; omega
structure ZN (s : Sg) (ps ss : List Int) (l : List T) : Prop where
 ord : eE s ps ss
 tree : ∀ t ∈ l, t.tree = true
 all : ∀ t ∈ l, yf (fun n => 0 ≤ n ∧ n < ps.length) t
theorem vI {s : Sg} {ps ss : List Int} : iR s ps ss = 0 ↔ nu s = true ∧ eE s ps ss := by
 unfold iR
 by_cases h : nu s = true
 ·by_cases h2 : eE s ps ss
  ·rw [if_pos h, if_pos h2]; simp [h, h2]
  ·rw [if_pos h, if_neg h2]; simp [h2]
 ·rw [if_neg h]; simp [h]
theorem qG {s : Sg} {ps ss : List Int} {l : List T} (h : fO s ps ss l = 0) : ZN s ps ss l := by
 unfold fO at h
 split at h
 ·rename_i h0
  have h1 := (vI.1 h0).2
  split at h
  ·rename_i h2
   have h3 := List.all_eq_true.1 h2
   refine ⟨h1, fun t ht => ?_, fun t ht => ?_⟩
   ·have := h3 t ht; simp only [Bool.and_eq_true] at this; exact this.1
   ·have := h3 t ht
    simp only [Bool.and_eq_true] at this
    rw [h1.1]
    exact Sz t ((T.kJ t).1 this.1).2.2 this.2
  ·cases h
 ·rename_i h0; exact absurd h h0
theorem ZN.cx {s : Sg} {ps ss : List Int} {l : List T} (h : ZN s ps ss l) (dS : l ≠ []) (hl : l.length ≤ 10000) (n : Nat) : (fZ ps ss l n).Ok :=
 Pp h.ord.va dS (by have := lW h.tree; omega) h.all n
open Classical in
noncomputable def w7 (ps ss : List Int) (a b : T) : Bool := decide (R (kP ps ss) a b)
open Classical in
noncomputable def Wq (ps ss : List Int) (a b : T) : Bool := decide (E (kP ps ss) a b)
theorem jW {ps ss : List Int} {a b : T} : w7 ps ss a b = true ↔ R (kP ps ss) a b := by simp [w7]
theorem FE {ps ss : List Int} {a b : T} : Wq ps ss a b = true ↔ E (kP ps ss) a b := by simp [Wq]
theorem NX (a b : T) : bo (aU [a, b] 0) = .ap 0 (ints (aU [a, b] 0)) := rfl
theorem FF {Hs G : List aa} {n0 a b : Nat} {u v x y : AV} {R : AV → List aa → Prop} (Cb : b ≠ a) (hH : Hs.take n0 = G) (hb : x.a7 n0 = true ∧ y.a7 n0 = true) (hx : u.ab = x) (hy : v.ab = y) (hR : R (.tuple [x, y]) G) : bT n0 [.t a, .t b] [(a, u), (b, v)] Hs R := by
 subst hH; subst hx; subst hy
 refine ⟨n0, Nat.le_refl _, [u.ab, v.ab], ?_, by simp only [aj, hb.1, hb.2, Bool.and_self], hR⟩
 simp only [ax, if_neg Cb, if_true, List.map]
 exact b9 _
theorem Up.low {c : Cx} {H X G : List aa} (h : Up c (H ++ X) G) (he : H.length ≤ c.e) (hg : H.length ≤ c.g) : G.take H.length = H := by
 apply List.ext_getElem?
 intro j
 rw [List.getElem?_take]
 split
 ·rename_i hj
  rw [h.get j (by omega) (by omega), List.getElem?_append_left hj]
 ·rename_i hj
  rw [List.getElem?_eq_none (by omega)]
theorem ZO (s : Sg) (ps ss : List Int) (a b : T) : Pure Tryz.prog 20 [s.av, eR ps ss, a.av, b.av] (.tuple [.bool (if fO s ps ss [a, b] = 0 then w7 ps ss a b else false), .int .i64 (fO s ps ss [a, b])]) := by
 refine fun H => k20.2.calls rfl ?_
 simp only [k20, aI]
 obtain ⟨q1, q2, q3, q4, q5, q6⟩ := bi ps ss
 simp +contextual only [aC, q1, q4, cv, sZ, Nat.reduceEqDiff, Nat.reduceAdd, ↓reduceIte, reduceCtorEq]
 refine ae (Wp s ps ss [a, b]) ?_
 by_cases h0 : fO s ps ss [a, b] = 0
 ·rw [if_pos h0]
  have hr := qG h0
  have hw := lW hr.tree
  have hc := hr.cx (by simp) (by simp) H.length
  have hd := yk ps ss (ts := [a, b]) (by simp) H
  simp +contextual only [q4, cv, h0, sZ, Nat.reduceEqDiff, Nat.reduceAdd, ↓reduceIte]
  refine af (V0 ps ss [a, b] H (by simp at hw; omega)) ?_
  rintro r G ⟨rfl, rfl⟩
  have a0 := sW (ps := ps) (ss := ss) (ts := [a, b]) (n := H.length) (j := 0) (by simp)
  have a1 := sW (ps := ps) (ss := ss) (ts := [a, b]) (n := H.length) (j := 1) (by simp)
  have hl := cr [a, b] 0
  rw [NX]
  generalize aU [a, b] 0 = ks at a0 a1 hl ⊢
  have nJ : ks.length = 2 := hl
  simp +contextual only [cw, nJ, dy, sZ, Nat.reduceEqDiff, Nat.reduceAdd, Nat.reduceLT, ↓reduceIte, reduceCtorEq]
  refine ⟨by decide, by decide, af (jG hc a0.1 a1.1 _ hd) ?_⟩
  rintro r G ⟨x, rfl, hx, hU, hD⟩
  rw [a0.2, a1.2] at hx
  simp +contextual only [sZ, Nat.reduceEqDiff, ↓reduceIte, reduceCtorEq]
  have ex : x = w7 ps ss a b := by rw [Bool.eq_iff_iff, jW]; exact hx
  rw [ex]
  exact FF (by decide) (hU.low (by simp [fZ]) (by simp [fZ])) ⟨rfl, rfl⟩ rfl rfl ⟨by rw [h0]; rfl, rfl⟩
 ·rw [if_neg h0]
  simp +contextual only [h0, sZ, Nat.reduceEqDiff, ↓reduceIte, reduceCtorEq]
  exact FF (by decide) List.take_length ⟨rfl, rfl⟩ rfl rfl ⟨rfl, rfl⟩
theorem c22 (s : Sg) (ps ss : List Int) (a b : T) : Pure Tryz.prog 22 [s.av, eR ps ss, a.av, b.av] (.tuple [.bool (if fO s ps ss [a, b] = 0 then Wq ps ss a b else false), .int .i64 (fO s ps ss [a, b])]) := by
 refine fun H => k22.2.calls rfl ?_
 simp only [k22, aI]
 obtain ⟨q1, q2, q3, q4, q5, q6⟩ := bi ps ss
 simp +contextual only [aC, q1, q4, cv, sZ, Nat.reduceEqDiff, Nat.reduceAdd, ↓reduceIte, reduceCtorEq]
 refine ae (Wp s ps ss [a, b]) ?_
 by_cases h0 : fO s ps ss [a, b] = 0
 ·rw [if_pos h0]
  have hr := qG h0
  have hw := lW hr.tree
  have hc := hr.cx (by simp) (by simp) H.length
  have hd := yk ps ss (ts := [a, b]) (by simp) H
  simp +contextual only [q4, cv, h0, sZ, Nat.reduceEqDiff, Nat.reduceAdd, ↓reduceIte]
  refine af (V0 ps ss [a, b] H (by simp at hw; omega)) ?_
  rintro r G ⟨rfl, rfl⟩
  have a0 := sW (ps := ps) (ss := ss) (ts := [a, b]) (n := H.length) (j := 0) (by simp)
  have a1 := sW (ps := ps) (ss := ss) (ts := [a, b]) (n := H.length) (j := 1) (by simp)
  have hl := cr [a, b] 0
  rw [NX]
  generalize aU [a, b] 0 = ks at a0 a1 hl ⊢
  have nJ : ks.length = 2 := hl
  simp +contextual only [cw, nJ, dy, sZ, Nat.reduceEqDiff, Nat.reduceAdd, Nat.reduceLT, ↓reduceIte, reduceCtorEq]
  refine ⟨by decide, by decide, af (jF hc a0.1 a1.1 _ hd) ?_⟩
  rintro r G ⟨x, rfl, hx, hU, hD⟩
  rw [a0.2, a1.2] at hx
  simp +contextual only [sZ, Nat.reduceEqDiff, ↓reduceIte, reduceCtorEq]
  have ex : x = Wq ps ss a b := by rw [Bool.eq_iff_iff, FE]; exact hx
  rw [ex]
  exact FF (by decide) (hU.low (by simp [fZ]) (by simp [fZ])) ⟨rfl, rfl⟩ rfl rfl ⟨by rw [h0]; rfl, rfl⟩
 ·rw [if_neg h0]
  simp +contextual only [h0, sZ, Nat.reduceEqDiff, ↓reduceIte, reduceCtorEq]
  exact FF (by decide) List.take_length ⟨rfl, rfl⟩ rfl rfl ⟨rfl, rfl⟩
end Go.aK
end
section
set_option maxRecDepth 100000
set_option maxHeartbeats 0
namespace Go.aK
open Go Go.Proofs
noncomputable def Pq := aI Tryz.call163 Tryz.func163 Tryz.ntmps163 [(0,0,1),(0,1,1),(1,4,1),(1,5,1),(4,2,1000),(5,0,1),(5,7,1),(8,6,2000)] [(0,[2,3]),(1,[2,3,5]),(2,[2,5,16,17,18]),(3,[2,5,16,17,18,19]),(4,[2,5,7,16,17,18]),(5,[2,5,16,17,18]),(6,[2,5,16,17,18]),(7,[8,9]),(8,[4])] [(8,(.take 0 true (.take 1 true (.take 2 true (.take 3 true (.take 4 true (.take 5 true (.br 6 (.take 7 true .done) .nil))))))))]
end Go.aK
end
section
set_option maxRecDepth 100000
namespace Go.aK
open Go Go.Proofs Go.fq
structure Cn where
 a : T
 b : T
deriving Inhabited
def Cn.av (c : Cn) : AV := .agg [.int .i64 c.a.k, .int .i64 c.a.n, .ap 0 (bU c.a.l), .int .i64 c.b.k, .int .i64 c.b.n, .ap 0 (bU c.b.l)]
def w8 (l : List Cn) : List AV := l.map Cn.av
structure mB where
 vs : List Int
 cs : List Cn
 a : T
 b : T
deriving Inhabited
def mB.av (e : mB) : AV := .agg [.ap 0 (ints e.vs), .ap 0 (w8 e.cs), .int .i64 e.a.k, .int .i64 e.a.n, .ap 0 (bU e.a.l), .int .i64 e.b.k, .int .i64 e.b.n, .ap 0 (bU e.b.l)]
def mB.rest (e : mB) : List T := e.b :: e.cs.flatMap fun c => [c.a, c.b]
theorem Ct (l : List Cn) : (w8 l).length = l.length := by simp [w8]
theorem Kj (n : Nat) (l : List Cn) : aj n (w8 l) = true := by
 rw [a9]; intro x hx; obtain ⟨y, _, rfl⟩ := List.mem_map.1 hx
 simp [Cn.av, AV.a7, aj, dI]
theorem mB.facts (e : mB) : e.av.val = true ∧ e.av.cells.length = 8 ∧ e.av.cells.all AV.one = true ∧ e.av.ab = e.av ∧ e.av.drop = e.av ∧ ∀ n, e.av.a7 n = true :=
 ⟨rfl, rfl, rfl, rfl, rfl, fun n => by simp [mB.av, AV.a7, aj, dI, bk, Kj]⟩
theorem Cn.facts (e : Cn) : e.av.val = true ∧ e.av.cells.length = 6 ∧ e.av.cells.all AV.one = true ∧ e.av.ab = e.av ∧ e.av.drop = e.av ∧ ∀ n, e.av.a7 n = true :=
 ⟨rfl, rfl, rfl, rfl, rfl, fun n => by simp [Cn.av, AV.a7, aj, dI]⟩
theorem T.Af (t : T) : AV.agg [.int .i64 t.k, .int .i64 t.n, .ap 0 (bU t.l)] = t.av := by cases t; rfl
theorem feA (e : mB) (φ : AV → Prop) : ak 2 (some 3) (.ai e.av) φ = φ (.ai e.a.av) := by simp [ak, apart, mB.av, AV.cells, ← T.Af]
theorem feB (e : mB) (φ : AV → Prop) : ak 5 (some 3) (.ai e.av) φ = φ (.ai e.b.av) := by simp [ak, apart, mB.av, AV.cells, ← T.Af]
theorem feC (e : mB) (φ : AV → Prop) : ak 1 none (.ai e.av) φ = φ (.ai (.ap 0 (w8 e.cs))) := by simp [ak, apart, mB.av, AV.cells, AV.one]
theorem fcA (e : Cn) (φ : AV → Prop) : ak 0 (some 3) (.ai e.av) φ = φ (.ai e.a.av) := by simp [ak, apart, Cn.av, AV.cells, ← T.Af]
theorem fcB (e : Cn) (φ : AV → Prop) : ak 3 (some 3) (.ai e.av) φ = φ (.ai e.b.av) := by simp [ak, apart, Cn.av, AV.cells, ← T.Af]
theorem NY (o : Nat) (l : List Cn) : (∀ (own : Nat) (xs : List AV), AV.ap o (w8 l) = AV.ap own xs → ∀ z ∈ xs, z.cells.length = 6) = True := by
 simp only [eq_iff_iff, iff_true]
 intro own xs e z hz
 cases e
 obtain ⟨y, _, rfl⟩ := List.mem_map.1 hz; rfl
theorem SA (e o : Nat) (l : List Cn) (k : IntKind) (i : Nat) (φ : AV → Prop) : ay e (.ap o (w8 l)) (.int k (i : Int)) φ = (i < l.length ∧ φ (.ai (l.getD i default).av)) := by
 simp only [ay, Ct, Int.toNat_natCast, eq_iff_iff]
 constructor
 ·rintro ⟨_, h, h2⟩; refine ⟨h, ?_⟩; simpa [w8, h] using h2
 ·rintro ⟨h, h2⟩; refine ⟨by omega, h, ?_⟩; simpa [w8, h] using h2
theorem Wr (e : Cn) (H : List aa) (φ : AV → Prop) : aS (some 6) (.ai e.av) H φ = φ e.av := by simp [aS, Cn.av, AV.cells]
def NZ (ps ss : List Int) (e : mB) : Prop := ∀ y ∈ e.rest, R (kP ps ss) e.a y
def tw (l : List Cn) : List T := l.flatMap fun c => [c.a, c.b]
theorem Kk {l : List Cn} {i : Nat} (h : i < l.length) : tw (l.take (i + 1)) = tw (l.take i) ++ [(l.getD i default).a, (l.getD i default).b] := by
 have e : l.getD i default = l[i] := by simp [h]
 rw [List.take_succ_eq_append_getElem h, e]
 unfold tw
 rw [List.flatMap_append]
 rfl
theorem Ag (l : List Cn) : (tw l).length = 2 * l.length := by
 induction l with
 | nil => rfl
 | cons x r ih => simp only [tw, List.flatMap_cons, List.length_append, List.length_cons, List.length_nil] at ih ⊢; omega
theorem N0 (a b : List T) : bU (a ++ b) = bU a ++ bU b := by
 induction a with
 | nil => rfl
 | cons x r ih => rw [List.cons_append, bU, bU, ih]; rfl
theorem Ws (x : Int) (r : List Int) (φ : AV → Prop) : bn 1 (.ap 0 (ints (x :: r))) (some (.int .i64 1)) none none φ = φ (.ap 0 (ints r)) := by
 have er : dz (AV.ap 0 (ints (x :: r))) = some (ints (x :: r)) := rfl
 have e1 : (1 : Int).toNat = 1 := rfl
 have e2 : ((ints (x :: r)).take (ints (x :: r)).length).drop 1 = ints r := by rw [List.take_length]; rfl
 simp only [bn, eL, er, dG, e1, e2, eq_iff_iff]
 constructor
 ·intro h; exact h.2.2.2.2
 ·intro h
  refine ⟨fun own xs he z hz => ?_, by omega, by simp [aw], Nat.le_refl _, h⟩
  cases he
  obtain ⟨y, _, rfl⟩ := List.mem_map.1 hz
  rfl
theorem ZP (ps ss : List Int) (e : mB) (hv : Va ps ss) (hlen : e.cs.length ≤ 1000) (ht : ∀ t ∈ e.a :: e.rest, t.tree = true) (cI : ∀ t ∈ e.a :: e.rest, yf (fun n => 0 ≤ n ∧ n < ps.length) t) (H : List aa) :
 aq Tryz.prog 163 [eR ps ss, e.av] H fun r H' => (∃ b : Bool, r = .bool b ∧ (b = true ↔ NZ ps ss e)) ∧ H' = H := by
 refine Pq.2.calls rfl ?_
 simp only [Pq, aI]
 obtain ⟨q1, q2, q3, q4, q5, q6⟩ := bi ps ss
 obtain ⟨e1, e2, e3, e4, e5, e6⟩ := mB.facts e
 have cf := Cn.facts
 simp +contextual only [q1, e1, feA, feB, feC, Ct, sZ, Nat.reduceEqDiff, Nat.reduceAdd, ↓reduceIte, reduceCtorEq]
 intro _
 have rest : e.rest = e.b :: tw e.cs := rfl
 refine aB e.cs.length (fun i => True) (fun i => [(2, .ai (eR ps ss)), (5, .ap 3 (bU (e.a :: e.b :: tw (e.cs.take i)))), (16, .ap 0 (w8 e.cs)), (17, .int .i64 e.cs.length), (18, .int .i64 i)]) (fun _ => H) ⟨trivial, aA _ _ _⟩ fun i hi _ => ?_
 by_cases tA : (i : Int) < e.cs.length
 ·have aY : i < e.cs.length := by omega
  obtain ⟨f1, f2, f3, f4, f5, f6⟩ := cf (e.cs.getD i default)
  have hl : (tw (e.cs.take i)).length ≤ 2000 := by rw [Ag]; simp; omega
  have hal := qo (e.a :: e.b :: tw (e.cs.take i))
  have jK : ta 3 [(e.cs.getD i default).a.av, (e.cs.getD i default).b.av] := of_eq_true (R9 [_, _])
  simp +contextual only [tA, decide_true, NY, SA, Wr, f1, f2, f3, fcA, fcB, sZ, Nat.reduceEqDiff, Nat.reduceAdd, ↓reduceIte]
  have e7 : bU (e.a :: e.b :: tw (e.cs.take i)) ++ [(e.cs.getD i default).a.av, (e.cs.getD i default).b.av] = bU (e.a :: e.b :: tw (e.cs.take (i + 1))) := by
   rw [Kk aY, ← List.cons_append, ← List.cons_append, N0]; rfl
  exact ⟨aY, by omega, jK, i + 1, aY, by omega, aG (by rw [au i (by omega), e7]) rfl⟩
 ·have Ij : i = e.cs.length := by omega
  subst Ij
  rw [List.take_length]
  have dS : e.a :: e.b :: tw e.cs ≠ [] := by simp
  have hl : (e.a :: e.b :: tw e.cs).length ≤ 10000 := by simp [Ag]; omega
  have hw := lW (l := e.a :: e.b :: tw e.cs) ht
  have hc := Pp hv dS (by omega) cI H.length
  have hd := yk ps ss dS H
  simp +contextual only [tA, decide_false, cv, q4, sZ, Nat.reduceEqDiff, Nat.reduceAdd, ↓reduceIte]
  refine af (V0 ps ss (e.a :: e.b :: tw e.cs) H (by omega)) ?_
  rintro r G ⟨rfl, rfl⟩
  have hk := (NU (e.a :: e.b :: tw e.cs)).kids
  have ek : aU (e.a :: e.b :: tw e.cs) 0 = 0 :: aU (e.b :: tw e.cs) (0 + wt e.a) := by rw [aU]; rfl
  have EQ := cr (e.b :: tw e.cs) (0 + wt e.a)
  rw [ek] at hk ⊢
  generalize aU (e.b :: tw e.cs) (0 + wt e.a) = tl at hk EQ ⊢
  obtain ⟨Pm, HS⟩ := hk
  simp only [List.map_cons, List.cons.injEq] at Pm
  obtain ⟨ha, hb⟩ := Pm
  have e0 : ([(0 : Int)] ++ tl).getD 0 0 = 0 := rfl
  have XV : ∀ φ : AV → Prop, ay 1 (.ap 0 (ints (0 :: tl))) (.int .i64 0) φ = φ (.ai (.int .i64 0)) := fun φ => by
   have := cw 1 0 (0 :: tl) .i64 0 φ
   rw [this]
   simp
  simp +contextual only [bo, XV, dy, Option.map_some, Option.map_none, Ws, sZ, Nat.reduceEqDiff, Nat.reduceAdd, Nat.reduceLT, ↓reduceIte, reduceCtorEq]
  have itl : IL (.ap 0 (ints tl)) tl := .inr rfl
  refine af (Sk (c := fZ ps ss (e.a :: e.b :: tw e.cs) H.length) (i := 0) itl (by rw [EQ]; simp [Ag]; omega) (fun x hx => jG hc (HS 0 List.mem_cons_self) (HS x (List.mem_cons_of_mem _ hx))) hd) ?_
  rintro r G ⟨b, rfl, hbb, hU, hD⟩
  simp +contextual only [sZ, ↓reduceIte, reduceCtorEq]
  refine aQ H.length (Nat.le_refl _) (by rw [ax, if_pos rfl]; rfl) ?_
  rw [ax, if_pos rfl]
  refine ⟨⟨b, rfl, ?_⟩, hU.low (by simp [fZ]) (by simp [fZ])⟩
  rw [hbb, NZ, rest]
  have ha' : (fZ ps ss (e.a :: e.b :: tw e.cs) H.length).tm 0 = e.a := ha
  have dU : tl.map (fZ ps ss (e.a :: e.b :: tw e.cs) H.length).tm = e.b :: tw e.cs := hb
  rw [ha']
  generalize (fZ ps ss (e.a :: e.b :: tw e.cs) H.length).tm = f at dU
  rw [← dU]
  constructor
  ·intro h y hy
   obtain ⟨x, hx, rfl⟩ := List.mem_map.1 hy
   exact h x hx
  ·intro h x hx
   exact h _ (List.mem_map.2 ⟨x, hx, rfl⟩)
end Go.aK
end
section
namespace Go.fq
open Go.aK
inductive PP where
 | mk (r i : Int) (to : List Int) (l : List PP)
 deriving Inhabited
def PP.r : PP → Int | .mk r _ _ _ => r
def PP.i : PP → Int | .mk _ i _ _ => i
def PP.to : PP → List Int | .mk _ _ to _ => to
def PP.l : PP → List PP | .mk _ _ _ l => l
mutual
def pz : PP → Nat
 | .mk _ _ _ l => Wt l + 1
def Wt : List PP → Nat
 | [] => 0
 | x :: r => pz x + Wt r
end
theorem FG {x : PP} : ∀ {l : List PP}, x ∈ l → pz x ≤ Wt l
 | y :: r, h => by
   rw [Wt]
   rcases List.mem_cons.1 h with rfl | h
   ·omega
   ·have := FG h; omega
theorem Ah (p : PP) : 0 < pz p := by cases p; rw [pz]; omega
theorem Ai {p x : PP} (h : x ∈ p.l) : pz x < pz p := by
 obtain ⟨r, i, to, l⟩ := p
 have : pz x ≤ Wt l := FG h
 rw [pz]; omega
theorem dQ {l : List PP} {i : Nat} (h : i < l.length) : l.getD i default ∈ l := by
 rw [List.getD_eq_getElem?_getD, List.getElem?_eq_getElem h]; exact List.getElem_mem h
theorem HE {l : List T} {i : Nat} (h : i < l.length) : l.getD i default ∈ l := by
 rw [List.getD_eq_getElem?_getD, List.getElem?_eq_getElem h]; exact List.getElem_mem h
def PP.nil (q : PP) : Prop := q.r = 0 ∧ q.i = 0 ∧ q.to = [] ∧ q.l = []
instance (q : PP) : Decidable q.nil := by
 unfold PP.nil
 have : Decidable (q.l = []) := by cases q.l with
  | nil => exact isTrue rfl
  | cons a b => exact isFalse (by simp)
 exact inferInstance
def dj (to : List Int) (x : Int) : Nat → Nat
 | 0 => 0
 | n + 1 => dj to x n + if to.getD n 0 = x then 1 else 0
def dd (to : List Int) (l : List PP) (x : Int) : Nat → Nat
 | 0 => 0
 | n + 1 => dd to l x n + if to.getD n 0 = x ∧ (l.getD n default).nil then 1 else 0
theorem yn {to : List Int} {x : Int} {j : Nat} : ∀ {n : Nat}, j < n → to.getD j 0 = x → 1 ≤ dj to x n
 | n + 1, h, e => by
   rw [dj]
   by_cases hj : j = n
   ·subst hj; rw [if_pos e]; omega
   ·have := yn (n := n) (by omega) e; omega
theorem rW {to : List Int} {x : Int} {j j' : Nat} (hj : j < j') (e : to.getD j 0 = x) (e' : to.getD j' 0 = x) : ∀ {n : Nat}, j' < n → 2 ≤ dj to x n
 | n + 1, h => by
   rw [dj]
   by_cases hn : j' = n
   ·subst hn; rw [if_pos e']; have := yn hj e; omega
   ·have := rW hj e e' (n := n) (by omega); omega
theorem yo {to : List Int} {x : Int} {j j' n : Nat} (h : dj to x n ≤ 1) (hj : j < n) (tT : j' < n) (e : to.getD j 0 = x) (e' : to.getD j' 0 = x) : j = j' := by
 rcases Nat.lt_trichotomy j j' with h1 | h1 | h1
 ·have := rW h1 e e' tT; omega
 ·exact h1
 ·have := rW h1 e' e hj; omega
theorem gV {to : List Int} {l : List PP} {x : Int} : ∀ {n : Nat}, 0 < dd to l x n ↔ ∃ j, j < n ∧ to.getD j 0 = x ∧ (l.getD j default).nil
 | 0 => by simp [dd]
 | n + 1 => by
   rw [dd]
   have ih := gV (to := to) (l := l) (x := x) (n := n)
   by_cases h : to.getD n 0 = x ∧ (l.getD n default).nil
   ·rw [if_pos h]
    exact ⟨fun _ => ⟨n, by omega, h⟩, fun _ => by omega⟩
   ·rw [if_neg h, Nat.add_zero, ih]
    constructor
    ·rintro ⟨j, h1, h2⟩; exact ⟨j, by omega, h2⟩
    ·rintro ⟨j, h1, h2⟩
     have : j ≠ n := fun e => h (e ▸ h2)
     exact ⟨j, by omega, h2⟩
theorem nw {to : List Int} {l : List PP} {x : Int} : ∀ n, dd to l x n ≤ dj to x n
 | 0 => Nat.le_refl _
 | n + 1 => by
   rw [dd, dj]
   have := nw (to := to) (l := l) (x := x) n
   by_cases h : to.getD n 0 = x ∧ (l.getD n default).nil
   ·rw [if_pos h, if_pos h.1]; omega
   ·rw [if_neg h]; omega
def kU (S : PP → T → T → Prop) (l : List PP) (a : T) (bs : List T) : Prop := l.length = bs.length ∧ ∀ j, j < bs.length → S (l.getD j default) a (bs.getD j default)
def Ps (Q : T → T → Prop) (S : PP → T → T → Prop) (to : List Int) (l : List PP) (az bs : List T) : Prop :=
 to.length = bs.length ∧ l.length = bs.length ∧
 (∀ j, j < bs.length → (0 ≤ to.getD j 0 ∧ to.getD j 0 < az.length) ∧
   (if (l.getD j default).nil then Q (az.getD (to.getD j 0).toNat default) (bs.getD j default) else S (l.getD j default) (az.getD (to.getD j 0).toNat default) (bs.getD j default))) ∧
 (∀ x : Nat, x < az.length → 0 < dd to l x bs.length → dj to x bs.length ≤ 1) ∧ ∃ x : Nat, x < az.length ∧ dd to l x bs.length = 0
def Cu (Q : T → T → Prop) (S : PP → T → T → Prop) (i : Int) (l : List PP) (a : T) (az bs : List T) (bl : List T) : Prop :=
 (0 ≤ i ∧ i < az.length ∧ i ≤ bs.length) ∧ (∀ j, j < i.toNat → Q (az.getD j default) (bs.getD j default)) ∧
 (if i = bs.length then kU S l a bl else ∃ q r, l = q :: r ∧ S q (az.getD i.toNat default) (bs.getD i.toNat default) ∧ kU S r a bl)
def Fs (O : Od) (S : PP → T → T → Prop) (p : PP) (a b : T) : Prop :=
 a.k = 2 ∧ (
  (p.r = 1 ∧ p.to = [] ∧ (0 ≤ p.i ∧ p.i < a.l.length) ∧ ((p.l = [] ∧ E O (a.l.getD p.i.toNat default) b) ∨ ∃ q, p.l = [q] ∧ S q (a.l.getD p.i.toNat default) b)) ∨
  (p.r = 2 ∧ p.to = [] ∧ p.i = 0 ∧ b.k = 2 ∧ O.pl b.n < O.pl a.n ∧ kU S p.l a b.l) ∨
  (p.r = 3 ∧ p.to = [] ∧ b.k = 2 ∧ O.pl a.n = O.pl b.n ∧ O.sp (O.pl a.n) ≠ 3 ∧ Cu (E O) S p.i p.l a (side (O.sp (O.pl a.n)) a.l) (side (O.sp (O.pl a.n)) b.l) b.l) ∨
  (p.r = 4 ∧ p.i = 0 ∧ b.k = 2 ∧ O.pl a.n = O.pl b.n ∧ O.sp (O.pl a.n) = 3 ∧ Ps (E O) S p.to p.l a.l b.l))
theorem lX {S S' : PP → T → T → Prop} {l : List PP} {a : T} {bs : List T} (h : ∀ q ∈ l, ∀ a b, S q a b ↔ S' q a b) : kU S l a bs ↔ kU S' l a bs := by
 refine and_congr_right fun hl => ?_
 constructor
 ·exact fun k j hj => (h _ (dQ (by omega)) _ _).1 (k j hj)
 ·exact fun k j hj => (h _ (dQ (by omega)) _ _).2 (k j hj)
theorem HF {Q : T → T → Prop} {S S' : PP → T → T → Prop} {to : List Int} {l : List PP} {az bs : List T} (h : ∀ q ∈ l, ∀ a b, S q a b ↔ S' q a b) : Ps Q S to l az bs ↔ Ps Q S' to l az bs := by
 refine and_congr_right fun _ => and_congr_right fun hl => and_congr_left fun _ => ?_
 constructor
 ·intro k j hj
  refine ⟨(k j hj).1, ?_⟩
  have := (k j hj).2
  split at this
  ·rename_i e; rw [if_pos e]; exact this
  ·rename_i e; rw [if_neg e]; exact (h _ (dQ (by omega)) _ _).1 this
 ·intro k j hj
  refine ⟨(k j hj).1, ?_⟩
  have := (k j hj).2
  split at this
  ·rename_i e; rw [if_pos e]; exact this
  ·rename_i e; rw [if_neg e]; exact (h _ (dQ (by omega)) _ _).2 this
theorem Er {Q : T → T → Prop} {S S' : PP → T → T → Prop} {i : Int} {l : List PP} {a : T} {az bs bl : List T} (h : ∀ q ∈ l, ∀ a b, S q a b ↔ S' q a b) : Cu Q S i l a az bs bl ↔ Cu Q S' i l a az bs bl := by
 refine and_congr_right fun _ => and_congr_right fun _ => ?_
 split
 ·exact lX h
 ·constructor
  ·rintro ⟨q, r, rfl, h1, h2⟩
   exact ⟨q, r, rfl, (h q List.mem_cons_self _ _).1 h1, (lX fun x hx => h x (List.mem_cons_of_mem _ hx)).1 h2⟩
  ·rintro ⟨q, r, rfl, h1, h2⟩
   exact ⟨q, r, rfl, (h q List.mem_cons_self _ _).2 h1, (lX fun x hx => h x (List.mem_cons_of_mem _ hx)).2 h2⟩
theorem Cv {O : Od} {S S' : PP → T → T → Prop} {p : PP} {a b : T} (h : ∀ q ∈ p.l, ∀ a b, S q a b ↔ S' q a b) : Fs O S p a b ↔ Fs O S' p a b := by
 refine and_congr_right fun _ => or_congr ?_ (or_congr ?_ (or_congr ?_ ?_))
 ·refine and_congr_right fun _ => and_congr_right fun _ => and_congr_right fun _ => or_congr Iff.rfl ?_
  constructor
  ·rintro ⟨q, e, k⟩; exact ⟨q, e, (h q (by rw [e]; simp) _ _).1 k⟩
  ·rintro ⟨q, e, k⟩; exact ⟨q, e, (h q (by rw [e]; simp) _ _).2 k⟩
 ·rw [lX h]
 ·rw [Er h]
 ·rw [HF h]
def Pt (O : Od) : Nat → PP → T → T → Prop
 | 0 => fun _ _ _ => False
 | f + 1 => Fs O (Pt O f)
def Sh (O : Od) (p : PP) (a b : T) : Prop := Pt O (pz p) p a b
theorem ph (O : Od) : ∀ (f g : Nat) (p : PP) (a b : T), pz p ≤ f → pz p ≤ g → (Pt O f p a b ↔ Pt O g p a b)
 | 0, _, p, a, b, h, _ => by have := Ah p; omega
 | _ + 1, 0, p, a, b, _, h => by have := Ah p; omega
 | f + 1, g + 1, p, a, b, h1, h2 => by
   simp only [Pt]
   refine Cv fun q hq a b => ?_
   have := Ai hq
   exact ph O f g q a b (by omega) (by omega)
theorem pi {O : Od} {p : PP} {a b : T} : Sh O p a b ↔ Fs O (Sh O) p a b := by
 have e : Pt O (pz p) p a b ↔ Pt O (pz p + 1) p a b := ph O _ _ p a b (by omega) (by omega)
 unfold Sh
 rw [e]
 show Fs O (Pt O (pz p)) p a b ↔ _
 refine Cv fun q hq a b => ?_
 have := Ai hq
 exact ph O _ _ q a b (by omega) (by omega)
theorem Pu {G : T → T → Prop} : ∀ (n : Nat) {l m : List T}, n < l.length → n ≤ m.length → (∀ j, j < n → l.getD j default = m.getD j default) → (n = m.length ∨ G (l.getD n default) (m.getD n default)) → Lx G l m
 | 0, x :: l, [], _, _, _, _ => trivial
 | 0, x :: l, y :: m, _, _, _, h => .inr (by simpa using h)
 | n + 1, x :: l, [], _, h, _, _ => by simp at h
 | n + 1, x :: l, y :: m, h1, h2, h3, h4 => by
   refine .inl ⟨h3 0 (by omega), Pu n (by simpa using h1) (by simpa using h2) (fun j hj => h3 (j + 1) (by omega)) ?_⟩
   simpa using h4
theorem Es {β : Type} (f : T → β) (a : List T) : a.map f = (List.range a.length).map fun i => f (a.getD i default) := by
 apply List.ext_getElem
 ·simp
 ·intro i h1 h2
  have : i < a.length := by simpa using h1
  simp [this]
theorem yp {β : Type} (f : T → β) (a : List T) (p : Nat → Bool) : (a.map f).Perm (((List.range a.length).filter p).map (fun i => f (a.getD i default)) ++ ((List.range a.length).filter fun i => !p i).map fun i => f (a.getD i default)) := by
 rw [Es, ← List.map_append]
 exact (List.filter_append_perm p (List.range a.length)).symm.map _
theorem oM (n : Nat) (p : Nat → Bool) : ((List.range n).filter p).Nodup := List.Pairwise.filter p List.nodup_range
theorem SC {O : Od} {S : PP → T → T → Prop} {to : List Int} {l : List PP} {az bs : List T} (h : Ps (E O) S to l az bs) (hS : ∀ q ∈ l, ∀ a b, S q a b → R O a b) : Mu (Gt O.sp) (az.map (norm O)) (bs.map (norm O)) := by
 obtain ⟨h1, h2, h3, h4, x0, Ip, h5⟩ := h
 let n := bs.length
 let U : Nat → Bool := fun i => decide (dd to l i n = 0)
 let Z : Nat → Bool := fun j => !decide (l.getD j default).nil
 have pu := yp (norm O) az U
 have pz := yp (norm O) bs Z
 refine VV (X := ((List.range az.length).filter U).map fun i => norm O (az.getD i default)) (Y := ((List.range bs.length).filter Z).map fun i => norm O (bs.getD i default)) (C := ((List.range bs.length).filter fun i => !Z i).map fun i => norm O (bs.getD i default)) ?_ pz ?_ ?_
 ·refine pu.trans (List.Perm.append_left _ ?_)
  have hp : (((List.range bs.length).filter fun j => !Z j).map fun j => (to.getD j 0).toNat).Perm ((List.range az.length).filter fun i => !U i) := by
   rw [List.perm_ext_iff_of_nodup]
   ·intro i
    simp only [Z, U, n, List.mem_map, List.mem_filter, List.mem_range, Bool.not_not, Bool.not_eq_true', decide_eq_true_eq, decide_eq_false_iff_not]
    constructor
    ·rintro ⟨j, ⟨hj, hn⟩, rfl⟩
     have := (h3 j hj).1
     refine ⟨by omega, ?_⟩
     have : 0 < dd to l ((to.getD j 0).toNat : Int) bs.length := gV.2 ⟨j, hj, by omega, hn⟩
     omega
    ·rintro ⟨hi, hu⟩
     obtain ⟨j, k1, k2, k3⟩ := gV.1 (show 0 < dd to l (i : Int) bs.length by omega)
     exact ⟨j, ⟨k1, k3⟩, by omega⟩
   ·rw [List.Nodup, List.pairwise_map]
    refine List.Pairwise.imp_of_mem ?_ (oM _ _)
    intro j j' hj tT dS he
    simp only [Z, List.mem_filter, List.mem_range, Bool.not_not, decide_eq_true_eq] at hj tT
    have b1 := (h3 j hj.1).1
    have b2 := (h3 j' tT.1).1
    have e1 : to.getD j 0 = (((to.getD j 0).toNat : Nat) : Int) := by omega
    have e2 : to.getD j' 0 = (((to.getD j 0).toNat : Nat) : Int) := by omega
    have hp : 0 < dd to l (((to.getD j 0).toNat : Nat) : Int) bs.length := gV.2 ⟨j, hj.1, e1, hj.2⟩
    exact dS (yo (h4 _ (by omega) hp) hj.1 tT.1 e1 e2)
   ·exact oM _ _
  refine (hp.map fun i => norm O (az.getD i default)).symm.trans ?_
  rw [List.map_map]
  refine List.Perm.of_eq (List.map_congr_left fun j hj => ?_)
  simp only [Z, List.mem_filter, List.mem_range, Bool.not_not, decide_eq_true_eq] at hj
  have := (h3 j hj.1).2
  rw [if_pos hj.2] at this
  exact this
 ·intro e
  have : norm O (az.getD x0 default) ∈ ((List.range az.length).filter U).map fun i => norm O (az.getD i default) :=
   List.mem_map.2 ⟨x0, List.mem_filter.2 ⟨List.mem_range.2 Ip, by simp [U, n, h5]⟩, rfl⟩
  rw [e] at this
  cases this
 ·intro y hy
  obtain ⟨j, hj, rfl⟩ := List.mem_map.1 hy
  simp only [Z, List.mem_filter, List.mem_range, Bool.not_eq_true', decide_eq_false_iff_not] at hj
  obtain ⟨hj, hn⟩ := hj
  have b1 := h3 j hj
  rw [if_neg hn] at b1
  refine ⟨norm O (az.getD (to.getD j 0).toNat default), List.mem_map.2 ⟨(to.getD j 0).toNat, List.mem_filter.2 ⟨List.mem_range.2 (by omega), ?_⟩, rfl⟩, hS _ (dQ (by omega)) _ _ b1.2⟩
  simp only [U, n, decide_eq_true_eq]
  by_cases hp : 0 < dd to l ((to.getD j 0).toNat : Int) bs.length
  ·have ht := h4 _ (by omega) hp
   obtain ⟨j', k1, k2, k3⟩ := gV.1 hp
   have := yo ht hj k1 (by omega) k2
   exact absurd (this ▸ k3) hn
  ·omega
theorem oc {f : T → T} {l : List T} {i : Nat} (h : i < l.length) : (l.map f).getD i default = f (l.getD i default) := by
 simp [h]
theorem ZQ {O : Od} : ∀ (N : Nat) {p : PP} {a b : T}, pz p ≤ N → Sh O p a b → R O a b := by
 intro N
 induction N with
 | zero => intro p a b h; have := Ah p; omega
 | succ N ih =>
 intro p a b hN h
 have hm : ∀ q ∈ p.l, ∀ a b, Sh O q a b → R O a b := fun q hq a b hs => ih (by have := Ai hq; omega) hs
 have jm : ∀ {l : List PP} {bs : List T}, (∀ q ∈ l, q ∈ p.l) → kU (Sh O) l a bs → ∀ y ∈ bs, R O a y := by
  intro l bs hq hl y hy
  obtain ⟨j, hj, rfl⟩ := List.mem_iff_getElem.1 hy
  have := hl.2 j hj
  have e : bs.getD j default = bs[j] := by simp [hj]
  rw [e] at this
  exact hm _ (hq _ (dQ (by have := hl.1; omega))) _ _ this
 obtain ⟨ha, h⟩ := pi.1 h
 rcases h with ⟨_, _, hi, h⟩ | ⟨_, _, _, hb, hp, h⟩ | ⟨_, _, hb, hp, hs, h1, h2, h3⟩ | ⟨_, _, hb, hp, hs, h⟩
 ·refine VX ha (HE (i := p.i.toNat) (by omega)) ?_
  rcases h with ⟨_, h⟩ | ⟨q, e, h⟩
  ·exact .inl h
  ·exact .inr (hm q (by rw [e]; simp) _ _ h)
 ·exact qw.2 ⟨ha, .inr ⟨hb, .inl ⟨hp, jm (fun _ h => h) h⟩⟩⟩
 ·refine qw.2 ⟨ha, .inr ⟨hb, .inr (.inl ⟨hp.symm, hs, ?_, ?_⟩)⟩⟩
  ·split at h3
   ·exact jm (fun _ h => h) h3
   ·obtain ⟨q, r, e, _, h3⟩ := h3
    exact jm (fun x hx => by rw [e]; exact List.mem_cons_of_mem _ hx) h3
  ·rw [Cd, Cd]
   have hla : p.i.toNat < (side (O.sp (O.pl a.n)) a.l).length := by omega
   refine Pu p.i.toNat (by simpa using hla) (by simp; omega) (fun j hj => ?_) ?_
   ·rw [oc (by omega), oc (by omega)]
    exact h2 j hj
   ·by_cases hi : p.i = (side (O.sp (O.pl a.n)) b.l).length
    ·left; simp; omega
    ·rw [if_neg hi] at h3
     obtain ⟨q, r, e, h3, _⟩ := h3
     right
     rw [oc (by omega), oc (by omega)]
     exact hm q (by rw [e]; simp) _ _ h3
 ·exact qw.2 ⟨ha, .inr ⟨hb, .inr (.inr ⟨hp.symm, hs, SC h hm⟩)⟩⟩
theorem Sh.gt {O : Od} {p : PP} {a b : T} (h : Sh O p a b) : R O a b := ZQ _ (Nat.le_refl _) h
end Go.fq
end
section
set_option maxRecDepth 100000
namespace Go.aK
open Go Go.Proofs Go.fq
mutual
def dT : PP → AV
 | .mk r i to l => .agg [.int .i64 r, .int .i64 i, .ap 0 (ints to), .ap 0 (dR l)]
def dR : List PP → List AV
 | [] => []
 | x :: r => dT x :: dR r
end
theorem nz (p : PP) : dT p = .agg [.int .i64 p.r, .int .i64 p.i, .ap 0 (ints p.to), .ap 0 (dR p.l)] := by cases p; rw [dT]; rfl
theorem kV : ∀ l, dR l = l.map dT
 | [] => rfl
 | x :: r => by simp [dR, kV r]
theorem ep (l : List PP) : (dR l).length = l.length := by simp [kV]
mutual
theorem fE (n : Nat) : ∀ p, (dT p).a7 n = true
 | .mk r i to l => by simp [dT, AV.a7, aj, bk, iw n l]
theorem iw (n : Nat) : ∀ l, aj n (dR l) = true
 | [] => rfl
 | x :: r => by simp [dR, aj, fE n x, iw n r]
end
theorem aX (p : PP) : (dT p).val = true ∧ (dT p).cells.length = 4 ∧ (dT p).cells.all AV.one = true ∧ (dT p).ab = dT p ∧ (dT p).drop = dT p ∧ (∀ n, (dT p).a7 n = true) ∧ AV.agg (dT p).cells = dT p ∧ (dT p).cells.map AV.drop = (dT p).cells ∧ (dT p).cells.map AV.ab = (dT p).cells := by
 refine ⟨?_, ?_, ?_, ?_, ?_, fun n => fE n p, ?_, ?_, ?_⟩ <;> (rw [nz]; rfl)
theorem Cw (p : PP) (φ : AV → Prop) : ak 0 none (.ai (dT p)) φ = φ (.ai (.int .i64 p.r)) := by rw [nz]; simp [ak, apart, AV.cells, AV.one]
theorem C1 (p : PP) (φ : AV → Prop) : ak 1 none (.ai (dT p)) φ = φ (.ai (.int .i64 p.i)) := by rw [nz]; simp [ak, apart, AV.cells, AV.one]
theorem N1 (p : PP) (φ : AV → Prop) : ak 2 none (.ai (dT p)) φ = φ (.ai (.ap 0 (ints p.to))) := by rw [nz]; simp [ak, apart, AV.cells, AV.one]
theorem Kl (p : PP) (φ : AV → Prop) : ak 3 none (.ai (dT p)) φ = φ (.ai (.ap 0 (dR p.l))) := by rw [nz]; simp [ak, apart, AV.cells, AV.one]
theorem qH (o : Nat) (l : List PP) : (∀ (own : Nat) (xs : List AV), AV.ap o (dR l) = AV.ap own xs → ∀ z ∈ xs, z.cells.length = 4) = True := by
 simp only [eq_iff_iff, iff_true]
 intro own xs e z hz
 cases e
 rw [kV] at hz
 obtain ⟨y, _, rfl⟩ := List.mem_map.1 hz
 exact (aX y).2.1
theorem yq (l : List PP) (i : Nat) (h : i < l.length) : (dR l).getD i .any = dT (l.getD i default) := by
 simp [kV, h]
theorem Aj (e o : Nat) (l : List PP) (k : IntKind) (i : Int) (φ : AV → Prop) : ay e (.ap o (dR l)) (.int k i) φ = ((0 ≤ i ∧ i < l.length) ∧ φ (.ai (dT (l.getD i.toNat default)))) := by
 simp only [ay, ep, eq_iff_iff]
 constructor
 ·rintro ⟨h0, h, h2⟩; rw [yq _ _ h] at h2; exact ⟨by omega, h2⟩
 ·rintro ⟨⟨h0, h⟩, h2⟩
  have h : i.toNat < l.length := by omega
  rw [yq _ _ h]; exact ⟨h0, h, h2⟩
theorem qI (p : PP) (H : List aa) (φ : AV → Prop) : aS (some 4) (.ai (dT p)) H φ = φ (dT p) := by
 obtain ⟨_, h2, _, _, _, _, h7, _⟩ := aX p
 simp [aS, h2, h7]
theorem SE (l : List PP) : ta 4 (dR l) = True := by
 simp only [eq_iff_iff, iff_true]
 intro z hz
 rw [kV] at hz
 obtain ⟨y, _, rfl⟩ := List.mem_map.1 hz
 obtain ⟨h1, h2, h3, h4, h5, _⟩ := aX y
 first | exact ⟨h1, h2, h3⟩ | exact ⟨h2, h1, h3⟩ | exact ⟨h1, h2⟩ | (constructor <;> first | assumption | simp [*])
def Ak (P : Px) (id : Nat) (xs : List AV) (H : List aa) (K : AV → List aa → Prop) : Prop := ∃ bO, xp xs bO ∧ lq P id bO H K
@[congr] theorem N2 {P : Px} {id : Nat} {xs xs' : List AV} {H H' : List aa} {K : AV → List aa → Prop} (h : fY xs = xs') (h2 : H = H') : Ak P id xs H K = Ak P id xs' H' K := by subst h; subst h2; rfl
theorem FH {P : Px} {env : Env} {H : List aa} (id : Nat) (args : List IX) (pass : Option Nat) (K : AV → Env → List aa → Prop) : oA P (.mC id) args pass env H K = Ak P id (aF env pass 0 args) H (fun r H' => K r (cD env (bc args pass)) H') := _root_.id rfl
theorem SF (id : Nat) : (AV.mC id).ab = .mC id := _root_.id rfl
theorem yr {P : Program} {id : Nat} {xs : List AV} {H : List aa} {R K : AV → List aa → Prop} (hc : jr P id xs H R) (hk : ∀ r H', R r H' → K r H') : Ak (P : Px) id xs H K := ⟨xs, b9 _, fa.mono hc hk⟩
theorem rX {P : Program} (g : FuncId) (first cap : List AV) (lc : ig) (env : Env) (H : List aa) (K : Option Code → List aa → Prop) {R : AV → List aa → Prop} (he : ∀ (vs : Array Value) (w : World), (callFunc g vs).run P w = .ok (.enter g vs) w)
 (hc : aq P g (first.map AV.ab ++ [.mC H.length] ++ cap.map AV.ab) (H ++ [.loop .ready lc (kg lc.n env)]) R) (hk : ∀ r H', R r H' → behind H.length H' K) : vh (P : Px) (.fn (.func g) first cap) lc env H K :=
 ⟨he, _, b9 _, dX.of (hc.mono hk)⟩
theorem ZR (n : Nat) (hn : n < 4611686018427387904) (id : Nat) (G : Nat → List aa) (hl : ∀ j, (G j).length = (G 0).length) (hy : ∀ j, j < n → jr Tryz.prog id [.int .i64 (j : Int)] (G j) fun r H' => r = .bool true ∧ H' = G (j + 1)) :
 aq Tryz.prog 201 [.mC id, .ai (.int .i64 n)] (G 0) fun r H' => r = .tuple [] ∧ H' = G n := by
 refine UZ.2.calls rfl ?_
 simp only [UZ, aI]
 simp +contextual only [sZ, Nat.reduceEqDiff, Nat.reduceAdd, ↓reduceIte, reduceCtorEq]
 refine aB n (fun j => True) (fun j => [(0, .mC id), (1, .ai (.int .i64 n)), (3, .int .i64 j)]) G ⟨trivial, aA _ _ _⟩ fun j hj _ => ?_
 by_cases hjn : (j : Int) < n
 ·simp +contextual only [hjn, decide_true, FH, SF, sZ, Nat.reduceEqDiff, Nat.reduceAdd, ↓reduceIte, reduceCtorEq]
  refine yr (hy j (by omega)) ?_
  rintro r H' ⟨rfl, rfl⟩
  simp +contextual only [sZ, Nat.reduceEqDiff, ↓reduceIte, reduceCtorEq]
  exact ⟨j + 1, by omega, by omega, aG (by rw [au j (by omega)]) rfl⟩
 ·have e : j = n := by omega
  subst e
  simp +contextual only [hjn, decide_false, sZ, Nat.reduceEqDiff, ↓reduceIte, reduceCtorEq]
  exact qk (hl j).symm rfl
end Go.aK
end
