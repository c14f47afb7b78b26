/- Part 13 of 18 of the proof. -/
import Derived.Test.YtljchnfgjdjobaaGreatSal
import Derived.Test.YtljchnfgjdjobaaGreatSak
import Derived.Test.YtljchnfgjdjobaaGreatSai
import Derived.Test.YtljchnfgjdjobaaGreatSag
import Derived.KernelRfl
import Derived.Test.YtljchnfgjdjobaaGreatSac
set_option linter.unusedVariables false
set_option linter.unusedSimpArgs false
set_option linter.defProp false
set_option linter.unusedSectionVars false
section
set_option maxRecDepth 100000
namespace Go.aK
open Go Go.Proofs Go.fD
def dR : AV := .agg [.fq, .fn (.func 183) [] [], .fn (.func 184) [] [], .fn (.func 185) [] [], .fn (.func 186) [] []]
theorem Zj (φ : AV → Prop) : cC [.fq, .fq, .fq, .fq, .fq] [(1, 1, .fn (.func 183) [] []), (2, 1, .fn (.func 184) [] []), (3, 1, .fn (.func 185) [] []), (4, 1, .fn (.func 186) [] [])] φ = φ dR := by
 simp only [cC, gI, eq_iff_iff]
 constructor
 ·rintro ⟨_, _, _, _, _, _, _, _, _, _, _, _, h⟩; exact h
 ·exact fun h => ⟨rfl, rfl, by decide, rfl, rfl, by decide, rfl, rfl, by decide, rfl, rfl, by decide, h⟩
theorem z9 : dR.val = true ∧ dR.cells.length = 5 ∧ dR.cells.all AV.one = true ∧ (∀ n, aj n (dR.cells.map AV.ab) = true) ∧ ag [AV.fq, .fq, .fq, .fq, .fq] 0 (dR.cells.map AV.ab) = dR.cells := ⟨rfl, rfl, rfl, fun _ => rfl, rfl⟩
theorem J7 : Pure Tryz.prog 136 [] dR := by
 refine fun H => Uq.2.calls rfl ?_
 simp only [Uq, aI]
 obtain ⟨r1, r2, r3, r4, r5⟩ := z9
 simp +contextual only [Zj, r1, r2, r3, r4, r5, sZ, Nat.reduceAdd, ↓reduceIte, reduceCtorEq]
 have e : db (some (aa.cells dR.cells)) (some 5) 0 = fun φ => (5 ≤ 5 ∧ φ dR) := rfl
 rw [e]
 exact ⟨Nat.le_refl _, O6 (n0 := H.length) (by simp) rfl rfl ⟨rfl, rfl⟩⟩
theorem Tq (j : Nat) (f : AV) (h : dR.cells[j]? = some f) (hj : j < 5) (φ : AV → Prop) (hd : f.drop = f) : bQ 5 dR (.int .i64 (j : Int)) φ = φ f := by
 simp only [bQ, dR, Int.toNat_natCast, eq_iff_iff]
 have e : [AV.fq, .fn (.func 183) [] [], .fn (.func 184) [] [], .fn (.func 185) [] [], .fn (.func 186) [] []].getD j .any = f := by
  rw [List.getD_eq_getElem?_getD]; show (dR.cells[j]?).getD .any = f; rw [h]; rfl
 rw [e, hd]
 exact ⟨fun h => h.2.2.2, fun h => ⟨rfl, by omega, hj, h⟩⟩
def J8 (c : Cx) (i k : Int) : Prop := ∃ x ∈ c.kd i, E c.O (c.tm x) (c.tm k) ∨ R c.O (c.tm x) (c.tm k)
def rQ (c : Cx) (i k : Int) : Prop := qN c k = true ∧ pd c k < pd c i ∧ ∀ x ∈ c.kd k, R c.O (c.tm i) (c.tm x)
def gC (c : Cx) (i k : Int) (n : Nat) : Prop := (n = 1 ∧ J8 c i k) ∨ (n = 2 ∧ rQ c i k) ∨ (n = 3 ∧ z5 c i k) ∨ (n = 4 ∧ wU c i k)
structure FA (c : Cx) (i k : Int) : Prop where
 r1 : ∀ H, Du c H → aq Tryz.prog 183 [.ptr c.d 0, .int .i64 i, .int .i64 k] H (ig c (J8 c i k) H)
 r2 : ∀ H, Du c H → aq Tryz.prog 184 [.ptr c.d 0, .int .i64 i, .int .i64 k] H (ig c (rQ c i k) H)
 r3 : ∀ H, Du c H → aq Tryz.prog 185 [.ptr c.d 0, .int .i64 i, .int .i64 k] H (ig c (z5 c i k) H)
 r4 : ∀ H, Du c H → aq Tryz.prog 186 [.ptr c.d 0, .int .i64 i, .int .i64 k] H (ig c (wU c i k) H)
theorem FA.at {c : Cx} {i k : Int} (h : FA c i k) {n : Nat} (h1 : 0 < n) (h2 : n < 5) {H : List aa} (hD : Du c H) : aq Tryz.prog (182 + n) [.ptr c.d 0, .int .i64 i, .int .i64 k] H (ig c (gC c i k n) H) := by
 have : n = 1 ∨ n = 2 ∨ n = 3 ∨ n = 4 := by omega
 have key : ∀ {Q Q' : Prop} {f : Nat}, aq Tryz.prog f [.ptr c.d 0, .int .i64 i, .int .i64 k] H (ig c Q H) → (Q ↔ Q') → aq Tryz.prog f [.ptr c.d 0, .int .i64 i, .int .i64 k] H (ig c Q' H) := by
  intro Q Q' f h e
  refine h.mono ?_
  rintro r H' ⟨b, h1, h2, h3, h4⟩
  exact ⟨b, h1, h2.trans e, h3, h4⟩
 rcases this with rfl | rfl | rfl | rfl
 ·exact key (h.r1 H hD) (by simp [gC])
 ·exact key (h.r2 H hD) (by simp [gC])
 ·exact key (h.r3 H hD) (by simp [gC])
 ·exact key (h.r4 H hD) (by simp [gC])
theorem Zk {c : Cx} (hc : c.Ok) {i k : Int} (hi : c.dI i) (hr : FA c i k) {H : List aa} (hD : Du c H) : aq Tryz.prog 134 (Ch c i k) H (ig c (qN c i = true ∧ ∃ n, n < 5 ∧ gC c i k n) H) := by
 refine Un.2.calls rfl ?_
 simp only [Un, aI, Ch]
 simp +contextual only [sZ, Nat.reduceEqDiff, Nat.reduceAdd, ↓reduceIte, reduceCtorEq]
 refine af (pe hc hi hD) ?_
 rintro r H1 ⟨rfl, rfl⟩
 simp +contextual only [dt, fg, fh, fj, sZ, Nat.reduceEqDiff, ↓reduceIte, reduceCtorEq]
 cases hb : qN c i with
 | false =>
   simp +contextual only [Bool.not_false, sZ, ↓reduceIte, reduceCtorEq]
   exact ee rfl ⟨fun h => by simp at h, fun h => absurd h.1 (by simp)⟩ (Up.refl c _) hD
 | true =>
   simp +contextual only [Bool.not_true, sZ]
   refine ae J7 ?_
   simp +contextual only [sZ, Nat.reduceEqDiff, ↓reduceIte, reduceCtorEq]
   refine aM 5 (fun n (G : List aa) => SD c H1 G ∧ ∀ m, m < n → ¬ gC c i k m)
    (fun n G => [(0, .ai (.ptr c.d 0)), (1, .ai (.int .i64 i)), (2, .ai (.int .i64 k)), (18, dR), (19, .int .i64 n)]) (fun n G => G) H1 ⟨⟨⟨hD, Up.refl c _⟩, fun m hm => by omega⟩, aA _ _ _⟩ fun n G hn hI => ?_
   obtain ⟨hG, jK⟩ := hI
   by_cases h0 : n = 0
   ·subst h0
    have e0 := Tq 0 .fq rfl (by decide)
    have d1 : decide (((0 : Nat) : Int) < 5) = true := rfl
    have d2 : decide ((0 : Int) < ((0 : Nat) : Int)) = false := rfl
    simp +contextual only [lN, e0 _ rfl, d1, d2, sZ, Nat.reduceEqDiff, ↓reduceIte, reduceCtorEq]
    refine ⟨1, G, ⟨by omega, hG, fun m hm => ?_⟩, by omega, aF rfl rfl⟩
    intro h
    simp only [gC] at h
    omega
   ·by_cases h5 : n < 5
    ·have hf : dR.cells[n]? = some (.fn (.func (182 + n)) [] []) := by
      have : n = 1 ∨ n = 2 ∨ n = 3 ∨ n = 4 := by omega
      rcases this with rfl | rfl | rfl | rfl <;> rfl
     have en := Tq n _ hf h5
     have d1 : decide ((n : Int) < 5) = true := decide_eq_true (by omega)
     have d2 : decide ((0 : Int) < n) = true := decide_eq_true (by omega)
     simp +contextual only [lN, en _ rfl, d1, d2, sZ, Nat.reduceEqDiff, Nat.reduceAdd, ↓reduceIte, reduceCtorEq]
     refine af (hr.at (by omega) h5 hG.1) ?_
     rintro r G' ⟨b, rfl, dV, hU, jb⟩
     have dZ : SD c H1 G' := ⟨jb, hG.2.trans hU⟩
     cases b with
     | true =>
       simp +contextual only [sZ, Nat.reduceEqDiff, ↓reduceIte, reduceCtorEq]
       exact ee rfl ⟨fun _ => ⟨rfl, n, h5, dV.1 rfl⟩, fun _ => rfl⟩ dZ.2 dZ.1
     | false =>
       simp +contextual only [sZ, Nat.reduceEqDiff, ↓reduceIte, reduceCtorEq]
       refine ⟨n + 1, G', ⟨by omega, dZ, fun m hm => ?_⟩, by omega, aF (by rw [au n (by omega)]) rfl⟩
       by_cases e : m = n
       ·subst e; exact fun h => absurd (dV.2 h) (by simp)
       ·exact jK m (by omega)
    ·have d1 : decide ((n : Int) < 5) = false := decide_eq_false (by omega)
     simp +contextual only [d1, sZ, Nat.reduceEqDiff, ↓reduceIte, reduceCtorEq]
     exact ee rfl ⟨fun h => by simp at h, fun ⟨_, m, hm, h⟩ => absurd h (jK m (by omega))⟩ hG.2 hG.1
theorem jh {f : Int → T} {s : Int} {l : List Int} : side s (l.map f) = (bD s l).map f := by unfold side bD; split <;> simp
theorem HV.lx {f : Int → T} {G : T → T → Prop} (irr : ∀ x, ¬ G x x) : ∀ {a b : List Int} {n : Nat}, HV (fun x y => f x = f y) a b n → (Lx G (a.map f) (b.map f) ↔ n < a.length ∧ (n = b.length ∨ G (f (a.getD n 0)) (f (b.getD n 0))))
 | [], b, n, h => by simp [Lx]
 | x :: r, [], n, h => by
   have := h.lb
   simp at this
   subst this
   simp [Lx]
 | x :: r, y :: s, 0, h => by
   have dG : ¬ f x = f y := h.no (by simp) (by simp)
   simp [Lx, dG]
 | x :: r, y :: s, m + 1, h => by
   have Y7 : f x = f y := h.eq 0 (by omega)
   have ih := HV.lx irr (a := r) (b := s) (n := m) ⟨by have := h.la; simp at this; omega, by have := h.lb; simp at this; omega, fun j hj => h.eq (j + 1) (by omega), fun h1 h2 => h.no (by simpa using h1) (by simpa using h2)⟩
   simp only [List.map_cons, Lx, Y7, true_and, List.length_cons, List.getD_cons_succ, Nat.add_lt_add_iff_right, Nat.add_right_cancel_iff]
   rw [ih]
   exact ⟨fun h => by rcases h with h | h; exact h; exact absurd h (irr _), fun h => .inl h⟩
theorem vx {Q : Int → Int → Prop} : ∀ (a b : List Int), ∃ n, HV Q a b n
 | [], b => ⟨0, by simp, by simp, fun j h => by omega, fun h => by simp at h⟩
 | x :: r, [] => ⟨0, by simp, by simp, fun j h => by omega, fun _ h => by simp at h⟩
 | x :: r, y :: s => by
   by_cases hq : Q x y
   ·obtain ⟨n, h⟩ := vx (Q := Q) r s
    refine ⟨n + 1, by have := h.la; simp; omega, by have := h.lb; simp; omega, fun j hj => ?_, fun h1 h2 => h.no (by simpa using h1) (by simpa using h2)⟩
    cases j with
    | zero => exact hq
    | succ j => exact h.eq j (by omega)
   ·exact ⟨0, by simp, by simp, fun j h => by omega, fun _ _ => hq⟩
theorem rR {c : Cx} (hc : c.Ok) {i k : Int} (hi : c.dI i) (hk : c.dI k) : (qN c i = true ∧ ∃ n, n < 5 ∧ gC c i k n) ↔ R c.O (c.tm i) (c.tm k) := by
 rw [qt, tP hc hi, tP hc hk]
 have XM : qN c i = true ↔ (c.tm i).k = 2 := by simp [qN]
 have Em : qN c k = true ↔ (c.tm k).k = 2 := by simp [qN]
 rw [XM]
 refine and_congr_right fun XO => ?_
 have epi : pd c i = c.O.pl (c.tm i).n := if_pos XO
 have esi : dq c i = c.O.sp (c.O.pl (c.tm i).n) := if_pos XO
 have lk := (hc.kids k hk).1
 have li := (hc.kids i hi).1
 have all : (∀ x ∈ c.kd k, R c.O (c.tm i) (c.tm x)) ↔ ∀ y ∈ (c.tm k).l, R c.O (c.tm i) y := by rw [← lk]; simp
 have sub : J8 c i k ↔ ∃ x ∈ (c.tm i).l, E c.O x (c.tm k) ∨ R c.O x (c.tm k) := by
  rw [← li]; unfold J8
  constructor
  ·rintro ⟨x, hx, h⟩; exact ⟨_, List.mem_map.2 ⟨x, hx, rfl⟩, h⟩
  ·rintro ⟨y, hy, h⟩; obtain ⟨x, hx, rfl⟩ := List.mem_map.1 hy; exact ⟨x, hx, h⟩
 have lex : z5 c i k ↔ (c.tm k).k = 2 ∧ c.O.pl (c.tm k).n = c.O.pl (c.tm i).n ∧ c.O.sp (c.O.pl (c.tm i).n) ≠ 3 ∧ (∀ y ∈ (c.tm k).l, R c.O (c.tm i) y) ∧ Lx (Gt c.O.sp) (side (c.O.sp (c.O.pl (c.tm i).n)) ((c.kd i).map (nf c))) (side (c.O.sp (c.O.pl (c.tm i).n)) ((c.kd k).map (nf c))) := by
  unfold z5
  rw [jW, all, ← esi, jh, jh]
  obtain ⟨n, hn⟩ := vx (Q := fun x y => nf c x = nf c y) (bD (dq c i) (c.kd i)) (bD (dq c i) (c.kd k))
  have Zl := HV.lx (G := Gt c.O.sp) (fun x => zV x) hn
  rw [Zl]
  constructor
  ·rintro ⟨⟨_, h1, h2⟩, h3, h4, m, hm, h5⟩
   have := hm.Sf hn
   subst this
   exact ⟨h1, h2.symm, h3, h4, h5⟩
  ·rintro ⟨h1, h2, h3, h4, h5⟩
   exact ⟨⟨XO, h1, h2.symm⟩, h3, h4, n, hn, h5⟩
 have mul : wU c i k ↔ (c.tm k).k = 2 ∧ c.O.pl (c.tm k).n = c.O.pl (c.tm i).n ∧ c.O.sp (c.O.pl (c.tm i).n) = 3 ∧ Mu (Gt c.O.sp) ((c.kd i).map (nf c)) ((c.kd k).map (nf c)) := by
  unfold wU
  rw [jW, ← esi]
  exact ⟨fun ⟨⟨_, h1, h2⟩, h3⟩ => ⟨h1, h2.symm, h3⟩, fun ⟨h1, h2, h3⟩ => ⟨⟨XO, h1, h2.symm⟩, h3⟩⟩
 have pla : rQ c i k ↔ (c.tm k).k = 2 ∧ c.O.pl (c.tm k).n < c.O.pl (c.tm i).n ∧ ∀ y ∈ (c.tm k).l, R c.O (c.tm i) y := by
  unfold rQ
  rw [all, Em, epi]
  refine and_congr_right fun h => ?_
  rw [show pd c k = c.O.pl (c.tm k).n from if_pos h]
 have e : (∃ n, n < 5 ∧ gC c i k n) ↔ J8 c i k ∨ rQ c i k ∨ z5 c i k ∨ wU c i k := by
  constructor
  ·rintro ⟨n, _, h | h | h | h⟩
   ·exact .inl h.2
   ·exact .inr (.inl h.2)
   ·exact .inr (.inr (.inl h.2))
   ·exact .inr (.inr (.inr h.2))
  ·rintro (h | h | h | h)
   ·exact ⟨1, by omega, .inl ⟨rfl, h⟩⟩
   ·exact ⟨2, by omega, .inr (.inl ⟨rfl, h⟩)⟩
   ·exact ⟨3, by omega, .inr (.inr (.inl ⟨rfl, h⟩))⟩
   ·exact ⟨4, by omega, .inr (.inr (.inr ⟨rfl, h⟩))⟩
 rw [e, sub, pla, lex, mul]
 refine or_congr_right ?_
 constructor
 ·rintro (⟨h1, h2⟩ | ⟨h1, h2⟩ | ⟨h1, h2⟩)
  ·exact ⟨h1, .inl h2⟩
  ·exact ⟨h1, .inr (.inl h2)⟩
  ·exact ⟨h1, .inr (.inr h2)⟩
 ·rintro ⟨h1, h2 | h2 | h2⟩
  ·exact .inl ⟨h1, h2⟩
  ·exact .inr (.inl ⟨h1, h2⟩)
  ·exact .inr (.inr ⟨h1, h2⟩)
theorem ig.iff {c : Cx} {Q Q' : Prop} {f : Nat} {args : List AV} {H : List aa} (h : aq Tryz.prog f args H (ig c Q H)) (e : Q ↔ Q') : aq Tryz.prog f args H (ig c Q' H) := by
 refine h.mono ?_
 rintro r H' ⟨b, h1, h2, h3, h4⟩
 exact ⟨b, h1, h2.trans e, h3, h4⟩
theorem Cp {c : Cx} (hc : c.Ok) : ∀ (N : Nat) (i k : Int), c.dI i → c.dI k → wt (c.tm i) + wt (c.tm k) ≤ N → jV c i k ∧ gM c i k := by
 intro N
 induction N with
 | zero => intro i k _ _ h; have := gA (c.tm i); omega
 | succ N ih =>
 intro i k hi hk hN
 have hx : ∀ {j : Int}, c.dI j → ∀ x ∈ c.kd j, c.dI x ∧ wt (c.tm x) < wt (c.tm j) := fun {j} hj x hx => by
  have h1 := hc.kids j hj
  exact ⟨h1.2 x hx, cK (by rw [← h1.1]; exact List.mem_map.2 ⟨x, hx, rfl⟩)⟩
 have s1 : ∀ x ∈ c.kd i, ∀ y ∈ c.kd k, jV c x y := fun x h y h' => (ih x y (hx hi x h).1 (hx hk y h').1 (by have := (hx hi x h).2; have := (hx hk y h').2; omega)).1
 have m1 : ∀ x ∈ c.kd i, ∀ y ∈ c.kd k, gM c x y := fun x h y h' => (ih x y (hx hi x h).1 (hx hk y h').1 (by have := (hx hi x h).2; have := (hx hk y h').2; omega)).2
 have s2 : ∀ x ∈ c.kd i, jV c x k := fun x h => (ih x k (hx hi x h).1 hk (by have := (hx hi x h).2; omega)).1
 have m2 : ∀ x ∈ c.kd i, gM c x k := fun x h => (ih x k (hx hi x h).1 hk (by have := (hx hi x h).2; omega)).2
 have m3 : ∀ y ∈ c.kd k, gM c i y := fun y h => (ih i y hi (hx hk y h).1 (by have := (hx hk y h).2; omega)).2
 refine ⟨c79 hc fun H hD => Zi hc hi hk s1 hD, c76 hc fun H hD => ig.iff (Zk hc hi ⟨fun H hD => V3 hc hi s2 m2 hD, fun H hD => V4 hc hi hk m3 hD, fun H hD => V6 hc hi hk m3 s1 m1 hD, fun H hD => Wc hc hi hk s1 m1 hD⟩ hD) (rR hc hi hk)⟩
theorem jG {c : Cx} (hc : c.Ok) {i k : Int} (hi : c.dI i) (hk : c.dI k) : jV c i k := (Cp hc _ i k hi hk (Nat.le_refl _)).1
theorem jH {c : Cx} (hc : c.Ok) {i k : Int} (hi : c.dI i) (hk : c.dI k) : gM c i k := (Cp hc _ i k hi hk (Nat.le_refl _)).2
end Go.aK
end
section
set_option maxRecDepth 100000
namespace Go.aK
open Go Go.Proofs Go.fD
def XP (nd : List Nd) (t : T) (i : Nat) : Prop := ∀ j, j < wt t → nd[i + j]? = (vr t i)[j]?
def J9 (nd : List Nd) (l : List T) (i : Nat) : Prop := ∀ j, j < gG l → nd[i + j]? = (cR l i)[j]?
theorem XP.head {nd : List Nd} {t : T} {i : Nat} (h : XP nd t i) : nd[i]? = some (t, aU t.l (i + 1)) ∧ J9 nd t.l (i + 1) := by
 have hw := Ce t
 constructor
 ·have := h 0 (gA t)
  rw [n7] at this
  simpa using this
 ·intro j hj
  have := h (j + 1) (by omega)
  rw [n7, List.getElem?_cons_succ] at this
  rw [← this]; congr 1; omega
theorem J9.cons {nd : List Nd} {x : T} {r : List T} {i : Nat} (h : J9 nd (x :: r) i) : XP nd x i ∧ J9 nd r (i + wt x) := by
 constructor
 ·intro j hj
  have := h j (by rw [gG]; omega)
  rw [cR, List.getElem?_append_left (by rw [qv]; exact hj)] at this
  exact this
 ·intro j hj
  have := h (wt x + j) (by rw [gG]; omega)
  rw [cR, List.getElem?_append_right (by rw [qv]; omega), qv] at this
  rw [show wt x + j - wt x = j by omega] at this
  rw [← this]; congr 1; omega
theorem J9.kids {nd : List Nd} : ∀ {l : List T} {i : Nat}, J9 nd l i → (aU l i).map (fun k => (nd.getD k.toNat default).1) = l ∧ ∀ k ∈ aU l i, 0 ≤ k ∧ k < nd.length
 | [], i, _ => ⟨rfl, fun k h => by simp [aU] at h⟩
 | x :: r, i, h => by
   obtain ⟨h1, h2⟩ := h.cons
   obtain ⟨h3, h4⟩ := J9.kids h2
   have h5 := h1.head.1
   have h6 := (List.getElem?_eq_some_iff.1 h5).1
   refine ⟨?_, ?_⟩
   ·rw [aU, List.map_cons, h3]
    congr 1
    rw [List.getD_eq_getElem?_getD, Int.toNat_natCast, h5]; rfl
   ·intro k hk
    rw [aU] at hk
    rcases List.mem_cons.1 hk with rfl | hk
    ·omega
    ·exact h4 k hk
def Gd (nd : List Nd) (p : Int → Prop) (i : Nat) : Prop := ∃ t, nd[i]? = some (t, aU t.l (i + 1)) ∧ J9 nd t.l (i + 1) ∧ yc p t
mutual
theorem gdT {nd : List Nd} {p : Int → Prop} : ∀ (t : T) (i : Nat), XP nd t i → yc p t → ∀ j, j < wt t → Gd nd p (i + j)
 | .mk k n l, i, h, ha, j, hj => by
   obtain ⟨h1, h2⟩ := h.head
   cases j with
   | zero => exact ⟨_, h1, h2, ha⟩
   | succ j =>
     have := Zm l (i + 1) h2 (fun x hx => ha.mem hx) j (by rw [wt] at hj; omega)
     rw [show i + (j + 1) = i + 1 + j by omega]; exact this
theorem Zm {nd : List Nd} {p : Int → Prop} : ∀ (l : List T) (i : Nat), J9 nd l i → (∀ x ∈ l, yc p x) → ∀ j, j < gG l → Gd nd p (i + j)
 | [], i, h, ha, j, hj => by simp [gG] at hj
 | x :: r, i, h, ha, j, hj => by
   obtain ⟨h1, h2⟩ := h.cons
   by_cases hx : j < wt x
   ·exact gdT x i h1 (ha x List.mem_cons_self) j hx
   ·have := Zm r (i + wt x) h2 (fun y hy => ha y (List.mem_cons_of_mem _ hy)) (j - wt x) (by rw [gG] at hj; omega)
    rw [show i + j = i + wt x + (j - wt x) by omega]; exact this
end
def fZ (ps ss : List Int) (ts : List T) (n : Nat) : Cx := ⟨ps, ss, cR ts 0, n + 2, n, n + 1⟩
theorem NP (ts : List T) : J9 (cR ts 0) ts 0 := fun j _ => by rw [Nat.zero_add]
theorem Pl {ps ss : List Int} (hv : Va ps ss) {ts : List T} (dG : ts ≠ []) (hw : gG ts ≤ 100000000) (ha : ∀ t ∈ ts, yc (fun n => 0 ≤ n ∧ n < ps.length) t) (n : Nat) : (fZ ps ss ts n).Ok := by
 have hl : (cR ts 0).length = gG ts := gB ts 0
 have gd : ∀ i, (fZ ps ss ts n).dI i → ∃ t, (cR ts 0).getD i.toNat default = (t, aU t.l (i.toNat + 1)) ∧ J9 (cR ts 0) t.l (i.toNat + 1) ∧ yc (fun n => 0 ≤ n ∧ n < ps.length) t := by
  intro i hi
  have mi : i.toNat < gG ts := by have := hi.1; have := hi.2; simp only [fZ] at *; omega
  obtain ⟨t, h1, h2, h3⟩ := Zm ts 0 (NP ts) ha i.toNat mi
  rw [Nat.zero_add] at h1 h2
  exact ⟨t, by rw [List.getD_eq_getElem?_getD, h1]; rfl, h2, h3⟩
 refine ⟨hv, ?_, by simp [fZ], by simp [fZ], by simp [fZ], fun i hi => ?_, fun i hi => ?_, fun i hi hk => ?_⟩
 ·intro e
  have e : cR ts 0 = [] := e
  rw [e] at hl
  have := ic ts
  have h0 : ts.length = 0 := by simp at hl; omega
  exact dG (List.length_eq_zero_iff.1 h0)
 ·obtain ⟨t, h1, h2, h3⟩ := gd i hi
  show ((cR ts 0).getD i.toNat default).2.length ≤ _
  rw [h1, ct]
  by_cases h0 : t.l = []
  ·rw [h0]; simp
  ·have : gG t.l ≤ (cR ts 0).length := by
    have hp : 0 < gG t.l := by
     have := ic t.l
     have := List.length_pos_iff.2 h0
     omega
    have := h2 (gG t.l - 1) (by omega)
    have h4 : (cR t.l (i.toNat + 1))[gG t.l - 1]? ≠ none := by rw [List.getElem?_eq_getElem (by rw [gB]; omega)]; simp
    rw [← this] at h4
    have h5 : i.toNat + 1 + (gG t.l - 1) < (cR ts 0).length := by
     apply Decidable.byContradiction
     intro hc
     exact h4 (List.getElem?_eq_none (by omega))
    omega
   have := ic t.l
   omega
 ·obtain ⟨t, h1, h2, h3⟩ := gd i hi
  have hk := h2.kids
  have e1 : (fZ ps ss ts n).kd i = aU t.l (i.toNat + 1) := by show ((cR ts 0).getD i.toNat default).2 = _; rw [h1]
  have e2 : (fZ ps ss ts n).tm i = t := by show ((cR ts 0).getD i.toNat default).1 = _; rw [h1]
  rw [e1, e2]
  exact hk
 ·obtain ⟨t, h1, h2, h3⟩ := gd i hi
  have e2 : (fZ ps ss ts n).tm i = t := by show ((cR ts 0).getD i.toNat default).1 = _; rw [h1]
  rw [e2] at hk ⊢
  exact h3.op hk
theorem yh (ps ss : List Int) {ts : List T} (dG : ts ≠ []) (H : List aa) : Du (fZ ps ss ts H.length) (H ++ [.map [], .map [], jF ps ss (cR ts 0) H.length (H.length + 1)]) := by
 have hn : cR ts 0 ≠ [] := by
  intro e
  have hl : (cR ts 0).length = gG ts := gB ts 0
  have := ic ts
  rw [e] at hl
  have h0 : ts.length = 0 := by simp at hl; omega
  exact dG (List.length_eq_zero_iff.1 h0)
 refine ⟨?_, ⟨[], ?_, fun p hp => by simp at hp⟩, ⟨[], ?_, fun p hp => by simp at hp⟩⟩
 ·show (H ++ [aa.map [], .map [], jF ps ss (cR ts 0) H.length (H.length + 1)])[H.length + 2]? = _
  rw [jF, nr, if_neg hn]
  simp [fZ]
 ·show (H ++ [aa.map [], .map [], jF ps ss (cR ts 0) H.length (H.length + 1)])[H.length]? = _
  simp [lS]
 ·show (H ++ [aa.map [], .map [], jF ps ss (cR ts 0) H.length (H.length + 1)])[H.length + 1]? = _
  simp [lS]
theorem sR {ps ss : List Int} {ts : List T} {n j : Nat} (hj : j < ts.length) : (fZ ps ss ts n).dI ((aU ts 0).getD j 0) ∧ (fZ ps ss ts n).tm ((aU ts 0).getD j 0) = ts.getD j default := by
 obtain ⟨h1, h2⟩ := (NP ts).kids
 have hl := ct ts 0
 refine ⟨h2 _ (aO (by omega)), ?_⟩
 have := congrArg (fun l => l[j]?) h1
 have tO : j < (aU ts 0).length := by omega
 simp only [List.getElem?_map, List.getElem?_eq_getElem tO, List.getElem?_eq_getElem hj, Option.map_some, Option.some.injEq] at this
 have e1 : (aU ts 0).getD j 0 = (aU ts 0)[j] := by simp [tO]
 have e2 : ts.getD j default = ts[j] := by simp [hj]
 rw [e1, e2]
 exact this
end Go.aK
end
section
set_option maxRecDepth 100000
namespace Go.aK
open Go Go.Proofs
theorem Zn (s : ByteArray) (k : IntKind) (i : Nat) (φ : AV → Prop) : bH (.str s) (.int k (i : Int)) φ = (i < s.size ∧ φ (.int .u8 (s.data.toList.getD i 0).toNat)) := by
 simp only [bH, Int.toNat_natCast, eq_iff_iff]
 exact ⟨fun h => h.2, fun h => ⟨by omega, h⟩⟩
theorem pf (a b : ByteArray) (φ : AV → Prop) : cV .eql (.str a) (.str b) φ = φ (.bool (decide (a = b))) := by
 simp [cV]
theorem FB {g : Nat} {f : List AV → Option AV} (h : sL Tryz.prog g (.uQ f)) {xs : List AV} {r : AV} (hr : f xs = some r) : Pure Tryz.prog g xs r := fun H => h xs r H hr
theorem Zo (s : ByteArray) (c : Int) : Pure Tryz.prog 238 [.str s, .int .u8 c] (.int .i64 (firstIdx s c.toNat.toUInt8)) := FB Vm rfl
def mq (s : ByteArray) (c : Int) : Int := s.foldl (fun (n : Int) x => if x == c.toNat.toUInt8 then n + 1 else n) ((0 : Nat) : Int)
theorem Zp (s : ByteArray) (c : Int) : Pure Tryz.prog 231 [.str s, .int .u8 c] (.int .i64 (mq s c)) := FB Vn (by simp only [countP, mq])
theorem Wd (s : ByteArray) (c : Int) : Pure Tryz.prog 228 [.str s, .int .u8 c] (.int .i64 (firstIdx s c.toNat.toUInt8)) := by
 refine fun H => Mi.2.calls rfl ?_
 simp only [Mi, aI]
 simp +contextual only [zA, sZ, Nat.reduceEqDiff, Nat.reduceAdd, ↓reduceIte, reduceCtorEq]
 refine ae (Zo s c) ?_
 simp +contextual only [sZ, ↓reduceIte, reduceCtorEq]
 exact aY rfl rfl
theorem Zq (s : ByteArray) (c : Int) : Pure Tryz.prog 190 [.str s, .int .u8 c] (.int .i64 (firstIdx s c.toNat.toUInt8)) := by
 refine fun H => L9.2.calls rfl ?_
 simp only [L9, aI]
 simp +contextual only [zA, sZ, Nat.reduceEqDiff, Nat.reduceAdd, ↓reduceIte, reduceCtorEq]
 refine ae (Wd s c) ?_
 simp +contextual only [sZ, ↓reduceIte, reduceCtorEq]
 exact aY rfl rfl
def us : ByteArray := ⟨#[95]⟩
theorem XQ (k : IntKind) (φ : AV → Prop) : bH (.str us) (.int k 0) φ = φ (.int .u8 95) := by
 simp only [bH, eq_iff_iff]
 exact ⟨fun h => h.2.2, fun h => ⟨by omega, by decide, h⟩⟩
def NQ (s : ByteArray) : Int := if s = us then 0 else firstIdx s 95
theorem Zr (s : ByteArray) : Pure Tryz.prog 229 [.str s, .str us] (.int .i64 (NQ s)) := by
 refine fun H => Mj.2.calls rfl ?_
 simp only [Mj, aI]
 unfold NQ
 have cT : ((us.size : Nat) : Int) = 1 := rfl
 by_cases hs : s = us
 ·rw [if_pos hs]
  simp +contextual only [pf, cT, hs, Int.reduceEq, sZ, Nat.reduceEqDiff, Nat.reduceAdd, ↓reduceIte, reduceCtorEq, Int.reduceEq]
  exact aY rfl rfl
 ·rw [if_neg hs]
  have TO : ¬ us = s := fun e => hs e.symm
  simp +contextual only [pf, cT, TO, XQ, Int.reduceEq, sZ, Nat.reduceEqDiff, Nat.reduceAdd, ↓reduceIte, reduceCtorEq, Int.reduceEq]
  refine ae (Wd s 95) ?_
  simp +contextual only [sZ, ↓reduceIte, reduceCtorEq]
  exact aY rfl rfl
theorem Zs (s : ByteArray) : Pure Tryz.prog 191 [.str s, .str us] (.int .i64 (NQ s)) := by
 refine fun H => Ma.2.calls rfl ?_
 simp only [Ma, aI]
 simp +contextual only [sZ, Nat.reduceEqDiff, Nat.reduceAdd, ↓reduceIte, reduceCtorEq]
 refine ae (Zr s) ?_
 simp +contextual only [sZ, ↓reduceIte, reduceCtorEq]
 exact aY rfl rfl
theorem Zt (s : ByteArray) : Pure Tryz.prog 142 [.str s, .str us] (.bool (decide (0 ≤ NQ s))) := by
 refine fun H => L4.2.calls rfl ?_
 simp only [L4, aI]
 simp +contextual only [sZ, Nat.reduceEqDiff, Nat.reduceAdd, ↓reduceIte, reduceCtorEq]
 refine ae (Zs s) ?_
 simp +contextual only [sZ, ↓reduceIte, reduceCtorEq]
 exact aY rfl rfl
theorem Zu (s : ByteArray) : Pure Tryz.prog 193 [.str s, .str us] (.int .i64 (mq s 95)) := by
 refine fun H => Mc.2.calls rfl ?_
 simp only [Mc, aI]
 have cT : ((us.size : Nat) : Int) = 1 := rfl
 simp +contextual only [cT, XQ, Int.reduceEq, sZ, Nat.reduceEqDiff, Nat.reduceAdd, ↓reduceIte, reduceCtorEq, Int.reduceEq]
 refine ae (Zp s 95) ?_
 simp +contextual only [sZ, ↓reduceIte, reduceCtorEq]
 exact aY rfl rfl
def Aa (c : UInt8) : Bool := decide (((c.toNat : Nat) : Int) < 33) || decide ((126 : Int) < ((c.toNat : Nat) : Int)) || decide (0 ≤ firstIdx ⟨#[40, 41, 44]⟩ ((c.toNat : Nat) : Int).toNat.toUInt8)
def oJ (s : ByteArray) : Bool := !decide (((s.size : Nat) : Int) < 1) && !decide ((32 : Int) < ((s.size : Nat) : Int)) && s.data.toList.all fun c => !Aa c
theorem yi {p : UInt8 → Bool} {l : List UInt8} {i : Nat} (h : i < l.length) : (l.drop i).all p = (p (l.getD i 0) && (l.drop (i + 1)).all p) := by
 rw [List.drop_eq_getElem_cons h, List.all_cons]
 simp [h]
theorem We (s : ByteArray) : Pure Tryz.prog 141 [.str s] (.bool (oJ s)) := by
 refine fun H => OF.calls rfl ?_
 simp only [IY, OE]
 have hl : s.data.toList.length = s.size := rfl
 unfold oJ
 simp +contextual only [sZ, Nat.reduceEqDiff, Nat.reduceAdd, ↓reduceIte, reduceCtorEq]
 refine ⟨fun h1 => ⟨fun h2 => ?_, fun h2 => ?_⟩, fun h1 => ?_⟩
 ·exact aY rfl (by simp [h2])
 ·refine aB s.size (fun i => ((s.data.toList.drop i).all fun c => !Aa c) = (s.data.toList.all fun c => !Aa c))
   (fun i => [(0, .str s), (13, .int .i64 s.size), (14, .int .i64 i)]) (fun i => H) ⟨rfl, aA _ _ _⟩ fun i hi hI => ?_
  simp +contextual only [Zn, sZ, Nat.reduceEqDiff, Nat.reduceAdd, ↓reduceIte, reduceCtorEq]
  have fin : ∀ (aX : i < s.size), Aa (s.data.toList.getD i 0) = true → (s.data.toList.all fun c => !Aa c) = false := fun aX hb => by
   rw [← hI, yi (by omega), hb]; rfl
  refine ⟨fun aX => ?_, fun iW => ?_⟩
  ·have aX := bZ aX
   have fin := fin aX
   rw [yi (by omega)] at hI
   have Pe : Aa (s.data.toList.getD i 0) = (decide ((((s.data.toList.getD i 0).toNat : Nat) : Int) < 33) || decide ((126 : Int) < (((s.data.toList.getD i 0).toNat : Nat) : Int)) || decide (0 ≤ firstIdx ⟨#[40, 41, 44]⟩ (((s.data.toList.getD i 0).toNat : Nat) : Int).toNat.toUInt8)) := rfl
   generalize s.data.toList.getD i 0 = c at *
   refine ⟨aX, fun a => ⟨aX, fun b => ⟨aX, ae (Zq _ _) ?_⟩, fun b => ?_⟩, fun a => ?_⟩
   ·simp +contextual only [sZ, Nat.reduceEqDiff, ↓reduceIte, reduceCtorEq]
    refine ⟨fun d => ?_, fun d => ?_⟩
    ·exact aY rfl (by rw [fin (by rw [Pe]; simp only [decide_eq_true d, Bool.or_true])]; simp)
    ·refine ⟨i + 1, ⟨aX, ?_⟩, by omega, aF (by rw [au i (by omega)]) rfl⟩
     rw [← hI]
     have : Aa c = false := by
      rw [Pe]
      simp only [Bool.or_eq_false_iff, decide_eq_false_iff_not]
      omega
     rw [this]; simp
   ·exact aY rfl (by rw [fin (by rw [Pe]; simp only [decide_eq_true b, Bool.or_true, Bool.true_or])]; simp)
   ·exact aY rfl (by rw [fin (by rw [Pe]; simp only [decide_eq_true a, Bool.true_or])]; simp)
  ·rw [List.drop_of_length_le (by have := dl iW; omega)] at hI
   exact aY rfl (by rw [← hI]; simp; omega)
 ·exact aY rfl (by simp [h1])
end Go.aK
end
section
set_option maxRecDepth 100000
namespace Go.aK
open Go Go.Proofs
structure gD where
 name : ByteArray
 args : List Int
 Az : Int
 deriving Inhabited
structure Sg where
 aZ : List ByteArray
 ops : List gD
 deriving Inhabited
def gD.av (o : gD) : AV := .agg [.str o.name, .ap 0 (ints o.args), .int .i64 o.Az]
def ot (l : List gD) : List AV := l.map gD.av
def strs (l : List ByteArray) : List AV := l.map AV.str
def Sg.av (s : Sg) : AV := .agg [.ap 0 (strs s.aZ), .ap 0 (ot s.ops)]
theorem vz (l : List gD) : (ot l).length = l.length := by simp [ot]
theorem Cq (l : List ByteArray) : (strs l).length = l.length := by simp [strs]
theorem vA (n : Nat) (l : List gD) : aj n (ot l) = true := by
 rw [a9]; intro x hx; obtain ⟨y, _, rfl⟩ := List.mem_map.1 hx
 simp [gD.av, AV.a7, aj, bk]
theorem vB (n : Nat) (l : List ByteArray) : aj n (strs l) = true := by
 rw [a9]; intro x hx; obtain ⟨y, _, rfl⟩ := List.mem_map.1 hx; rfl
theorem gD.nh (n : Nat) (o : gD) : o.av.a7 n = true := by simp [gD.av, AV.a7, aj, bk]
theorem gD.vg (o : gD) : o.av.val = true := rfl
theorem gD.o9 (o : gD) : o.av.cells.all AV.one = true := rfl
theorem gD.ni (o : gD) : o.av.ab = o.av := rfl
theorem gD.qn (o : gD) : o.av.drop = o.av := rfl
theorem gD.gr (o : gD) : o.av.cells.length = 3 := rfl
theorem Sg.nh (n : Nat) (o : Sg) : o.av.a7 n = true := by simp [Sg.av, AV.a7, aj, vB, vA]
theorem Sg.vg (o : Sg) : o.av.val = true := rfl
theorem Sg.o9 (o : Sg) : o.av.cells.all AV.one = true := rfl
theorem Sg.ni (o : Sg) : o.av.ab = o.av := rfl
theorem Sg.qn (o : Sg) : o.av.drop = o.av := rfl
theorem Sg.gr (o : Sg) : o.av.cells.length = 2 := rfl
theorem Hr (o : Nat) (l : List gD) : (∀ (own : Nat) (xs : List AV), AV.ap o (ot l) = AV.ap own xs → ∀ z ∈ xs, z.cells.length = 3) = True := by
 simp only [eq_iff_iff, iff_true]
 intro own xs e z hz
 cases e
 obtain ⟨y, _, rfl⟩ := List.mem_map.1 hz
 rfl
theorem Ht (o : Nat) (l : List ByteArray) : (∀ (own : Nat) (xs : List AV), AV.ap o (strs l) = AV.ap own xs → ∀ z ∈ xs, z.cells.length = 1) = True := by
 simp only [eq_iff_iff, iff_true]
 intro own xs e z hz
 cases e
 obtain ⟨y, _, rfl⟩ := List.mem_map.1 hz
 rfl
theorem Ka (e o : Nat) (l : List gD) (k : IntKind) (i : Nat) (φ : AV → Prop) : ay e (.ap o (ot l)) (.int k (i : Int)) φ = (i < l.length ∧ φ (.ai (l.getD i default).av)) := by
 simp only [ay, vz, Int.toNat_natCast, eq_iff_iff]
 constructor
 ·rintro ⟨_, h, h2⟩; refine ⟨h, ?_⟩; simpa [ot, h] using h2
 ·rintro ⟨h, h2⟩; refine ⟨by omega, h, ?_⟩; simpa [ot, h] using h2
theorem Kb (e o : Nat) (l : List ByteArray) (k : IntKind) (i : Nat) (φ : AV → Prop) : ay e (.ap o (strs l)) (.int k (i : Int)) φ = (i < l.length ∧ φ (.ai (.str (l.getD i default)))) := by
 simp only [ay, Cq, Int.toNat_natCast, eq_iff_iff]
 constructor
 ·rintro ⟨_, h, h2⟩; refine ⟨h, ?_⟩; simpa [strs, h] using h2
 ·rintro ⟨h, h2⟩; refine ⟨by omega, h, ?_⟩; simpa [strs, h] using h2
theorem Wf (o : gD) (H : List aa) (φ : AV → Prop) : aS (some 3) (.ai o.av) H φ = φ o.av := by simp [aS, gD.av, AV.cells]
theorem qB (o : Sg) (H : List aa) (φ : AV → Prop) : aS (some 2) (.ai o.av) H φ = φ o.av := by simp [aS, Sg.av, AV.cells]
theorem fo0 (x : gD) (φ : AV → Prop) : ak 0 none (.ai x.av) φ = φ (.ai (.str x.name)) := by simp [ak, apart, gD.av, AV.cells, AV.one]
theorem fo1 (x : gD) (φ : AV → Prop) : ak 1 none (.ai x.av) φ = φ (.ai (.ap 0 (ints x.args))) := by simp [ak, apart, gD.av, AV.cells, AV.one]
theorem fo2 (x : gD) (φ : AV → Prop) : ak 2 none (.ai x.av) φ = φ (.ai (.int .i64 x.Az)) := by simp [ak, apart, gD.av, AV.cells, AV.one]
theorem fs0 (x : Sg) (φ : AV → Prop) : ak 0 none (.ai x.av) φ = φ (.ai (.ap 0 (strs x.aZ))) := by simp [ak, apart, Sg.av, AV.cells, AV.one]
theorem fs1 (x : Sg) (φ : AV → Prop) : ak 1 none (.ai x.av) φ = φ (.ai (.ap 0 (ot x.ops))) := by simp [ak, apart, Sg.av, AV.cells, AV.one]
def aC := (And.intro (And.intro (And.intro (And.intro @vz @Cq) (And.intro @vA @vB)) (And.intro (And.intro @gD.nh @gD.vg) (And.intro (And.intro @gD.o9 @gD.ni) (And.intro @gD.qn @gD.gr)))) (And.intro (And.intro (And.intro (And.intro @Sg.nh @Sg.vg) (And.intro (And.intro @Sg.o9 @Sg.ni) (And.intro @Sg.qn @Sg.gr))) (And.intro (And.intro @Hr @Ht) (And.intro @Ka @Kb))) (And.intro (And.intro @Wf @qB) (And.intro (And.intro @fo0 @fo1) (And.intro @fo2 (And.intro @fs0 @fs1))))))
def wV (p : Int → Bool) : List Int → Int → Int
 | [], _ => -1
 | x :: r, k => if p x = true then k else wV p r (k + 1)
theorem Cr (p : Int → Bool) : ∀ (l : List Int) (k : Int), 0 ≤ k → (decide (0 ≤ wV p l k) = l.any p)
 | [], k, _ => by simp [wV]
 | x :: r, k, h => by
   simp only [wV, List.any_cons]
   split
   ·rename_i hp; simp [hp, h]
   ·rename_i hp; simp [hp, Cr p r (k + 1) (by omega)]
theorem Hu {p : Int → Bool} {l : List Int} {i : Nat} {k : Int} (h : i < l.length) : wV p (l.drop i) k = if p (l.getD i 0) = true then k else wV p (l.drop (i + 1)) (k + 1) := by
 rw [List.drop_eq_getElem_cons h]
 simp [wV, h]
theorem Zv (g : Nat) (cap : List AV) (cF : cap.map AV.ab = cap) (hb : aj 0 cap = true) (p : Int → Bool) (l : List Int) (hf : ∀ x ∈ l, Pure Tryz.prog g ([.int .i64 x] ++ cap) (.bool (p x))) :
 Pure Tryz.prog 100 [.ap 0 (ints l), .fn (.func g) [] cap] (.int .i64 (wV p l 0)) := by
 refine fun H => Bq.2.calls rfl ?_
 simp only [Bq, aI]
 simp +contextual only [sZ, Nat.reduceEqDiff, Nat.reduceAdd, ↓reduceIte, reduceCtorEq]
 intro hl
 refine aB l.length (fun i => wV p (l.drop i) i = wV p l 0) (fun i => [(0, .ap 0 (ints l)), (1, .fn (.func g) [] cap), (7, .int .i64 l.length), (8, .int .i64 i)]) (fun _ => H) ⟨rfl, aA _ _ _⟩ fun i hi hI => ?_
 simp +contextual only [cF, sZ, Nat.reduceEqDiff, Nat.reduceAdd, ↓reduceIte, reduceCtorEq]
 refine ⟨fun aX => ?_, fun iW => ?_⟩
 ·have aX := bZ aX
  rw [Hu aX] at hI
  refine ⟨aX, ae (hf _ ?_) ?_⟩
  ·simp [aX]
  simp +contextual only [sZ, Nat.reduceEqDiff, ↓reduceIte, reduceCtorEq]
  refine qf (fun hb => ?_) (fun hb => ?_) <;> simp +contextual only [sZ, Nat.reduceEqDiff, ↓reduceIte, reduceCtorEq]
  ·rw [if_pos hb] at hI
   exact aY rfl (by rw [← hI])
  ·rw [if_neg (by rw [hb]; simp)] at hI
   exact ⟨i + 1, ⟨aX, hI⟩, by omega, aF (by rw [au i (by omega)]) rfl⟩
 ·rw [List.drop_of_length_le (dl iW)] at hI
  exact aY rfl (by rw [← hI]; rfl)
theorem Zw (g : Nat) (cap : List AV) (cF : cap.map AV.ab = cap) (hb : aj 0 cap = true) (p : Int → Bool) (l : List Int) (hf : ∀ x ∈ l, Pure Tryz.prog g ([.int .i64 x] ++ cap) (.bool (p x))) :
 Pure Tryz.prog 102 [.ap 0 (ints l), .fn (.func g) [] cap] (.bool (l.any p)) := by
 refine fun H => Br.2.calls rfl ?_
 simp only [Br, aI]
 simp +contextual only [sZ, Nat.reduceEqDiff, Nat.reduceAdd, ↓reduceIte, reduceCtorEq]
 refine ae (Zv g cap cF hb p l hf) ?_
 simp +contextual only [sZ, ↓reduceIte, reduceCtorEq]
 exact aY rfl (by rw [Cr p l 0 (by omega)])
end Go.aK
end
section
set_option maxRecDepth 100000
namespace Go.aK
open Go Go.Proofs
def Hv (n a : Int) : Bool := decide (0 ≤ a) && decide (a < n)
theorem Wg (n a : Int) : Pure Tryz.prog 192 [.int .i64 a, .ai (.int .i64 n)] (.bool (Hv n a)) := by
 refine fun H => Mb.2.calls rfl ?_
 simp only [Mb, aI]
 unfold Hv
 simp +contextual only [sZ, Nat.reduceEqDiff, Nat.reduceAdd, ↓reduceIte, reduceCtorEq]
 refine ⟨fun h => aY rfl (by simp [h]), fun h => aY rfl (by simp; omega)⟩
theorem Zx (n a : Int) : Pure Tryz.prog 194 [.int .i64 a, .ai (.fn (.func 192) [] [.ai (.int .i64 n)])] (.bool (!Hv n a)) := by
 refine fun H => Md.2.calls rfl ?_
 simp only [Md, aI]
 simp +contextual only [sZ, Nat.reduceEqDiff, Nat.reduceAdd, ↓reduceIte, reduceCtorEq]
 refine ae (Wg n a) ?_
 simp +contextual only [sZ, ↓reduceIte, reduceCtorEq]
 exact aY rfl rfl
def qC (o : gD) (n : Int) : Bool :=
 oJ o.name && (decide (mq o.name 95 < o.name.size) && ((decide (mq o.name 95 = 0) || decide (mq o.name 95 = o.args.length)) && (decide ((o.args.length : Int) ≤ 8) && (Hv n o.Az && !o.args.any fun a => !Hv n a))))
theorem Zy (o : gD) (n : Int) : Pure Tryz.prog 143 [o.av, .int .i64 n] (.bool (qC o n)) := by
 refine fun H => OH.calls rfl ?_
 simp only [IZ, OG]
 unfold qC
 simp +contextual only [aC, sZ, Nat.reduceEqDiff, Nat.reduceAdd, ↓reduceIte, reduceCtorEq]
 refine ae (Zu o.name) ?_
 simp +contextual only [aC, sZ, Nat.reduceEqDiff, Nat.reduceAdd, ↓reduceIte]
 refine ae (We o.name) ?_
 cases hn : oJ o.name with
 | false =>
   simp +contextual only [sZ, Nat.reduceEqDiff, ↓reduceIte, reduceCtorEq]
   exact aY rfl rfl
 | true =>
   have Zz := Zw 194 [.ai (.fn (.func 192) [] [.ai (.int .i64 n)])] rfl rfl (fun a => !Hv n a) o.args (fun a _ => Zx n a)
   have Kc := Wg n o.Az
   generalize Hv n o.Az = q at Kc ⊢
   generalize (o.args.any fun a => !Hv n a) = z at Zz ⊢
   by_cases h1 : mq o.name 95 < o.name.size
   ·have e1 : decide (mq o.name 95 < o.name.size) = true := decide_eq_true h1
    simp +contextual only [aC, h1, sZ, Nat.reduceEqDiff, Nat.reduceAdd, ↓reduceIte, reduceCtorEq]
    refine ⟨fun ZA _ => ⟨fun ZB => ?_, fun ZB => ?_⟩, fun ZA _ => ?_⟩
    ·have e2 : (decide (mq o.name 95 = 0) || decide (mq o.name 95 = (o.args.length : Int))) = true := by simp [ZB]
     refine ⟨fun h3 => ae Kc ?_, fun h3 => ?_⟩
     ·have e903 : decide ((o.args.length : Int) ≤ 8) = true := decide_eq_true h3
      rw [e1, e2, e903]
      cases q with
      | false =>
        simp +contextual only [sZ, Nat.reduceEqDiff, ↓reduceIte, reduceCtorEq]
        exact aY rfl (by simp)
      | true =>
        simp +contextual only [aC, sZ, Nat.reduceEqDiff, Nat.reduceAdd, ↓reduceIte, reduceCtorEq]
        refine ae Zz ?_
        simp +contextual only [sZ, Nat.reduceEqDiff, ↓reduceIte, reduceCtorEq]
        exact aY rfl (by simp)
     ·have e903 : decide ((o.args.length : Int) ≤ 8) = false := decide_eq_false (by omega)
      exact aY rfl (by rw [e903]; simp)
    ·have e2 : (decide (mq o.name 95 = 0) || decide (mq o.name 95 = (o.args.length : Int))) = false := by simp [ZA, ZB]
     exact aY rfl (by rw [e2]; simp)
    ·have e2 : (decide (mq o.name 95 = 0) || decide (mq o.name 95 = (o.args.length : Int))) = true := by simp [ZA]
     refine ⟨fun h3 => ae Kc ?_, fun h3 => ?_⟩
     ·have e903 : decide ((o.args.length : Int) ≤ 8) = true := decide_eq_true h3
      rw [e1, e2, e903]
      cases q with
      | false =>
        simp +contextual only [sZ, Nat.reduceEqDiff, ↓reduceIte, reduceCtorEq]
        exact aY rfl (by simp)
      | true =>
        simp +contextual only [aC, sZ, Nat.reduceEqDiff, Nat.reduceAdd, ↓reduceIte, reduceCtorEq]
        refine ae Zz ?_
        simp +contextual only [sZ, Nat.reduceEqDiff, ↓reduceIte, reduceCtorEq]
        exact aY rfl (by simp)
     ·have e903 : decide ((o.args.length : Int) ≤ 8) = false := decide_eq_false (by omega)
      exact aY rfl (by rw [e903]; simp)
   ·have e1 : decide (mq o.name 95 < o.name.size) = false := decide_eq_false h1
    rw [e1]
    simp +contextual only [aC, h1, sZ, Nat.reduceEqDiff, ↓reduceIte, reduceCtorEq]
    exact aY rfl (by simp)
end Go.aK
end
section
set_option maxRecDepth 100000
namespace Go.aK
open Go Go.Proofs
theorem Wh (l : List Int) (hl : l.length * 8 ≤ 140737488355328) : Pure Tryz.prog 118 [.ap 0 (ints l)] (.ap 1 (ints l)) := fun H =>
 uT 0 (ints l) H (of_eq_true (lO l)) (by rw [aw]; exact hl) (bk _ _)
def Hw (a : Int) : UInt8 := UInt8.ofNat (IntKind.u8.wrap a).toNat
theorem Sn (a : Int) : AV.int .u8 (IntKind.u8.wrap a) = .int .u8 (Hw a).toNat := by
 have h : 0 ≤ IntKind.u8.wrap a ∧ IntKind.u8.wrap a < 256 := by
  simp only [IntKind.wrap]
  have h1 : IntKind.u8.bits = 8 := rfl
  have h2 : IntKind.u8.signed = false := rfl
  rw [h1, h2]
  simp
  omega
 congr 1
 unfold Hw
 rw [UInt8.toNat_ofNat']
 omega
def Hy (o : gD) : List UInt8 := (o.name ++ ⟨#[40]⟩).data.toList ++ (o.args ++ [o.Az]).map Hw
def mr (o : gD) : ByteArray := ⟨(Hy o).toArray⟩
theorem En (l : List UInt8) (a : Int) : bg l ++ [.int .u8 (IntKind.u8.wrap a)] = bg (l ++ [Hw a]) := by
 rw [Sn]; simp [bg]
theorem Hz (l : List UInt8) : (bg l).length = l.length := by simp [bg]
theorem So (s : ByteArray) (φ : AV → Prop) : eN 1 (.str s) φ = (s.size < 9223372036854775808 ∧ φ (.ap 1 (bg s.data.toList))) := _root_.id rfl
theorem Sp (o : Nat) (l : List UInt8) (φ : AV → Prop) (h : φ (.str ⟨l.toArray⟩)) : jo (.ap o (bg l)) φ := ⟨l, rfl, h⟩
theorem Sq (k k' : IntKind) (n : Int) (φ : AV → Prop) : cq k (.int k' n) φ = φ (.int k (k.wrap n)) := _root_.id rfl
theorem Wi (o : gD) (h1 : o.name.size ≤ 32) (h2 : o.args.length ≤ 8) : Pure Tryz.prog 144 [o.av] (.str (mr o)) := by
 refine fun H => OJ.calls rfl ?_
 simp only [I0, OI]
 have cT : (⟨#[40]⟩ : ByteArray).size = 1 := rfl
 have hs2 : (o.name ++ ⟨#[40]⟩ : ByteArray).size = o.name.size + 1 := by rw [ByteArray.size_append, cT]
 have hln : (o.name ++ ⟨#[40]⟩ : ByteArray).data.toList.length = o.name.size + 1 := hs2
 simp +contextual only [aC, So, cT, hs2, sZ, Nat.reduceEqDiff, Nat.reduceAdd, ↓reduceIte]
 refine ⟨by omega, by omega, aG (Wh o.args (by omega)) ?_⟩
 simp +contextual only [aC, m8, ok_int, rD, sZ, Nat.reduceEqDiff, Nat.reduceAdd, ↓reduceIte]
 refine ⟨by omega, ?_⟩
 generalize hv : o.args ++ [o.Az] = vs
 have pB : vs.length ≤ 9 := by rw [← hv]; simp; omega
 have hk : mr o = ⟨((o.name ++ ⟨#[40]⟩ : ByteArray).data.toList ++ vs.map Hw).toArray⟩ := by rw [mr, Hy, hv]
 rw [hk]
 generalize (o.name ++ ⟨#[40]⟩ : ByteArray).data.toList = nm at *
 refine aB vs.length (fun _ => True)
  (fun i => [(3, .ap 1 (bg (nm ++ (vs.take i).map Hw))), (16, .ap 1 (ints vs)), (17, .int .i64 vs.length), (18, .int .i64 i)]) (fun _ => H) ⟨trivial, aF (by simp) rfl⟩ fun i hi hI => ?_
 simp +contextual only [sZ, Nat.reduceEqDiff, ↓reduceIte, reduceCtorEq]
 refine ⟨fun aX => ⟨bZ aX, ?_⟩, fun iW => ?_⟩
 ·have aX := bZ aX
  simp +contextual only [Sq, m8, ok_int, En, Hz, sZ, Nat.reduceEqDiff, Nat.reduceAdd, ↓reduceIte]
  refine ⟨by simp; omega, i + 1, aX, by omega, aF ?_ rfl⟩
  rw [au i (by omega), List.take_add_one, List.map_append, ← List.append_assoc]
  simp [aX]
 ·rw [List.take_of_length_le (dl iW)]
  refine Sp 0 _ _ ?_
  simp +contextual only [sZ]
  exact aY rfl rfl
instance : LawfulBEq ByteArray where
 rfl := by intro a; rw [yN]; simp
 eq_of_beq := by intro a b h; rw [yN] at h; exact of_decide_eq_true h
def oK (vs : List ByteArray) : List (AV × AV) := vs.map fun v => (.str v, .bool true)
theorem nt (n : ByteArray) : ∀ (vs : List ByteArray) (i : Nat), (n ∈ vs → ∃ j, dP 1 (.str n) (oK vs) i = some (some (j, .bool true))) ∧ (n ∉ vs → dP 1 (.str n) (oK vs) i = some none)
 | [], i => ⟨fun h => (by cases h), fun _ => rfl⟩
 | v :: r, i => by
   have ih := nt n r (i + 1)
   simp only [oK, List.map_cons, dP, cP]
   by_cases hv : n = v
   ·subst hv
    simp
   ·simp only [List.mem_cons, hv, false_or]
    exact ih
theorem qD (n : ByteArray) (vs : List ByteArray) (φ : AV → Prop) : g9 (some (.map (oK vs))) 1 (.bool false) (.str n) false φ = φ (.bool (decide (n ∈ vs))) := by
 have h := nt n vs 0
 unfold g9
 by_cases hn : n ∈ vs
 ·obtain ⟨j, hj⟩ := h.1 hn
  simp [hj, hn, tJ]
 ·simp [h.2 hn, hn, cP, aT, bh.aT, tJ]
theorem Cs {n : ByteArray} {vs : List ByteArray} (hn : n ∉ vs) (id : Nat) (H : List aa) (K : List aa → Prop) : hJ (some (.map (oK vs))) 1 id (.str n) (.bool true) H K = K (H.set id (.map (oK (vs ++ [n])))) := by
 have h := (nt n vs 0).2 hn
 unfold hJ
 simp only [h]
 simp [cP, I5, zB, Fe, oK, aT, bh.aT, tJ]
def lV : List ByteArray → List ByteArray → Bool
 | [], _ => true
 | s :: r, seen => if oJ s = true ∧ ¬ 0 ≤ NQ s ∧ s ∉ seen then lV r (seen ++ [s]) else false
def Ab (n : Int) : List gD → List ByteArray → Bool
 | [], _ => true
 | o :: r, seen => if qC o n = true ∧ mr o ∉ seen then Ab n r (seen ++ [mr o]) else false
def nu (s : Sg) : Bool := decide ((s.aZ.length : Int) ≤ 64) && decide ((s.ops.length : Int) ≤ 256) && lV s.aZ [] && Ab s.aZ.length s.ops []
theorem sS {l : List ByteArray} {i : Nat} (h : i < l.length) (seen : List ByteArray) : lV (l.drop i) seen = if oJ (l.getD i default) = true ∧ ¬ 0 ≤ NQ (l.getD i default) ∧ l.getD i default ∉ seen then lV (l.drop (i + 1)) (seen ++ [l.getD i default]) else false := by
 rw [List.drop_eq_getElem_cons h, lV]
 have e : l.getD i default = l[i] := by simp [h]
 rw [e]
theorem yj {n : Int} {l : List gD} {i : Nat} (h : i < l.length) (seen : List ByteArray) : Ab n (l.drop i) seen = if qC (l.getD i default) n = true ∧ mr (l.getD i default) ∉ seen then Ab n (l.drop (i + 1)) (seen ++ [mr (l.getD i default)]) else false := by
 rw [List.drop_eq_getElem_cons h, Ab]
 have e : l.getD i default = l[i] := by simp [h]
 rw [e]
theorem Eo {o : gD} {n : Int} (h : qC o n = true) : o.name.size ≤ 32 ∧ o.args.length ≤ 8 ∧ Hv n o.Az = true ∧ ∀ a ∈ o.args, Hv n a = true := by
 simp only [qC, oJ, Bool.and_eq_true, Bool.not_eq_true', decide_eq_false_iff_not, decide_eq_true_eq] at h
 obtain ⟨⟨⟨_, h1⟩, _⟩, _, _, h2, h3, h4⟩ := h
 refine ⟨by omega, by omega, h3, fun a ha => ?_⟩
 cases hx : Hv n a with
 | true => rfl
 | false =>
   rw [Bool.eq_false_iff] at h4
   exact absurd (List.any_eq_true.2 ⟨a, ha, by rw [hx]; rfl⟩) h4
theorem c81 (s : Sg) : Pure Tryz.prog 81 [s.av] (.int .i64 (if nu s = true then 0 else 40)) := by
 refine fun H => T6.calls rfl ?_
 simp only [Qj, T5]
 have bad : ∀ {G : List aa} {e : Bool}, e = false → G.take H.length = H → nu s = e → bT H.length [RX.t 2] [(2, AV.int IntKind.i64 40)] G fun r H' => r = AV.int IntKind.i64 (if nu s = true then 0 else 40) ∧ H' = H := by
  intro G e he hG hc
  rw [hc, he]
  exact Nv hG rfl rfl ⟨rfl, rfl⟩
 simp +contextual only [aC, sZ, Nat.reduceEqDiff, Nat.reduceAdd, ↓reduceIte, reduceCtorEq]
 refine fun _ => ⟨fun h1 _ => ⟨fun h2 => ?_, fun h2 => ?_⟩, fun h1 => ?_⟩
 ·have h2' : ¬ (s.ops.length : Int) ≤ 256 := by omega
  exact bad rfl (by simp) (by rw [nu, decide_eq_false h2']; simp)
 ·refine aM s.aZ.length (fun i (seen : List ByteArray) => lV (s.aZ.drop i) seen = lV s.aZ [])
   (fun i seen => [(1, .ai s.av), (3, .map H.length), (21, .ap 0 (strs s.aZ)), (22, .int .i64 s.aZ.length), (23, .int .i64 i)]) (fun i seen => H ++ [.map (oK seen)]) [] ⟨rfl, aA _ _ _⟩ fun i seen hi hI => ?_
  simp +contextual only [aC, sZ, Nat.reduceEqDiff, Nat.reduceAdd, ↓reduceIte]
  refine ⟨fun aX => ⟨bZ aX, ?_⟩, fun iW => ?_⟩
  ·have aX := bZ aX
   rw [sS aX] at hI
   generalize s.aZ.getD i default = x at *
   refine ae (We x) ?_
   cases hn : oJ x with
   | false =>
     rw [hn, if_neg (by simp)] at hI
     simp +contextual only [sZ, Nat.reduceEqDiff, ↓reduceIte, reduceCtorEq]
     exact bad rfl (by simp) (by simp [nu, ← hI])
   | true =>
     rw [hn] at hI
     simp +contextual only [sZ, Nat.reduceEqDiff, Nat.reduceAdd, ↓reduceIte]
     refine ae (Zt x) ?_
     by_cases hu : 0 ≤ NQ x
     ·rw [if_neg (fun h => h.2.1 hu)] at hI
      simp +contextual only [hu, sZ, Nat.reduceEqDiff, ↓reduceIte, reduceCtorEq]
      exact bad rfl (by simp) (by simp [nu, ← hI])
     ·by_cases hm : x ∈ seen
      ·rw [if_neg (fun h => h.2.2 hm)] at hI
       simp +contextual only [hu, qD, hm, sZ, Nat.reduceEqDiff, ↓reduceIte, reduceCtorEq]
       exact bad rfl (by simp) (by simp [nu, ← hI])
      ·rw [if_pos ⟨rfl, hu, hm⟩] at hI
       simp +contextual only [hu, qD, hm, Cs hm, sZ, Nat.reduceEqDiff, ↓reduceIte]
       exact ⟨i + 1, seen ++ [x], ⟨aX, hI⟩, by omega, aF (by rw [au i (by omega)]) rfl⟩
  ·have hs : lV s.aZ [] = true := by
    rw [← hI, List.drop_of_length_le (dl iW)]; rfl
   have hc : nu s = Ab s.aZ.length s.ops [] := by simp [nu, h1, h2, hs]
   clear hI
   simp +contextual only [sZ]
   refine fun _ => aM s.ops.length (fun i (seen2 : List ByteArray) => Ab s.aZ.length (s.ops.drop i) seen2 = Ab s.aZ.length s.ops [])
    (fun i seen2 => [(1, .ai s.av), (6, .map (H.length + 1)), (44, .ap 0 (ot s.ops)), (45, .int .i64 s.ops.length), (46, .int .i64 i)]) (fun i seen2 => H ++ [.map (oK seen), .map (oK seen2)]) [] ⟨rfl, aA _ _ _⟩ fun i seen2 hi hI => ?_
   simp +contextual only [aC, sZ, Nat.reduceEqDiff, Nat.reduceAdd, ↓reduceIte, reduceCtorEq]
   refine ⟨fun aX => ⟨bZ aX, ?_⟩, fun iW => ?_⟩
   ·have aX := bZ aX
    rw [yj aX] at hI
    generalize s.ops.getD i default = x at *
    refine fun _ => ae (Zy x _) ?_
    cases hg : qC x s.aZ.length with
    | false =>
      rw [hg, if_neg (by simp)] at hI
      simp +contextual only [sZ, Nat.reduceEqDiff, ↓reduceIte, reduceCtorEq]
      exact bad rfl (by simp) (by rw [hc, ← hI])
    | true =>
      rw [hg] at hI
      have XR := Eo hg
      simp +contextual only [aC, sZ, Nat.reduceEqDiff, Nat.reduceAdd, ↓reduceIte]
      refine ae (Wi x XR.1 XR.2.1) ?_
      by_cases hm : mr x ∈ seen2
      ·rw [if_neg (fun h => h.2 hm)] at hI
       simp +contextual only [qD, hm, sZ, Nat.reduceEqDiff, ↓reduceIte, reduceCtorEq]
       exact bad rfl (by simp) (by rw [hc, ← hI])
      ·rw [if_pos ⟨rfl, hm⟩] at hI
       simp +contextual only [aC, qD, hm, sZ, Nat.reduceEqDiff, Nat.reduceAdd, ↓reduceIte]
       refine ae (Wi x XR.1 XR.2.1) ?_
       simp +contextual only [Cs hm, sZ, Nat.reduceEqDiff, ↓reduceIte]
       exact ⟨i + 1, seen2 ++ [mr x], ⟨aX, hI⟩, by omega, aF (by rw [au i (by omega)]) rfl⟩
   ·rw [List.drop_of_length_le (dl iW)] at hI
    exact Nv (by simp) rfl rfl ⟨by rw [hc, ← hI]; rfl, rfl⟩
 ·have Yx : ¬ (s.aZ.length : Int) ≤ 64 := by omega
  exact bad rfl (by simp) (by rw [nu, decide_eq_false Yx]; simp)
end Go.aK
end
section
set_option maxRecDepth 100000
namespace Go.aK
open Go Go.Proofs Go.fD
def gN (w : List (Int × Int)) : List (AV × AV) := w.map fun p => (.int .i64 p.1, .int .i64 p.2)
theorem Ep (n : Int) : ∀ (w : List (Int × Int)) (i : Nat), (∃ j s, w[j]? = some (n, s) ∧ dP 0 (.int .i64 n) (gN w) i = some (some (i + j, .int .i64 s))) ∨ ((∀ p ∈ w, p.1 ≠ n) ∧ dP 0 (.int .i64 n) (gN w) i = some none)
 | [], i => .inr ⟨(fun p h => by cases h), rfl⟩
 | (a, b) :: r, i => by
   have ih := Ep n r (i + 1)
   simp only [gN, List.map_cons, dP, cP, if_true]
   by_cases h : n = a
   ·subst h
    exact .inl ⟨0, b, rfl, by simp⟩
   ·simp only [decide_eq_false h]
    rcases ih with ⟨j, s, h1, h2⟩ | ⟨h1, h2⟩
    ·exact .inl ⟨j + 1, s, h1, by rw [show i + (j + 1) = i + 1 + j by omega]; exact h2⟩
    ·refine .inr ⟨fun p hp => ?_, h2⟩
     rcases List.mem_cons.1 hp with rfl | hp
     ·exact fun e => h e.symm
     ·exact h1 p hp
theorem Wj {n : Int} {w : List (Int × Int)} {φ : AV → Prop} (h1 : ∀ s, (n, s) ∈ w → φ (.tuple [.int .i64 s, .bool true])) (h2 : (∀ p ∈ w, p.1 ≠ n) → φ (.tuple [.int .i64 0, .bool false])) : g9 (some (.map (gN w))) 0 (.int .i64 0) (.int .i64 n) true φ := by
 unfold g9
 rcases Ep n w 0 with ⟨j, s, h3, h4⟩ | ⟨h3, h4⟩
 ·simp only [h4]; exact h1 s (List.mem_of_getElem? h3)
 ·simp only [h4]; exact ⟨by simp [cP], h2 h3⟩
theorem msW {n s : Int} {w : List (Int × Int)} {id : Nat} {H : List aa} {K : List aa → Prop} (h : ∀ w', (∀ p ∈ w', p ∈ w ∨ p = (n, s)) → (∀ p ∈ w, ∃ q ∈ w', q.1 = p.1) → (n, s) ∈ w' → K (H.set id (.map (gN w')))) : hJ (some (.map (gN w))) 0 id (.int .i64 n) (.int .i64 s) H K := by
 unfold hJ
 refine ⟨rfl, rfl, rfl, ?_⟩
 have ec : aT (.int .i64 s) = .int .i64 s := rfl
 rcases Ep n w 0 with ⟨j, x, h3, h4⟩ | ⟨h3, h4⟩
 ·simp only [h4, ec, Nat.zero_add]
  have e : (gN w).set j (.int .i64 n, .int .i64 s) = gN (w.set j (n, s)) := by simp [gN, List.map_set]
  rw [e]
  have hj := (List.getElem?_eq_some_iff.1 h3).1
  refine h _ (fun p hp => List.mem_or_eq_of_mem_set hp) (fun p hp => ?_) (List.mem_iff_getElem?.2 ⟨j, by rw [List.getElem?_set_self hj]⟩)
  obtain ⟨m, hm⟩ := List.mem_iff_getElem?.1 hp
  by_cases e : j = m
  ·subst e
   rw [h3] at hm; cases hm
   exact ⟨(n, s), List.mem_iff_getElem?.2 ⟨j, by rw [List.getElem?_set_self hj]⟩, rfl⟩
  ·exact ⟨p, List.mem_iff_getElem?.2 ⟨m, by rw [List.getElem?_set_ne e]; exact hm⟩, rfl⟩
 ·simp only [h4, ec]
  refine ⟨by simp [cP], ?_⟩
  have e : gN w ++ [(AV.int .i64 n, AV.int .i64 s)] = gN (w ++ [(n, s)]) := by simp [gN]
  rw [e]
  exact h _ (fun p hp => by simpa using hp) (fun p hp => ⟨p, List.mem_append.2 (.inl hp), rfl⟩) (by simp)
structure NR (ps ss : List Int) (i : Nat) : Prop where
 Oo : ∀ j, j < i → 0 ≤ ps.getD j 0 ∧ ps.getD j 0 ≤ 255 ∧ 1 ≤ ss.getD j 0 ∧ ss.getD j 0 ≤ 3
 st : ∀ j k, j < i → k < i → ps.getD j 0 = ps.getD k 0 → ss.getD j 0 = ss.getD k 0
def eE (s : Sg) (ps ss : List Int) : Prop := ps.length = s.ops.length ∧ ss.length = s.ops.length ∧ NR ps ss ps.length
theorem eE.va {s : Sg} {ps ss : List Int} (h : eE s ps ss) : Va ps ss := ⟨by rw [h.2.1, h.1], h.2.2.st⟩
open Classical in
noncomputable def iR (s : Sg) (ps ss : List Int) : Int := if nu s = true then (if eE s ps ss then 0 else 60) else 40
theorem vC (ps ss : List Int) (φ : AV → Prop) : ak 0 none (.ai (eG ps ss)) φ = φ (.ai (.ap 0 (ints ps))) := by simp [ak, apart, eG, AV.cells, AV.one]
theorem wW (ps ss : List Int) (φ : AV → Prop) : ak 1 none (.ai (eG ps ss)) φ = φ (.ai (.ap 0 (ints ss))) := by simp [ak, apart, eG, AV.cells, AV.one]
theorem bi (ps ss : List Int) : (eG ps ss).val = true ∧ (eG ps ss).cells.length = 2 ∧ (eG ps ss).cells.all AV.one = true ∧ (eG ps ss).ab = eG ps ss ∧ (eG ps ss).drop = eG ps ss ∧ ∀ n, (eG ps ss).a7 n = true :=
 ⟨rfl, rfl, rfl, rfl, rfl, fun n => by simp [eG, uV, bL, cZ, cW, bk]⟩
theorem cB (ps ss : List Int) (H : List aa) (φ : AV → Prop) : aS (some 2) (.ai (eG ps ss)) H φ = φ (eG ps ss) := NL _ _ _ _
theorem ZC (s : Sg) (ps ss : List Int) : Pure Tryz.prog 24 [s.av, eG ps ss] (.int .i64 (iR s ps ss)) := by
 refine fun H => k24.2.calls rfl ?_
 simp only [k24, aI]
 obtain ⟨q1, q2, q3, q4, q5, q6⟩ := bi ps ss
 simp +contextual only [aC, q1, sZ, Nat.reduceEqDiff, Nat.reduceAdd, ↓reduceIte, reduceCtorEq]
 refine ae (c81 s) ?_
 cases hs : nu s with
 | false =>
   have e : iR s ps ss = 40 := by rw [iR, if_neg (by rw [hs]; simp)]
   rw [e]
   simp +contextual only [Bool.false_eq_true, sZ, Nat.reduceEqDiff, ↓reduceIte, reduceCtorEq, Int.reduceEq]
   exact aY rfl rfl
 | true =>
   simp +contextual only [aC, vC, wW, aw, sZ, Nat.reduceEqDiff, ↓reduceIte, reduceCtorEq]
   have bad : ¬ eE s ps ss → iR s ps ss = 60 := fun h => by rw [iR, if_pos hs, if_neg h]
   have Sr : eE s ps ss → iR s ps ss = 0 := fun h => by rw [iR, if_pos hs, if_pos h]
   have ret60 : ∀ (X : List aa), ¬ eE s ps ss → bT H.length [.t 4] [(4, .int .i64 60)] (H ++ X) fun r H' => r = .int .i64 (iR s ps ss) ∧ H' = H := fun X h => by rw [bad h]; exact JM rfl rfl
   have ret60' : ¬ eE s ps ss → bT H.length [.t 4] [(4, .int .i64 60)] H fun r H' => r = .int .i64 (iR s ps ss) ∧ H' = H := fun h => by rw [bad h]; exact aY rfl rfl
   refine fun _ _ => ⟨fun hl => ?_, fun hl => ?_⟩
   rotate_left
   ·first | exact ret60' fun h => hl (by omega) | (refine ret60' fun h => ?_; have := h.1; omega)
   refine fun _ => ⟨fun nI => ret60' fun h => nI (by have := h.2.1; omega), fun nI => ?_⟩
   have g0 : ∀ w, (H ++ [aa.map (gN w)])[H.length]? = some (.map (gN w)) := fun w => by simp
   have gs : ∀ w w', (H ++ [aa.map (gN w)]).set H.length (.map (gN w')) = H ++ [.map (gN w')] := fun w w' => by simp
   refine aM ps.length (fun i (w : List (Int × Int)) => NR ps ss i ∧ (∀ p ∈ w, ∃ j, j < i ∧ ps.getD j 0 = p.1 ∧ ss.getD j 0 = p.2) ∧ ∀ j, j < i → ∃ p ∈ w, p.1 = ps.getD j 0)
    (fun i w => [(3, .ai (eG ps ss)), (6, .map H.length), (35, .ap 0 (ints ps)), (36, .int .i64 s.ops.length), (37, .int .i64 i)]) (fun i w => H ++ [.map (gN w)]) []
    ⟨⟨⟨fun j h => by omega, fun j k h => by omega⟩, (fun p h => by cases h), fun j h => by omega⟩, aA _ _ _⟩ fun i w hi hI => ?_
   ·obtain ⟨hu, hw1, hw2⟩ := hI
    have nbad : ∀ j, j < ps.length → ¬ (0 ≤ ps.getD j 0 ∧ ps.getD j 0 ≤ 255 ∧ 1 ≤ ss.getD j 0 ∧ ss.getD j 0 ≤ 3) → ¬ eE s ps ss := fun j hj h h' => h (h'.2.2.Oo j hj)
    by_cases Lm : (i : Int) < s.ops.length
    ·have Ss : i < ps.length := by omega
     simp +contextual only [wW, cv, Int.toNat_natCast, g0, Lm, decide_true, sZ, Nat.reduceEqDiff, ↓reduceIte]
     generalize hp : ps.getD i 0 = p
     generalize hq : ss.getD i 0 = q
     refine ⟨by omega, ⟨by omega, by omega⟩, ?_⟩
     by_cases r1 : p < 0
     ·refine Wj (fun o _ => ?_) (fun _ => ?_)
      all_goals
       simp +contextual only [r1, decide_true, sZ, Nat.reduceEqDiff, Nat.reduceAdd, Nat.reduceLT, ↓reduceIte, reduceCtorEq]
       exact ret60 _ (nbad i Ss (by rw [hp]; omega))
     ·by_cases r2 : 255 < p
      ·refine Wj (fun o _ => ?_) (fun _ => ?_)
       all_goals
        simp +contextual only [r1, r2, decide_true, decide_false, sZ, Nat.reduceEqDiff, Nat.reduceAdd, Nat.reduceLT, ↓reduceIte, reduceCtorEq]
        exact ret60 _ (nbad i Ss (by rw [hp]; omega))
      ·by_cases r3 : q < 1
       ·refine Wj (fun o _ => ?_) (fun _ => ?_)
        all_goals
         simp +contextual only [r1, r2, r3, decide_true, decide_false, sZ, Nat.reduceEqDiff, Nat.reduceAdd, Nat.reduceLT, ↓reduceIte, reduceCtorEq]
         exact ret60 _ (nbad i Ss (by rw [hq]; omega))
       ·by_cases r4 : 3 < q
        ·refine Wj (fun o _ => ?_) (fun _ => ?_)
         all_goals
          simp +contextual only [r1, r2, r3, r4, decide_true, decide_false, sZ, Nat.reduceEqDiff, Nat.reduceAdd, Nat.reduceLT, ↓reduceIte, reduceCtorEq]
          exact ret60 _ (nbad i Ss (by rw [hq]; omega))
        ·have ZD : 0 ≤ p ∧ p ≤ 255 ∧ 1 ≤ q ∧ q ≤ 3 := ⟨by omega, by omega, by omega, by omega⟩
         have next : (∀ j, j < i → ps.getD j 0 = p → ss.getD j 0 = q) → ∀ w' : List (Int × Int), (∀ x ∈ w', x ∈ w ∨ x = (p, q)) → (∀ x ∈ w, ∃ y ∈ w', y.1 = x.1) → (p, q) ∈ w' → NR ps ss (i + 1) ∧ (∀ x ∈ w', ∃ j, j < i + 1 ∧ ps.getD j 0 = x.1 ∧ ss.getD j 0 = x.2) ∧ ∀ j, j < i + 1 → ∃ x ∈ w', x.1 = ps.getD j 0 := by
          intro hsame w' m1 m2 m3
          refine ⟨⟨fun j hj => ?_, fun j k hj hk he => ?_⟩, fun x hx => ?_, fun j hj => ?_⟩
          ·by_cases e : j = i
           ·subst e; rw [hp, hq]; exact ZD
           ·exact hu.Oo j (by omega)
          ·by_cases e : j = i
           ·by_cases e' : k = i
            ·rw [e, e']
            ·subst e; rw [hp] at he; rw [hq]; exact (hsame k (by omega) he.symm).symm
           ·by_cases e' : k = i
            ·subst e'; rw [hp] at he; rw [hq]; exact hsame j (by omega) he
            ·exact hu.st j k (by omega) (by omega) he
          ·rcases m1 x hx with h | rfl
           ·obtain ⟨j, h1, h2, h3⟩ := hw1 x h; exact ⟨j, by omega, h2, h3⟩
           ·exact ⟨i, by omega, hp, hq⟩
          ·by_cases e : j = i
           ·subst e; rw [hp]; exact ⟨_, m3, rfl⟩
           ·obtain ⟨x, h1, h2⟩ := hw2 j (by omega)
            obtain ⟨y, h3, h4⟩ := m2 x h1
            exact ⟨y, h3, h4.trans h2⟩
         refine Wj (fun o ho => ?_) (fun jK => ?_)
         ·obtain ⟨j0, hj1, ZE, ZF⟩ := hw1 _ ho
          simp only at ZE ZF
          by_cases VO : o = q
          ·subst VO
           have d0 : decide (¬ o = o) = false := by simp
           simp +contextual only [r1, r2, r3, r4, decide_false, g0, sZ, Nat.reduceEqDiff, Nat.reduceAdd, Nat.reduceLT, ↓reduceIte]
           refine msW fun w' m1 m2 m3 => ?_
           simp +contextual only [gs, sZ, Nat.reduceEqDiff, ↓reduceIte]
           refine ⟨i + 1, w', ⟨Ss, next (fun j hj he => ?_) w' m1 m2 m3⟩, by omega, aF (by rw [au i (by omega)]) rfl⟩
           rw [hu.st j j0 hj hj1 (he.trans ZE.symm), ZF]
          ·have d0 : decide (¬ o = q) = true := by simp [VO]
           simp +contextual only [r1, r2, r3, r4, decide_false, d0, sZ, Nat.reduceEqDiff, Nat.reduceAdd, Nat.reduceLT, ↓reduceIte, reduceCtorEq]
           exact ret60 _ fun h => VO (by rw [← ZF, ← hq]; exact h.2.2.st j0 i (by omega) Ss (ZE.trans hp.symm))
         ·simp +contextual only [r1, r2, r3, r4, decide_false, g0, sZ, Nat.reduceEqDiff, Nat.reduceAdd, Nat.reduceLT, ↓reduceIte]
          refine msW fun w' m1 m2 m3 => ?_
          simp +contextual only [gs, sZ, Nat.reduceEqDiff, ↓reduceIte]
          refine ⟨i + 1, w', ⟨Ss, next (fun j hj he => ?_) w' m1 m2 m3⟩, by omega, aF (by rw [au i (by omega)]) rfl⟩
          obtain ⟨x, h1, h2⟩ := hw2 j hj
          exact absurd (h2.trans he) (jK x h1)
    ·have Zf : i = ps.length := by omega
     subst Zf
     rw [Sr ⟨by omega, by omega, hu⟩]
     simp +contextual only [Lm, decide_false, sZ, Nat.reduceEqDiff, ↓reduceIte, reduceCtorEq]
     exact JM rfl rfl
end Go.aK
end
section
set_option maxRecDepth 100000
namespace Go.aK
open Go Go.Proofs Go.fD
theorem Wk (g : Nat) (cw : List AV) (cF : cw.map AV.ab = cw) (p : T → Bool) (l : List T) (hf : ∀ x ∈ l, Pure Tryz.prog g ([x.av] ++ cw) (.bool (p x))) :
 Pure Tryz.prog 114 [.ap 0 (bU l), .fn (.func g) [] cw] (.int .i64 (rF p l 0)) := by
 refine fun H => Bs.2.calls rfl ?_
 simp only [Bs, aI]
 simp +contextual only [sZ, Nat.reduceEqDiff, Nat.reduceAdd, ↓reduceIte, reduceCtorEq]
 intro hl
 refine aB l.length (fun i => rF p (l.drop i) i = rF p l 0) (fun i => [(0, .ap 0 (bU l)), (1, .fn (.func g) [] cw), (7, .int .i64 l.length), (8, .int .i64 i)]) (fun _ => H) ⟨rfl, aA _ _ _⟩ fun i hi hI => ?_
 simp +contextual only [cF, sZ, Nat.reduceEqDiff, Nat.reduceAdd, ↓reduceIte, reduceCtorEq]
 refine ⟨fun aX => ?_, fun iW => ?_⟩
 ·have aX := bZ aX
  rw [xQ aX] at hI
  refine ⟨aX, ae (hf _ (iv aX)) ?_⟩
  cases hb : p (l.getD i default) with
  | true =>
    rw [if_pos hb] at hI
    simp +contextual only [sZ, Nat.reduceEqDiff, ↓reduceIte, reduceCtorEq]
    exact aY rfl (by rw [← hI])
  | false =>
    rw [if_neg (by rw [hb]; simp)] at hI
    simp +contextual only [sZ, Nat.reduceEqDiff, ↓reduceIte, reduceCtorEq]
    exact ⟨i + 1, ⟨aX, hI⟩, by omega, aF (by rw [au i (by omega)]) rfl⟩
 ·rw [List.drop_of_length_le (dl iW)] at hI
  exact aY rfl (by rw [← hI]; rfl)
theorem Su (g : Nat) (cw : List AV) (cF : cw.map AV.ab = cw) (p : T → Bool) (l : List T) (hf : ∀ x ∈ l, Pure Tryz.prog g ([x.av] ++ cw) (.bool (p x))) :
 Pure Tryz.prog 53 [.ap 0 (bU l), .fn (.func g) [] cw] (.bool (l.any p)) := by
 refine fun H => OD.2.calls rfl ?_
 simp only [OD, aI]
 simp +contextual only [sZ, Nat.reduceEqDiff, Nat.reduceAdd, ↓reduceIte, reduceCtorEq]
 refine ae (Wk g cw cF p l hf) ?_
 simp +contextual only [sZ, ↓reduceIte, reduceCtorEq]
 exact aY rfl (by rw [vj p l 0 (by omega)])
theorem ZG (x : T) : Pure Tryz.prog 130 [x.av] (.int .i64 (if x.tree = true then 0 else 4)) := by
 refine fun H => L3.2.calls rfl ?_
 simp only [L3, aI]
 simp +contextual only [sZ, Nat.reduceEqDiff, Nat.reduceAdd, ↓reduceIte]
 refine ae (Y0 x) ?_
 cases h : x.tree with
 | true => simp +contextual only [Bool.not_true, sZ, ↓reduceIte, reduceCtorEq]; exact aY rfl rfl
 | false => simp +contextual only [Bool.not_false, sZ, ↓reduceIte, reduceCtorEq]; exact aY rfl rfl
mutual
def nv (s : Sg) : T → Bool
 | .mk k n l => !(decide (k = 2) && (decide ((s.ops.length : Int) ≤ n) || !decide ((l.length : Int) = ((s.ops.getD n.toNat default).args.length : Nat)))) && XS s l
def XS (s : Sg) : List T → Bool
 | [] => true
 | x :: r => nv s x && XS s r
end
theorem tQ (s : Sg) : ∀ l, XS s l = !(l.any fun x => !nv s x)
 | [] => rfl
 | x :: r => by rw [XS, tQ s r, List.any_cons]; cases nv s x <;> simp
theorem ZH (s : Sg) : ∀ t : T, t.shaped = true → Pure Tryz.prog 131 [s.av, t.av] (.bool (nv s t)) := by
 suffices h : ∀ N t, wt t ≤ N → t.shaped = true → Pure Tryz.prog 131 [s.av, t.av] (.bool (nv s t)) from fun t ht => h _ t (Nat.le_refl _) ht
 intro N
 induction N with
 | zero => intro t h; have := gA t; omega
 | succ N ih =>
 intro t hN hs H
 have hk := nk hs
 have c182 : ∀ x ∈ t.l, Pure Tryz.prog 182 ([x.av] ++ [.ai s.av]) (.bool (!nv s x)) := by
  intro x hx H
  refine UN.2.calls rfl ?_
  simp only [UN, aI]
  simp +contextual only [aC, sZ, Nat.reduceEqDiff, Nat.reduceAdd, ↓reduceIte, reduceCtorEq]
  refine ae (ih x (by have := cK hx; omega) (hk.2 x hx)) ?_
  simp +contextual only [sZ, ↓reduceIte, reduceCtorEq]
  exact aY rfl rfl
 have hn : 0 ≤ t.n := by
  rw [T.fT] at hs
  simp only [Bool.and_eq_true, Bool.not_eq_true', Bool.or_eq_false_iff, decide_eq_false_iff_not] at hs
  have := hs.1.1.1.1
  omega
 obtain ⟨m, hm⟩ := Int.eq_ofNat_of_zero_le hn
 refine Ul.2.calls rfl ?_
 simp only [Ul, aI]
 have e : nv s t = (!(decide (t.k = 2) && (decide ((s.ops.length : Int) ≤ t.n) || !decide ((t.l.length : Int) = ((s.ops.getD t.n.toNat default).args.length : Nat)))) && !(t.l.any fun x => !nv s x)) := by
  rw [← tQ]; cases t; rfl
 have fin : (!(decide (t.k = 2) && (decide ((s.ops.length : Int) ≤ t.n) || !decide ((t.l.length : Int) = ((s.ops.getD t.n.toNat default).args.length : Nat))))) = false → bT H.length [.t 4] [(4, .bool false)] H fun r H' => r = .bool (nv s t) ∧ H' = H := by
  intro h
  rw [e, h]; exact aY rfl rfl
 by_cases h2 : t.k = 2
 ·by_cases h3 : (s.ops.length : Int) ≤ t.n
  ·simp +contextual only [aC, h2, h3, decide_true, sZ, Nat.reduceEqDiff, Nat.reduceAdd, ↓reduceIte, reduceCtorEq]
   exact fin (by simp [h2, h3])
  ·have Pm : m < s.ops.length := by omega
   have Tc : ¬ (s.ops.length : Int) ≤ (m : Int) := by omega
   have em : t.n.toNat = m := by omega
   by_cases h4 : (t.l.length : Int) = ((s.ops.getD m default).args.length : Nat)
   ·simp +contextual only [aC, h2, Tc, h4, hm, Pm, aw, decide_true, decide_false, sZ, Nat.reduceEqDiff, Nat.reduceAdd, ↓reduceIte, reduceCtorEq]
    refine ae (Su 182 [.ai s.av] rfl _ t.l c182) ?_
    simp +contextual only [sZ, ↓reduceIte, reduceCtorEq]
    refine aY rfl ?_
    rw [e, em, h4]
    simp [h2, h3]
   ·simp +contextual only [aC, h2, Tc, h4, hm, Pm, aw, decide_true, decide_false, sZ, Nat.reduceEqDiff, Nat.reduceAdd, ↓reduceIte, reduceCtorEq]
    exact fin (by rw [em, decide_eq_true h2, decide_eq_false h3, decide_eq_false h4]; rfl)
 ·simp +contextual only [aC, h2, decide_false, sZ, Nat.reduceEqDiff, Nat.reduceAdd, ↓reduceIte, reduceCtorEq]
  refine ae (Su 182 [.ai s.av] rfl _ t.l c182) ?_
  simp +contextual only [sZ, ↓reduceIte, reduceCtorEq]
  refine aY rfl ?_
  rw [e]
  simp [h2]
noncomputable def fO (s : Sg) (ps ss : List Int) (l : List T) : Int := if iR s ps ss = 0 then (if (l.all fun t => t.tree && nv s t) = true then 0 else 4) else iR s ps ss
theorem HA {p : T → Bool} {l : List T} {i : Nat} (h : i < l.length) : (l.drop i).all p = (p (l.getD i default) && (l.drop (i + 1)).all p) := by
 have e : l.getD i default = l[i] := by simp [h]
 rw [List.drop_eq_getElem_cons h, List.all_cons, e]
theorem Wl (s : Sg) (ps ss : List Int) (l : List T) : Pure Tryz.prog 74 [s.av, eG ps ss, .ap 0 (bU l)] (.int .i64 (fO s ps ss l)) := by
 refine fun H => k74.2.calls rfl ?_
 simp only [k74, aI]
 obtain ⟨q1, q2, q3, q4, q5, q6⟩ := bi ps ss
 simp +contextual only [aC, q1, q4, cB, sZ, Nat.reduceEqDiff, Nat.reduceAdd, ↓reduceIte, reduceCtorEq]
 refine ae (ZC s ps ss) ?_
 by_cases h0 : iR s ps ss = 0
 ·simp +contextual only [h0, sZ, Nat.reduceEqDiff, ↓reduceIte]
  intro _
  refine aB l.length (fun i => l.all (fun t => t.tree && nv s t) = (l.drop i).all fun t => t.tree && nv s t) (fun i => [(3, .ai s.av), (16, .ap 0 (bU l)), (17, .int .i64 l.length), (18, .int .i64 i)]) (fun _ => H) ⟨rfl, aA _ _ _⟩ fun i hi hI => ?_
  by_cases Aw : (i : Int) < l.length
  ·have aX : i < l.length := by omega
   rw [HA aX] at hI
   simp +contextual only [Aw, decide_true, sZ, Nat.reduceEqDiff, Nat.reduceAdd, ↓reduceIte]
   refine ⟨aX, ae (ZG _) ?_⟩
   cases ht : (l.getD i default).tree with
   | false =>
     rw [ht, Bool.false_and, Bool.false_and] at hI
     simp +contextual only [sZ, Nat.reduceEqDiff, ↓reduceIte, reduceCtorEq, Int.reduceEq]
     refine aY rfl ?_
     rw [fO, if_pos h0, hI, if_neg (by simp)]
   | true =>
     rw [ht, Bool.true_and] at hI
     simp +contextual only [aC, sZ, Nat.reduceEqDiff, Nat.reduceAdd, ↓reduceIte]
     refine ae (ZH s _ ((T.kK _).1 ht).2.2) ?_
     cases ho : nv s (l.getD i default) with
     | false =>
       rw [ho, Bool.false_and] at hI
       simp +contextual only [Bool.not_false, sZ, Nat.reduceEqDiff, ↓reduceIte, reduceCtorEq]
       refine aY rfl ?_
       rw [fO, if_pos h0, hI, if_neg (by simp)]
     | true =>
       rw [ho, Bool.true_and] at hI
       simp +contextual only [Bool.not_true, sZ, Nat.reduceEqDiff, ↓reduceIte]
       exact ⟨i + 1, ⟨aX, hI⟩, by omega, aF (by rw [au i (by omega)]) rfl⟩
  ·simp +contextual only [Aw, decide_false, sZ, Nat.reduceEqDiff, ↓reduceIte, reduceCtorEq]
   rw [List.drop_of_length_le (by omega)] at hI
   refine aY rfl ?_
   rw [fO, if_pos h0, hI]; rfl
 ·simp +contextual only [h0, sZ, Nat.reduceEqDiff, ↓reduceIte, reduceCtorEq]
  refine aY rfl ?_
  rw [fO, if_neg h0]
theorem Sv {s : Sg} : ∀ t : T, t.shaped = true → nv s t = true → yc (fun n => 0 ≤ n ∧ n < s.ops.length) t := by
 suffices h : ∀ N t, wt t ≤ N → t.shaped = true → nv s t = true → yc (fun n => 0 ≤ n ∧ n < s.ops.length) t from fun t => h _ t (Nat.le_refl _)
 intro N
 induction N with
 | zero => intro t h; have := gA t; omega
 | succ N ih =>
 intro t hN hs ho
 have hn : 0 ≤ t.n := by
  rw [T.fT] at hs
  simp only [Bool.and_eq_true, Bool.not_eq_true', Bool.or_eq_false_iff, decide_eq_false_iff_not] at hs
  have := hs.1.1.1.1
  omega
 have hk := (nk hs).2
 obtain ⟨k, n, l⟩ := t
 rw [nv, tQ] at ho
 simp only [Bool.and_eq_true, Bool.not_eq_true', Bool.and_eq_false_iff, Bool.or_eq_false_iff, decide_eq_false_iff_not, List.any_eq_false, Bool.not_eq_false'] at ho
 refine yc.mk k n l (fun HO => ?_) fun x hx => ih x (by have := cK (a := .mk k n l) hx; omega) (hk x hx) ?_
 ·rcases ho.1 with h | h
  ·exact absurd HO h
  ·exact ⟨hn, by omega⟩
 ·have := ho.2 x hx
  simpa using this
end Go.aK
end
section
set_option maxRecDepth 100000
namespace Go.aK
open Go Go.Proofs Go.fD
mutual
theorem Kd : ∀ t : T, (wt t : Int) = t.sz
 | .mk k n l => by rw [wt, T.sz]; have := FC l; omega
theorem FC : ∀ l : List T, (gG l : Int) = Eb l
 | [] => rfl
 | x :: r => by rw [gG, Eb]; have := Kd x; have := FC r; omega
end
theorem lW {l : List T} (h : ∀ t ∈ l, t.tree = true) : gG l ≤ 2000 * l.length := by
 induction l with
 | nil => simp [gG]
 | cons x r ih =>
   have := ih fun t ht => h t (List.mem_cons_of_mem _ ht)
   have h1 := ((T.kK x).1 (h x List.mem_cons_self)).1
   have h2 := Kd x
   rw [gG, List.length_cons]; omega
structure ZI (s : Sg) (ps ss : List Int) (l : List T) : Prop where
 ord : eE s ps ss
 tree : ∀ t ∈ l, t.tree = true
 all : ∀ t ∈ l, yc (fun n => 0 ≤ n ∧ n < ps.length) t
theorem vD {s : Sg} {ps ss : List Int} : iR s ps ss = 0 ↔ nu s = true ∧ eE s ps ss := by
 unfold iR
 by_cases h : nu s = true
 ·by_cases h2 : eE s ps ss
  ·rw [if_pos h, if_pos h2]; simp [h, h2]
  ·rw [if_pos h, if_neg h2]; simp [h2]
 ·rw [if_neg h]; simp [h]
theorem qE {s : Sg} {ps ss : List Int} {l : List T} (h : fO s ps ss l = 0) : ZI s ps ss l := by
 unfold fO at h
 split at h
 ·rename_i h0
  have h1 := (vD.1 h0).2
  split at h
  ·rename_i h2
   have h3 := List.all_eq_true.1 h2
   refine ⟨h1, fun t ht => ?_, fun t ht => ?_⟩
   ·have := h3 t ht; simp only [Bool.and_eq_true] at this; exact this.1
   ·have := h3 t ht
    simp only [Bool.and_eq_true] at this
    rw [h1.1]
    exact Sv t ((T.kK t).1 this.1).2.2 this.2
  ·cases h
 ·rename_i h0; exact absurd h h0
theorem ZI.cx {s : Sg} {ps ss : List Int} {l : List T} (h : ZI s ps ss l) (dG : l ≠ []) (hl : l.length ≤ 10000) (n : Nat) : (fZ ps ss l n).Ok :=
 Pl h.ord.va dG (by have := lW h.tree; omega) h.all n
open Classical in
noncomputable def Er (ps ss : List Int) (a b : T) : Bool := decide (R (ja ps ss) a b)
open Classical in
noncomputable def Wm (ps ss : List Int) (a b : T) : Bool := decide (E (ja ps ss) a b)
theorem oa {ps ss : List Int} {a b : T} : Er ps ss a b = true ↔ R (ja ps ss) a b := by simp [Er]
theorem FD {ps ss : List Int} {a b : T} : Wm ps ss a b = true ↔ E (ja ps ss) a b := by simp [Wm]
theorem NS (a b : T) : bo (aU [a, b] 0) = .ap 0 (ints (aU [a, b] 0)) := rfl
theorem FE {Hs G : List aa} {n0 a b : Nat} {u v x y : AV} {R : AV → List aa → Prop} (Cb : b ≠ a) (hH : Hs.take n0 = G) (hb : x.a7 n0 = true ∧ y.a7 n0 = true) (hx : u.ab = x) (hy : v.ab = y) (hR : R (.tuple [x, y]) G) : bT n0 [.t a, .t b] [(a, u), (b, v)] Hs R := by
 subst hH; subst hx; subst hy
 refine ⟨n0, Nat.le_refl _, [u.ab, v.ab], ?_, by simp only [aj, hb.1, hb.2, Bool.and_self], hR⟩
 simp only [ax, if_neg Cb, if_true, List.map]
 exact b9 _
theorem Up.low {c : Cx} {H X G : List aa} (h : Up c (H ++ X) G) (he : H.length ≤ c.e) (hg : H.length ≤ c.g) : G.take H.length = H := by
 apply List.ext_getElem?
 intro j
 rw [List.getElem?_take]
 split
 ·rename_i hj
  rw [h.get j (by omega) (by omega), List.getElem?_append_left hj]
 ·rename_i hj
  rw [List.getElem?_eq_none (by omega)]
theorem ZJ (s : Sg) (ps ss : List Int) (a b : T) : Pure Tryz.prog 20 [s.av, eG ps ss, a.av, b.av] (.tuple [.bool (if fO s ps ss [a, b] = 0 then Er ps ss a b else false), .int .i64 (fO s ps ss [a, b])]) := by
 refine fun H => k20.2.calls rfl ?_
 simp only [k20, aI]
 obtain ⟨q1, q2, q3, q4, q5, q6⟩ := bi ps ss
 simp +contextual only [aC, q1, q4, cB, sZ, Nat.reduceEqDiff, Nat.reduceAdd, ↓reduceIte, reduceCtorEq]
 refine ae (Wl s ps ss [a, b]) ?_
 by_cases h0 : fO s ps ss [a, b] = 0
 ·rw [if_pos h0]
  have hr := qE h0
  have hw := lW hr.tree
  have hc := hr.cx (by simp) (by simp) H.length
  have hd := yh ps ss (ts := [a, b]) (by simp) H
  simp +contextual only [q4, cB, h0, sZ, Nat.reduceEqDiff, Nat.reduceAdd, ↓reduceIte]
  refine af (VX ps ss [a, b] H (by simp at hw; omega)) ?_
  rintro r G ⟨rfl, rfl⟩
  have a0 := sR (ps := ps) (ss := ss) (ts := [a, b]) (n := H.length) (j := 0) (by simp)
  have a1 := sR (ps := ps) (ss := ss) (ts := [a, b]) (n := H.length) (j := 1) (by simp)
  have hl := ct [a, b] 0
  rw [NS]
  generalize aU [a, b] 0 = ks at a0 a1 hl ⊢
  have nI : ks.length = 2 := hl
  simp +contextual only [cv, nI, dy, sZ, Nat.reduceEqDiff, Nat.reduceAdd, Nat.reduceLT, ↓reduceIte, reduceCtorEq]
  refine ⟨by decide, by decide, af (jH hc a0.1 a1.1 _ hd) ?_⟩
  rintro r G ⟨x, rfl, hx, hU, hD⟩
  rw [a0.2, a1.2] at hx
  simp +contextual only [sZ, Nat.reduceEqDiff, ↓reduceIte, reduceCtorEq]
  have ex : x = Er ps ss a b := by rw [Bool.eq_iff_iff, oa]; exact hx
  rw [ex]
  exact FE (by decide) (hU.low (by simp [fZ]) (by simp [fZ])) ⟨rfl, rfl⟩ rfl rfl ⟨by rw [h0]; rfl, rfl⟩
 ·rw [if_neg h0]
  simp +contextual only [h0, sZ, Nat.reduceEqDiff, ↓reduceIte, reduceCtorEq]
  exact FE (by decide) List.take_length ⟨rfl, rfl⟩ rfl rfl ⟨rfl, rfl⟩
theorem c22 (s : Sg) (ps ss : List Int) (a b : T) : Pure Tryz.prog 22 [s.av, eG ps ss, a.av, b.av] (.tuple [.bool (if fO s ps ss [a, b] = 0 then Wm ps ss a b else false), .int .i64 (fO s ps ss [a, b])]) := by
 refine fun H => k22.2.calls rfl ?_
 simp only [k22, aI]
 obtain ⟨q1, q2, q3, q4, q5, q6⟩ := bi ps ss
 simp +contextual only [aC, q1, q4, cB, sZ, Nat.reduceEqDiff, Nat.reduceAdd, ↓reduceIte, reduceCtorEq]
 refine ae (Wl s ps ss [a, b]) ?_
 by_cases h0 : fO s ps ss [a, b] = 0
 ·rw [if_pos h0]
  have hr := qE h0
  have hw := lW hr.tree
  have hc := hr.cx (by simp) (by simp) H.length
  have hd := yh ps ss (ts := [a, b]) (by simp) H
  simp +contextual only [q4, cB, h0, sZ, Nat.reduceEqDiff, Nat.reduceAdd, ↓reduceIte]
  refine af (VX ps ss [a, b] H (by simp at hw; omega)) ?_
  rintro r G ⟨rfl, rfl⟩
  have a0 := sR (ps := ps) (ss := ss) (ts := [a, b]) (n := H.length) (j := 0) (by simp)
  have a1 := sR (ps := ps) (ss := ss) (ts := [a, b]) (n := H.length) (j := 1) (by simp)
  have hl := ct [a, b] 0
  rw [NS]
  generalize aU [a, b] 0 = ks at a0 a1 hl ⊢
  have nI : ks.length = 2 := hl
  simp +contextual only [cv, nI, dy, sZ, Nat.reduceEqDiff, Nat.reduceAdd, Nat.reduceLT, ↓reduceIte, reduceCtorEq]
  refine ⟨by decide, by decide, af (jG hc a0.1 a1.1 _ hd) ?_⟩
  rintro r G ⟨x, rfl, hx, hU, hD⟩
  rw [a0.2, a1.2] at hx
  simp +contextual only [sZ, Nat.reduceEqDiff, ↓reduceIte, reduceCtorEq]
  have ex : x = Wm ps ss a b := by rw [Bool.eq_iff_iff, FD]; exact hx
  rw [ex]
  exact FE (by decide) (hU.low (by simp [fZ]) (by simp [fZ])) ⟨rfl, rfl⟩ rfl rfl ⟨by rw [h0]; rfl, rfl⟩
 ·rw [if_neg h0]
  simp +contextual only [h0, sZ, Nat.reduceEqDiff, ↓reduceIte, reduceCtorEq]
  exact FE (by decide) List.take_length ⟨rfl, rfl⟩ rfl rfl ⟨rfl, rfl⟩
end Go.aK
end
section
set_option maxRecDepth 100000
set_option maxHeartbeats 0
namespace Go.aK
open Go Go.Proofs
noncomputable def Pn := aI Tryz.call163 Tryz.func163 Tryz.ntmps163 [(0,0,1),(0,1,1),(1,4,1),(1,5,1),(4,2,1000),(5,0,1),(5,7,1),(8,6,2000)] [(0,[2,3]),(1,[2,3,5]),(2,[2,5,16,17,18]),(3,[2,5,16,17,18,19]),(4,[2,5,7,16,17,18]),(5,[2,5,16,17,18]),(6,[2,5,16,17,18]),(7,[8,9]),(8,[4])] [(8,(.take 0 true (.take 1 true (.take 2 true (.take 3 true (.take 4 true (.take 5 true (.br 6 (.take 7 true .done) .nil))))))))]
end Go.aK
end
section
set_option maxRecDepth 100000
namespace Go.aK
open Go Go.Proofs Go.fD
structure Cn where
 a : T
 b : T
deriving Inhabited
def Cn.av (c : Cn) : AV := .agg [.int .i64 c.a.k, .int .i64 c.a.n, .ap 0 (bU c.a.l), .int .i64 c.b.k, .int .i64 c.b.n, .ap 0 (bU c.b.l)]
def wX (l : List Cn) : List AV := l.map Cn.av
structure mB where
 vs : List Int
 cs : List Cn
 a : T
 b : T
deriving Inhabited
def mB.av (e : mB) : AV := .agg [.ap 0 (ints e.vs), .ap 0 (wX e.cs), .int .i64 e.a.k, .int .i64 e.a.n, .ap 0 (bU e.a.l), .int .i64 e.b.k, .int .i64 e.b.n, .ap 0 (bU e.b.l)]
def mB.rest (e : mB) : List T := e.b :: e.cs.flatMap fun c => [c.a, c.b]
theorem Ct (l : List Cn) : (wX l).length = l.length := by simp [wX]
theorem Ke (n : Nat) (l : List Cn) : aj n (wX l) = true := by
 rw [a9]; intro x hx; obtain ⟨y, _, rfl⟩ := List.mem_map.1 hx
 simp [Cn.av, AV.a7, aj, dK]
theorem mB.facts (e : mB) : e.av.val = true ∧ e.av.cells.length = 8 ∧ e.av.cells.all AV.one = true ∧ e.av.ab = e.av ∧ e.av.drop = e.av ∧ ∀ n, e.av.a7 n = true :=
 ⟨rfl, rfl, rfl, rfl, rfl, fun n => by simp [mB.av, AV.a7, aj, dK, bk, Ke]⟩
theorem Cn.facts (e : Cn) : e.av.val = true ∧ e.av.cells.length = 6 ∧ e.av.cells.all AV.one = true ∧ e.av.ab = e.av ∧ e.av.drop = e.av ∧ ∀ n, e.av.a7 n = true :=
 ⟨rfl, rfl, rfl, rfl, rfl, fun n => by simp [Cn.av, AV.a7, aj, dK]⟩
theorem T.Ac (t : T) : AV.agg [.int .i64 t.k, .int .i64 t.n, .ap 0 (bU t.l)] = t.av := by cases t; rfl
theorem feA (e : mB) (φ : AV → Prop) : ak 2 (some 3) (.ai e.av) φ = φ (.ai e.a.av) := by simp [ak, apart, mB.av, AV.cells, ← T.Ac]
theorem feB (e : mB) (φ : AV → Prop) : ak 5 (some 3) (.ai e.av) φ = φ (.ai e.b.av) := by simp [ak, apart, mB.av, AV.cells, ← T.Ac]
theorem feC (e : mB) (φ : AV → Prop) : ak 1 none (.ai e.av) φ = φ (.ai (.ap 0 (wX e.cs))) := by simp [ak, apart, mB.av, AV.cells, AV.one]
theorem fcA (e : Cn) (φ : AV → Prop) : ak 0 (some 3) (.ai e.av) φ = φ (.ai e.a.av) := by simp [ak, apart, Cn.av, AV.cells, ← T.Ac]
theorem fcB (e : Cn) (φ : AV → Prop) : ak 3 (some 3) (.ai e.av) φ = φ (.ai e.b.av) := by simp [ak, apart, Cn.av, AV.cells, ← T.Ac]
theorem NT (o : Nat) (l : List Cn) : (∀ (own : Nat) (xs : List AV), AV.ap o (wX l) = AV.ap own xs → ∀ z ∈ xs, z.cells.length = 6) = True := by
 simp only [eq_iff_iff, iff_true]
 intro own xs e z hz
 cases e
 obtain ⟨y, _, rfl⟩ := List.mem_map.1 hz; rfl
theorem Sw (e o : Nat) (l : List Cn) (k : IntKind) (i : Nat) (φ : AV → Prop) : ay e (.ap o (wX l)) (.int k (i : Int)) φ = (i < l.length ∧ φ (.ai (l.getD i default).av)) := by
 simp only [ay, Ct, Int.toNat_natCast, eq_iff_iff]
 constructor
 ·rintro ⟨_, h, h2⟩; refine ⟨h, ?_⟩; simpa [wX, h] using h2
 ·rintro ⟨h, h2⟩; refine ⟨by omega, h, ?_⟩; simpa [wX, h] using h2
theorem Wn (e : Cn) (H : List aa) (φ : AV → Prop) : aS (some 6) (.ai e.av) H φ = φ e.av := by simp [aS, Cn.av, AV.cells]
def NU (ps ss : List Int) (e : mB) : Prop := ∀ y ∈ e.rest, R (ja ps ss) e.a y
def tn (l : List Cn) : List T := l.flatMap fun c => [c.a, c.b]
theorem Kf {l : List Cn} {i : Nat} (h : i < l.length) : tn (l.take (i + 1)) = tn (l.take i) ++ [(l.getD i default).a, (l.getD i default).b] := by
 have e : l.getD i default = l[i] := by simp [h]
 rw [List.take_succ_eq_append_getElem h, e]
 unfold tn
 rw [List.flatMap_append]
 rfl
theorem Ad (l : List Cn) : (tn l).length = 2 * l.length := by
 induction l with
 | nil => rfl
 | cons x r ih => simp only [tn, List.flatMap_cons, List.length_append, List.length_cons, List.length_nil] at ih ⊢; omega
theorem NV (a b : List T) : bU (a ++ b) = bU a ++ bU b := by
 induction a with
 | nil => rfl
 | cons x r ih => rw [List.cons_append, bU, bU, ih]; rfl
theorem Wo (x : Int) (r : List Int) (φ : AV → Prop) : bn 1 (.ap 0 (ints (x :: r))) (some (.int .i64 1)) none none φ = φ (.ap 0 (ints r)) := by
 have er : dz (AV.ap 0 (ints (x :: r))) = some (ints (x :: r)) := rfl
 have e1 : (1 : Int).toNat = 1 := rfl
 have e2 : ((ints (x :: r)).take (ints (x :: r)).length).drop 1 = ints r := by rw [List.take_length]; rfl
 simp only [bn, eM, er, dH, e1, e2, eq_iff_iff]
 constructor
 ·intro h; exact h.2.2.2.2
 ·intro h
  refine ⟨fun own xs he z hz => ?_, by omega, by simp [aw], Nat.le_refl _, h⟩
  cases he
  obtain ⟨y, _, rfl⟩ := List.mem_map.1 hz
  rfl
theorem ZK (ps ss : List Int) (e : mB) (hv : Va ps ss) (hlen : e.cs.length ≤ 1000) (ht : ∀ t ∈ e.a :: e.rest, t.tree = true) (cI : ∀ t ∈ e.a :: e.rest, yc (fun n => 0 ≤ n ∧ n < ps.length) t) (H : List aa) :
 aq Tryz.prog 163 [eG ps ss, e.av] H fun r H' => (∃ b : Bool, r = .bool b ∧ (b = true ↔ NU ps ss e)) ∧ H' = H := by
 refine Pn.2.calls rfl ?_
 simp only [Pn, aI]
 obtain ⟨q1, q2, q3, q4, q5, q6⟩ := bi ps ss
 obtain ⟨e1, e2, e3, e4, e5, e6⟩ := mB.facts e
 have cf := Cn.facts
 simp +contextual only [q1, e1, feA, feB, feC, Ct, sZ, Nat.reduceEqDiff, Nat.reduceAdd, ↓reduceIte, reduceCtorEq]
 intro _
 have rest : e.rest = e.b :: tn e.cs := rfl
 refine aB e.cs.length (fun i => True) (fun i => [(2, .ai (eG ps ss)), (5, .ap 3 (bU (e.a :: e.b :: tn (e.cs.take i)))), (16, .ap 0 (wX e.cs)), (17, .int .i64 e.cs.length), (18, .int .i64 i)]) (fun _ => H) ⟨trivial, aA _ _ _⟩ fun i hi _ => ?_
 by_cases Aw : (i : Int) < e.cs.length
 ·have aX : i < e.cs.length := by omega
  obtain ⟨f1, f2, f3, f4, f5, f6⟩ := cf (e.cs.getD i default)
  have hl : (tn (e.cs.take i)).length ≤ 2000 := by rw [Ad]; simp; omega
  have hal := qm (e.a :: e.b :: tn (e.cs.take i))
  have jL : s5 3 [(e.cs.getD i default).a.av, (e.cs.getD i default).b.av] := of_eq_true (R5 [_, _])
  simp +contextual only [Aw, decide_true, NT, Sw, Wn, f1, f2, f3, fcA, fcB, sZ, Nat.reduceEqDiff, Nat.reduceAdd, ↓reduceIte]
  have e7 : bU (e.a :: e.b :: tn (e.cs.take i)) ++ [(e.cs.getD i default).a.av, (e.cs.getD i default).b.av] = bU (e.a :: e.b :: tn (e.cs.take (i + 1))) := by
   rw [Kf aX, ← List.cons_append, ← List.cons_append, NV]; rfl
  exact ⟨aX, by omega, jL, i + 1, aX, by omega, aF (by rw [au i (by omega), e7]) rfl⟩
 ·have Ie : i = e.cs.length := by omega
  subst Ie
  rw [List.take_length]
  have dG : e.a :: e.b :: tn e.cs ≠ [] := by simp
  have hl : (e.a :: e.b :: tn e.cs).length ≤ 10000 := by simp [Ad]; omega
  have hw := lW (l := e.a :: e.b :: tn e.cs) ht
  have hc := Pl hv dG (by omega) cI H.length
  have hd := yh ps ss dG H
  simp +contextual only [Aw, decide_false, cB, q4, sZ, Nat.reduceEqDiff, Nat.reduceAdd, ↓reduceIte]
  refine af (VX ps ss (e.a :: e.b :: tn e.cs) H (by omega)) ?_
  rintro r G ⟨rfl, rfl⟩
  have hk := (NP (e.a :: e.b :: tn e.cs)).kids
  have ek : aU (e.a :: e.b :: tn e.cs) 0 = 0 :: aU (e.b :: tn e.cs) (0 + wt e.a) := by rw [aU]; rfl
  have EP := ct (e.b :: tn e.cs) (0 + wt e.a)
  rw [ek] at hk ⊢
  generalize aU (e.b :: tn e.cs) (0 + wt e.a) = tl at hk EP ⊢
  obtain ⟨Ph, HO⟩ := hk
  simp only [List.map_cons, List.cons.injEq] at Ph
  obtain ⟨ha, hb⟩ := Ph
  have e0 : ([(0 : Int)] ++ tl).getD 0 0 = 0 := rfl
  have XQ : ∀ φ : AV → Prop, ay 1 (.ap 0 (ints (0 :: tl))) (.int .i64 0) φ = φ (.ai (.int .i64 0)) := fun φ => by
   have := cv 1 0 (0 :: tl) .i64 0 φ
   rw [this]
   simp
  simp +contextual only [bo, XQ, dy, Option.map_some, Option.map_none, Wo, sZ, Nat.reduceEqDiff, Nat.reduceAdd, Nat.reduceLT, ↓reduceIte, reduceCtorEq]
  have itl : IL (.ap 0 (ints tl)) tl := .inr rfl
  refine af (Se (c := fZ ps ss (e.a :: e.b :: tn e.cs) H.length) (i := 0) itl (by rw [EP]; simp [Ad]; omega) (fun x hx => jH hc (HO 0 List.mem_cons_self) (HO x (List.mem_cons_of_mem _ hx))) hd) ?_
  rintro r G ⟨b, rfl, hbb, hU, hD⟩
  simp +contextual only [sZ, ↓reduceIte, reduceCtorEq]
  refine aQ H.length (Nat.le_refl _) (by rw [ax, if_pos rfl]; rfl) ?_
  rw [ax, if_pos rfl]
  refine ⟨⟨b, rfl, ?_⟩, hU.low (by simp [fZ]) (by simp [fZ])⟩
  rw [hbb, NU, rest]
  have ha' : (fZ ps ss (e.a :: e.b :: tn e.cs) H.length).tm 0 = e.a := ha
  have dV : tl.map (fZ ps ss (e.a :: e.b :: tn e.cs) H.length).tm = e.b :: tn e.cs := hb
  rw [ha']
  generalize (fZ ps ss (e.a :: e.b :: tn e.cs) H.length).tm = f at dV
  rw [← dV]
  constructor
  ·intro h y hy
   obtain ⟨x, hx, rfl⟩ := List.mem_map.1 hy
   exact h x hx
  ·intro h x hx
   exact h _ (List.mem_map.2 ⟨x, hx, rfl⟩)
end Go.aK
end
section
namespace Go.fD
open Go.aK
inductive PP where
 | mk (r i : Int) (to : List Int) (l : List PP)
 deriving Inhabited
def PP.r : PP → Int | .mk r _ _ _ => r
def PP.i : PP → Int | .mk _ i _ _ => i
def PP.to : PP → List Int | .mk _ _ to _ => to
def PP.l : PP → List PP | .mk _ _ _ l => l
mutual
def pz : PP → Nat
 | .mk _ _ _ l => Wp l + 1
def Wp : List PP → Nat
 | [] => 0
 | x :: r => pz x + Wp r
end
theorem FF {x : PP} : ∀ {l : List PP}, x ∈ l → pz x ≤ Wp l
 | y :: r, h => by
   rw [Wp]
   rcases List.mem_cons.1 h with rfl | h
   ·omega
   ·have := FF h; omega
theorem Ae (p : PP) : 0 < pz p := by cases p; rw [pz]; omega
theorem Af {p x : PP} (h : x ∈ p.l) : pz x < pz p := by
 obtain ⟨r, i, to, l⟩ := p
 have : pz x ≤ Wp l := FF h
 rw [pz]; omega
theorem dS {l : List PP} {i : Nat} (h : i < l.length) : l.getD i default ∈ l := by
 rw [List.getD_eq_getElem?_getD, List.getElem?_eq_getElem h]; exact List.getElem_mem h
theorem HB {l : List T} {i : Nat} (h : i < l.length) : l.getD i default ∈ l := by
 rw [List.getD_eq_getElem?_getD, List.getElem?_eq_getElem h]; exact List.getElem_mem h
def PP.nil (q : PP) : Prop := q.r = 0 ∧ q.i = 0 ∧ q.to = [] ∧ q.l = []
instance (q : PP) : Decidable q.nil := by
 unfold PP.nil
 have : Decidable (q.l = []) := by cases q.l with
  | nil => exact isTrue rfl
  | cons a b => exact isFalse (by simp)
 exact inferInstance
def dj (to : List Int) (x : Int) : Nat → Nat
 | 0 => 0
 | n + 1 => dj to x n + if to.getD n 0 = x then 1 else 0
def dd (to : List Int) (l : List PP) (x : Int) : Nat → Nat
 | 0 => 0
 | n + 1 => dd to l x n + if to.getD n 0 = x ∧ (l.getD n default).nil then 1 else 0
theorem yk {to : List Int} {x : Int} {j : Nat} : ∀ {n : Nat}, j < n → to.getD j 0 = x → 1 ≤ dj to x n
 | n + 1, h, e => by
   rw [dj]
   by_cases hj : j = n
   ·subst hj; rw [if_pos e]; omega
   ·have := yk (n := n) (by omega) e; omega
theorem rS {to : List Int} {x : Int} {j j' : Nat} (hj : j < j') (e : to.getD j 0 = x) (e' : to.getD j' 0 = x) : ∀ {n : Nat}, j' < n → 2 ≤ dj to x n
 | n + 1, h => by
   rw [dj]
   by_cases hn : j' = n
   ·subst hn; rw [if_pos e']; have := yk hj e; omega
   ·have := rS hj e e' (n := n) (by omega); omega
theorem yl {to : List Int} {x : Int} {j j' n : Nat} (h : dj to x n ≤ 1) (hj : j < n) (tO : j' < n) (e : to.getD j 0 = x) (e' : to.getD j' 0 = x) : j = j' := by
 rcases Nat.lt_trichotomy j j' with h1 | h1 | h1
 ·have := rS h1 e e' tO; omega
 ·exact h1
 ·have := rS h1 e' e hj; omega
theorem gV {to : List Int} {l : List PP} {x : Int} : ∀ {n : Nat}, 0 < dd to l x n ↔ ∃ j, j < n ∧ to.getD j 0 = x ∧ (l.getD j default).nil
 | 0 => by simp [dd]
 | n + 1 => by
   rw [dd]
   have ih := gV (to := to) (l := l) (x := x) (n := n)
   by_cases h : to.getD n 0 = x ∧ (l.getD n default).nil
   ·rw [if_pos h]
    exact ⟨fun _ => ⟨n, by omega, h⟩, fun _ => by omega⟩
   ·rw [if_neg h, Nat.add_zero, ih]
    constructor
    ·rintro ⟨j, h1, h2⟩; exact ⟨j, by omega, h2⟩
    ·rintro ⟨j, h1, h2⟩
     have : j ≠ n := fun e => h (e ▸ h2)
     exact ⟨j, by omega, h2⟩
theorem nw {to : List Int} {l : List PP} {x : Int} : ∀ n, dd to l x n ≤ dj to x n
 | 0 => Nat.le_refl _
 | n + 1 => by
   rw [dd, dj]
   have := nw (to := to) (l := l) (x := x) n
   by_cases h : to.getD n 0 = x ∧ (l.getD n default).nil
   ·rw [if_pos h, if_pos h.1]; omega
   ·rw [if_neg h]; omega
def kU (S : PP → T → T → Prop) (l : List PP) (a : T) (bs : List T) : Prop := l.length = bs.length ∧ ∀ j, j < bs.length → S (l.getD j default) a (bs.getD j default)
def Po (Q : T → T → Prop) (S : PP → T → T → Prop) (to : List Int) (l : List PP) (az bs : List T) : Prop :=
 to.length = bs.length ∧ l.length = bs.length ∧
 (∀ j, j < bs.length → (0 ≤ to.getD j 0 ∧ to.getD j 0 < az.length) ∧
   (if (l.getD j default).nil then Q (az.getD (to.getD j 0).toNat default) (bs.getD j default) else S (l.getD j default) (az.getD (to.getD j 0).toNat default) (bs.getD j default))) ∧
 (∀ x : Nat, x < az.length → 0 < dd to l x bs.length → dj to x bs.length ≤ 1) ∧ ∃ x : Nat, x < az.length ∧ dd to l x bs.length = 0
def Cu (Q : T → T → Prop) (S : PP → T → T → Prop) (i : Int) (l : List PP) (a : T) (az bs : List T) (bl : List T) : Prop :=
 (0 ≤ i ∧ i < az.length ∧ i ≤ bs.length) ∧ (∀ j, j < i.toNat → Q (az.getD j default) (bs.getD j default)) ∧
 (if i = bs.length then kU S l a bl else ∃ q r, l = q :: r ∧ S q (az.getD i.toNat default) (bs.getD i.toNat default) ∧ kU S r a bl)
def Fs (O : Od) (S : PP → T → T → Prop) (p : PP) (a b : T) : Prop :=
 a.k = 2 ∧ (
  (p.r = 1 ∧ p.to = [] ∧ (0 ≤ p.i ∧ p.i < a.l.length) ∧ ((p.l = [] ∧ E O (a.l.getD p.i.toNat default) b) ∨ ∃ q, p.l = [q] ∧ S q (a.l.getD p.i.toNat default) b)) ∨
  (p.r = 2 ∧ p.to = [] ∧ p.i = 0 ∧ b.k = 2 ∧ O.pl b.n < O.pl a.n ∧ kU S p.l a b.l) ∨
  (p.r = 3 ∧ p.to = [] ∧ b.k = 2 ∧ O.pl a.n = O.pl b.n ∧ O.sp (O.pl a.n) ≠ 3 ∧ Cu (E O) S p.i p.l a (side (O.sp (O.pl a.n)) a.l) (side (O.sp (O.pl a.n)) b.l) b.l) ∨
  (p.r = 4 ∧ p.i = 0 ∧ b.k = 2 ∧ O.pl a.n = O.pl b.n ∧ O.sp (O.pl a.n) = 3 ∧ Po (E O) S p.to p.l a.l b.l))
theorem lX {S S' : PP → T → T → Prop} {l : List PP} {a : T} {bs : List T} (h : ∀ q ∈ l, ∀ a b, S q a b ↔ S' q a b) : kU S l a bs ↔ kU S' l a bs := by
 refine and_congr_right fun hl => ?_
 constructor
 ·exact fun k j hj => (h _ (dS (by omega)) _ _).1 (k j hj)
 ·exact fun k j hj => (h _ (dS (by omega)) _ _).2 (k j hj)
theorem HC {Q : T → T → Prop} {S S' : PP → T → T → Prop} {to : List Int} {l : List PP} {az bs : List T} (h : ∀ q ∈ l, ∀ a b, S q a b ↔ S' q a b) : Po Q S to l az bs ↔ Po Q S' to l az bs := by
 refine and_congr_right fun _ => and_congr_right fun hl => and_congr_left fun _ => ?_
 constructor
 ·intro k j hj
  refine ⟨(k j hj).1, ?_⟩
  have := (k j hj).2
  split at this
  ·rename_i e; rw [if_pos e]; exact this
  ·rename_i e; rw [if_neg e]; exact (h _ (dS (by omega)) _ _).1 this
 ·intro k j hj
  refine ⟨(k j hj).1, ?_⟩
  have := (k j hj).2
  split at this
  ·rename_i e; rw [if_pos e]; exact this
  ·rename_i e; rw [if_neg e]; exact (h _ (dS (by omega)) _ _).2 this
theorem Es {Q : T → T → Prop} {S S' : PP → T → T → Prop} {i : Int} {l : List PP} {a : T} {az bs bl : List T} (h : ∀ q ∈ l, ∀ a b, S q a b ↔ S' q a b) : Cu Q S i l a az bs bl ↔ Cu Q S' i l a az bs bl := by
 refine and_congr_right fun _ => and_congr_right fun _ => ?_
 split
 ·exact lX h
 ·constructor
  ·rintro ⟨q, r, rfl, h1, h2⟩
   exact ⟨q, r, rfl, (h q List.mem_cons_self _ _).1 h1, (lX fun x hx => h x (List.mem_cons_of_mem _ hx)).1 h2⟩
  ·rintro ⟨q, r, rfl, h1, h2⟩
   exact ⟨q, r, rfl, (h q List.mem_cons_self _ _).2 h1, (lX fun x hx => h x (List.mem_cons_of_mem _ hx)).2 h2⟩
theorem Cv {O : Od} {S S' : PP → T → T → Prop} {p : PP} {a b : T} (h : ∀ q ∈ p.l, ∀ a b, S q a b ↔ S' q a b) : Fs O S p a b ↔ Fs O S' p a b := by
 refine and_congr_right fun _ => or_congr ?_ (or_congr ?_ (or_congr ?_ ?_))
 ·refine and_congr_right fun _ => and_congr_right fun _ => and_congr_right fun _ => or_congr Iff.rfl ?_
  constructor
  ·rintro ⟨q, e, k⟩; exact ⟨q, e, (h q (by rw [e]; simp) _ _).1 k⟩
  ·rintro ⟨q, e, k⟩; exact ⟨q, e, (h q (by rw [e]; simp) _ _).2 k⟩
 ·rw [lX h]
 ·rw [Es h]
 ·rw [HC h]
def Pp (O : Od) : Nat → PP → T → T → Prop
 | 0 => fun _ _ _ => False
 | f + 1 => Fs O (Pp O f)
def Sh (O : Od) (p : PP) (a b : T) : Prop := Pp O (pz p) p a b
theorem pg (O : Od) : ∀ (f g : Nat) (p : PP) (a b : T), pz p ≤ f → pz p ≤ g → (Pp O f p a b ↔ Pp O g p a b)
 | 0, _, p, a, b, h, _ => by have := Ae p; omega
 | _ + 1, 0, p, a, b, _, h => by have := Ae p; omega
 | f + 1, g + 1, p, a, b, h1, h2 => by
   simp only [Pp]
   refine Cv fun q hq a b => ?_
   have := Af hq
   exact pg O f g q a b (by omega) (by omega)
theorem ph {O : Od} {p : PP} {a b : T} : Sh O p a b ↔ Fs O (Sh O) p a b := by
 have e : Pp O (pz p) p a b ↔ Pp O (pz p + 1) p a b := pg O _ _ p a b (by omega) (by omega)
 unfold Sh
 rw [e]
 show Fs O (Pp O (pz p)) p a b ↔ _
 refine Cv fun q hq a b => ?_
 have := Af hq
 exact pg O _ _ q a b (by omega) (by omega)
theorem Pq {G : T → T → Prop} : ∀ (n : Nat) {l m : List T}, n < l.length → n ≤ m.length → (∀ j, j < n → l.getD j default = m.getD j default) → (n = m.length ∨ G (l.getD n default) (m.getD n default)) → Lx G l m
 | 0, x :: l, [], _, _, _, _ => trivial
 | 0, x :: l, y :: m, _, _, _, h => .inr (by simpa using h)
 | n + 1, x :: l, [], _, h, _, _ => by simp at h
 | n + 1, x :: l, y :: m, h1, h2, h3, h4 => by
   refine .inl ⟨h3 0 (by omega), Pq n (by simpa using h1) (by simpa using h2) (fun j hj => h3 (j + 1) (by omega)) ?_⟩
   simpa using h4
theorem Et {β : Type} (f : T → β) (a : List T) : a.map f = (List.range a.length).map fun i => f (a.getD i default) := by
 apply List.ext_getElem
 ·simp
 ·intro i h1 h2
  have : i < a.length := by simpa using h1
  simp [this]
theorem ym {β : Type} (f : T → β) (a : List T) (p : Nat → Bool) : (a.map f).Perm (((List.range a.length).filter p).map (fun i => f (a.getD i default)) ++ ((List.range a.length).filter fun i => !p i).map fun i => f (a.getD i default)) := by
 rw [Et, ← List.map_append]
 exact (List.filter_append_perm p (List.range a.length)).symm.map _
theorem oL (n : Nat) (p : Nat → Bool) : ((List.range n).filter p).Nodup := List.Pairwise.filter p List.nodup_range
theorem Sx {O : Od} {S : PP → T → T → Prop} {to : List Int} {l : List PP} {az bs : List T} (h : Po (E O) S to l az bs) (hS : ∀ q ∈ l, ∀ a b, S q a b → R O a b) : Mu (Gt O.sp) (az.map (norm O)) (bs.map (norm O)) := by
 obtain ⟨h1, h2, h3, h4, x0, Ik, h5⟩ := h
 let n := bs.length
 let U : Nat → Bool := fun i => decide (dd to l i n = 0)
 let Z : Nat → Bool := fun j => !decide (l.getD j default).nil
 have pu := ym (norm O) az U
 have pz := ym (norm O) bs Z
 refine VS (X := ((List.range az.length).filter U).map fun i => norm O (az.getD i default)) (Y := ((List.range bs.length).filter Z).map fun i => norm O (bs.getD i default)) (C := ((List.range bs.length).filter fun i => !Z i).map fun i => norm O (bs.getD i default)) ?_ pz ?_ ?_
 ·refine pu.trans (List.Perm.append_left _ ?_)
  have hp : (((List.range bs.length).filter fun j => !Z j).map fun j => (to.getD j 0).toNat).Perm ((List.range az.length).filter fun i => !U i) := by
   rw [List.perm_ext_iff_of_nodup]
   ·intro i
    simp only [Z, U, n, List.mem_map, List.mem_filter, List.mem_range, Bool.not_not, Bool.not_eq_true', decide_eq_true_eq, decide_eq_false_iff_not]
    constructor
    ·rintro ⟨j, ⟨hj, hn⟩, rfl⟩
     have := (h3 j hj).1
     refine ⟨by omega, ?_⟩
     have : 0 < dd to l ((to.getD j 0).toNat : Int) bs.length := gV.2 ⟨j, hj, by omega, hn⟩
     omega
    ·rintro ⟨hi, hu⟩
     obtain ⟨j, k1, k2, k3⟩ := gV.1 (show 0 < dd to l (i : Int) bs.length by omega)
     exact ⟨j, ⟨k1, k3⟩, by omega⟩
   ·rw [List.Nodup, List.pairwise_map]
    refine List.Pairwise.imp_of_mem ?_ (oL _ _)
    intro j j' hj tO dG he
    simp only [Z, List.mem_filter, List.mem_range, Bool.not_not, decide_eq_true_eq] at hj tO
    have b1 := (h3 j hj.1).1
    have b2 := (h3 j' tO.1).1
    have e1 : to.getD j 0 = (((to.getD j 0).toNat : Nat) : Int) := by omega
    have e2 : to.getD j' 0 = (((to.getD j 0).toNat : Nat) : Int) := by omega
    have hp : 0 < dd to l (((to.getD j 0).toNat : Nat) : Int) bs.length := gV.2 ⟨j, hj.1, e1, hj.2⟩
    exact dG (yl (h4 _ (by omega) hp) hj.1 tO.1 e1 e2)
   ·exact oL _ _
  refine (hp.map fun i => norm O (az.getD i default)).symm.trans ?_
  rw [List.map_map]
  refine List.Perm.of_eq (List.map_congr_left fun j hj => ?_)
  simp only [Z, List.mem_filter, List.mem_range, Bool.not_not, decide_eq_true_eq] at hj
  have := (h3 j hj.1).2
  rw [if_pos hj.2] at this
  exact this
 ·intro e
  have : norm O (az.getD x0 default) ∈ ((List.range az.length).filter U).map fun i => norm O (az.getD i default) :=
   List.mem_map.2 ⟨x0, List.mem_filter.2 ⟨List.mem_range.2 Ik, by simp [U, n, h5]⟩, rfl⟩
  rw [e] at this
  cases this
 ·intro y hy
  obtain ⟨j, hj, rfl⟩ := List.mem_map.1 hy
  simp only [Z, List.mem_filter, List.mem_range, Bool.not_eq_true', decide_eq_false_iff_not] at hj
  obtain ⟨hj, hn⟩ := hj
  have b1 := h3 j hj
  rw [if_neg hn] at b1
  refine ⟨norm O (az.getD (to.getD j 0).toNat default), List.mem_map.2 ⟨(to.getD j 0).toNat, List.mem_filter.2 ⟨List.mem_range.2 (by omega), ?_⟩, rfl⟩, hS _ (dS (by omega)) _ _ b1.2⟩
  simp only [U, n, decide_eq_true_eq]
  by_cases hp : 0 < dd to l ((to.getD j 0).toNat : Int) bs.length
  ·have ht := h4 _ (by omega) hp
   obtain ⟨j', k1, k2, k3⟩ := gV.1 hp
   have := yl ht hj k1 (by omega) k2
   exact absurd (this ▸ k3) hn
  ·omega
theorem oc {f : T → T} {l : List T} {i : Nat} (h : i < l.length) : (l.map f).getD i default = f (l.getD i default) := by
 simp [h]
theorem ZL {O : Od} : ∀ (N : Nat) {p : PP} {a b : T}, pz p ≤ N → Sh O p a b → R O a b := by
 intro N
 induction N with
 | zero => intro p a b h; have := Ae p; omega
 | succ N ih =>
 intro p a b hN h
 have hm : ∀ q ∈ p.l, ∀ a b, Sh O q a b → R O a b := fun q hq a b hs => ih (by have := Af hq; omega) hs
 have jn : ∀ {l : List PP} {bs : List T}, (∀ q ∈ l, q ∈ p.l) → kU (Sh O) l a bs → ∀ y ∈ bs, R O a y := by
  intro l bs hq hl y hy
  obtain ⟨j, hj, rfl⟩ := List.mem_iff_getElem.1 hy
  have := hl.2 j hj
  have e : bs.getD j default = bs[j] := by simp [hj]
  rw [e] at this
  exact hm _ (hq _ (dS (by have := hl.1; omega))) _ _ this
 obtain ⟨ha, h⟩ := ph.1 h
 rcases h with ⟨_, _, hi, h⟩ | ⟨_, _, _, hb, hp, h⟩ | ⟨_, _, hb, hp, hs, h1, h2, h3⟩ | ⟨_, _, hb, hp, hs, h⟩
 ·refine VU ha (HB (i := p.i.toNat) (by omega)) ?_
  rcases h with ⟨_, h⟩ | ⟨q, e, h⟩
  ·exact .inl h
  ·exact .inr (hm q (by rw [e]; simp) _ _ h)
 ·exact qt.2 ⟨ha, .inr ⟨hb, .inl ⟨hp, jn (fun _ h => h) h⟩⟩⟩
 ·refine qt.2 ⟨ha, .inr ⟨hb, .inr (.inl ⟨hp.symm, hs, ?_, ?_⟩)⟩⟩
  ·split at h3
   ·exact jn (fun _ h => h) h3
   ·obtain ⟨q, r, e, _, h3⟩ := h3
    exact jn (fun x hx => by rw [e]; exact List.mem_cons_of_mem _ hx) h3
  ·rw [Cd, Cd]
   have hla : p.i.toNat < (side (O.sp (O.pl a.n)) a.l).length := by omega
   refine Pq p.i.toNat (by simpa using hla) (by simp; omega) (fun j hj => ?_) ?_
   ·rw [oc (by omega), oc (by omega)]
    exact h2 j hj
   ·by_cases hi : p.i = (side (O.sp (O.pl a.n)) b.l).length
    ·left; simp; omega
    ·rw [if_neg hi] at h3
     obtain ⟨q, r, e, h3, _⟩ := h3
     right
     rw [oc (by omega), oc (by omega)]
     exact hm q (by rw [e]; simp) _ _ h3
 ·exact qt.2 ⟨ha, .inr ⟨hb, .inr (.inr ⟨hp.symm, hs, Sx h hm⟩)⟩⟩
theorem Sh.gt {O : Od} {p : PP} {a b : T} (h : Sh O p a b) : R O a b := ZL _ (Nat.le_refl _) h
end Go.fD
end
section
set_option maxRecDepth 100000
namespace Go.aK
open Go Go.Proofs Go.fD
mutual
def dU : PP → AV
 | .mk r i to l => .agg [.int .i64 r, .int .i64 i, .ap 0 (ints to), .ap 0 (dT l)]
def dT : List PP → List AV
 | [] => []
 | x :: r => dU x :: dT r
end
theorem nz (p : PP) : dU p = .agg [.int .i64 p.r, .int .i64 p.i, .ap 0 (ints p.to), .ap 0 (dT p.l)] := by cases p; rw [dU]; rfl
theorem kV : ∀ l, dT l = l.map dU
 | [] => rfl
 | x :: r => by simp [dT, kV r]
theorem ep (l : List PP) : (dT l).length = l.length := by simp [kV]
mutual
theorem fE (n : Nat) : ∀ p, (dU p).a7 n = true
 | .mk r i to l => by simp [dU, AV.a7, aj, bk, iz n l]
theorem iz (n : Nat) : ∀ l, aj n (dT l) = true
 | [] => rfl
 | x :: r => by simp [dT, aj, fE n x, iz n r]
end
theorem aW (p : PP) : (dU p).val = true ∧ (dU p).cells.length = 4 ∧ (dU p).cells.all AV.one = true ∧ (dU p).ab = dU p ∧ (dU p).drop = dU p ∧ (∀ n, (dU p).a7 n = true) ∧ AV.agg (dU p).cells = dU p ∧ (dU p).cells.map AV.drop = (dU p).cells ∧ (dU p).cells.map AV.ab = (dU p).cells := by
 refine ⟨?_, ?_, ?_, ?_, ?_, fun n => fE n p, ?_, ?_, ?_⟩ <;> (rw [nz]; rfl)
theorem Cw (p : PP) (φ : AV → Prop) : ak 0 none (.ai (dU p)) φ = φ (.ai (.int .i64 p.r)) := by rw [nz]; simp [ak, apart, AV.cells, AV.one]
theorem C2 (p : PP) (φ : AV → Prop) : ak 1 none (.ai (dU p)) φ = φ (.ai (.int .i64 p.i)) := by rw [nz]; simp [ak, apart, AV.cells, AV.one]
theorem NW (p : PP) (φ : AV → Prop) : ak 2 none (.ai (dU p)) φ = φ (.ai (.ap 0 (ints p.to))) := by rw [nz]; simp [ak, apart, AV.cells, AV.one]
theorem Kg (p : PP) (φ : AV → Prop) : ak 3 none (.ai (dU p)) φ = φ (.ai (.ap 0 (dT p.l))) := by rw [nz]; simp [ak, apart, AV.cells, AV.one]
theorem qF (o : Nat) (l : List PP) : (∀ (own : Nat) (xs : List AV), AV.ap o (dT l) = AV.ap own xs → ∀ z ∈ xs, z.cells.length = 4) = True := by
 simp only [eq_iff_iff, iff_true]
 intro own xs e z hz
 cases e
 rw [kV] at hz
 obtain ⟨y, _, rfl⟩ := List.mem_map.1 hz
 exact (aW y).2.1
theorem yn (l : List PP) (i : Nat) (h : i < l.length) : (dT l).getD i .any = dU (l.getD i default) := by
 simp [kV, h]
theorem Ag (e o : Nat) (l : List PP) (k : IntKind) (i : Int) (φ : AV → Prop) : ay e (.ap o (dT l)) (.int k i) φ = ((0 ≤ i ∧ i < l.length) ∧ φ (.ai (dU (l.getD i.toNat default)))) := by
 simp only [ay, ep, eq_iff_iff]
 constructor
 ·rintro ⟨h0, h, h2⟩; rw [yn _ _ h] at h2; exact ⟨by omega, h2⟩
 ·rintro ⟨⟨h0, h⟩, h2⟩
  have h : i.toNat < l.length := by omega
  rw [yn _ _ h]; exact ⟨h0, h, h2⟩
theorem qG (p : PP) (H : List aa) (φ : AV → Prop) : aS (some 4) (.ai (dU p)) H φ = φ (dU p) := by
 obtain ⟨_, h2, _, _, _, _, h7, _⟩ := aW p
 simp [aS, h2, h7]
theorem Sy (l : List PP) : s5 4 (dT l) = True := by
 simp only [eq_iff_iff, iff_true]
 intro z hz
 rw [kV] at hz
 obtain ⟨y, _, rfl⟩ := List.mem_map.1 hz
 obtain ⟨h1, h2, h3, h4, h5, _⟩ := aW y
 first | exact ⟨h1, h2, h3⟩ | exact ⟨h2, h1, h3⟩ | exact ⟨h1, h2⟩ | (constructor <;> first | assumption | simp [*])
def Ah (P : Px) (id : Nat) (xs : List AV) (H : List aa) (K : AV → List aa → Prop) : Prop := ∃ bO, xk xs bO ∧ lq P id bO H K
@[congr] theorem NX {P : Px} {id : Nat} {xs xs' : List AV} {H H' : List aa} {K : AV → List aa → Prop} (h : fY xs = xs') (h2 : H = H') : Ah P id xs H K = Ah P id xs' H' K := by subst h; subst h2; rfl
theorem FG {P : Px} {env : Env} {H : List aa} (id : Nat) (args : List IX) (pass : Option Nat) (K : AV → Env → List aa → Prop) : oz P (.mC id) args pass env H K = Ah P id (aH env pass 0 args) H (fun r H' => K r (cD env (bc args pass)) H') := _root_.id rfl
theorem Sz (id : Nat) : (AV.mC id).ab = .mC id := _root_.id rfl
theorem yo {P : Program} {id : Nat} {xs : List AV} {H : List aa} {R K : AV → List aa → Prop} (hc : jt P id xs H R) (hk : ∀ r H', R r H' → K r H') : Ah (P : Px) id xs H K := ⟨xs, b9 _, fa.mono hc hk⟩
theorem rT {P : Program} (g : FuncId) (first cap : List AV) (lc : ij) (env : Env) (H : List aa) (K : Option Code → List aa → Prop) {R : AV → List aa → Prop} (he : ∀ (vs : Array Value) (w : World), (callFunc g vs).run P w = .ok (.enter g vs) w)
 (hc : aq P g (first.map AV.ab ++ [.mC H.length] ++ cap.map AV.ab) (H ++ [.loop .ready lc (kg lc.n env)]) R) (hk : ∀ r H', R r H' → behind H.length H' K) : uZ (P : Px) (.fn (.func g) first cap) lc env H K :=
 ⟨he, _, b9 _, dY.of (hc.mono hk)⟩
theorem ZM (n : Nat) (hn : n < 4611686018427387904) (id : Nat) (G : Nat → List aa) (hl : ∀ j, (G j).length = (G 0).length) (hy : ∀ j, j < n → jt Tryz.prog id [.int .i64 (j : Int)] (G j) fun r H' => r = .bool true ∧ H' = G (j + 1)) :
 aq Tryz.prog 201 [.mC id, .ai (.int .i64 n)] (G 0) fun r H' => r = .tuple [] ∧ H' = G n := by
 refine UW.2.calls rfl ?_
 simp only [UW, aI]
 simp +contextual only [sZ, Nat.reduceEqDiff, Nat.reduceAdd, ↓reduceIte, reduceCtorEq]
 refine aB n (fun j => True) (fun j => [(0, .mC id), (1, .ai (.int .i64 n)), (3, .int .i64 j)]) G ⟨trivial, aA _ _ _⟩ fun j hj _ => ?_
 by_cases hjn : (j : Int) < n
 ·simp +contextual only [hjn, decide_true, FG, Sz, sZ, Nat.reduceEqDiff, Nat.reduceAdd, ↓reduceIte, reduceCtorEq]
  refine yo (hy j (by omega)) ?_
  rintro r H' ⟨rfl, rfl⟩
  simp +contextual only [sZ, Nat.reduceEqDiff, ↓reduceIte, reduceCtorEq]
  exact ⟨j + 1, by omega, by omega, aF (by rw [au j (by omega)]) rfl⟩
 ·have e : j = n := by omega
  subst e
  simp +contextual only [hjn, decide_false, sZ, Nat.reduceEqDiff, ↓reduceIte, reduceCtorEq]
  exact qi (hl j).symm rfl
end Go.aK
end
