/- Part 13 of 18 of the proof. -/
import Derived.Test.YtljchnfgjdjobaaGreatQal
import Derived.Test.YtljchnfgjdjobaaGreatQak
import Derived.Test.YtljchnfgjdjobaaGreatQai
import Derived.Test.YtljchnfgjdjobaaGreatQag
import Derived.KernelRfl
import Derived.Test.YtljchnfgjdjobaaGreatQac
set_option linter.unusedVariables false
set_option linter.unusedSimpArgs false
set_option linter.defProp false
set_option linter.unusedSectionVars false
section
set_option maxRecDepth 100000
namespace Go.aK
open Go Go.Proofs Go.fE
def dN : AV := .agg [.fq, .fn (.func 183) [] [], .fn (.func 184) [] [], .fn (.func 185) [] [], .fn (.func 186) [] []]
theorem Y8 (φ : AV → Prop) : cB [.fq, .fq, .fq, .fq, .fq] [(1, 1, .fn (.func 183) [] []), (2, 1, .fn (.func 184) [] []), (3, 1, .fn (.func 185) [] []), (4, 1, .fn (.func 186) [] [])] φ = φ dN := by
 simp only [cB, gG, eq_iff_iff]
 constructor
 ·rintro ⟨_, _, _, _, _, _, _, _, _, _, _, _, h⟩; exact h
 ·exact fun h => ⟨rfl, rfl, by decide, rfl, rfl, by decide, rfl, rfl, by decide, rfl, rfl, by decide, h⟩
theorem zY : dN.val = true ∧ dN.cells.length = 5 ∧ dN.cells.all AV.one = true ∧ (∀ n, aj n (dN.cells.map AV.ab) = true) ∧ ag [AV.fq, .fq, .fq, .fq, .fq] 0 (dN.cells.map AV.ab) = dN.cells := ⟨rfl, rfl, rfl, fun _ => rfl, rfl⟩
theorem JU : Pure Tryz.prog 136 [] dN := by
 refine fun H => Ud.2.calls rfl ?_
 simp only [Ud, aI]
 obtain ⟨r1, r2, r3, r4, r5⟩ := zY
 simp +contextual only [Y8, r1, r2, r3, r4, r5, sZ, Nat.reduceAdd, ↓reduceIte, reduceCtorEq]
 have e : db (some (aa.cells dN.cells)) (some 5) 0 = fun φ => (5 ≤ 5 ∧ φ dN) := rfl
 rw [e]
 exact ⟨Nat.le_refl _, OP (n0 := H.length) (by simp) rfl rfl ⟨rfl, rfl⟩⟩
theorem Tf (j : Nat) (f : AV) (h : dN.cells[j]? = some f) (hj : j < 5) (φ : AV → Prop) (hd : f.drop = f) : bQ 5 dN (.int .i64 (j : Int)) φ = φ f := by
 simp only [bQ, dN, Int.toNat_natCast, eq_iff_iff]
 have e : [AV.fq, .fn (.func 183) [] [], .fn (.func 184) [] [], .fn (.func 185) [] [], .fn (.func 186) [] []].getD j .any = f := by
  rw [List.getD_eq_getElem?_getD]; show (dN.cells[j]?).getD .any = f; rw [h]; rfl
 rw [e, hd]
 exact ⟨fun h => h.2.2.2, fun h => ⟨rfl, by omega, hj, h⟩⟩
def JV (c : Cx) (i k : Int) : Prop := ∃ x ∈ c.kd i, E c.O (c.tm x) (c.tm k) ∨ R c.O (c.tm x) (c.tm k)
def rO (c : Cx) (i k : Int) : Prop := qN c k = true ∧ pg c k < pg c i ∧ ∀ x ∈ c.kd k, R c.O (c.tm i) (c.tm x)
def gA (c : Cx) (i k : Int) (n : Nat) : Prop := (n = 1 ∧ JV c i k) ∨ (n = 2 ∧ rO c i k) ∨ (n = 3 ∧ zU c i k) ∨ (n = 4 ∧ wR c i k)
structure Fj (c : Cx) (i k : Int) : Prop where
 r1 : ∀ H, Du c H → aq Tryz.prog 183 [.ptr c.d 0, .int .i64 i, .int .i64 k] H (g9 c (JV c i k) H)
 r2 : ∀ H, Du c H → aq Tryz.prog 184 [.ptr c.d 0, .int .i64 i, .int .i64 k] H (g9 c (rO c i k) H)
 r3 : ∀ H, Du c H → aq Tryz.prog 185 [.ptr c.d 0, .int .i64 i, .int .i64 k] H (g9 c (zU c i k) H)
 r4 : ∀ H, Du c H → aq Tryz.prog 186 [.ptr c.d 0, .int .i64 i, .int .i64 k] H (g9 c (wR c i k) H)
theorem Fj.at {c : Cx} {i k : Int} (h : Fj c i k) {n : Nat} (h1 : 0 < n) (h2 : n < 5) {H : List aa} (hD : Du c H) : aq Tryz.prog (182 + n) [.ptr c.d 0, .int .i64 i, .int .i64 k] H (g9 c (gA c i k n) H) := by
 have : n = 1 ∨ n = 2 ∨ n = 3 ∨ n = 4 := by omega
 have key : ∀ {Q Q' : Prop} {f : Nat}, aq Tryz.prog f [.ptr c.d 0, .int .i64 i, .int .i64 k] H (g9 c Q H) → (Q ↔ Q') → aq Tryz.prog f [.ptr c.d 0, .int .i64 i, .int .i64 k] H (g9 c Q' H) := by
  intro Q Q' f h e
  refine h.mono ?_
  rintro r H' ⟨b, h1, h2, h3, h4⟩
  exact ⟨b, h1, h2.trans e, h3, h4⟩
 rcases this with rfl | rfl | rfl | rfl
 ·exact key (h.r1 H hD) (by simp [gA])
 ·exact key (h.r2 H hD) (by simp [gA])
 ·exact key (h.r3 H hD) (by simp [gA])
 ·exact key (h.r4 H hD) (by simp [gA])
theorem Y9 {c : Cx} (hc : c.Ok) {i k : Int} (hi : c.dF i) (hr : Fj c i k) {H : List aa} (hD : Du c H) : aq Tryz.prog 134 (B6 c i k) H (g9 c (qN c i = true ∧ ∃ n, n < 5 ∧ gA c i k n) H) := by
 refine Ub.2.calls rfl ?_
 simp only [Ub, aI, B6]
 simp +contextual only [sZ, Nat.reduceEqDiff, Nat.reduceAdd, ↓reduceIte, reduceCtorEq]
 refine af (ph hc hi hD) ?_
 rintro r H1 ⟨rfl, rfl⟩
 simp +contextual only [dr, fe, ff, fg, sZ, Nat.reduceEqDiff, ↓reduceIte, reduceCtorEq]
 cases hb : qN c i with
 | false =>
   simp +contextual only [Bool.not_false, sZ, ↓reduceIte, reduceCtorEq]
   exact dY rfl ⟨fun h => by simp at h, fun h => absurd h.1 (by simp)⟩ (Up.refl c _) hD
 | true =>
   simp +contextual only [Bool.not_true, sZ]
   refine ae JU ?_
   simp +contextual only [sZ, Nat.reduceEqDiff, ↓reduceIte, reduceCtorEq]
   refine aN 5 (fun n (G : List aa) => SD c H1 G ∧ ∀ m, m < n → ¬ gA c i k m)
    (fun n G => [(0, .ai (.ptr c.d 0)), (1, .ai (.int .i64 i)), (2, .ai (.int .i64 k)), (18, dN), (19, .int .i64 n)]) (fun n G => G) H1 ⟨⟨⟨hD, Up.refl c _⟩, fun m hm => by omega⟩, aA _ _ _⟩ fun n G hn hI => ?_
   obtain ⟨hG, jH⟩ := hI
   by_cases h0 : n = 0
   ·subst h0
    have e0 := Tf 0 .fq rfl (by decide)
    have d1 : decide (((0 : Nat) : Int) < 5) = true := rfl
    have d2 : decide ((0 : Int) < ((0 : Nat) : Int)) = false := rfl
    simp +contextual only [lM, e0 _ rfl, d1, d2, sZ, Nat.reduceEqDiff, ↓reduceIte, reduceCtorEq]
    refine ⟨1, G, ⟨by omega, hG, fun m hm => ?_⟩, by omega, aH rfl rfl⟩
    intro h
    simp only [gA] at h
    omega
   ·by_cases h5 : n < 5
    ·have hf : dN.cells[n]? = some (.fn (.func (182 + n)) [] []) := by
      have : n = 1 ∨ n = 2 ∨ n = 3 ∨ n = 4 := by omega
      rcases this with rfl | rfl | rfl | rfl <;> rfl
     have en := Tf n _ hf h5
     have d1 : decide ((n : Int) < 5) = true := decide_eq_true (by omega)
     have d2 : decide ((0 : Int) < n) = true := decide_eq_true (by omega)
     simp +contextual only [lM, en _ rfl, d1, d2, sZ, Nat.reduceEqDiff, Nat.reduceAdd, ↓reduceIte, reduceCtorEq]
     refine af (hr.at (by omega) h5 hG.1) ?_
     rintro r G' ⟨b, rfl, dR, hU, iW⟩
     have dX : SD c H1 G' := ⟨iW, hG.2.trans hU⟩
     cases b with
     | true =>
       simp +contextual only [sZ, Nat.reduceEqDiff, ↓reduceIte, reduceCtorEq]
       exact dY rfl ⟨fun _ => ⟨rfl, n, h5, dR.1 rfl⟩, fun _ => rfl⟩ dX.2 dX.1
     | false =>
       simp +contextual only [sZ, Nat.reduceEqDiff, ↓reduceIte, reduceCtorEq]
       refine ⟨n + 1, G', ⟨by omega, dX, fun m hm => ?_⟩, by omega, aH (by rw [au n (by omega)]) rfl⟩
       by_cases e : m = n
       ·subst e; exact fun h => absurd (dR.2 h) (by simp)
       ·exact jH m (by omega)
    ·have d1 : decide ((n : Int) < 5) = false := decide_eq_false (by omega)
     simp +contextual only [d1, sZ, Nat.reduceEqDiff, ↓reduceIte, reduceCtorEq]
     exact dY rfl ⟨fun h => by simp at h, fun ⟨_, m, hm, h⟩ => absurd h (jH m (by omega))⟩ hG.2 hG.1
theorem jd {f : Int → T} {s : Int} {l : List Int} : side s (l.map f) = (bD s l).map f := by unfold side bD; split <;> simp
theorem HK.lx {f : Int → T} {G : T → T → Prop} (irr : ∀ x, ¬ G x x) : ∀ {a b : List Int} {n : Nat}, HK (fun x y => f x = f y) a b n → (Lx G (a.map f) (b.map f) ↔ n < a.length ∧ (n = b.length ∨ G (f (a.getD n 0)) (f (b.getD n 0))))
 | [], b, n, h => by simp [Lx]
 | x :: r, [], n, h => by
   have := h.lb
   simp at this
   subst this
   simp [Lx]
 | x :: r, y :: s, 0, h => by
   have eo : ¬ f x = f y := h.no (by simp) (by simp)
   simp [Lx, eo]
 | x :: r, y :: s, m + 1, h => by
   have YW : f x = f y := h.eq 0 (by omega)
   have ih := HK.lx irr (a := r) (b := s) (n := m) ⟨by have := h.la; simp at this; omega, by have := h.lb; simp at this; omega, fun j hj => h.eq (j + 1) (by omega), fun h1 h2 => h.no (by simpa using h1) (by simpa using h2)⟩
   simp only [List.map_cons, Lx, YW, true_and, List.length_cons, List.getD_cons_succ, Nat.add_lt_add_iff_right, Nat.add_right_cancel_iff]
   rw [ih]
   exact ⟨fun h => by rcases h with h | h; exact h; exact absurd h (irr _), fun h => .inl h⟩
theorem vt {Q : Int → Int → Prop} : ∀ (a b : List Int), ∃ n, HK Q a b n
 | [], b => ⟨0, by simp, by simp, fun j h => by omega, fun h => by simp at h⟩
 | x :: r, [] => ⟨0, by simp, by simp, fun j h => by omega, fun _ h => by simp at h⟩
 | x :: r, y :: s => by
   by_cases hq : Q x y
   ·obtain ⟨n, h⟩ := vt (Q := Q) r s
    refine ⟨n + 1, by have := h.la; simp; omega, by have := h.lb; simp; omega, fun j hj => ?_, fun h1 h2 => h.no (by simpa using h1) (by simpa using h2)⟩
    cases j with
    | zero => exact hq
    | succ j => exact h.eq j (by omega)
   ·exact ⟨0, by simp, by simp, fun j h => by omega, fun _ _ => hq⟩
theorem rP {c : Cx} (hc : c.Ok) {i k : Int} (hi : c.dF i) (hk : c.dF k) : (qN c i = true ∧ ∃ n, n < 5 ∧ gA c i k n) ↔ R c.O (c.tm i) (c.tm k) := by
 rw [qt, tM hc hi, tM hc hk]
 have XB : qN c i = true ↔ (c.tm i).k = 2 := by simp [qN]
 have Ec : qN c k = true ↔ (c.tm k).k = 2 := by simp [qN]
 rw [XB]
 refine and_congr_right fun XD => ?_
 have epi : pg c i = c.O.pl (c.tm i).n := if_pos XD
 have esi : dq c i = c.O.sp (c.O.pl (c.tm i).n) := if_pos XD
 have lk := (hc.kids k hk).1
 have li := (hc.kids i hi).1
 have all : (∀ x ∈ c.kd k, R c.O (c.tm i) (c.tm x)) ↔ ∀ y ∈ (c.tm k).l, R c.O (c.tm i) y := by rw [← lk]; simp
 have sub : JV c i k ↔ ∃ x ∈ (c.tm i).l, E c.O x (c.tm k) ∨ R c.O x (c.tm k) := by
  rw [← li]; unfold JV
  constructor
  ·rintro ⟨x, hx, h⟩; exact ⟨_, List.mem_map.2 ⟨x, hx, rfl⟩, h⟩
  ·rintro ⟨y, hy, h⟩; obtain ⟨x, hx, rfl⟩ := List.mem_map.1 hy; exact ⟨x, hx, h⟩
 have lex : zU c i k ↔ (c.tm k).k = 2 ∧ c.O.pl (c.tm k).n = c.O.pl (c.tm i).n ∧ c.O.sp (c.O.pl (c.tm i).n) ≠ 3 ∧ (∀ y ∈ (c.tm k).l, R c.O (c.tm i) y) ∧ Lx (Gt c.O.sp) (side (c.O.sp (c.O.pl (c.tm i).n)) ((c.kd i).map (nf c))) (side (c.O.sp (c.O.pl (c.tm i).n)) ((c.kd k).map (nf c))) := by
  unfold zU
  rw [jT, all, ← esi, jd, jd]
  obtain ⟨n, hn⟩ := vt (Q := fun x y => nf c x = nf c y) (bD (dq c i) (c.kd i)) (bD (dq c i) (c.kd k))
  have Za := HK.lx (G := Gt c.O.sp) (fun x => zL x) hn
  rw [Za]
  constructor
  ·rintro ⟨⟨_, h1, h2⟩, h3, h4, m, hm, h5⟩
   have := hm.R4 hn
   subst this
   exact ⟨h1, h2.symm, h3, h4, h5⟩
  ·rintro ⟨h1, h2, h3, h4, h5⟩
   exact ⟨⟨XD, h1, h2.symm⟩, h3, h4, n, hn, h5⟩
 have mul : wR c i k ↔ (c.tm k).k = 2 ∧ c.O.pl (c.tm k).n = c.O.pl (c.tm i).n ∧ c.O.sp (c.O.pl (c.tm i).n) = 3 ∧ Mu (Gt c.O.sp) ((c.kd i).map (nf c)) ((c.kd k).map (nf c)) := by
  unfold wR
  rw [jT, ← esi]
  exact ⟨fun ⟨⟨_, h1, h2⟩, h3⟩ => ⟨h1, h2.symm, h3⟩, fun ⟨h1, h2, h3⟩ => ⟨⟨XD, h1, h2.symm⟩, h3⟩⟩
 have pla : rO c i k ↔ (c.tm k).k = 2 ∧ c.O.pl (c.tm k).n < c.O.pl (c.tm i).n ∧ ∀ y ∈ (c.tm k).l, R c.O (c.tm i) y := by
  unfold rO
  rw [all, Ec, epi]
  refine and_congr_right fun h => ?_
  rw [show pg c k = c.O.pl (c.tm k).n from if_pos h]
 have e : (∃ n, n < 5 ∧ gA c i k n) ↔ JV c i k ∨ rO c i k ∨ zU c i k ∨ wR c i k := by
  constructor
  ·rintro ⟨n, _, h | h | h | h⟩
   ·exact .inl h.2
   ·exact .inr (.inl h.2)
   ·exact .inr (.inr (.inl h.2))
   ·exact .inr (.inr (.inr h.2))
  ·rintro (h | h | h | h)
   ·exact ⟨1, by omega, .inl ⟨rfl, h⟩⟩
   ·exact ⟨2, by omega, .inr (.inl ⟨rfl, h⟩)⟩
   ·exact ⟨3, by omega, .inr (.inr (.inl ⟨rfl, h⟩))⟩
   ·exact ⟨4, by omega, .inr (.inr (.inr ⟨rfl, h⟩))⟩
 rw [e, sub, pla, lex, mul]
 refine or_congr_right ?_
 constructor
 ·rintro (⟨h1, h2⟩ | ⟨h1, h2⟩ | ⟨h1, h2⟩)
  ·exact ⟨h1, .inl h2⟩
  ·exact ⟨h1, .inr (.inl h2)⟩
  ·exact ⟨h1, .inr (.inr h2)⟩
 ·rintro ⟨h1, h2 | h2 | h2⟩
  ·exact .inl ⟨h1, h2⟩
  ·exact .inr (.inl ⟨h1, h2⟩)
  ·exact .inr (.inr ⟨h1, h2⟩)
theorem g9.iff {c : Cx} {Q Q' : Prop} {f : Nat} {args : List AV} {H : List aa} (h : aq Tryz.prog f args H (g9 c Q H)) (e : Q ↔ Q') : aq Tryz.prog f args H (g9 c Q' H) := by
 refine h.mono ?_
 rintro r H' ⟨b, h1, h2, h3, h4⟩
 exact ⟨b, h1, h2.trans e, h3, h4⟩
theorem Cd {c : Cx} (hc : c.Ok) : ∀ (N : Nat) (i k : Int), c.dF i → c.dF k → wt (c.tm i) + wt (c.tm k) ≤ N → jS c i k ∧ gK c i k := by
 intro N
 induction N with
 | zero => intro i k _ _ h; have := gr (c.tm i); omega
 | succ N ih =>
 intro i k hi hk hN
 have hx : ∀ {j : Int}, c.dF j → ∀ x ∈ c.kd j, c.dF x ∧ wt (c.tm x) < wt (c.tm j) := fun {j} hj x hx => by
  have h1 := hc.kids j hj
  exact ⟨h1.2 x hx, cK (by rw [← h1.1]; exact List.mem_map.2 ⟨x, hx, rfl⟩)⟩
 have s1 : ∀ x ∈ c.kd i, ∀ y ∈ c.kd k, jS c x y := fun x h y h' => (ih x y (hx hi x h).1 (hx hk y h').1 (by have := (hx hi x h).2; have := (hx hk y h').2; omega)).1
 have m1 : ∀ x ∈ c.kd i, ∀ y ∈ c.kd k, gK c x y := fun x h y h' => (ih x y (hx hi x h).1 (hx hk y h').1 (by have := (hx hi x h).2; have := (hx hk y h').2; omega)).2
 have s2 : ∀ x ∈ c.kd i, jS c x k := fun x h => (ih x k (hx hi x h).1 hk (by have := (hx hi x h).2; omega)).1
 have m2 : ∀ x ∈ c.kd i, gK c x k := fun x h => (ih x k (hx hi x h).1 hk (by have := (hx hi x h).2; omega)).2
 have m3 : ∀ y ∈ c.kd k, gK c i y := fun y h => (ih i y hi (hx hk y h).1 (by have := (hx hk y h).2; omega)).2
 refine ⟨c79 hc fun H hD => Y7 hc hi hk s1 hD, c76 hc fun H hD => g9.iff (Y9 hc hi ⟨fun H hD => VR hc hi s2 m2 hD, fun H hD => VS hc hi hk m3 hD, fun H hD => VU hc hi hk m3 s1 m1 hD, fun H hD => V0 hc hi hk s1 m1 hD⟩ hD) (rP hc hi hk)⟩
theorem jC {c : Cx} (hc : c.Ok) {i k : Int} (hi : c.dF i) (hk : c.dF k) : jS c i k := (Cd hc _ i k hi hk (Nat.le_refl _)).1
theorem jD {c : Cx} (hc : c.Ok) {i k : Int} (hi : c.dF i) (hk : c.dF k) : gK c i k := (Cd hc _ i k hi hk (Nat.le_refl _)).2
end Go.aK
end
section
set_option maxRecDepth 100000
namespace Go.aK
open Go Go.Proofs Go.fE
def XE (nd : List Nd) (t : T) (i : Nat) : Prop := ∀ j, j < wt t → nd[i + j]? = (vj t i)[j]?
def JW (nd : List Nd) (l : List T) (i : Nat) : Prop := ∀ j, j < gE l → nd[i + j]? = (cQ l i)[j]?
theorem XE.head {nd : List Nd} {t : T} {i : Nat} (h : XE nd t i) : nd[i]? = some (t, aT t.l (i + 1)) ∧ JW nd t.l (i + 1) := by
 have hw := B3 t
 constructor
 ·have := h 0 (gr t)
  rw [n9] at this
  simpa using this
 ·intro j hj
  have := h (j + 1) (by omega)
  rw [n9, List.getElem?_cons_succ] at this
  rw [← this]; congr 1; omega
theorem JW.cons {nd : List Nd} {x : T} {r : List T} {i : Nat} (h : JW nd (x :: r) i) : XE nd x i ∧ JW nd r (i + wt x) := by
 constructor
 ·intro j hj
  have := h j (by rw [gE]; omega)
  rw [cQ, List.getElem?_append_left (by rw [qv]; exact hj)] at this
  exact this
 ·intro j hj
  have := h (wt x + j) (by rw [gE]; omega)
  rw [cQ, List.getElem?_append_right (by rw [qv]; omega), qv] at this
  rw [show wt x + j - wt x = j by omega] at this
  rw [← this]; congr 1; omega
theorem JW.kids {nd : List Nd} : ∀ {l : List T} {i : Nat}, JW nd l i → (aT l i).map (fun k => (nd.getD k.toNat default).1) = l ∧ ∀ k ∈ aT l i, 0 ≤ k ∧ k < nd.length
 | [], i, _ => ⟨rfl, fun k h => by simp [aT] at h⟩
 | x :: r, i, h => by
   obtain ⟨h1, h2⟩ := h.cons
   obtain ⟨h3, h4⟩ := JW.kids h2
   have h5 := h1.head.1
   have h6 := (List.getElem?_eq_some_iff.1 h5).1
   refine ⟨?_, ?_⟩
   ·rw [aT, List.map_cons, h3]
    congr 1
    rw [List.getD_eq_getElem?_getD, Int.toNat_natCast, h5]; rfl
   ·intro k hk
    rw [aT] at hk
    rcases List.mem_cons.1 hk with rfl | hk
    ·omega
    ·exact h4 k hk
def Gd (nd : List Nd) (p : Int → Prop) (i : Nat) : Prop := ∃ t, nd[i]? = some (t, aT t.l (i + 1)) ∧ JW nd t.l (i + 1) ∧ xX p t
mutual
theorem gdT {nd : List Nd} {p : Int → Prop} : ∀ (t : T) (i : Nat), XE nd t i → xX p t → ∀ j, j < wt t → Gd nd p (i + j)
 | .mk k n l, i, h, ha, j, hj => by
   obtain ⟨h1, h2⟩ := h.head
   cases j with
   | zero => exact ⟨_, h1, h2, ha⟩
   | succ j =>
     have := Zb l (i + 1) h2 (fun x hx => ha.mem hx) j (by rw [wt] at hj; omega)
     rw [show i + (j + 1) = i + 1 + j by omega]; exact this
theorem Zb {nd : List Nd} {p : Int → Prop} : ∀ (l : List T) (i : Nat), JW nd l i → (∀ x ∈ l, xX p x) → ∀ j, j < gE l → Gd nd p (i + j)
 | [], i, h, ha, j, hj => by simp [gE] at hj
 | x :: r, i, h, ha, j, hj => by
   obtain ⟨h1, h2⟩ := h.cons
   by_cases hx : j < wt x
   ·exact gdT x i h1 (ha x List.mem_cons_self) j hx
   ·have := Zb r (i + wt x) h2 (fun y hy => ha y (List.mem_cons_of_mem _ hy)) (j - wt x) (by rw [gE] at hj; omega)
    rw [show i + j = i + wt x + (j - wt x) by omega]; exact this
end
def fW (ps ss : List Int) (ts : List T) (n : Nat) : Cx := ⟨ps, ss, cQ ts 0, n + 2, n, n + 1⟩
theorem NB (ts : List T) : JW (cQ ts 0) ts 0 := fun j _ => by rw [Nat.zero_add]
theorem O7 {ps ss : List Int} (hv : Va ps ss) {ts : List T} (eo : ts ≠ []) (hw : gE ts ≤ 100000000) (ha : ∀ t ∈ ts, xX (fun n => 0 ≤ n ∧ n < ps.length) t) (n : Nat) : (fW ps ss ts n).Ok := by
 have hl : (cQ ts 0).length = gE ts := gv ts 0
 have gd : ∀ i, (fW ps ss ts n).dF i → ∃ t, (cQ ts 0).getD i.toNat default = (t, aT t.l (i.toNat + 1)) ∧ JW (cQ ts 0) t.l (i.toNat + 1) ∧ xX (fun n => 0 ≤ n ∧ n < ps.length) t := by
  intro i hi
  have mr : i.toNat < gE ts := by have := hi.1; have := hi.2; simp only [fW] at *; omega
  obtain ⟨t, h1, h2, h3⟩ := Zb ts 0 (NB ts) ha i.toNat mr
  rw [Nat.zero_add] at h1 h2
  exact ⟨t, by rw [List.getD_eq_getElem?_getD, h1]; rfl, h2, h3⟩
 refine ⟨hv, ?_, by simp [fW], by simp [fW], by simp [fW], fun i hi => ?_, fun i hi => ?_, fun i hi hk => ?_⟩
 ·intro e
  have e : cQ ts 0 = [] := e
  rw [e] at hl
  have := gZ ts
  have h0 : ts.length = 0 := by simp at hl; omega
  exact eo (List.length_eq_zero_iff.1 h0)
 ·obtain ⟨t, h1, h2, h3⟩ := gd i hi
  show ((cQ ts 0).getD i.toNat default).2.length ≤ _
  rw [h1, cr]
  by_cases h0 : t.l = []
  ·rw [h0]; simp
  ·have : gE t.l ≤ (cQ ts 0).length := by
    have hp : 0 < gE t.l := by
     have := gZ t.l
     have := List.length_pos_iff.2 h0
     omega
    have := h2 (gE t.l - 1) (by omega)
    have h4 : (cQ t.l (i.toNat + 1))[gE t.l - 1]? ≠ none := by rw [List.getElem?_eq_getElem (by rw [gv]; omega)]; simp
    rw [← this] at h4
    have h5 : i.toNat + 1 + (gE t.l - 1) < (cQ ts 0).length := by
     apply Decidable.byContradiction
     intro hc
     exact h4 (List.getElem?_eq_none (by omega))
    omega
   have := gZ t.l
   omega
 ·obtain ⟨t, h1, h2, h3⟩ := gd i hi
  have hk := h2.kids
  have e1 : (fW ps ss ts n).kd i = aT t.l (i.toNat + 1) := by show ((cQ ts 0).getD i.toNat default).2 = _; rw [h1]
  have e2 : (fW ps ss ts n).tm i = t := by show ((cQ ts 0).getD i.toNat default).1 = _; rw [h1]
  rw [e1, e2]
  exact hk
 ·obtain ⟨t, h1, h2, h3⟩ := gd i hi
  have e2 : (fW ps ss ts n).tm i = t := by show ((cQ ts 0).getD i.toNat default).1 = _; rw [h1]
  rw [e2] at hk ⊢
  exact h3.op hk
theorem x9 (ps ss : List Int) {ts : List T} (eo : ts ≠ []) (H : List aa) : Du (fW ps ss ts H.length) (H ++ [.map [], .map [], jB ps ss (cQ ts 0) H.length (H.length + 1)]) := by
 have hn : cQ ts 0 ≠ [] := by
  intro e
  have hl : (cQ ts 0).length = gE ts := gv ts 0
  have := gZ ts
  rw [e] at hl
  have h0 : ts.length = 0 := by simp at hl; omega
  exact eo (List.length_eq_zero_iff.1 h0)
 refine ⟨?_, ⟨[], ?_, fun p hp => by simp at hp⟩, ⟨[], ?_, fun p hp => by simp at hp⟩⟩
 ·show (H ++ [aa.map [], .map [], jB ps ss (cQ ts 0) H.length (H.length + 1)])[H.length + 2]? = _
  rw [jB, ns, if_neg hn]
  simp [fW]
 ·show (H ++ [aa.map [], .map [], jB ps ss (cQ ts 0) H.length (H.length + 1)])[H.length]? = _
  simp [lS]
 ·show (H ++ [aa.map [], .map [], jB ps ss (cQ ts 0) H.length (H.length + 1)])[H.length + 1]? = _
  simp [lS]
theorem sP {ps ss : List Int} {ts : List T} {n j : Nat} (hj : j < ts.length) : (fW ps ss ts n).dF ((aT ts 0).getD j 0) ∧ (fW ps ss ts n).tm ((aT ts 0).getD j 0) = ts.getD j default := by
 obtain ⟨h1, h2⟩ := (NB ts).kids
 have hl := cr ts 0
 refine ⟨h2 _ (aO (by omega)), ?_⟩
 have := congrArg (fun l => l[j]?) h1
 have tL : j < (aT ts 0).length := by omega
 simp only [List.getElem?_map, List.getElem?_eq_getElem tL, List.getElem?_eq_getElem hj, Option.map_some, Option.some.injEq] at this
 have e1 : (aT ts 0).getD j 0 = (aT ts 0)[j] := by simp [tL]
 have e2 : ts.getD j default = ts[j] := by simp [hj]
 rw [e1, e2]
 exact this
end Go.aK
end
section
set_option maxRecDepth 100000
namespace Go.aK
open Go Go.Proofs
theorem Zc (s : ByteArray) (k : IntKind) (i : Nat) (φ : AV → Prop) : bH (.str s) (.int k (i : Int)) φ = (i < s.size ∧ φ (.int .u8 (s.data.toList.getD i 0).toNat)) := by
 simp only [bH, Int.toNat_natCast, eq_iff_iff]
 exact ⟨fun h => h.2, fun h => ⟨by omega, h⟩⟩
theorem pi (a b : ByteArray) (φ : AV → Prop) : cT .eql (.str a) (.str b) φ = φ (.bool (decide (a = b))) := by
 simp [cT]
theorem Fk {g : Nat} {f : List AV → Option AV} (h : sI Tryz.prog g (.uN f)) {xs : List AV} {r : AV} (hr : f xs = some r) : Pure Tryz.prog g xs r := fun H => h xs r H hr
theorem Zd (s : ByteArray) (c : Int) : Pure Tryz.prog 238 [.str s, .int .u8 c] (.int .i64 (firstIdx s c.toNat.toUInt8)) := Fk U9 rfl
def mw (s : ByteArray) (c : Int) : Int := s.foldl (fun (n : Int) x => if x == c.toNat.toUInt8 then n + 1 else n) ((0 : Nat) : Int)
theorem Ze (s : ByteArray) (c : Int) : Pure Tryz.prog 231 [.str s, .int .u8 c] (.int .i64 (mw s c)) := Fk Vb (by simp only [countP, mw])
theorem V1 (s : ByteArray) (c : Int) : Pure Tryz.prog 228 [.str s, .int .u8 c] (.int .i64 (firstIdx s c.toNat.toUInt8)) := by
 refine fun H => L6.2.calls rfl ?_
 simp only [L6, aI]
 simp +contextual only [zq, sZ, Nat.reduceEqDiff, Nat.reduceAdd, ↓reduceIte, reduceCtorEq]
 refine ae (Zd s c) ?_
 simp +contextual only [sZ, ↓reduceIte, reduceCtorEq]
 exact aZ rfl rfl
theorem Zf (s : ByteArray) (c : Int) : Pure Tryz.prog 190 [.str s, .int .u8 c] (.int .i64 (firstIdx s c.toNat.toUInt8)) := by
 refine fun H => LU.2.calls rfl ?_
 simp only [LU, aI]
 simp +contextual only [zq, sZ, Nat.reduceEqDiff, Nat.reduceAdd, ↓reduceIte, reduceCtorEq]
 refine ae (V1 s c) ?_
 simp +contextual only [sZ, ↓reduceIte, reduceCtorEq]
 exact aZ rfl rfl
def us : ByteArray := ⟨#[95]⟩
theorem XF (k : IntKind) (φ : AV → Prop) : bH (.str us) (.int k 0) φ = φ (.int .u8 95) := by
 simp only [bH, eq_iff_iff]
 exact ⟨fun h => h.2.2, fun h => ⟨by omega, by decide, h⟩⟩
def NC (s : ByteArray) : Int := if s = us then 0 else firstIdx s 95
theorem Zg (s : ByteArray) : Pure Tryz.prog 229 [.str s, .str us] (.int .i64 (NC s)) := by
 refine fun H => L7.2.calls rfl ?_
 simp only [L7, aI]
 unfold NC
 have cW : ((us.size : Nat) : Int) = 1 := rfl
 by_cases hs : s = us
 ·rw [if_pos hs]
  simp +contextual only [pi, cW, hs, Int.reduceEq, sZ, Nat.reduceEqDiff, Nat.reduceAdd, ↓reduceIte, reduceCtorEq, Int.reduceEq]
  exact aZ rfl rfl
 ·rw [if_neg hs]
  have TC : ¬ us = s := fun e => hs e.symm
  simp +contextual only [pi, cW, TC, XF, Int.reduceEq, sZ, Nat.reduceEqDiff, Nat.reduceAdd, ↓reduceIte, reduceCtorEq, Int.reduceEq]
  refine ae (V1 s 95) ?_
  simp +contextual only [sZ, ↓reduceIte, reduceCtorEq]
  exact aZ rfl rfl
theorem Zh (s : ByteArray) : Pure Tryz.prog 191 [.str s, .str us] (.int .i64 (NC s)) := by
 refine fun H => LV.2.calls rfl ?_
 simp only [LV, aI]
 simp +contextual only [sZ, Nat.reduceEqDiff, Nat.reduceAdd, ↓reduceIte, reduceCtorEq]
 refine ae (Zg s) ?_
 simp +contextual only [sZ, ↓reduceIte, reduceCtorEq]
 exact aZ rfl rfl
theorem Zi (s : ByteArray) : Pure Tryz.prog 142 [.str s, .str us] (.bool (decide (0 ≤ NC s))) := by
 refine fun H => LO.2.calls rfl ?_
 simp only [LO, aI]
 simp +contextual only [sZ, Nat.reduceEqDiff, Nat.reduceAdd, ↓reduceIte, reduceCtorEq]
 refine ae (Zh s) ?_
 simp +contextual only [sZ, ↓reduceIte, reduceCtorEq]
 exact aZ rfl rfl
theorem Zj (s : ByteArray) : Pure Tryz.prog 193 [.str s, .str us] (.int .i64 (mw s 95)) := by
 refine fun H => LX.2.calls rfl ?_
 simp only [LX, aI]
 have cW : ((us.size : Nat) : Int) = 1 := rfl
 simp +contextual only [cW, XF, Int.reduceEq, sZ, Nat.reduceEqDiff, Nat.reduceAdd, ↓reduceIte, reduceCtorEq, Int.reduceEq]
 refine ae (Ze s 95) ?_
 simp +contextual only [sZ, ↓reduceIte, reduceCtorEq]
 exact aZ rfl rfl
def zZ (c : UInt8) : Bool := decide (((c.toNat : Nat) : Int) < 33) || decide ((126 : Int) < ((c.toNat : Nat) : Int)) || decide (0 ≤ firstIdx ⟨#[40, 41, 44]⟩ ((c.toNat : Nat) : Int).toNat.toUInt8)
def oK (s : ByteArray) : Bool := !decide (((s.size : Nat) : Int) < 1) && !decide ((32 : Int) < ((s.size : Nat) : Int)) && s.data.toList.all fun c => !zZ c
theorem ya {p : UInt8 → Bool} {l : List UInt8} {i : Nat} (h : i < l.length) : (l.drop i).all p = (p (l.getD i 0) && (l.drop (i + 1)).all p) := by
 rw [List.drop_eq_getElem_cons h, List.all_cons]
 simp [h]
theorem V2 (s : ByteArray) : Pure Tryz.prog 141 [.str s] (.bool (oK s)) := by
 refine fun H => Oo.calls rfl ?_
 simp only [II, On]
 have hl : s.data.toList.length = s.size := rfl
 unfold oK
 simp +contextual only [sZ, Nat.reduceEqDiff, Nat.reduceAdd, ↓reduceIte, reduceCtorEq]
 refine ⟨fun h1 => ⟨fun h2 => ?_, fun h2 => ?_⟩, fun h1 => ?_⟩
 ·exact aZ rfl (by simp [h2])
 ·refine aG s.size (fun i => ((s.data.toList.drop i).all fun c => !zZ c) = (s.data.toList.all fun c => !zZ c))
   (fun i => [(0, .str s), (13, .int .i64 s.size), (14, .int .i64 i)]) (fun i => H) ⟨rfl, aA _ _ _⟩ fun i hi hI => ?_
  simp +contextual only [Zc, sZ, Nat.reduceEqDiff, Nat.reduceAdd, ↓reduceIte, reduceCtorEq]
  have fin : ∀ (a8 : i < s.size), zZ (s.data.toList.getD i 0) = true → (s.data.toList.all fun c => !zZ c) = false := fun a8 hb => by
   rw [← hI, ya (by omega), hb]; rfl
  refine ⟨fun a8 => ?_, fun jG => ?_⟩
  ·have a8 := bY a8
   have fin := fin a8
   rw [ya (by omega)] at hI
   have OY : zZ (s.data.toList.getD i 0) = (decide ((((s.data.toList.getD i 0).toNat : Nat) : Int) < 33) || decide ((126 : Int) < (((s.data.toList.getD i 0).toNat : Nat) : Int)) || decide (0 ≤ firstIdx ⟨#[40, 41, 44]⟩ (((s.data.toList.getD i 0).toNat : Nat) : Int).toNat.toUInt8)) := rfl
   generalize s.data.toList.getD i 0 = c at *
   refine ⟨a8, fun a => ⟨a8, fun b => ⟨a8, ae (Zf _ _) ?_⟩, fun b => ?_⟩, fun a => ?_⟩
   ·simp +contextual only [sZ, Nat.reduceEqDiff, ↓reduceIte, reduceCtorEq]
    refine ⟨fun d => ?_, fun d => ?_⟩
    ·exact aZ rfl (by rw [fin (by rw [OY]; simp only [decide_eq_true d, Bool.or_true])]; simp)
    ·refine ⟨i + 1, ⟨a8, ?_⟩, by omega, aH (by rw [au i (by omega)]) rfl⟩
     rw [← hI]
     have : zZ c = false := by
      rw [OY]
      simp only [Bool.or_eq_false_iff, decide_eq_false_iff_not]
      omega
     rw [this]; simp
   ·exact aZ rfl (by rw [fin (by rw [OY]; simp only [decide_eq_true b, Bool.or_true, Bool.true_or])]; simp)
   ·exact aZ rfl (by rw [fin (by rw [OY]; simp only [decide_eq_true a, Bool.true_or])]; simp)
  ·rw [List.drop_of_length_le (by have := dl jG; omega)] at hI
   exact aZ rfl (by rw [← hI]; simp; omega)
 ·exact aZ rfl (by simp [h1])
end Go.aK
end
section
set_option maxRecDepth 100000
namespace Go.aK
open Go Go.Proofs
structure gB where
 name : ByteArray
 args : List Int
 Ar : Int
 deriving Inhabited
structure Sg where
 aX : List ByteArray
 ops : List gB
 deriving Inhabited
def gB.av (o : gB) : AV := .agg [.str o.name, .ap 0 (ints o.args), .int .i64 o.Ar]
def ou (l : List gB) : List AV := l.map gB.av
def strs (l : List ByteArray) : List AV := l.map AV.str
def Sg.av (s : Sg) : AV := .agg [.ap 0 (strs s.aX), .ap 0 (ou s.ops)]
theorem vu (l : List gB) : (ou l).length = l.length := by simp [ou]
theorem Ce (l : List ByteArray) : (strs l).length = l.length := by simp [strs]
theorem vv (n : Nat) (l : List gB) : aj n (ou l) = true := by
 rw [a9]; intro x hx; obtain ⟨y, _, rfl⟩ := List.mem_map.1 hx
 simp [gB.av, AV.aY, aj, bk]
theorem vw (n : Nat) (l : List ByteArray) : aj n (strs l) = true := by
 rw [a9]; intro x hx; obtain ⟨y, _, rfl⟩ := List.mem_map.1 hx; rfl
theorem gB.pd (n : Nat) (o : gB) : o.av.aY n = true := by simp [gB.av, AV.aY, aj, bk]
theorem gB.u0 (o : gB) : o.av.val = true := rfl
theorem gB.pe (o : gB) : o.av.cells.all AV.one = true := rfl
theorem gB.nj (o : gB) : o.av.ab = o.av := rfl
theorem gB.qn (o : gB) : o.av.drop = o.av := rfl
theorem gB.gl (o : gB) : o.av.cells.length = 3 := rfl
theorem Sg.pd (n : Nat) (o : Sg) : o.av.aY n = true := by simp [Sg.av, AV.aY, aj, vw, vv]
theorem Sg.u0 (o : Sg) : o.av.val = true := rfl
theorem Sg.pe (o : Sg) : o.av.cells.all AV.one = true := rfl
theorem Sg.nj (o : Sg) : o.av.ab = o.av := rfl
theorem Sg.qn (o : Sg) : o.av.drop = o.av := rfl
theorem Sg.gl (o : Sg) : o.av.cells.length = 2 := rfl
theorem Hf (o : Nat) (l : List gB) : (∀ (own : Nat) (xs : List AV), AV.ap o (ou l) = AV.ap own xs → ∀ z ∈ xs, z.cells.length = 3) = True := by
 simp only [eq_iff_iff, iff_true]
 intro own xs e z hz
 cases e
 obtain ⟨y, _, rfl⟩ := List.mem_map.1 hz
 rfl
theorem Hg (o : Nat) (l : List ByteArray) : (∀ (own : Nat) (xs : List AV), AV.ap o (strs l) = AV.ap own xs → ∀ z ∈ xs, z.cells.length = 1) = True := by
 simp only [eq_iff_iff, iff_true]
 intro own xs e z hz
 cases e
 obtain ⟨y, _, rfl⟩ := List.mem_map.1 hz
 rfl
theorem JX (e o : Nat) (l : List gB) (k : IntKind) (i : Nat) (φ : AV → Prop) : ay e (.ap o (ou l)) (.int k (i : Int)) φ = (i < l.length ∧ φ (.ai (l.getD i default).av)) := by
 simp only [ay, vu, Int.toNat_natCast, eq_iff_iff]
 constructor
 ·rintro ⟨_, h, h2⟩; refine ⟨h, ?_⟩; simpa [ou, h] using h2
 ·rintro ⟨h, h2⟩; refine ⟨by omega, h, ?_⟩; simpa [ou, h] using h2
theorem JY (e o : Nat) (l : List ByteArray) (k : IntKind) (i : Nat) (φ : AV → Prop) : ay e (.ap o (strs l)) (.int k (i : Int)) φ = (i < l.length ∧ φ (.ai (.str (l.getD i default)))) := by
 simp only [ay, Ce, Int.toNat_natCast, eq_iff_iff]
 constructor
 ·rintro ⟨_, h, h2⟩; refine ⟨h, ?_⟩; simpa [strs, h] using h2
 ·rintro ⟨h, h2⟩; refine ⟨by omega, h, ?_⟩; simpa [strs, h] using h2
theorem V3 (o : gB) (H : List aa) (φ : AV → Prop) : aR (some 3) (.ai o.av) H φ = φ o.av := by simp [aR, gB.av, AV.cells]
theorem qB (o : Sg) (H : List aa) (φ : AV → Prop) : aR (some 2) (.ai o.av) H φ = φ o.av := by simp [aR, Sg.av, AV.cells]
theorem fo0 (x : gB) (φ : AV → Prop) : ak 0 none (.ai x.av) φ = φ (.ai (.str x.name)) := by simp [ak, apart, gB.av, AV.cells, AV.one]
theorem fo1 (x : gB) (φ : AV → Prop) : ak 1 none (.ai x.av) φ = φ (.ai (.ap 0 (ints x.args))) := by simp [ak, apart, gB.av, AV.cells, AV.one]
theorem fo2 (x : gB) (φ : AV → Prop) : ak 2 none (.ai x.av) φ = φ (.ai (.int .i64 x.Ar)) := by simp [ak, apart, gB.av, AV.cells, AV.one]
theorem fs0 (x : Sg) (φ : AV → Prop) : ak 0 none (.ai x.av) φ = φ (.ai (.ap 0 (strs x.aX))) := by simp [ak, apart, Sg.av, AV.cells, AV.one]
theorem fs1 (x : Sg) (φ : AV → Prop) : ak 1 none (.ai x.av) φ = φ (.ai (.ap 0 (ou x.ops))) := by simp [ak, apart, Sg.av, AV.cells, AV.one]
def aB := (And.intro (And.intro (And.intro (And.intro @vu @Ce) (And.intro @vv @vw)) (And.intro (And.intro @gB.pd @gB.u0) (And.intro (And.intro @gB.pe @gB.nj) (And.intro @gB.qn @gB.gl)))) (And.intro (And.intro (And.intro (And.intro @Sg.pd @Sg.u0) (And.intro (And.intro @Sg.pe @Sg.nj) (And.intro @Sg.qn @Sg.gl))) (And.intro (And.intro @Hf @Hg) (And.intro @JX @JY))) (And.intro (And.intro @V3 @qB) (And.intro (And.intro @fo0 @fo1) (And.intro @fo2 (And.intro @fs0 @fs1))))))
def wS (p : Int → Bool) : List Int → Int → Int
 | [], _ => -1
 | x :: r, k => if p x = true then k else wS p r (k + 1)
theorem Cf (p : Int → Bool) : ∀ (l : List Int) (k : Int), 0 ≤ k → (decide (0 ≤ wS p l k) = l.any p)
 | [], k, _ => by simp [wS]
 | x :: r, k, h => by
   simp only [wS, List.any_cons]
   split
   ·rename_i hp; simp [hp, h]
   ·rename_i hp; simp [hp, Cf p r (k + 1) (by omega)]
theorem Hh {p : Int → Bool} {l : List Int} {i : Nat} {k : Int} (h : i < l.length) : wS p (l.drop i) k = if p (l.getD i 0) = true then k else wS p (l.drop (i + 1)) (k + 1) := by
 rw [List.drop_eq_getElem_cons h]
 simp [wS, h]
theorem Zk (g : Nat) (cap : List AV) (cE : cap.map AV.ab = cap) (hb : aj 0 cap = true) (p : Int → Bool) (l : List Int) (hf : ∀ x ∈ l, Pure Tryz.prog g ([.int .i64 x] ++ cap) (.bool (p x))) :
 Pure Tryz.prog 100 [.ap 0 (ints l), .fn (.func g) [] cap] (.int .i64 (wS p l 0)) := by
 refine fun H => Bi.2.calls rfl ?_
 simp only [Bi, aI]
 simp +contextual only [sZ, Nat.reduceEqDiff, Nat.reduceAdd, ↓reduceIte, reduceCtorEq]
 intro hl
 refine aG l.length (fun i => wS p (l.drop i) i = wS p l 0) (fun i => [(0, .ap 0 (ints l)), (1, .fn (.func g) [] cap), (7, .int .i64 l.length), (8, .int .i64 i)]) (fun _ => H) ⟨rfl, aA _ _ _⟩ fun i hi hI => ?_
 simp +contextual only [cE, sZ, Nat.reduceEqDiff, Nat.reduceAdd, ↓reduceIte, reduceCtorEq]
 refine ⟨fun a8 => ?_, fun jG => ?_⟩
 ·have a8 := bY a8
  rw [Hh a8] at hI
  refine ⟨a8, ae (hf _ ?_) ?_⟩
  ·simp [a8]
  simp +contextual only [sZ, Nat.reduceEqDiff, ↓reduceIte, reduceCtorEq]
  refine tG (fun hb => ?_) (fun hb => ?_) <;> simp +contextual only [sZ, Nat.reduceEqDiff, ↓reduceIte, reduceCtorEq]
  ·rw [if_pos hb] at hI
   exact aZ rfl (by rw [← hI])
  ·rw [if_neg (by rw [hb]; simp)] at hI
   exact ⟨i + 1, ⟨a8, hI⟩, by omega, aH (by rw [au i (by omega)]) rfl⟩
 ·rw [List.drop_of_length_le (dl jG)] at hI
  exact aZ rfl (by rw [← hI]; rfl)
theorem Zl (g : Nat) (cap : List AV) (cE : cap.map AV.ab = cap) (hb : aj 0 cap = true) (p : Int → Bool) (l : List Int) (hf : ∀ x ∈ l, Pure Tryz.prog g ([.int .i64 x] ++ cap) (.bool (p x))) :
 Pure Tryz.prog 102 [.ap 0 (ints l), .fn (.func g) [] cap] (.bool (l.any p)) := by
 refine fun H => Bj.2.calls rfl ?_
 simp only [Bj, aI]
 simp +contextual only [sZ, Nat.reduceEqDiff, Nat.reduceAdd, ↓reduceIte, reduceCtorEq]
 refine ae (Zk g cap cE hb p l hf) ?_
 simp +contextual only [sZ, ↓reduceIte, reduceCtorEq]
 exact aZ rfl (by rw [Cf p l 0 (by omega)])
end Go.aK
end
section
set_option maxRecDepth 100000
namespace Go.aK
open Go Go.Proofs
def Hi (n a : Int) : Bool := decide (0 ≤ a) && decide (a < n)
theorem V4 (n a : Int) : Pure Tryz.prog 192 [.int .i64 a, .ai (.int .i64 n)] (.bool (Hi n a)) := by
 refine fun H => LW.2.calls rfl ?_
 simp only [LW, aI]
 unfold Hi
 simp +contextual only [sZ, Nat.reduceEqDiff, Nat.reduceAdd, ↓reduceIte, reduceCtorEq]
 refine ⟨fun h => aZ rfl (by simp [h]), fun h => aZ rfl (by simp; omega)⟩
theorem Zm (n a : Int) : Pure Tryz.prog 194 [.int .i64 a, .ai (.fn (.func 192) [] [.ai (.int .i64 n)])] (.bool (!Hi n a)) := by
 refine fun H => LY.2.calls rfl ?_
 simp only [LY, aI]
 simp +contextual only [sZ, Nat.reduceEqDiff, Nat.reduceAdd, ↓reduceIte, reduceCtorEq]
 refine ae (V4 n a) ?_
 simp +contextual only [sZ, ↓reduceIte, reduceCtorEq]
 exact aZ rfl rfl
def qC (o : gB) (n : Int) : Bool :=
 oK o.name && (decide (mw o.name 95 < o.name.size) && ((decide (mw o.name 95 = 0) || decide (mw o.name 95 = o.args.length)) && (decide ((o.args.length : Int) ≤ 8) && (Hi n o.Ar && !o.args.any fun a => !Hi n a))))
theorem Zn (o : gB) (n : Int) : Pure Tryz.prog 143 [o.av, .int .i64 n] (.bool (qC o n)) := by
 refine fun H => Ot.calls rfl ?_
 simp only [IJ, Oq]
 unfold qC
 simp +contextual only [aB, sZ, Nat.reduceEqDiff, Nat.reduceAdd, ↓reduceIte, reduceCtorEq]
 refine ae (Zj o.name) ?_
 simp +contextual only [aB, sZ, Nat.reduceEqDiff, Nat.reduceAdd, ↓reduceIte]
 refine ae (V2 o.name) ?_
 cases hn : oK o.name with
 | false =>
   simp +contextual only [sZ, Nat.reduceEqDiff, ↓reduceIte, reduceCtorEq]
   exact aZ rfl rfl
 | true =>
   have Zo := Zl 194 [.ai (.fn (.func 192) [] [.ai (.int .i64 n)])] rfl rfl (fun a => !Hi n a) o.args (fun a _ => Zm n a)
   have JZ := V4 n o.Ar
   generalize Hi n o.Ar = q at JZ ⊢
   generalize (o.args.any fun a => !Hi n a) = z at Zo ⊢
   by_cases h1 : mw o.name 95 < o.name.size
   ·have e1 : decide (mw o.name 95 < o.name.size) = true := decide_eq_true h1
    simp +contextual only [aB, h1, sZ, Nat.reduceEqDiff, Nat.reduceAdd, ↓reduceIte, reduceCtorEq]
    refine ⟨fun Zp _ => ⟨fun Zq => ?_, fun Zq => ?_⟩, fun Zp _ => ?_⟩
    ·have e2 : (decide (mw o.name 95 = 0) || decide (mw o.name 95 = (o.args.length : Int))) = true := by simp [Zq]
     refine ⟨fun h3 => ae JZ ?_, fun h3 => ?_⟩
     ·have e903 : decide ((o.args.length : Int) ≤ 8) = true := decide_eq_true h3
      rw [e1, e2, e903]
      cases q with
      | false =>
        simp +contextual only [sZ, Nat.reduceEqDiff, ↓reduceIte, reduceCtorEq]
        exact aZ rfl (by simp)
      | true =>
        simp +contextual only [aB, sZ, Nat.reduceEqDiff, Nat.reduceAdd, ↓reduceIte, reduceCtorEq]
        refine ae Zo ?_
        simp +contextual only [sZ, Nat.reduceEqDiff, ↓reduceIte, reduceCtorEq]
        exact aZ rfl (by simp)
     ·have e903 : decide ((o.args.length : Int) ≤ 8) = false := decide_eq_false (by omega)
      exact aZ rfl (by rw [e903]; simp)
    ·have e2 : (decide (mw o.name 95 = 0) || decide (mw o.name 95 = (o.args.length : Int))) = false := by simp [Zp, Zq]
     exact aZ rfl (by rw [e2]; simp)
    ·have e2 : (decide (mw o.name 95 = 0) || decide (mw o.name 95 = (o.args.length : Int))) = true := by simp [Zp]
     refine ⟨fun h3 => ae JZ ?_, fun h3 => ?_⟩
     ·have e903 : decide ((o.args.length : Int) ≤ 8) = true := decide_eq_true h3
      rw [e1, e2, e903]
      cases q with
      | false =>
        simp +contextual only [sZ, Nat.reduceEqDiff, ↓reduceIte, reduceCtorEq]
        exact aZ rfl (by simp)
      | true =>
        simp +contextual only [aB, sZ, Nat.reduceEqDiff, Nat.reduceAdd, ↓reduceIte, reduceCtorEq]
        refine ae Zo ?_
        simp +contextual only [sZ, Nat.reduceEqDiff, ↓reduceIte, reduceCtorEq]
        exact aZ rfl (by simp)
     ·have e903 : decide ((o.args.length : Int) ≤ 8) = false := decide_eq_false (by omega)
      exact aZ rfl (by rw [e903]; simp)
   ·have e1 : decide (mw o.name 95 < o.name.size) = false := decide_eq_false h1
    rw [e1]
    simp +contextual only [aB, h1, sZ, Nat.reduceEqDiff, ↓reduceIte, reduceCtorEq]
    exact aZ rfl (by simp)
end Go.aK
end
section
set_option maxRecDepth 100000
namespace Go.aK
open Go Go.Proofs
theorem V5 (l : List Int) (hl : l.length * 8 ≤ 140737488355328) : Pure Tryz.prog 118 [.ap 0 (ints l)] (.ap 1 (ints l)) := fun H =>
 uQ 0 (ints l) H (of_eq_true (lO l)) (by rw [aw]; exact hl) (bk _ _)
def Hj (a : Int) : UInt8 := UInt8.ofNat (IntKind.u8.wrap a).toNat
theorem Sa (a : Int) : AV.int .u8 (IntKind.u8.wrap a) = .int .u8 (Hj a).toNat := by
 have h : 0 ≤ IntKind.u8.wrap a ∧ IntKind.u8.wrap a < 256 := by
  simp only [IntKind.wrap]
  have h1 : IntKind.u8.bits = 8 := rfl
  have h2 : IntKind.u8.signed = false := rfl
  rw [h1, h2]
  simp
  omega
 congr 1
 unfold Hj
 rw [UInt8.toNat_ofNat']
 omega
def Hk (o : gB) : List UInt8 := (o.name ++ ⟨#[40]⟩).data.toList ++ (o.args ++ [o.Ar]).map Hj
def mA (o : gB) : ByteArray := ⟨(Hk o).toArray⟩
theorem Ed (l : List UInt8) (a : Int) : bh l ++ [.int .u8 (IntKind.u8.wrap a)] = bh (l ++ [Hj a]) := by
 rw [Sa]; simp [bh]
theorem Hl (l : List UInt8) : (bh l).length = l.length := by simp [bh]
theorem Sb (s : ByteArray) (φ : AV → Prop) : eK 1 (.str s) φ = (s.size < 9223372036854775808 ∧ φ (.ap 1 (bh s.data.toList))) := _root_.id rfl
theorem Sc (o : Nat) (l : List UInt8) (φ : AV → Prop) (h : φ (.str ⟨l.toArray⟩)) : jk (.ap o (bh l)) φ := ⟨l, rfl, h⟩
theorem Sd (k k' : IntKind) (n : Int) (φ : AV → Prop) : cp k (.int k' n) φ = φ (.int k (k.wrap n)) := _root_.id rfl
theorem V6 (o : gB) (h1 : o.name.size ≤ 32) (h2 : o.args.length ≤ 8) : Pure Tryz.prog 144 [o.av] (.str (mA o)) := by
 refine fun H => Ov.calls rfl ?_
 simp only [IK, Ou]
 have cW : (⟨#[40]⟩ : ByteArray).size = 1 := rfl
 have hs2 : (o.name ++ ⟨#[40]⟩ : ByteArray).size = o.name.size + 1 := by rw [ByteArray.size_append, cW]
 have hln : (o.name ++ ⟨#[40]⟩ : ByteArray).data.toList.length = o.name.size + 1 := hs2
 simp +contextual only [aB, Sb, cW, hs2, sZ, Nat.reduceEqDiff, Nat.reduceAdd, ↓reduceIte]
 refine ⟨by omega, by omega, aF (V5 o.args (by omega)) ?_⟩
 simp +contextual only [aB, nc, ok_int, rC, sZ, Nat.reduceEqDiff, Nat.reduceAdd, ↓reduceIte]
 refine ⟨by omega, ?_⟩
 generalize hv : o.args ++ [o.Ar] = vs
 have pF : vs.length ≤ 9 := by rw [← hv]; simp; omega
 have hk : mA o = ⟨((o.name ++ ⟨#[40]⟩ : ByteArray).data.toList ++ vs.map Hj).toArray⟩ := by rw [mA, Hk, hv]
 rw [hk]
 generalize (o.name ++ ⟨#[40]⟩ : ByteArray).data.toList = nm at *
 refine aG vs.length (fun _ => True)
  (fun i => [(3, .ap 1 (bh (nm ++ (vs.take i).map Hj))), (16, .ap 1 (ints vs)), (17, .int .i64 vs.length), (18, .int .i64 i)]) (fun _ => H) ⟨trivial, aH (by simp) rfl⟩ fun i hi hI => ?_
 simp +contextual only [sZ, Nat.reduceEqDiff, ↓reduceIte, reduceCtorEq]
 refine ⟨fun a8 => ⟨bY a8, ?_⟩, fun jG => ?_⟩
 ·have a8 := bY a8
  simp +contextual only [Sd, nc, ok_int, Ed, Hl, sZ, Nat.reduceEqDiff, Nat.reduceAdd, ↓reduceIte]
  refine ⟨by simp; omega, i + 1, a8, by omega, aH ?_ rfl⟩
  rw [au i (by omega), List.take_add_one, List.map_append, ← List.append_assoc]
  simp [a8]
 ·rw [List.take_of_length_le (dl jG)]
  refine Sc 0 _ _ ?_
  simp +contextual only [sZ]
  exact aZ rfl rfl
instance : LawfulBEq ByteArray where
 rfl := by intro a; rw [yG]; simp
 eq_of_beq := by intro a b h; rw [yG] at h; exact of_decide_eq_true h
def oL (vs : List ByteArray) : List (AV × AV) := vs.map fun v => (.str v, .bool true)
theorem nu (n : ByteArray) : ∀ (vs : List ByteArray) (i : Nat), (n ∈ vs → ∃ j, dL 1 (.str n) (oL vs) i = some (some (j, .bool true))) ∧ (n ∉ vs → dL 1 (.str n) (oL vs) i = some none)
 | [], i => ⟨fun h => (by cases h), fun _ => rfl⟩
 | v :: r, i => by
   have ih := nu n r (i + 1)
   simp only [oL, List.map_cons, dL, cN]
   by_cases hv : n = v
   ·subst hv
    simp
   ·simp only [List.mem_cons, hv, false_or]
    exact ih
theorem qD (n : ByteArray) (vs : List ByteArray) (φ : AV → Prop) : gX (some (.map (oL vs))) 1 (.bool false) (.str n) false φ = φ (.bool (decide (n ∈ vs))) := by
 have h := nu n vs 0
 unfold gX
 by_cases hn : n ∈ vs
 ·obtain ⟨j, hj⟩ := h.1 hn
  simp [hj, hn, tF]
 ·simp [h.2 hn, hn, cN, aS, bi.aS, tF]
theorem Cg {n : ByteArray} {vs : List ByteArray} (hn : n ∉ vs) (id : Nat) (H : List aa) (K : List aa → Prop) : gY (some (.map (oL vs))) 1 id (.str n) (.bool true) H K = K (H.set id (.map (oL (vs ++ [n])))) := by
 have h := (nu n vs 0).2 hn
 unfold gY
 simp only [h]
 simp [cN, IS, zr, E3, oL, aS, bi.aS, tF]
def lV : List ByteArray → List ByteArray → Bool
 | [], _ => true
 | s :: r, seen => if oK s = true ∧ ¬ 0 ≤ NC s ∧ s ∉ seen then lV r (seen ++ [s]) else false
def z3 (n : Int) : List gB → List ByteArray → Bool
 | [], _ => true
 | o :: r, seen => if qC o n = true ∧ mA o ∉ seen then z3 n r (seen ++ [mA o]) else false
def nv (s : Sg) : Bool := decide ((s.aX.length : Int) ≤ 64) && decide ((s.ops.length : Int) ≤ 256) && lV s.aX [] && z3 s.aX.length s.ops []
theorem sQ {l : List ByteArray} {i : Nat} (h : i < l.length) (seen : List ByteArray) : lV (l.drop i) seen = if oK (l.getD i default) = true ∧ ¬ 0 ≤ NC (l.getD i default) ∧ l.getD i default ∉ seen then lV (l.drop (i + 1)) (seen ++ [l.getD i default]) else false := by
 rw [List.drop_eq_getElem_cons h, lV]
 have e : l.getD i default = l[i] := by simp [h]
 rw [e]
theorem yb {n : Int} {l : List gB} {i : Nat} (h : i < l.length) (seen : List ByteArray) : z3 n (l.drop i) seen = if qC (l.getD i default) n = true ∧ mA (l.getD i default) ∉ seen then z3 n (l.drop (i + 1)) (seen ++ [mA (l.getD i default)]) else false := by
 rw [List.drop_eq_getElem_cons h, z3]
 have e : l.getD i default = l[i] := by simp [h]
 rw [e]
theorem Ee {o : gB} {n : Int} (h : qC o n = true) : o.name.size ≤ 32 ∧ o.args.length ≤ 8 ∧ Hi n o.Ar = true ∧ ∀ a ∈ o.args, Hi n a = true := by
 simp only [qC, oK, Bool.and_eq_true, Bool.not_eq_true', decide_eq_false_iff_not, decide_eq_true_eq] at h
 obtain ⟨⟨⟨_, h1⟩, _⟩, _, _, h2, h3, h4⟩ := h
 refine ⟨by omega, by omega, h3, fun a ha => ?_⟩
 cases hx : Hi n a with
 | true => rfl
 | false =>
   rw [Bool.eq_false_iff] at h4
   exact absurd (List.any_eq_true.2 ⟨a, ha, by rw [hx]; rfl⟩) h4
theorem c81 (s : Sg) : Pure Tryz.prog 81 [s.av] (.int .i64 (if nv s = true then 0 else 40)) := by
 refine fun H => TT.calls rfl ?_
 simp only [P6, TS]
 have bad : ∀ {G : List aa} {e : Bool}, e = false → G.take H.length = H → nv s = e → bT H.length [RX.t 2] [(2, AV.int IntKind.i64 40)] G fun r H' => r = AV.int IntKind.i64 (if nv s = true then 0 else 40) ∧ H' = H := by
  intro G e he hG hc
  rw [hc, he]
  exact Nj hG rfl rfl ⟨rfl, rfl⟩
 simp +contextual only [aB, sZ, Nat.reduceEqDiff, Nat.reduceAdd, ↓reduceIte, reduceCtorEq]
 refine fun _ => ⟨fun h1 _ => ⟨fun h2 => ?_, fun h2 => ?_⟩, fun h1 => ?_⟩
 ·have h2' : ¬ (s.ops.length : Int) ≤ 256 := by omega
  exact bad rfl (by simp) (by rw [nv, decide_eq_false h2']; simp)
 ·refine aN s.aX.length (fun i (seen : List ByteArray) => lV (s.aX.drop i) seen = lV s.aX [])
   (fun i seen => [(1, .ai s.av), (3, .map H.length), (21, .ap 0 (strs s.aX)), (22, .int .i64 s.aX.length), (23, .int .i64 i)]) (fun i seen => H ++ [.map (oL seen)]) [] ⟨rfl, aA _ _ _⟩ fun i seen hi hI => ?_
  simp +contextual only [aB, sZ, Nat.reduceEqDiff, Nat.reduceAdd, ↓reduceIte]
  refine ⟨fun a8 => ⟨bY a8, ?_⟩, fun jG => ?_⟩
  ·have a8 := bY a8
   rw [sQ a8] at hI
   generalize s.aX.getD i default = x at *
   refine ae (V2 x) ?_
   cases hn : oK x with
   | false =>
     rw [hn, if_neg (by simp)] at hI
     simp +contextual only [sZ, Nat.reduceEqDiff, ↓reduceIte, reduceCtorEq]
     exact bad rfl (by simp) (by simp [nv, ← hI])
   | true =>
     rw [hn] at hI
     simp +contextual only [sZ, Nat.reduceEqDiff, Nat.reduceAdd, ↓reduceIte]
     refine ae (Zi x) ?_
     by_cases hu : 0 ≤ NC x
     ·rw [if_neg (fun h => h.2.1 hu)] at hI
      simp +contextual only [hu, sZ, Nat.reduceEqDiff, ↓reduceIte, reduceCtorEq]
      exact bad rfl (by simp) (by simp [nv, ← hI])
     ·by_cases hm : x ∈ seen
      ·rw [if_neg (fun h => h.2.2 hm)] at hI
       simp +contextual only [hu, qD, hm, sZ, Nat.reduceEqDiff, ↓reduceIte, reduceCtorEq]
       exact bad rfl (by simp) (by simp [nv, ← hI])
      ·rw [if_pos ⟨rfl, hu, hm⟩] at hI
       simp +contextual only [hu, qD, hm, Cg hm, sZ, Nat.reduceEqDiff, ↓reduceIte]
       exact ⟨i + 1, seen ++ [x], ⟨a8, hI⟩, by omega, aH (by rw [au i (by omega)]) rfl⟩
  ·have hs : lV s.aX [] = true := by
    rw [← hI, List.drop_of_length_le (dl jG)]; rfl
   have hc : nv s = z3 s.aX.length s.ops [] := by simp [nv, h1, h2, hs]
   clear hI
   simp +contextual only [sZ]
   refine fun _ => aN s.ops.length (fun i (seen2 : List ByteArray) => z3 s.aX.length (s.ops.drop i) seen2 = z3 s.aX.length s.ops [])
    (fun i seen2 => [(1, .ai s.av), (6, .map (H.length + 1)), (44, .ap 0 (ou s.ops)), (45, .int .i64 s.ops.length), (46, .int .i64 i)]) (fun i seen2 => H ++ [.map (oL seen), .map (oL seen2)]) [] ⟨rfl, aA _ _ _⟩ fun i seen2 hi hI => ?_
   simp +contextual only [aB, sZ, Nat.reduceEqDiff, Nat.reduceAdd, ↓reduceIte, reduceCtorEq]
   refine ⟨fun a8 => ⟨bY a8, ?_⟩, fun jG => ?_⟩
   ·have a8 := bY a8
    rw [yb a8] at hI
    generalize s.ops.getD i default = x at *
    refine fun _ => ae (Zn x _) ?_
    cases hg : qC x s.aX.length with
    | false =>
      rw [hg, if_neg (by simp)] at hI
      simp +contextual only [sZ, Nat.reduceEqDiff, ↓reduceIte, reduceCtorEq]
      exact bad rfl (by simp) (by rw [hc, ← hI])
    | true =>
      rw [hg] at hI
      have XG := Ee hg
      simp +contextual only [aB, sZ, Nat.reduceEqDiff, Nat.reduceAdd, ↓reduceIte]
      refine ae (V6 x XG.1 XG.2.1) ?_
      by_cases hm : mA x ∈ seen2
      ·rw [if_neg (fun h => h.2 hm)] at hI
       simp +contextual only [qD, hm, sZ, Nat.reduceEqDiff, ↓reduceIte, reduceCtorEq]
       exact bad rfl (by simp) (by rw [hc, ← hI])
      ·rw [if_pos ⟨rfl, hm⟩] at hI
       simp +contextual only [aB, qD, hm, sZ, Nat.reduceEqDiff, Nat.reduceAdd, ↓reduceIte]
       refine ae (V6 x XG.1 XG.2.1) ?_
       simp +contextual only [Cg hm, sZ, Nat.reduceEqDiff, ↓reduceIte]
       exact ⟨i + 1, seen2 ++ [mA x], ⟨a8, hI⟩, by omega, aH (by rw [au i (by omega)]) rfl⟩
   ·rw [List.drop_of_length_le (dl jG)] at hI
    exact Nj (by simp) rfl rfl ⟨by rw [hc, ← hI]; rfl, rfl⟩
 ·have Ym : ¬ (s.aX.length : Int) ≤ 64 := by omega
  exact bad rfl (by simp) (by rw [nv, decide_eq_false Ym]; simp)
end Go.aK
end
section
set_option maxRecDepth 100000
namespace Go.aK
open Go Go.Proofs Go.fE
def gL (w : List (Int × Int)) : List (AV × AV) := w.map fun p => (.int .i64 p.1, .int .i64 p.2)
theorem Ef (n : Int) : ∀ (w : List (Int × Int)) (i : Nat), (∃ j s, w[j]? = some (n, s) ∧ dL 0 (.int .i64 n) (gL w) i = some (some (i + j, .int .i64 s))) ∨ ((∀ p ∈ w, p.1 ≠ n) ∧ dL 0 (.int .i64 n) (gL w) i = some none)
 | [], i => .inr ⟨(fun p h => by cases h), rfl⟩
 | (a, b) :: r, i => by
   have ih := Ef n r (i + 1)
   simp only [gL, List.map_cons, dL, cN, if_true]
   by_cases h : n = a
   ·subst h
    exact .inl ⟨0, b, rfl, by simp⟩
   ·simp only [decide_eq_false h]
    rcases ih with ⟨j, s, h1, h2⟩ | ⟨h1, h2⟩
    ·exact .inl ⟨j + 1, s, h1, by rw [show i + (j + 1) = i + 1 + j by omega]; exact h2⟩
    ·refine .inr ⟨fun p hp => ?_, h2⟩
     rcases List.mem_cons.1 hp with rfl | hp
     ·exact fun e => h e.symm
     ·exact h1 p hp
theorem V7 {n : Int} {w : List (Int × Int)} {φ : AV → Prop} (h1 : ∀ s, (n, s) ∈ w → φ (.tuple [.int .i64 s, .bool true])) (h2 : (∀ p ∈ w, p.1 ≠ n) → φ (.tuple [.int .i64 0, .bool false])) : gX (some (.map (gL w))) 0 (.int .i64 0) (.int .i64 n) true φ := by
 unfold gX
 rcases Ef n w 0 with ⟨j, s, h3, h4⟩ | ⟨h3, h4⟩
 ·simp only [h4]; exact h1 s (List.mem_of_getElem? h3)
 ·simp only [h4]; exact ⟨by simp [cN], h2 h3⟩
theorem msW {n s : Int} {w : List (Int × Int)} {id : Nat} {H : List aa} {K : List aa → Prop} (h : ∀ w', (∀ p ∈ w', p ∈ w ∨ p = (n, s)) → (∀ p ∈ w, ∃ q ∈ w', q.1 = p.1) → (n, s) ∈ w' → K (H.set id (.map (gL w')))) : gY (some (.map (gL w))) 0 id (.int .i64 n) (.int .i64 s) H K := by
 unfold gY
 refine ⟨rfl, rfl, rfl, ?_⟩
 have ec : aS (.int .i64 s) = .int .i64 s := rfl
 rcases Ef n w 0 with ⟨j, x, h3, h4⟩ | ⟨h3, h4⟩
 ·simp only [h4, ec, Nat.zero_add]
  have e : (gL w).set j (.int .i64 n, .int .i64 s) = gL (w.set j (n, s)) := by simp [gL, List.map_set]
  rw [e]
  have hj := (List.getElem?_eq_some_iff.1 h3).1
  refine h _ (fun p hp => List.mem_or_eq_of_mem_set hp) (fun p hp => ?_) (List.mem_iff_getElem?.2 ⟨j, by rw [List.getElem?_set_self hj]⟩)
  obtain ⟨m, hm⟩ := List.mem_iff_getElem?.1 hp
  by_cases e : j = m
  ·subst e
   rw [h3] at hm; cases hm
   exact ⟨(n, s), List.mem_iff_getElem?.2 ⟨j, by rw [List.getElem?_set_self hj]⟩, rfl⟩
  ·exact ⟨p, List.mem_iff_getElem?.2 ⟨m, by rw [List.getElem?_set_ne e]; exact hm⟩, rfl⟩
 ·simp only [h4, ec]
  refine ⟨by simp [cN], ?_⟩
  have e : gL w ++ [(AV.int .i64 n, AV.int .i64 s)] = gL (w ++ [(n, s)]) := by simp [gL]
  rw [e]
  exact h _ (fun p hp => by simpa using hp) (fun p hp => ⟨p, List.mem_append.2 (.inl hp), rfl⟩) (by simp)
structure ND (ps ss : List Int) (i : Nat) : Prop where
 N6 : ∀ j, j < i → 0 ≤ ps.getD j 0 ∧ ps.getD j 0 ≤ 255 ∧ 1 ≤ ss.getD j 0 ∧ ss.getD j 0 ≤ 3
 st : ∀ j k, j < i → k < i → ps.getD j 0 = ps.getD k 0 → ss.getD j 0 = ss.getD k 0
def eD (s : Sg) (ps ss : List Int) : Prop := ps.length = s.ops.length ∧ ss.length = s.ops.length ∧ ND ps ss ps.length
theorem eD.va {s : Sg} {ps ss : List Int} (h : eD s ps ss) : Va ps ss := ⟨by rw [h.2.1, h.1], h.2.2.st⟩
open Classical in
noncomputable def iO (s : Sg) (ps ss : List Int) : Int := if nv s = true then (if eD s ps ss then 0 else 60) else 40
theorem vx (ps ss : List Int) (φ : AV → Prop) : ak 0 none (.ai (eN ps ss)) φ = φ (.ai (.ap 0 (ints ps))) := by simp [ak, apart, eN, AV.cells, AV.one]
theorem wT (ps ss : List Int) (φ : AV → Prop) : ak 1 none (.ai (eN ps ss)) φ = φ (.ai (.ap 0 (ints ss))) := by simp [ak, apart, eN, AV.cells, AV.one]
theorem bf (ps ss : List Int) : (eN ps ss).val = true ∧ (eN ps ss).cells.length = 2 ∧ (eN ps ss).cells.all AV.one = true ∧ (eN ps ss).ab = eN ps ss ∧ (eN ps ss).drop = eN ps ss ∧ ∀ n, (eN ps ss).aY n = true :=
 ⟨rfl, rfl, rfl, rfl, rfl, fun n => by simp [eN, uS, bL, cV, cU, bk]⟩
theorem cA (ps ss : List Int) (H : List aa) (φ : AV → Prop) : aR (some 2) (.ai (eN ps ss)) H φ = φ (eN ps ss) := Nx _ _ _ _
theorem Zr (s : Sg) (ps ss : List Int) : Pure Tryz.prog 24 [s.av, eN ps ss] (.int .i64 (iO s ps ss)) := by
 refine fun H => k24.2.calls rfl ?_
 simp only [k24, aI]
 obtain ⟨q1, q2, q3, q4, q5, q6⟩ := bf ps ss
 simp +contextual only [aB, q1, sZ, Nat.reduceEqDiff, Nat.reduceAdd, ↓reduceIte, reduceCtorEq]
 refine ae (c81 s) ?_
 cases hs : nv s with
 | false =>
   have e : iO s ps ss = 40 := by rw [iO, if_neg (by rw [hs]; simp)]
   rw [e]
   simp +contextual only [Bool.false_eq_true, sZ, Nat.reduceEqDiff, ↓reduceIte, reduceCtorEq, Int.reduceEq]
   exact aZ rfl rfl
 | true =>
   simp +contextual only [aB, vx, wT, aw, sZ, Nat.reduceEqDiff, ↓reduceIte, reduceCtorEq]
   have bad : ¬ eD s ps ss → iO s ps ss = 60 := fun h => by rw [iO, if_pos hs, if_neg h]
   have Se : eD s ps ss → iO s ps ss = 0 := fun h => by rw [iO, if_pos hs, if_pos h]
   have ret60 : ∀ (X : List aa), ¬ eD s ps ss → bT H.length [.t 4] [(4, .int .i64 60)] (H ++ X) fun r H' => r = .int .i64 (iO s ps ss) ∧ H' = H := fun X h => by rw [bad h]; exact JA rfl rfl
   have ret60' : ¬ eD s ps ss → bT H.length [.t 4] [(4, .int .i64 60)] H fun r H' => r = .int .i64 (iO s ps ss) ∧ H' = H := fun h => by rw [bad h]; exact aZ rfl rfl
   refine fun _ _ => ⟨fun hl => ?_, fun hl => ?_⟩
   rotate_left
   ·first | exact ret60' fun h => hl (by omega) | (refine ret60' fun h => ?_; have := h.1; omega)
   refine fun _ => ⟨fun nJ => ret60' fun h => nJ (by have := h.2.1; omega), fun nJ => ?_⟩
   have g0 : ∀ w, (H ++ [aa.map (gL w)])[H.length]? = some (.map (gL w)) := fun w => by simp
   have gs : ∀ w w', (H ++ [aa.map (gL w)]).set H.length (.map (gL w')) = H ++ [.map (gL w')] := fun w w' => by simp
   refine aN ps.length (fun i (w : List (Int × Int)) => ND ps ss i ∧ (∀ p ∈ w, ∃ j, j < i ∧ ps.getD j 0 = p.1 ∧ ss.getD j 0 = p.2) ∧ ∀ j, j < i → ∃ p ∈ w, p.1 = ps.getD j 0)
    (fun i w => [(3, .ai (eN ps ss)), (6, .map H.length), (35, .ap 0 (ints ps)), (36, .int .i64 s.ops.length), (37, .int .i64 i)]) (fun i w => H ++ [.map (gL w)]) []
    ⟨⟨⟨fun j h => by omega, fun j k h => by omega⟩, (fun p h => by cases h), fun j h => by omega⟩, aA _ _ _⟩ fun i w hi hI => ?_
   ·obtain ⟨hu, hw1, hw2⟩ := hI
    have nbad : ∀ j, j < ps.length → ¬ (0 ≤ ps.getD j 0 ∧ ps.getD j 0 ≤ 255 ∧ 1 ≤ ss.getD j 0 ∧ ss.getD j 0 ≤ 3) → ¬ eD s ps ss := fun j hj h h' => h (h'.2.2.N6 j hj)
    by_cases K8 : (i : Int) < s.ops.length
    ·have Sf : i < ps.length := by omega
     simp +contextual only [wT, cu, Int.toNat_natCast, g0, K8, decide_true, sZ, Nat.reduceEqDiff, ↓reduceIte]
     generalize hp : ps.getD i 0 = p
     generalize hq : ss.getD i 0 = q
     refine ⟨by omega, ⟨by omega, by omega⟩, ?_⟩
     by_cases r1 : p < 0
     ·refine V7 (fun o _ => ?_) (fun _ => ?_)
      all_goals
       simp +contextual only [r1, decide_true, sZ, Nat.reduceEqDiff, Nat.reduceAdd, Nat.reduceLT, ↓reduceIte, reduceCtorEq]
       exact ret60 _ (nbad i Sf (by rw [hp]; omega))
     ·by_cases r2 : 255 < p
      ·refine V7 (fun o _ => ?_) (fun _ => ?_)
       all_goals
        simp +contextual only [r1, r2, decide_true, decide_false, sZ, Nat.reduceEqDiff, Nat.reduceAdd, Nat.reduceLT, ↓reduceIte, reduceCtorEq]
        exact ret60 _ (nbad i Sf (by rw [hp]; omega))
      ·by_cases r3 : q < 1
       ·refine V7 (fun o _ => ?_) (fun _ => ?_)
        all_goals
         simp +contextual only [r1, r2, r3, decide_true, decide_false, sZ, Nat.reduceEqDiff, Nat.reduceAdd, Nat.reduceLT, ↓reduceIte, reduceCtorEq]
         exact ret60 _ (nbad i Sf (by rw [hq]; omega))
       ·by_cases r4 : 3 < q
        ·refine V7 (fun o _ => ?_) (fun _ => ?_)
         all_goals
          simp +contextual only [r1, r2, r3, r4, decide_true, decide_false, sZ, Nat.reduceEqDiff, Nat.reduceAdd, Nat.reduceLT, ↓reduceIte, reduceCtorEq]
          exact ret60 _ (nbad i Sf (by rw [hq]; omega))
        ·have Zs : 0 ≤ p ∧ p ≤ 255 ∧ 1 ≤ q ∧ q ≤ 3 := ⟨by omega, by omega, by omega, by omega⟩
         have next : (∀ j, j < i → ps.getD j 0 = p → ss.getD j 0 = q) → ∀ w' : List (Int × Int), (∀ x ∈ w', x ∈ w ∨ x = (p, q)) → (∀ x ∈ w, ∃ y ∈ w', y.1 = x.1) → (p, q) ∈ w' → ND ps ss (i + 1) ∧ (∀ x ∈ w', ∃ j, j < i + 1 ∧ ps.getD j 0 = x.1 ∧ ss.getD j 0 = x.2) ∧ ∀ j, j < i + 1 → ∃ x ∈ w', x.1 = ps.getD j 0 := by
          intro hsame w' m1 m2 m3
          refine ⟨⟨fun j hj => ?_, fun j k hj hk he => ?_⟩, fun x hx => ?_, fun j hj => ?_⟩
          ·by_cases e : j = i
           ·subst e; rw [hp, hq]; exact Zs
           ·exact hu.N6 j (by omega)
          ·by_cases e : j = i
           ·by_cases e' : k = i
            ·rw [e, e']
            ·subst e; rw [hp] at he; rw [hq]; exact (hsame k (by omega) he.symm).symm
           ·by_cases e' : k = i
            ·subst e'; rw [hp] at he; rw [hq]; exact hsame j (by omega) he
            ·exact hu.st j k (by omega) (by omega) he
          ·rcases m1 x hx with h | rfl
           ·obtain ⟨j, h1, h2, h3⟩ := hw1 x h; exact ⟨j, by omega, h2, h3⟩
           ·exact ⟨i, by omega, hp, hq⟩
          ·by_cases e : j = i
           ·subst e; rw [hp]; exact ⟨_, m3, rfl⟩
           ·obtain ⟨x, h1, h2⟩ := hw2 j (by omega)
            obtain ⟨y, h3, h4⟩ := m2 x h1
            exact ⟨y, h3, h4.trans h2⟩
         refine V7 (fun o ho => ?_) (fun jH => ?_)
         ·obtain ⟨j0, hj1, Zt, Zu⟩ := hw1 _ ho
          simp only at Zt Zu
          by_cases VC : o = q
          ·subst VC
           have d0 : decide (¬ o = o) = false := by simp
           simp +contextual only [r1, r2, r3, r4, decide_false, g0, sZ, Nat.reduceEqDiff, Nat.reduceAdd, Nat.reduceLT, ↓reduceIte]
           refine msW fun w' m1 m2 m3 => ?_
           simp +contextual only [gs, sZ, Nat.reduceEqDiff, ↓reduceIte]
           refine ⟨i + 1, w', ⟨Sf, next (fun j hj he => ?_) w' m1 m2 m3⟩, by omega, aH (by rw [au i (by omega)]) rfl⟩
           rw [hu.st j j0 hj hj1 (he.trans Zt.symm), Zu]
          ·have d0 : decide (¬ o = q) = true := by simp [VC]
           simp +contextual only [r1, r2, r3, r4, decide_false, d0, sZ, Nat.reduceEqDiff, Nat.reduceAdd, Nat.reduceLT, ↓reduceIte, reduceCtorEq]
           exact ret60 _ fun h => VC (by rw [← Zu, ← hq]; exact h.2.2.st j0 i (by omega) Sf (Zt.trans hp.symm))
         ·simp +contextual only [r1, r2, r3, r4, decide_false, g0, sZ, Nat.reduceEqDiff, Nat.reduceAdd, Nat.reduceLT, ↓reduceIte]
          refine msW fun w' m1 m2 m3 => ?_
          simp +contextual only [gs, sZ, Nat.reduceEqDiff, ↓reduceIte]
          refine ⟨i + 1, w', ⟨Sf, next (fun j hj he => ?_) w' m1 m2 m3⟩, by omega, aH (by rw [au i (by omega)]) rfl⟩
          obtain ⟨x, h1, h2⟩ := hw2 j hj
          exact absurd (h2.trans he) (jH x h1)
    ·have Y4 : i = ps.length := by omega
     subst Y4
     rw [Se ⟨by omega, by omega, hu⟩]
     simp +contextual only [K8, decide_false, sZ, Nat.reduceEqDiff, ↓reduceIte, reduceCtorEq]
     exact JA rfl rfl
end Go.aK
end
section
set_option maxRecDepth 100000
namespace Go.aK
open Go Go.Proofs Go.fE
theorem V8 (g : Nat) (cv : List AV) (cE : cv.map AV.ab = cv) (p : T → Bool) (l : List T) (hf : ∀ x ∈ l, Pure Tryz.prog g ([x.av] ++ cv) (.bool (p x))) :
 Pure Tryz.prog 114 [.ap 0 (cJ l), .fn (.func g) [] cv] (.int .i64 (rE p l 0)) := by
 refine fun H => Bk.2.calls rfl ?_
 simp only [Bk, aI]
 simp +contextual only [sZ, Nat.reduceEqDiff, Nat.reduceAdd, ↓reduceIte, reduceCtorEq]
 intro hl
 refine aG l.length (fun i => rE p (l.drop i) i = rE p l 0) (fun i => [(0, .ap 0 (cJ l)), (1, .fn (.func g) [] cv), (7, .int .i64 l.length), (8, .int .i64 i)]) (fun _ => H) ⟨rfl, aA _ _ _⟩ fun i hi hI => ?_
 simp +contextual only [cE, sZ, Nat.reduceEqDiff, Nat.reduceAdd, ↓reduceIte, reduceCtorEq]
 refine ⟨fun a8 => ?_, fun jG => ?_⟩
 ·have a8 := bY a8
  rw [xM a8] at hI
  refine ⟨a8, ae (hf _ (ig a8)) ?_⟩
  cases hb : p (l.getD i default) with
  | true =>
    rw [if_pos hb] at hI
    simp +contextual only [sZ, Nat.reduceEqDiff, ↓reduceIte, reduceCtorEq]
    exact aZ rfl (by rw [← hI])
  | false =>
    rw [if_neg (by rw [hb]; simp)] at hI
    simp +contextual only [sZ, Nat.reduceEqDiff, ↓reduceIte, reduceCtorEq]
    exact ⟨i + 1, ⟨a8, hI⟩, by omega, aH (by rw [au i (by omega)]) rfl⟩
 ·rw [List.drop_of_length_le (dl jG)] at hI
  exact aZ rfl (by rw [← hI]; rfl)
theorem Si (g : Nat) (cv : List AV) (cE : cv.map AV.ab = cv) (p : T → Bool) (l : List T) (hf : ∀ x ∈ l, Pure Tryz.prog g ([x.av] ++ cv) (.bool (p x))) :
 Pure Tryz.prog 53 [.ap 0 (cJ l), .fn (.func g) [] cv] (.bool (l.any p)) := by
 refine fun H => Om.2.calls rfl ?_
 simp only [Om, aI]
 simp +contextual only [sZ, Nat.reduceEqDiff, Nat.reduceAdd, ↓reduceIte, reduceCtorEq]
 refine ae (V8 g cv cE p l hf) ?_
 simp +contextual only [sZ, ↓reduceIte, reduceCtorEq]
 exact aZ rfl (by rw [vf p l 0 (by omega)])
theorem Zv (x : T) : Pure Tryz.prog 130 [x.av] (.int .i64 (if x.tree = true then 0 else 4)) := by
 refine fun H => LN.2.calls rfl ?_
 simp only [LN, aI]
 simp +contextual only [sZ, Nat.reduceEqDiff, Nat.reduceAdd, ↓reduceIte]
 refine ae (YO x) ?_
 cases h : x.tree with
 | true => simp +contextual only [Bool.not_true, sZ, ↓reduceIte, reduceCtorEq]; exact aZ rfl rfl
 | false => simp +contextual only [Bool.not_false, sZ, ↓reduceIte, reduceCtorEq]; exact aZ rfl rfl
mutual
def nw (s : Sg) : T → Bool
 | .mk k n l => !(decide (k = 2) && (decide ((s.ops.length : Int) ≤ n) || !decide ((l.length : Int) = ((s.ops.getD n.toNat default).args.length : Nat)))) && XH s l
def XH (s : Sg) : List T → Bool
 | [] => true
 | x :: r => nw s x && XH s r
end
theorem tN (s : Sg) : ∀ l, XH s l = !(l.any fun x => !nw s x)
 | [] => rfl
 | x :: r => by rw [XH, tN s r, List.any_cons]; cases nw s x <;> simp
theorem Zw (s : Sg) : ∀ t : T, t.shaped = true → Pure Tryz.prog 131 [s.av, t.av] (.bool (nw s t)) := by
 suffices h : ∀ N t, wt t ≤ N → t.shaped = true → Pure Tryz.prog 131 [s.av, t.av] (.bool (nw s t)) from fun t ht => h _ t (Nat.le_refl _) ht
 intro N
 induction N with
 | zero => intro t h; have := gr t; omega
 | succ N ih =>
 intro t hN hs H
 have hk := nl hs
 have c182 : ∀ x ∈ t.l, Pure Tryz.prog 182 ([x.av] ++ [.ai s.av]) (.bool (!nw s x)) := by
  intro x hx H
  refine UB.2.calls rfl ?_
  simp only [UB, aI]
  simp +contextual only [aB, sZ, Nat.reduceEqDiff, Nat.reduceAdd, ↓reduceIte, reduceCtorEq]
  refine ae (ih x (by have := cK hx; omega) (hk.2 x hx)) ?_
  simp +contextual only [sZ, ↓reduceIte, reduceCtorEq]
  exact aZ rfl rfl
 have hn : 0 ≤ t.n := by
  rw [T.fR] at hs
  simp only [Bool.and_eq_true, Bool.not_eq_true', Bool.or_eq_false_iff, decide_eq_false_iff_not] at hs
  have := hs.1.1.1.1
  omega
 obtain ⟨m, hm⟩ := Int.eq_ofNat_of_zero_le hn
 refine T9.2.calls rfl ?_
 simp only [T9, aI]
 have e : nw s t = (!(decide (t.k = 2) && (decide ((s.ops.length : Int) ≤ t.n) || !decide ((t.l.length : Int) = ((s.ops.getD t.n.toNat default).args.length : Nat)))) && !(t.l.any fun x => !nw s x)) := by
  rw [← tN]; cases t; rfl
 have fin : (!(decide (t.k = 2) && (decide ((s.ops.length : Int) ≤ t.n) || !decide ((t.l.length : Int) = ((s.ops.getD t.n.toNat default).args.length : Nat))))) = false → bT H.length [.t 4] [(4, .bool false)] H fun r H' => r = .bool (nw s t) ∧ H' = H := by
  intro h
  rw [e, h]; exact aZ rfl rfl
 by_cases h2 : t.k = 2
 ·by_cases h3 : (s.ops.length : Int) ≤ t.n
  ·simp +contextual only [aB, h2, h3, decide_true, sZ, Nat.reduceEqDiff, Nat.reduceAdd, ↓reduceIte, reduceCtorEq]
   exact fin (by simp [h2, h3])
  ·have XI : m < s.ops.length := by omega
   have S0 : ¬ (s.ops.length : Int) ≤ (m : Int) := by omega
   have em : t.n.toNat = m := by omega
   by_cases h4 : (t.l.length : Int) = ((s.ops.getD m default).args.length : Nat)
   ·simp +contextual only [aB, h2, S0, h4, hm, XI, aw, decide_true, decide_false, sZ, Nat.reduceEqDiff, Nat.reduceAdd, ↓reduceIte, reduceCtorEq]
    refine ae (Si 182 [.ai s.av] rfl _ t.l c182) ?_
    simp +contextual only [sZ, ↓reduceIte, reduceCtorEq]
    refine aZ rfl ?_
    rw [e, em, h4]
    simp [h2, h3]
   ·simp +contextual only [aB, h2, S0, h4, hm, XI, aw, decide_true, decide_false, sZ, Nat.reduceEqDiff, Nat.reduceAdd, ↓reduceIte, reduceCtorEq]
    exact fin (by rw [em, decide_eq_true h2, decide_eq_false h3, decide_eq_false h4]; rfl)
 ·simp +contextual only [aB, h2, decide_false, sZ, Nat.reduceEqDiff, Nat.reduceAdd, ↓reduceIte, reduceCtorEq]
  refine ae (Si 182 [.ai s.av] rfl _ t.l c182) ?_
  simp +contextual only [sZ, ↓reduceIte, reduceCtorEq]
  refine aZ rfl ?_
  rw [e]
  simp [h2]
noncomputable def fo (s : Sg) (ps ss : List Int) (l : List T) : Int := if iO s ps ss = 0 then (if (l.all fun t => t.tree && nw s t) = true then 0 else 4) else iO s ps ss
theorem Hm {p : T → Bool} {l : List T} {i : Nat} (h : i < l.length) : (l.drop i).all p = (p (l.getD i default) && (l.drop (i + 1)).all p) := by
 have e : l.getD i default = l[i] := by simp [h]
 rw [List.drop_eq_getElem_cons h, List.all_cons, e]
theorem V9 (s : Sg) (ps ss : List Int) (l : List T) : Pure Tryz.prog 74 [s.av, eN ps ss, .ap 0 (cJ l)] (.int .i64 (fo s ps ss l)) := by
 refine fun H => k74.2.calls rfl ?_
 simp only [k74, aI]
 obtain ⟨q1, q2, q3, q4, q5, q6⟩ := bf ps ss
 simp +contextual only [aB, q1, q4, cA, sZ, Nat.reduceEqDiff, Nat.reduceAdd, ↓reduceIte, reduceCtorEq]
 refine ae (Zr s ps ss) ?_
 by_cases h0 : iO s ps ss = 0
 ·simp +contextual only [h0, sZ, Nat.reduceEqDiff, ↓reduceIte]
  intro _
  refine aG l.length (fun i => l.all (fun t => t.tree && nw s t) = (l.drop i).all fun t => t.tree && nw s t) (fun i => [(3, .ai s.av), (16, .ap 0 (cJ l)), (17, .int .i64 l.length), (18, .int .i64 i)]) (fun _ => H) ⟨rfl, aA _ _ _⟩ fun i hi hI => ?_
  by_cases Ao : (i : Int) < l.length
  ·have a8 : i < l.length := by omega
   rw [Hm a8] at hI
   simp +contextual only [Ao, decide_true, sZ, Nat.reduceEqDiff, Nat.reduceAdd, ↓reduceIte]
   refine ⟨a8, ae (Zv _) ?_⟩
   cases ht : (l.getD i default).tree with
   | false =>
     rw [ht, Bool.false_and, Bool.false_and] at hI
     simp +contextual only [sZ, Nat.reduceEqDiff, ↓reduceIte, reduceCtorEq, Int.reduceEq]
     refine aZ rfl ?_
     rw [fo, if_pos h0, hI, if_neg (by simp)]
   | true =>
     rw [ht, Bool.true_and] at hI
     simp +contextual only [aB, sZ, Nat.reduceEqDiff, Nat.reduceAdd, ↓reduceIte]
     refine ae (Zw s _ ((T.kI _).1 ht).2.2) ?_
     cases ho : nw s (l.getD i default) with
     | false =>
       rw [ho, Bool.false_and] at hI
       simp +contextual only [Bool.not_false, sZ, Nat.reduceEqDiff, ↓reduceIte, reduceCtorEq]
       refine aZ rfl ?_
       rw [fo, if_pos h0, hI, if_neg (by simp)]
     | true =>
       rw [ho, Bool.true_and] at hI
       simp +contextual only [Bool.not_true, sZ, Nat.reduceEqDiff, ↓reduceIte]
       exact ⟨i + 1, ⟨a8, hI⟩, by omega, aH (by rw [au i (by omega)]) rfl⟩
  ·simp +contextual only [Ao, decide_false, sZ, Nat.reduceEqDiff, ↓reduceIte, reduceCtorEq]
   rw [List.drop_of_length_le (by omega)] at hI
   refine aZ rfl ?_
   rw [fo, if_pos h0, hI]; rfl
 ·simp +contextual only [h0, sZ, Nat.reduceEqDiff, ↓reduceIte, reduceCtorEq]
  refine aZ rfl ?_
  rw [fo, if_neg h0]
theorem Sj {s : Sg} : ∀ t : T, t.shaped = true → nw s t = true → xX (fun n => 0 ≤ n ∧ n < s.ops.length) t := by
 suffices h : ∀ N t, wt t ≤ N → t.shaped = true → nw s t = true → xX (fun n => 0 ≤ n ∧ n < s.ops.length) t from fun t => h _ t (Nat.le_refl _)
 intro N
 induction N with
 | zero => intro t h; have := gr t; omega
 | succ N ih =>
 intro t hN hs ho
 have hn : 0 ≤ t.n := by
  rw [T.fR] at hs
  simp only [Bool.and_eq_true, Bool.not_eq_true', Bool.or_eq_false_iff, decide_eq_false_iff_not] at hs
  have := hs.1.1.1.1
  omega
 have hk := (nl hs).2
 obtain ⟨k, n, l⟩ := t
 rw [nw, tN] at ho
 simp only [Bool.and_eq_true, Bool.not_eq_true', Bool.and_eq_false_iff, Bool.or_eq_false_iff, decide_eq_false_iff_not, List.any_eq_false, Bool.not_eq_false'] at ho
 refine xX.mk k n l (fun HD => ?_) fun x hx => ih x (by have := cK (a := .mk k n l) hx; omega) (hk x hx) ?_
 ·rcases ho.1 with h | h
  ·exact absurd HD h
  ·exact ⟨hn, by omega⟩
 ·have := ho.2 x hx
  simpa using this
end Go.aK
end
section
set_option maxRecDepth 100000
namespace Go.aK
open Go Go.Proofs Go.fE
mutual
theorem J0 : ∀ t : T, (wt t : Int) = t.sz
 | .mk k n l => by rw [wt, T.sz]; have := Fl l; omega
theorem Fl : ∀ l : List T, (gE l : Int) = DY l
 | [] => rfl
 | x :: r => by rw [gE, DY]; have := J0 x; have := Fl r; omega
end
theorem lW {l : List T} (h : ∀ t ∈ l, t.tree = true) : gE l ≤ 2000 * l.length := by
 induction l with
 | nil => simp [gE]
 | cons x r ih =>
   have := ih fun t ht => h t (List.mem_cons_of_mem _ ht)
   have h1 := ((T.kI x).1 (h x List.mem_cons_self)).1
   have h2 := J0 x
   rw [gE, List.length_cons]; omega
structure Zx (s : Sg) (ps ss : List Int) (l : List T) : Prop where
 ord : eD s ps ss
 tree : ∀ t ∈ l, t.tree = true
 all : ∀ t ∈ l, xX (fun n => 0 ≤ n ∧ n < ps.length) t
theorem vz {s : Sg} {ps ss : List Int} : iO s ps ss = 0 ↔ nv s = true ∧ eD s ps ss := by
 unfold iO
 by_cases h : nv s = true
 ·by_cases h2 : eD s ps ss
  ·rw [if_pos h, if_pos h2]; simp [h, h2]
  ·rw [if_pos h, if_neg h2]; simp [h2]
 ·rw [if_neg h]; simp [h]
theorem qE {s : Sg} {ps ss : List Int} {l : List T} (h : fo s ps ss l = 0) : Zx s ps ss l := by
 unfold fo at h
 split at h
 ·rename_i h0
  have h1 := (vz.1 h0).2
  split at h
  ·rename_i h2
   have h3 := List.all_eq_true.1 h2
   refine ⟨h1, fun t ht => ?_, fun t ht => ?_⟩
   ·have := h3 t ht; simp only [Bool.and_eq_true] at this; exact this.1
   ·have := h3 t ht
    simp only [Bool.and_eq_true] at this
    rw [h1.1]
    exact Sj t ((T.kI t).1 this.1).2.2 this.2
  ·cases h
 ·rename_i h0; exact absurd h h0
theorem Zx.cx {s : Sg} {ps ss : List Int} {l : List T} (h : Zx s ps ss l) (eo : l ≠ []) (hl : l.length ≤ 10000) (n : Nat) : (fW ps ss l n).Ok :=
 O7 h.ord.va eo (by have := lW h.tree; omega) h.all n
open Classical in
noncomputable def yc (ps ss : List Int) (a b : T) : Bool := decide (R (kO ps ss) a b)
open Classical in
noncomputable def Hn (ps ss : List Int) (a b : T) : Bool := decide (E (kO ps ss) a b)
theorem iX {ps ss : List Int} {a b : T} : yc ps ss a b = true ↔ R (kO ps ss) a b := by simp [yc]
theorem jU {ps ss : List Int} {a b : T} : Hn ps ss a b = true ↔ E (kO ps ss) a b := by simp [Hn]
theorem NE (a b : T) : bn (aT [a, b] 0) = .ap 0 (ints (aT [a, b] 0)) := rfl
theorem Fp {Hs G : List aa} {n0 a b : Nat} {u v x y : AV} {R : AV → List aa → Prop} (wO : b ≠ a) (hH : Hs.take n0 = G) (hb : x.aY n0 = true ∧ y.aY n0 = true) (hx : u.ab = x) (hy : v.ab = y) (hR : R (.tuple [x, y]) G) : bT n0 [.t a, .t b] [(a, u), (b, v)] Hs R := by
 subst hH; subst hx; subst hy
 refine ⟨n0, Nat.le_refl _, [u.ab, v.ab], ?_, by simp only [aj, hb.1, hb.2, Bool.and_self], hR⟩
 simp only [ax, if_neg wO, if_true, List.map]
 exact b8 _
theorem Up.low {c : Cx} {H X G : List aa} (h : Up c (H ++ X) G) (he : H.length ≤ c.e) (hg : H.length ≤ c.g) : G.take H.length = H := by
 apply List.ext_getElem?
 intro j
 rw [List.getElem?_take]
 split
 ·rename_i hj
  rw [h.get j (by omega) (by omega), List.getElem?_append_left hj]
 ·rename_i hj
  rw [List.getElem?_eq_none (by omega)]
theorem Zy (s : Sg) (ps ss : List Int) (a b : T) : Pure Tryz.prog 20 [s.av, eN ps ss, a.av, b.av] (.tuple [.bool (if fo s ps ss [a, b] = 0 then yc ps ss a b else false), .int .i64 (fo s ps ss [a, b])]) := by
 refine fun H => k20.2.calls rfl ?_
 simp only [k20, aI]
 obtain ⟨q1, q2, q3, q4, q5, q6⟩ := bf ps ss
 simp +contextual only [aB, q1, q4, cA, sZ, Nat.reduceEqDiff, Nat.reduceAdd, ↓reduceIte, reduceCtorEq]
 refine ae (V9 s ps ss [a, b]) ?_
 by_cases h0 : fo s ps ss [a, b] = 0
 ·rw [if_pos h0]
  have hr := qE h0
  have hw := lW hr.tree
  have hc := hr.cx (by simp) (by simp) H.length
  have hd := x9 ps ss (ts := [a, b]) (by simp) H
  simp +contextual only [q4, cA, h0, sZ, Nat.reduceEqDiff, Nat.reduceAdd, ↓reduceIte]
  refine af (VL ps ss [a, b] H (by simp at hw; omega)) ?_
  rintro r G ⟨rfl, rfl⟩
  have a0 := sP (ps := ps) (ss := ss) (ts := [a, b]) (n := H.length) (j := 0) (by simp)
  have a1 := sP (ps := ps) (ss := ss) (ts := [a, b]) (n := H.length) (j := 1) (by simp)
  have hl := cr [a, b] 0
  rw [NE]
  generalize aT [a, b] 0 = ks at a0 a1 hl ⊢
  have nJ : ks.length = 2 := hl
  simp +contextual only [cu, nJ, dx, sZ, Nat.reduceEqDiff, Nat.reduceAdd, Nat.reduceLT, ↓reduceIte, reduceCtorEq]
  refine ⟨by decide, by decide, af (jD hc a0.1 a1.1 _ hd) ?_⟩
  rintro r G ⟨x, rfl, hx, hU, hD⟩
  rw [a0.2, a1.2] at hx
  simp +contextual only [sZ, Nat.reduceEqDiff, ↓reduceIte, reduceCtorEq]
  have ex : x = yc ps ss a b := by rw [Bool.eq_iff_iff, iX]; exact hx
  rw [ex]
  exact Fp (by decide) (hU.low (by simp [fW]) (by simp [fW])) ⟨rfl, rfl⟩ rfl rfl ⟨by rw [h0]; rfl, rfl⟩
 ·rw [if_neg h0]
  simp +contextual only [h0, sZ, Nat.reduceEqDiff, ↓reduceIte, reduceCtorEq]
  exact Fp (by decide) List.take_length ⟨rfl, rfl⟩ rfl rfl ⟨rfl, rfl⟩
theorem Zz (s : Sg) (ps ss : List Int) (a b : T) : Pure Tryz.prog 22 [s.av, eN ps ss, a.av, b.av] (.tuple [.bool (if fo s ps ss [a, b] = 0 then Hn ps ss a b else false), .int .i64 (fo s ps ss [a, b])]) := by
 refine fun H => k22.2.calls rfl ?_
 simp only [k22, aI]
 obtain ⟨q1, q2, q3, q4, q5, q6⟩ := bf ps ss
 simp +contextual only [aB, q1, q4, cA, sZ, Nat.reduceEqDiff, Nat.reduceAdd, ↓reduceIte, reduceCtorEq]
 refine ae (V9 s ps ss [a, b]) ?_
 by_cases h0 : fo s ps ss [a, b] = 0
 ·rw [if_pos h0]
  have hr := qE h0
  have hw := lW hr.tree
  have hc := hr.cx (by simp) (by simp) H.length
  have hd := x9 ps ss (ts := [a, b]) (by simp) H
  simp +contextual only [q4, cA, h0, sZ, Nat.reduceEqDiff, Nat.reduceAdd, ↓reduceIte]
  refine af (VL ps ss [a, b] H (by simp at hw; omega)) ?_
  rintro r G ⟨rfl, rfl⟩
  have a0 := sP (ps := ps) (ss := ss) (ts := [a, b]) (n := H.length) (j := 0) (by simp)
  have a1 := sP (ps := ps) (ss := ss) (ts := [a, b]) (n := H.length) (j := 1) (by simp)
  have hl := cr [a, b] 0
  rw [NE]
  generalize aT [a, b] 0 = ks at a0 a1 hl ⊢
  have nJ : ks.length = 2 := hl
  simp +contextual only [cu, nJ, dx, sZ, Nat.reduceEqDiff, Nat.reduceAdd, Nat.reduceLT, ↓reduceIte, reduceCtorEq]
  refine ⟨by decide, by decide, af (jC hc a0.1 a1.1 _ hd) ?_⟩
  rintro r G ⟨x, rfl, hx, hU, hD⟩
  rw [a0.2, a1.2] at hx
  simp +contextual only [sZ, Nat.reduceEqDiff, ↓reduceIte, reduceCtorEq]
  have ex : x = Hn ps ss a b := by rw [Bool.eq_iff_iff, jU]; exact hx
  rw [ex]
  exact Fp (by decide) (hU.low (by simp [fW]) (by simp [fW])) ⟨rfl, rfl⟩ rfl rfl ⟨by rw [h0]; rfl, rfl⟩
 ·rw [if_neg h0]
  simp +contextual only [h0, sZ, Nat.reduceEqDiff, ↓reduceIte, reduceCtorEq]
  exact Fp (by decide) List.take_length ⟨rfl, rfl⟩ rfl rfl ⟨rfl, rfl⟩
end Go.aK
end
section
set_option maxRecDepth 100000
set_option maxHeartbeats 0
namespace Go.aK
open Go Go.Proofs
noncomputable def O8 := aI Tryz.call163 Tryz.func163 Tryz.ntmps163 [(0,0,1),(0,1,1),(1,4,1),(1,5,1),(4,2,1000),(5,0,1),(5,7,1),(8,6,2000)] [(0,[2,3]),(1,[2,3,5]),(2,[2,5,16,17,18]),(3,[2,5,16,17,18,19]),(4,[2,5,7,16,17,18]),(5,[2,5,16,17,18]),(6,[2,5,16,17,18]),(7,[8,9]),(8,[4])] [(8,(.take 0 true (.take 1 true (.take 2 true (.take 3 true (.take 4 true (.take 5 true (.br 6 (.take 7 true .done) .nil))))))))]
end Go.aK
end
section
set_option maxRecDepth 100000
namespace Go.aK
open Go Go.Proofs Go.fE
structure Cn where
 a : T
 b : T
deriving Inhabited
def Cn.av (c : Cn) : AV := .agg [.int .i64 c.a.k, .int .i64 c.a.n, .ap 0 (cJ c.a.l), .int .i64 c.b.k, .int .i64 c.b.n, .ap 0 (cJ c.b.l)]
def wU (l : List Cn) : List AV := l.map Cn.av
structure mE where
 vs : List Int
 cs : List Cn
 a : T
 b : T
deriving Inhabited
def mE.av (e : mE) : AV := .agg [.ap 0 (ints e.vs), .ap 0 (wU e.cs), .int .i64 e.a.k, .int .i64 e.a.n, .ap 0 (cJ e.a.l), .int .i64 e.b.k, .int .i64 e.b.n, .ap 0 (cJ e.b.l)]
def mE.rest (e : mE) : List T := e.b :: e.cs.flatMap fun c => [c.a, c.b]
theorem Ch (l : List Cn) : (wU l).length = l.length := by simp [wU]
theorem J1 (n : Nat) (l : List Cn) : aj n (wU l) = true := by
 rw [a9]; intro x hx; obtain ⟨y, _, rfl⟩ := List.mem_map.1 hx
 simp [Cn.av, AV.aY, aj, dW]
theorem mE.facts (e : mE) : e.av.val = true ∧ e.av.cells.length = 8 ∧ e.av.cells.all AV.one = true ∧ e.av.ab = e.av ∧ e.av.drop = e.av ∧ ∀ n, e.av.aY n = true :=
 ⟨rfl, rfl, rfl, rfl, rfl, fun n => by simp [mE.av, AV.aY, aj, dW, bk, J1]⟩
theorem Cn.facts (e : Cn) : e.av.val = true ∧ e.av.cells.length = 6 ∧ e.av.cells.all AV.one = true ∧ e.av.ab = e.av ∧ e.av.drop = e.av ∧ ∀ n, e.av.aY n = true :=
 ⟨rfl, rfl, rfl, rfl, rfl, fun n => by simp [Cn.av, AV.aY, aj, dW]⟩
theorem T.z4 (t : T) : AV.agg [.int .i64 t.k, .int .i64 t.n, .ap 0 (cJ t.l)] = t.av := by cases t; rfl
theorem feA (e : mE) (φ : AV → Prop) : ak 2 (some 3) (.ai e.av) φ = φ (.ai e.a.av) := by simp [ak, apart, mE.av, AV.cells, ← T.z4]
theorem feB (e : mE) (φ : AV → Prop) : ak 5 (some 3) (.ai e.av) φ = φ (.ai e.b.av) := by simp [ak, apart, mE.av, AV.cells, ← T.z4]
theorem feC (e : mE) (φ : AV → Prop) : ak 1 none (.ai e.av) φ = φ (.ai (.ap 0 (wU e.cs))) := by simp [ak, apart, mE.av, AV.cells, AV.one]
theorem fcA (e : Cn) (φ : AV → Prop) : ak 0 (some 3) (.ai e.av) φ = φ (.ai e.a.av) := by simp [ak, apart, Cn.av, AV.cells, ← T.z4]
theorem fcB (e : Cn) (φ : AV → Prop) : ak 3 (some 3) (.ai e.av) φ = φ (.ai e.b.av) := by simp [ak, apart, Cn.av, AV.cells, ← T.z4]
theorem NF (o : Nat) (l : List Cn) : (∀ (own : Nat) (xs : List AV), AV.ap o (wU l) = AV.ap own xs → ∀ z ∈ xs, z.cells.length = 6) = True := by
 simp only [eq_iff_iff, iff_true]
 intro own xs e z hz
 cases e
 obtain ⟨y, _, rfl⟩ := List.mem_map.1 hz; rfl
theorem Sk (e o : Nat) (l : List Cn) (k : IntKind) (i : Nat) (φ : AV → Prop) : ay e (.ap o (wU l)) (.int k (i : Int)) φ = (i < l.length ∧ φ (.ai (l.getD i default).av)) := by
 simp only [ay, Ch, Int.toNat_natCast, eq_iff_iff]
 constructor
 ·rintro ⟨_, h, h2⟩; refine ⟨h, ?_⟩; simpa [wU, h] using h2
 ·rintro ⟨h, h2⟩; refine ⟨by omega, h, ?_⟩; simpa [wU, h] using h2
theorem Wa (e : Cn) (H : List aa) (φ : AV → Prop) : aR (some 6) (.ai e.av) H φ = φ e.av := by simp [aR, Cn.av, AV.cells]
def NG (ps ss : List Int) (e : mE) : Prop := ∀ y ∈ e.rest, R (kO ps ss) e.a y
def td (l : List Cn) : List T := l.flatMap fun c => [c.a, c.b]
theorem J2 {l : List Cn} {i : Nat} (h : i < l.length) : td (l.take (i + 1)) = td (l.take i) ++ [(l.getD i default).a, (l.getD i default).b] := by
 have e : l.getD i default = l[i] := by simp [h]
 rw [List.take_succ_eq_append_getElem h, e]
 unfold td
 rw [List.flatMap_append]
 rfl
theorem z5 (l : List Cn) : (td l).length = 2 * l.length := by
 induction l with
 | nil => rfl
 | cons x r ih => simp only [td, List.flatMap_cons, List.length_append, List.length_cons, List.length_nil] at ih ⊢; omega
theorem NH (a b : List T) : cJ (a ++ b) = cJ a ++ cJ b := by
 induction a with
 | nil => rfl
 | cons x r ih => rw [List.cons_append, cJ, cJ, ih]; rfl
theorem Wb (x : Int) (r : List Int) (φ : AV → Prop) : bA 1 (.ap 0 (ints (x :: r))) (some (.int .i64 1)) none none φ = φ (.ap 0 (ints r)) := by
 have er : dE (AV.ap 0 (ints (x :: r))) = some (ints (x :: r)) := rfl
 have e1 : (1 : Int).toNat = 1 := rfl
 have e2 : ((ints (x :: r)).take (ints (x :: r)).length).drop 1 = ints r := by rw [List.take_length]; rfl
 simp only [bA, fm, er, dK, e1, e2, eq_iff_iff]
 constructor
 ·intro h; exact h.2.2.2.2
 ·intro h
  refine ⟨fun own xs he z hz => ?_, by omega, by simp [aw], Nat.le_refl _, h⟩
  cases he
  obtain ⟨y, _, rfl⟩ := List.mem_map.1 hz
  rfl
theorem ZA (ps ss : List Int) (e : mE) (hv : Va ps ss) (hlen : e.cs.length ≤ 1000) (ht : ∀ t ∈ e.a :: e.rest, t.tree = true) (cH : ∀ t ∈ e.a :: e.rest, xX (fun n => 0 ≤ n ∧ n < ps.length) t) (H : List aa) :
 aq Tryz.prog 163 [eN ps ss, e.av] H fun r H' => (∃ b : Bool, r = .bool b ∧ (b = true ↔ NG ps ss e)) ∧ H' = H := by
 refine O8.2.calls rfl ?_
 simp only [O8, aI]
 obtain ⟨q1, q2, q3, q4, q5, q6⟩ := bf ps ss
 obtain ⟨e1, e2, e3, e4, e5, e6⟩ := mE.facts e
 have cf := Cn.facts
 simp +contextual only [q1, e1, feA, feB, feC, Ch, sZ, Nat.reduceEqDiff, Nat.reduceAdd, ↓reduceIte, reduceCtorEq]
 intro _
 have rest : e.rest = e.b :: td e.cs := rfl
 refine aG e.cs.length (fun i => True) (fun i => [(2, .ai (eN ps ss)), (5, .ap 3 (cJ (e.a :: e.b :: td (e.cs.take i)))), (16, .ap 0 (wU e.cs)), (17, .int .i64 e.cs.length), (18, .int .i64 i)]) (fun _ => H) ⟨trivial, aA _ _ _⟩ fun i hi _ => ?_
 by_cases Ao : (i : Int) < e.cs.length
 ·have a8 : i < e.cs.length := by omega
  obtain ⟨f1, f2, f3, f4, f5, f6⟩ := cf (e.cs.getD i default)
  have hl : (td (e.cs.take i)).length ≤ 2000 := by rw [z5]; simp; omega
  have hal := tJ (e.a :: e.b :: td (e.cs.take i))
  have jI : sX 3 [(e.cs.getD i default).a.av, (e.cs.getD i default).b.av] := of_eq_true (RS [_, _])
  simp +contextual only [Ao, decide_true, NF, Sk, Wa, f1, f2, f3, fcA, fcB, sZ, Nat.reduceEqDiff, Nat.reduceAdd, ↓reduceIte]
  have e7 : cJ (e.a :: e.b :: td (e.cs.take i)) ++ [(e.cs.getD i default).a.av, (e.cs.getD i default).b.av] = cJ (e.a :: e.b :: td (e.cs.take (i + 1))) := by
   rw [J2 a8, ← List.cons_append, ← List.cons_append, NH]; rfl
  exact ⟨a8, by omega, jI, i + 1, a8, by omega, aH (by rw [au i (by omega), e7]) rfl⟩
 ·have HX : i = e.cs.length := by omega
  subst HX
  rw [List.take_length]
  have eo : e.a :: e.b :: td e.cs ≠ [] := by simp
  have hl : (e.a :: e.b :: td e.cs).length ≤ 10000 := by simp [z5]; omega
  have hw := lW (l := e.a :: e.b :: td e.cs) ht
  have hc := O7 hv eo (by omega) cH H.length
  have hd := x9 ps ss eo H
  simp +contextual only [Ao, decide_false, cA, q4, sZ, Nat.reduceEqDiff, Nat.reduceAdd, ↓reduceIte]
  refine af (VL ps ss (e.a :: e.b :: td e.cs) H (by omega)) ?_
  rintro r G ⟨rfl, rfl⟩
  have hk := (NB (e.a :: e.b :: td e.cs)).kids
  have ek : aT (e.a :: e.b :: td e.cs) 0 = 0 :: aT (e.b :: td e.cs) (0 + wt e.a) := by rw [aT]; rfl
  have EF := cr (e.b :: td e.cs) (0 + wt e.a)
  rw [ek] at hk ⊢
  generalize aT (e.b :: td e.cs) (0 + wt e.a) = tl at hk EF ⊢
  obtain ⟨O4, HD⟩ := hk
  simp only [List.map_cons, List.cons.injEq] at O4
  obtain ⟨ha, hb⟩ := O4
  have e0 : ([(0 : Int)] ++ tl).getD 0 0 = 0 := rfl
  have XF : ∀ φ : AV → Prop, ay 1 (.ap 0 (ints (0 :: tl))) (.int .i64 0) φ = φ (.ai (.int .i64 0)) := fun φ => by
   have := cu 1 0 (0 :: tl) .i64 0 φ
   rw [this]
   simp
  simp +contextual only [bn, XF, dx, Option.map_some, Option.map_none, Wb, sZ, Nat.reduceEqDiff, Nat.reduceAdd, Nat.reduceLT, ↓reduceIte, reduceCtorEq]
  have itl : IL (.ap 0 (ints tl)) tl := .inr rfl
  refine af (R3 (c := fW ps ss (e.a :: e.b :: td e.cs) H.length) (i := 0) itl (by rw [EF]; simp [z5]; omega) (fun x hx => jD hc (HD 0 List.mem_cons_self) (HD x (List.mem_cons_of_mem _ hx))) hd) ?_
  rintro r G ⟨b, rfl, hbb, hU, hD⟩
  simp +contextual only [sZ, ↓reduceIte, reduceCtorEq]
  refine aV H.length (Nat.le_refl _) (by rw [ax, if_pos rfl]; rfl) ?_
  rw [ax, if_pos rfl]
  refine ⟨⟨b, rfl, ?_⟩, hU.low (by simp [fW]) (by simp [fW])⟩
  rw [hbb, NG, rest]
  have ha' : (fW ps ss (e.a :: e.b :: td e.cs) H.length).tm 0 = e.a := ha
  have dR : tl.map (fW ps ss (e.a :: e.b :: td e.cs) H.length).tm = e.b :: td e.cs := hb
  rw [ha']
  generalize (fW ps ss (e.a :: e.b :: td e.cs) H.length).tm = f at dR
  rw [← dR]
  constructor
  ·intro h y hy
   obtain ⟨x, hx, rfl⟩ := List.mem_map.1 hy
   exact h x hx
  ·intro h x hx
   exact h _ (List.mem_map.2 ⟨x, hx, rfl⟩)
end Go.aK
end
section
namespace Go.fE
open Go.aK
inductive PP where
 | mk (r i : Int) (to : List Int) (l : List PP)
 deriving Inhabited
def PP.r : PP → Int | .mk r _ _ _ => r
def PP.i : PP → Int | .mk _ i _ _ => i
def PP.to : PP → List Int | .mk _ _ to _ => to
def PP.l : PP → List PP | .mk _ _ _ l => l
mutual
def pz : PP → Nat
 | .mk _ _ _ l => Wc l + 1
def Wc : List PP → Nat
 | [] => 0
 | x :: r => pz x + Wc r
end
theorem Fq {x : PP} : ∀ {l : List PP}, x ∈ l → pz x ≤ Wc l
 | y :: r, h => by
   rw [Wc]
   rcases List.mem_cons.1 h with rfl | h
   ·omega
   ·have := Fq h; omega
theorem z6 (p : PP) : 0 < pz p := by cases p; rw [pz]; omega
theorem z7 {p x : PP} (h : x ∈ p.l) : pz x < pz p := by
 obtain ⟨r, i, to, l⟩ := p
 have : pz x ≤ Wc l := Fq h
 rw [pz]; omega
theorem dO {l : List PP} {i : Nat} (h : i < l.length) : l.getD i default ∈ l := by
 rw [List.getD_eq_getElem?_getD, List.getElem?_eq_getElem h]; exact List.getElem_mem h
theorem Ho {l : List T} {i : Nat} (h : i < l.length) : l.getD i default ∈ l := by
 rw [List.getD_eq_getElem?_getD, List.getElem?_eq_getElem h]; exact List.getElem_mem h
def PP.nil (q : PP) : Prop := q.r = 0 ∧ q.i = 0 ∧ q.to = [] ∧ q.l = []
instance (q : PP) : Decidable q.nil := by
 unfold PP.nil
 have : Decidable (q.l = []) := by cases q.l with
  | nil => exact isTrue rfl
  | cons a b => exact isFalse (by simp)
 exact inferInstance
def dj (to : List Int) (x : Int) : Nat → Nat
 | 0 => 0
 | n + 1 => dj to x n + if to.getD n 0 = x then 1 else 0
def dd (to : List Int) (l : List PP) (x : Int) : Nat → Nat
 | 0 => 0
 | n + 1 => dd to l x n + if to.getD n 0 = x ∧ (l.getD n default).nil then 1 else 0
theorem yd {to : List Int} {x : Int} {j : Nat} : ∀ {n : Nat}, j < n → to.getD j 0 = x → 1 ≤ dj to x n
 | n + 1, h, e => by
   rw [dj]
   by_cases hj : j = n
   ·subst hj; rw [if_pos e]; omega
   ·have := yd (n := n) (by omega) e; omega
theorem rQ {to : List Int} {x : Int} {j j' : Nat} (hj : j < j') (e : to.getD j 0 = x) (e' : to.getD j' 0 = x) : ∀ {n : Nat}, j' < n → 2 ≤ dj to x n
 | n + 1, h => by
   rw [dj]
   by_cases hn : j' = n
   ·subst hn; rw [if_pos e']; have := yd hj e; omega
   ·have := rQ hj e e' (n := n) (by omega); omega
theorem ye {to : List Int} {x : Int} {j j' n : Nat} (h : dj to x n ≤ 1) (hj : j < n) (tL : j' < n) (e : to.getD j 0 = x) (e' : to.getD j' 0 = x) : j = j' := by
 rcases Nat.lt_trichotomy j j' with h1 | h1 | h1
 ·have := rQ h1 e e' tL; omega
 ·exact h1
 ·have := rQ h1 e' e hj; omega
theorem gT {to : List Int} {l : List PP} {x : Int} : ∀ {n : Nat}, 0 < dd to l x n ↔ ∃ j, j < n ∧ to.getD j 0 = x ∧ (l.getD j default).nil
 | 0 => by simp [dd]
 | n + 1 => by
   rw [dd]
   have ih := gT (to := to) (l := l) (x := x) (n := n)
   by_cases h : to.getD n 0 = x ∧ (l.getD n default).nil
   ·rw [if_pos h]
    exact ⟨fun _ => ⟨n, by omega, h⟩, fun _ => by omega⟩
   ·rw [if_neg h, Nat.add_zero, ih]
    constructor
    ·rintro ⟨j, h1, h2⟩; exact ⟨j, by omega, h2⟩
    ·rintro ⟨j, h1, h2⟩
     have : j ≠ n := fun e => h (e ▸ h2)
     exact ⟨j, by omega, h2⟩
theorem nz {to : List Int} {l : List PP} {x : Int} : ∀ n, dd to l x n ≤ dj to x n
 | 0 => Nat.le_refl _
 | n + 1 => by
   rw [dd, dj]
   have := nz (to := to) (l := l) (x := x) n
   by_cases h : to.getD n 0 = x ∧ (l.getD n default).nil
   ·rw [if_pos h, if_pos h.1]; omega
   ·rw [if_neg h]; omega
def kT (S : PP → T → T → Prop) (l : List PP) (a : T) (bs : List T) : Prop := l.length = bs.length ∧ ∀ j, j < bs.length → S (l.getD j default) a (bs.getD j default)
def O9 (Q : T → T → Prop) (S : PP → T → T → Prop) (to : List Int) (l : List PP) (az bs : List T) : Prop :=
 to.length = bs.length ∧ l.length = bs.length ∧
 (∀ j, j < bs.length → (0 ≤ to.getD j 0 ∧ to.getD j 0 < az.length) ∧
   (if (l.getD j default).nil then Q (az.getD (to.getD j 0).toNat default) (bs.getD j default) else S (l.getD j default) (az.getD (to.getD j 0).toNat default) (bs.getD j default))) ∧
 (∀ x : Nat, x < az.length → 0 < dd to l x bs.length → dj to x bs.length ≤ 1) ∧ ∃ x : Nat, x < az.length ∧ dd to l x bs.length = 0
def Ci (Q : T → T → Prop) (S : PP → T → T → Prop) (i : Int) (l : List PP) (a : T) (az bs : List T) (bl : List T) : Prop :=
 (0 ≤ i ∧ i < az.length ∧ i ≤ bs.length) ∧ (∀ j, j < i.toNat → Q (az.getD j default) (bs.getD j default)) ∧
 (if i = bs.length then kT S l a bl else ∃ q r, l = q :: r ∧ S q (az.getD i.toNat default) (bs.getD i.toNat default) ∧ kT S r a bl)
def Fs (O : Od) (S : PP → T → T → Prop) (p : PP) (a b : T) : Prop :=
 a.k = 2 ∧ (
  (p.r = 1 ∧ p.to = [] ∧ (0 ≤ p.i ∧ p.i < a.l.length) ∧ ((p.l = [] ∧ E O (a.l.getD p.i.toNat default) b) ∨ ∃ q, p.l = [q] ∧ S q (a.l.getD p.i.toNat default) b)) ∨
  (p.r = 2 ∧ p.to = [] ∧ p.i = 0 ∧ b.k = 2 ∧ O.pl b.n < O.pl a.n ∧ kT S p.l a b.l) ∨
  (p.r = 3 ∧ p.to = [] ∧ b.k = 2 ∧ O.pl a.n = O.pl b.n ∧ O.sp (O.pl a.n) ≠ 3 ∧ Ci (E O) S p.i p.l a (side (O.sp (O.pl a.n)) a.l) (side (O.sp (O.pl a.n)) b.l) b.l) ∨
  (p.r = 4 ∧ p.i = 0 ∧ b.k = 2 ∧ O.pl a.n = O.pl b.n ∧ O.sp (O.pl a.n) = 3 ∧ O9 (E O) S p.to p.l a.l b.l))
theorem lX {S S' : PP → T → T → Prop} {l : List PP} {a : T} {bs : List T} (h : ∀ q ∈ l, ∀ a b, S q a b ↔ S' q a b) : kT S l a bs ↔ kT S' l a bs := by
 refine and_congr_right fun hl => ?_
 constructor
 ·exact fun k j hj => (h _ (dO (by omega)) _ _).1 (k j hj)
 ·exact fun k j hj => (h _ (dO (by omega)) _ _).2 (k j hj)
theorem Hp {Q : T → T → Prop} {S S' : PP → T → T → Prop} {to : List Int} {l : List PP} {az bs : List T} (h : ∀ q ∈ l, ∀ a b, S q a b ↔ S' q a b) : O9 Q S to l az bs ↔ O9 Q S' to l az bs := by
 refine and_congr_right fun _ => and_congr_right fun hl => and_congr_left fun _ => ?_
 constructor
 ·intro k j hj
  refine ⟨(k j hj).1, ?_⟩
  have := (k j hj).2
  split at this
  ·rename_i e; rw [if_pos e]; exact this
  ·rename_i e; rw [if_neg e]; exact (h _ (dO (by omega)) _ _).1 this
 ·intro k j hj
  refine ⟨(k j hj).1, ?_⟩
  have := (k j hj).2
  split at this
  ·rename_i e; rw [if_pos e]; exact this
  ·rename_i e; rw [if_neg e]; exact (h _ (dO (by omega)) _ _).2 this
theorem Eg {Q : T → T → Prop} {S S' : PP → T → T → Prop} {i : Int} {l : List PP} {a : T} {az bs bl : List T} (h : ∀ q ∈ l, ∀ a b, S q a b ↔ S' q a b) : Ci Q S i l a az bs bl ↔ Ci Q S' i l a az bs bl := by
 refine and_congr_right fun _ => and_congr_right fun _ => ?_
 split
 ·exact lX h
 ·constructor
  ·rintro ⟨q, r, rfl, h1, h2⟩
   exact ⟨q, r, rfl, (h q List.mem_cons_self _ _).1 h1, (lX fun x hx => h x (List.mem_cons_of_mem _ hx)).1 h2⟩
  ·rintro ⟨q, r, rfl, h1, h2⟩
   exact ⟨q, r, rfl, (h q List.mem_cons_self _ _).2 h1, (lX fun x hx => h x (List.mem_cons_of_mem _ hx)).2 h2⟩
theorem Cj {O : Od} {S S' : PP → T → T → Prop} {p : PP} {a b : T} (h : ∀ q ∈ p.l, ∀ a b, S q a b ↔ S' q a b) : Fs O S p a b ↔ Fs O S' p a b := by
 refine and_congr_right fun _ => or_congr ?_ (or_congr ?_ (or_congr ?_ ?_))
 ·refine and_congr_right fun _ => and_congr_right fun _ => and_congr_right fun _ => or_congr Iff.rfl ?_
  constructor
  ·rintro ⟨q, e, k⟩; exact ⟨q, e, (h q (by rw [e]; simp) _ _).1 k⟩
  ·rintro ⟨q, e, k⟩; exact ⟨q, e, (h q (by rw [e]; simp) _ _).2 k⟩
 ·rw [lX h]
 ·rw [Eg h]
 ·rw [Hp h]
def Pa (O : Od) : Nat → PP → T → T → Prop
 | 0 => fun _ _ _ => False
 | f + 1 => Fs O (Pa O f)
def Sh (O : Od) (p : PP) (a b : T) : Prop := Pa O (pz p) p a b
theorem pj (O : Od) : ∀ (f g : Nat) (p : PP) (a b : T), pz p ≤ f → pz p ≤ g → (Pa O f p a b ↔ Pa O g p a b)
 | 0, _, p, a, b, h, _ => by have := z6 p; omega
 | _ + 1, 0, p, a, b, _, h => by have := z6 p; omega
 | f + 1, g + 1, p, a, b, h1, h2 => by
   simp only [Pa]
   refine Cj fun q hq a b => ?_
   have := z7 hq
   exact pj O f g q a b (by omega) (by omega)
theorem pk {O : Od} {p : PP} {a b : T} : Sh O p a b ↔ Fs O (Sh O) p a b := by
 have e : Pa O (pz p) p a b ↔ Pa O (pz p + 1) p a b := pj O _ _ p a b (by omega) (by omega)
 unfold Sh
 rw [e]
 show Fs O (Pa O (pz p)) p a b ↔ _
 refine Cj fun q hq a b => ?_
 have := z7 hq
 exact pj O _ _ q a b (by omega) (by omega)
theorem Pb {G : T → T → Prop} : ∀ (n : Nat) {l m : List T}, n < l.length → n ≤ m.length → (∀ j, j < n → l.getD j default = m.getD j default) → (n = m.length ∨ G (l.getD n default) (m.getD n default)) → Lx G l m
 | 0, x :: l, [], _, _, _, _ => trivial
 | 0, x :: l, y :: m, _, _, _, h => .inr (by simpa using h)
 | n + 1, x :: l, [], _, h, _, _ => by simp at h
 | n + 1, x :: l, y :: m, h1, h2, h3, h4 => by
   refine .inl ⟨h3 0 (by omega), Pb n (by simpa using h1) (by simpa using h2) (fun j hj => h3 (j + 1) (by omega)) ?_⟩
   simpa using h4
theorem Eh {β : Type} (f : T → β) (a : List T) : a.map f = (List.range a.length).map fun i => f (a.getD i default) := by
 apply List.ext_getElem
 ·simp
 ·intro i h1 h2
  have : i < a.length := by simpa using h1
  simp [this]
theorem yf {β : Type} (f : T → β) (a : List T) (p : Nat → Bool) : (a.map f).Perm (((List.range a.length).filter p).map (fun i => f (a.getD i default)) ++ ((List.range a.length).filter fun i => !p i).map fun i => f (a.getD i default)) := by
 rw [Eh, ← List.map_append]
 exact (List.filter_append_perm p (List.range a.length)).symm.map _
theorem oM (n : Nat) (p : Nat → Bool) : ((List.range n).filter p).Nodup := List.Pairwise.filter p List.nodup_range
theorem Sl {O : Od} {S : PP → T → T → Prop} {to : List Int} {l : List PP} {az bs : List T} (h : O9 (E O) S to l az bs) (hS : ∀ q ∈ l, ∀ a b, S q a b → R O a b) : Mu (Gt O.sp) (az.map (norm O)) (bs.map (norm O)) := by
 obtain ⟨h1, h2, h3, h4, x0, H7, h5⟩ := h
 let n := bs.length
 let U : Nat → Bool := fun i => decide (dd to l i n = 0)
 let Z : Nat → Bool := fun j => !decide (l.getD j default).nil
 have pu := yf (norm O) az U
 have pz := yf (norm O) bs Z
 refine VG (X := ((List.range az.length).filter U).map fun i => norm O (az.getD i default)) (Y := ((List.range bs.length).filter Z).map fun i => norm O (bs.getD i default)) (C := ((List.range bs.length).filter fun i => !Z i).map fun i => norm O (bs.getD i default)) ?_ pz ?_ ?_
 ·refine pu.trans (List.Perm.append_left _ ?_)
  have hp : (((List.range bs.length).filter fun j => !Z j).map fun j => (to.getD j 0).toNat).Perm ((List.range az.length).filter fun i => !U i) := by
   rw [List.perm_ext_iff_of_nodup]
   ·intro i
    simp only [Z, U, n, List.mem_map, List.mem_filter, List.mem_range, Bool.not_not, Bool.not_eq_true', decide_eq_true_eq, decide_eq_false_iff_not]
    constructor
    ·rintro ⟨j, ⟨hj, hn⟩, rfl⟩
     have := (h3 j hj).1
     refine ⟨by omega, ?_⟩
     have : 0 < dd to l ((to.getD j 0).toNat : Int) bs.length := gT.2 ⟨j, hj, by omega, hn⟩
     omega
    ·rintro ⟨hi, hu⟩
     obtain ⟨j, k1, k2, k3⟩ := gT.1 (show 0 < dd to l (i : Int) bs.length by omega)
     exact ⟨j, ⟨k1, k3⟩, by omega⟩
   ·rw [List.Nodup, List.pairwise_map]
    refine List.Pairwise.imp_of_mem ?_ (oM _ _)
    intro j j' hj tL eo he
    simp only [Z, List.mem_filter, List.mem_range, Bool.not_not, decide_eq_true_eq] at hj tL
    have b1 := (h3 j hj.1).1
    have b2 := (h3 j' tL.1).1
    have e1 : to.getD j 0 = (((to.getD j 0).toNat : Nat) : Int) := by omega
    have e2 : to.getD j' 0 = (((to.getD j 0).toNat : Nat) : Int) := by omega
    have hp : 0 < dd to l (((to.getD j 0).toNat : Nat) : Int) bs.length := gT.2 ⟨j, hj.1, e1, hj.2⟩
    exact eo (ye (h4 _ (by omega) hp) hj.1 tL.1 e1 e2)
   ·exact oM _ _
  refine (hp.map fun i => norm O (az.getD i default)).symm.trans ?_
  rw [List.map_map]
  refine List.Perm.of_eq (List.map_congr_left fun j hj => ?_)
  simp only [Z, List.mem_filter, List.mem_range, Bool.not_not, decide_eq_true_eq] at hj
  have := (h3 j hj.1).2
  rw [if_pos hj.2] at this
  exact this
 ·intro e
  have : norm O (az.getD x0 default) ∈ ((List.range az.length).filter U).map fun i => norm O (az.getD i default) :=
   List.mem_map.2 ⟨x0, List.mem_filter.2 ⟨List.mem_range.2 H7, by simp [U, n, h5]⟩, rfl⟩
  rw [e] at this
  cases this
 ·intro y hy
  obtain ⟨j, hj, rfl⟩ := List.mem_map.1 hy
  simp only [Z, List.mem_filter, List.mem_range, Bool.not_eq_true', decide_eq_false_iff_not] at hj
  obtain ⟨hj, hn⟩ := hj
  have b1 := h3 j hj
  rw [if_neg hn] at b1
  refine ⟨norm O (az.getD (to.getD j 0).toNat default), List.mem_map.2 ⟨(to.getD j 0).toNat, List.mem_filter.2 ⟨List.mem_range.2 (by omega), ?_⟩, rfl⟩, hS _ (dO (by omega)) _ _ b1.2⟩
  simp only [U, n, decide_eq_true_eq]
  by_cases hp : 0 < dd to l ((to.getD j 0).toNat : Int) bs.length
  ·have ht := h4 _ (by omega) hp
   obtain ⟨j', k1, k2, k3⟩ := gT.1 hp
   have := ye ht hj k1 (by omega) k2
   exact absurd (this ▸ k3) hn
  ·omega
theorem oe {f : T → T} {l : List T} {i : Nat} (h : i < l.length) : (l.map f).getD i default = f (l.getD i default) := by
 simp [h]
theorem ZB {O : Od} : ∀ (N : Nat) {p : PP} {a b : T}, pz p ≤ N → Sh O p a b → R O a b := by
 intro N
 induction N with
 | zero => intro p a b h; have := z6 p; omega
 | succ N ih =>
 intro p a b hN h
 have hm : ∀ q ∈ p.l, ∀ a b, Sh O q a b → R O a b := fun q hq a b hs => ih (by have := z7 hq; omega) hs
 have jj : ∀ {l : List PP} {bs : List T}, (∀ q ∈ l, q ∈ p.l) → kT (Sh O) l a bs → ∀ y ∈ bs, R O a y := by
  intro l bs hq hl y hy
  obtain ⟨j, hj, rfl⟩ := List.mem_iff_getElem.1 hy
  have := hl.2 j hj
  have e : bs.getD j default = bs[j] := by simp [hj]
  rw [e] at this
  exact hm _ (hq _ (dO (by have := hl.1; omega))) _ _ this
 obtain ⟨ha, h⟩ := pk.1 h
 rcases h with ⟨_, _, hi, h⟩ | ⟨_, _, _, hb, hp, h⟩ | ⟨_, _, hb, hp, hs, h1, h2, h3⟩ | ⟨_, _, hb, hp, hs, h⟩
 ·refine VI ha (Ho (i := p.i.toNat) (by omega)) ?_
  rcases h with ⟨_, h⟩ | ⟨q, e, h⟩
  ·exact .inl h
  ·exact .inr (hm q (by rw [e]; simp) _ _ h)
 ·exact qt.2 ⟨ha, .inr ⟨hb, .inl ⟨hp, jj (fun _ h => h) h⟩⟩⟩
 ·refine qt.2 ⟨ha, .inr ⟨hb, .inr (.inl ⟨hp.symm, hs, ?_, ?_⟩)⟩⟩
  ·split at h3
   ·exact jj (fun _ h => h) h3
   ·obtain ⟨q, r, e, _, h3⟩ := h3
    exact jj (fun x hx => by rw [e]; exact List.mem_cons_of_mem _ hx) h3
  ·rw [B2, B2]
   have hla : p.i.toNat < (side (O.sp (O.pl a.n)) a.l).length := by omega
   refine Pb p.i.toNat (by simpa using hla) (by simp; omega) (fun j hj => ?_) ?_
   ·rw [oe (by omega), oe (by omega)]
    exact h2 j hj
   ·by_cases hi : p.i = (side (O.sp (O.pl a.n)) b.l).length
    ·left; simp; omega
    ·rw [if_neg hi] at h3
     obtain ⟨q, r, e, h3, _⟩ := h3
     right
     rw [oe (by omega), oe (by omega)]
     exact hm q (by rw [e]; simp) _ _ h3
 ·exact qt.2 ⟨ha, .inr ⟨hb, .inr (.inr ⟨hp.symm, hs, Sl h hm⟩)⟩⟩
theorem Sh.gt {O : Od} {p : PP} {a b : T} (h : Sh O p a b) : R O a b := ZB _ (Nat.le_refl _) h
end Go.fE
end
section
set_option maxRecDepth 100000
namespace Go.aK
open Go Go.Proofs Go.fE
mutual
def dQ : PP → AV
 | .mk r i to l => .agg [.int .i64 r, .int .i64 i, .ap 0 (ints to), .ap 0 (dP l)]
def dP : List PP → List AV
 | [] => []
 | x :: r => dQ x :: dP r
end
theorem nA (p : PP) : dQ p = .agg [.int .i64 p.r, .int .i64 p.i, .ap 0 (ints p.to), .ap 0 (dP p.l)] := by cases p; rw [dQ]; rfl
theorem kU : ∀ l, dP l = l.map dQ
 | [] => rfl
 | x :: r => by simp [dP, kU r]
theorem ej (l : List PP) : (dP l).length = l.length := by simp [kU]
mutual
theorem fF (n : Nat) : ∀ p, (dQ p).aY n = true
 | .mk r i to l => by simp [dQ, AV.aY, aj, bk, iq n l]
theorem iq (n : Nat) : ∀ l, aj n (dP l) = true
 | [] => rfl
 | x :: r => by simp [dP, aj, fF n x, iq n r]
end
theorem aW (p : PP) : (dQ p).val = true ∧ (dQ p).cells.length = 4 ∧ (dQ p).cells.all AV.one = true ∧ (dQ p).ab = dQ p ∧ (dQ p).drop = dQ p ∧ (∀ n, (dQ p).aY n = true) ∧ AV.agg (dQ p).cells = dQ p ∧ (dQ p).cells.map AV.drop = (dQ p).cells ∧ (dQ p).cells.map AV.ab = (dQ p).cells := by
 refine ⟨?_, ?_, ?_, ?_, ?_, fun n => fF n p, ?_, ?_, ?_⟩ <;> (rw [nA]; rfl)
theorem Ck (p : PP) (φ : AV → Prop) : ak 0 none (.ai (dQ p)) φ = φ (.ai (.int .i64 p.r)) := by rw [nA]; simp [ak, apart, AV.cells, AV.one]
theorem CN (p : PP) (φ : AV → Prop) : ak 1 none (.ai (dQ p)) φ = φ (.ai (.int .i64 p.i)) := by rw [nA]; simp [ak, apart, AV.cells, AV.one]
theorem NI (p : PP) (φ : AV → Prop) : ak 2 none (.ai (dQ p)) φ = φ (.ai (.ap 0 (ints p.to))) := by rw [nA]; simp [ak, apart, AV.cells, AV.one]
theorem J3 (p : PP) (φ : AV → Prop) : ak 3 none (.ai (dQ p)) φ = φ (.ai (.ap 0 (dP p.l))) := by rw [nA]; simp [ak, apart, AV.cells, AV.one]
theorem qF (o : Nat) (l : List PP) : (∀ (own : Nat) (xs : List AV), AV.ap o (dP l) = AV.ap own xs → ∀ z ∈ xs, z.cells.length = 4) = True := by
 simp only [eq_iff_iff, iff_true]
 intro own xs e z hz
 cases e
 rw [kU] at hz
 obtain ⟨y, _, rfl⟩ := List.mem_map.1 hz
 exact (aW y).2.1
theorem yg (l : List PP) (i : Nat) (h : i < l.length) : (dP l).getD i .any = dQ (l.getD i default) := by
 simp [kU, h]
theorem z8 (e o : Nat) (l : List PP) (k : IntKind) (i : Int) (φ : AV → Prop) : ay e (.ap o (dP l)) (.int k i) φ = ((0 ≤ i ∧ i < l.length) ∧ φ (.ai (dQ (l.getD i.toNat default)))) := by
 simp only [ay, ej, eq_iff_iff]
 constructor
 ·rintro ⟨h0, h, h2⟩; rw [yg _ _ h] at h2; exact ⟨by omega, h2⟩
 ·rintro ⟨⟨h0, h⟩, h2⟩
  have h : i.toNat < l.length := by omega
  rw [yg _ _ h]; exact ⟨h0, h, h2⟩
theorem qG (p : PP) (H : List aa) (φ : AV → Prop) : aR (some 4) (.ai (dQ p)) H φ = φ (dQ p) := by
 obtain ⟨_, h2, _, _, _, _, h7, _⟩ := aW p
 simp [aR, h2, h7]
theorem Sm (l : List PP) : sX 4 (dP l) = True := by
 simp only [eq_iff_iff, iff_true]
 intro z hz
 rw [kU] at hz
 obtain ⟨y, _, rfl⟩ := List.mem_map.1 hz
 obtain ⟨h1, h2, h3, h4, h5, _⟩ := aW y
 first | exact ⟨h1, h2, h3⟩ | exact ⟨h2, h1, h3⟩ | exact ⟨h1, h2⟩ | (constructor <;> first | assumption | simp [*])
def z9 (P : Px) (id : Nat) (xs : List AV) (H : List aa) (K : AV → List aa → Prop) : Prop := ∃ bO, xh xs bO ∧ ln P id bO H K
@[congr] theorem NJ {P : Px} {id : Nat} {xs xs' : List AV} {H H' : List aa} {K : AV → List aa → Prop} (h : fV xs = xs') (h2 : H = H') : z9 P id xs H K = z9 P id xs' H' K := by subst h; subst h2; rfl
theorem Ft {P : Px} {env : Env} {H : List aa} (id : Nat) (args : List IX) (pass : Option Nat) (K : AV → Env → List aa → Prop) : oA P (.mF id) args pass env H K = z9 P id (aE env pass 0 args) H (fun r H' => K r (cC env (bc args pass)) H') := _root_.id rfl
theorem Sn (id : Nat) : (AV.mF id).ab = .mF id := _root_.id rfl
theorem yh {P : Program} {id : Nat} {xs : List AV} {H : List aa} {R K : AV → List aa → Prop} (hc : jn P id xs H R) (hk : ∀ r H', R r H' → K r H') : z9 (P : Px) id xs H K := ⟨xs, b8 _, eY.mono hc hk⟩
theorem rR {P : Program} (g : FuncId) (first cap : List AV) (lc : hJ) (env : Env) (H : List aa) (K : Option Code → List aa → Prop) {R : AV → List aa → Prop} (he : ∀ (vs : Array Value) (w : World), (callFunc g vs).run P w = .ok (.enter g vs) w)
 (hc : aq P g (first.map AV.ab ++ [.mF H.length] ++ cap.map AV.ab) (H ++ [.loop .ready lc (ke lc.n env)]) R) (hk : ∀ r H', R r H' → behind H.length H' K) : uW (P : Px) (.fn (.func g) first cap) lc env H K :=
 ⟨he, _, b8 _, dU.of (hc.mono hk)⟩
theorem ZC (n : Nat) (hn : n < 4611686018427387904) (id : Nat) (G : Nat → List aa) (hl : ∀ j, (G j).length = (G 0).length) (hy : ∀ j, j < n → jn Tryz.prog id [.int .i64 (j : Int)] (G j) fun r H' => r = .bool true ∧ H' = G (j + 1)) :
 aq Tryz.prog 201 [.mF id, .ai (.int .i64 n)] (G 0) fun r H' => r = .tuple [] ∧ H' = G n := by
 refine UJ.2.calls rfl ?_
 simp only [UJ, aI]
 simp +contextual only [sZ, Nat.reduceEqDiff, Nat.reduceAdd, ↓reduceIte, reduceCtorEq]
 refine aG n (fun j => True) (fun j => [(0, .mF id), (1, .ai (.int .i64 n)), (3, .int .i64 j)]) G ⟨trivial, aA _ _ _⟩ fun j hj _ => ?_
 by_cases hjn : (j : Int) < n
 ·simp +contextual only [hjn, decide_true, Ft, Sn, sZ, Nat.reduceEqDiff, Nat.reduceAdd, ↓reduceIte, reduceCtorEq]
  refine yh (hy j (by omega)) ?_
  rintro r H' ⟨rfl, rfl⟩
  simp +contextual only [sZ, Nat.reduceEqDiff, ↓reduceIte, reduceCtorEq]
  exact ⟨j + 1, by omega, by omega, aH (by rw [au j (by omega)]) rfl⟩
 ·have e : j = n := by omega
  subst e
  simp +contextual only [hjn, decide_false, sZ, Nat.reduceEqDiff, ↓reduceIte, reduceCtorEq]
  exact qk (hl j).symm rfl
end Go.aK
end
