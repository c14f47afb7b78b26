/- Part 12 of 18 of the proof. -/
import Derived.Test.YtljchnfgjdjobaaGreatUak
import Derived.Test.YtljchnfgjdjobaaGreatUag
import Derived.KernelRfl
set_option linter.unusedVariables false
set_option linter.unusedSimpArgs false
set_option linter.defProp false
set_option linter.unusedSectionVars false
section
set_option maxRecDepth 100000
namespace Go.aK
open Go Go.Proofs Go.fq
def zI : AV := .int .i64 0
theorem z4 : iQ 1 (bN zI) := ⟨rfl, rfl, rfl, rfl⟩
theorem ns (l : List Int) : ∀ x ∈ ints l, iQ 1 x := by
 intro x hx; obtain ⟨n, _, rfl⟩ := List.mem_map.1 hx; exact ⟨rfl, rfl, rfl, rfl⟩
theorem n9 : ∀ l : List Int, flat (ints l) = ints l
 | [] => rfl
 | x :: r => by
   have := n9 r
   show AV.cells (.int .i64 x) ++ flat (ints r) = _
   rw [this]; rfl
theorem NR {l : List Int} (h : l ≠ []) : ints l ≠ [] := by cases l with | nil => exact absurd rfl h | cons v r => simp [ints]
theorem J3 (o : Nat) (v : Int) (r : List Int) (φ : AV → Prop) : dc 0 false (.ap o (ints (v :: r))) φ = φ (.bool false) := by simp [dc, isNil, ints]
theorem J4 (φ : AV → Prop) : dc 0 false .ah φ = φ (.bool true) := by simp [dc, isNil]
theorem Fy {esz bytes : Nat} {z : AV} (hz : iQ esz (bN z)) {id o : Nat} {G : List aa} (bm : G[id]? = some (.cells [])) (ys : List AV) (hy : ys ≠ []) (pv : ∀ x ∈ ys, iQ esz x) (hb : ys.length * bytes ≤ 140737488355328) {base : Nat} (hG : base ≤ G.length) {K : AV → List aa → Prop}
 (hK : ∀ v' G', RO z base v' ys G' → G'.take base = G.take base → G.length ≤ G'.length → K v' G') : cG esz bytes z (.bf id 0 0 0) (.ap o ys) G K := by
 obtain ⟨f1, f2, f3, f4⟩ := iQ.flat pv
 have kq : ∀ n m, aj n (da z m) = true := fun n m => (iQ.flat (jC hz m)).2.2.1 n
 have hl : 0 < ys.length := List.length_pos_iff.2 hy
 unfold cG
 simp only [dz, bm]
 refine ⟨fun y h => ⟨(pv y h).len, (pv y h).one⟩, by simpa using hb, Nat.le_refl _, by simp, fun h => absurd h (by omega), fun _ cap hc _ => ⟨?_, ?_⟩⟩
 ·simp only [Nat.zero_mul, List.drop_zero, List.take_nil, List.map_nil, List.nil_append, f2, bw]; exact ⟨f3 _, kq _ _⟩
 ·simp only [Nat.zero_mul, List.drop_zero, List.take_nil, List.map_nil, List.nil_append, f2, Nat.zero_add]
  refine hK _ _ (.inr ⟨G.length, cap, hG, rfl, ?_, by omega, hy⟩) ?_ (by simp)
  ·simp [bj]
  ·rw [List.take_append_of_le_length hG]
theorem V1 (l : List Int) (H : List aa) (hb : l.length * 8 ≤ 140737488355328) : aq Tryz.prog 118 [bo l] H fun r H' => RO zI H.length r (ints l) H' ∧ H'.take H.length = H ∧ H.length ≤ H'.length := by
 refine Pb.2.calls rfl ?_
 simp only [Pb, aI]
 cases l with
 | nil =>
   simp +contextual only [bo, J4, sZ, Nat.reduceAdd, ↓reduceIte, reduceCtorEq]
   exact aQ H.length (Nat.le_refl _) (by rw [ax, if_pos rfl]; rfl) ⟨.inl ⟨rfl, by rw [ax, if_pos rfl]⟩, by simp, by simp⟩
 | cons v r =>
   simp +contextual only [bo, J3, tQ, sx, sZ, Nat.reduceEqDiff, Nat.reduceAdd, ↓reduceIte, reduceCtorEq]
   refine ⟨rfl, Fy z4 (by simp [flat]) (ints (v :: r)) (NR (by simp)) (ns _) (by rw [aw]; exact hb) (base := H.length) (by simp) fun v' G' hR hG hl => ?_⟩
   obtain ⟨o1, o2, o3, o4⟩ := hR.one
   simp +contextual only [o3, sZ, ↓reduceIte, reduceCtorEq]
   have wL : H.length ≤ G'.length := by simp at hl; omega
   refine aQ G'.length wL (by rw [ax, if_pos rfl]; exact hR.a7 (Nat.le_refl _)) ?_
   rw [ax, if_pos rfl, List.take_length]
   exact ⟨hR, by rw [hG]; simp, wL⟩
theorem z5 (l : List Int) (cap : Nat) : bj zI (ints l) cap = .cells (ints l ++ da zI (cap - l.length)) := by rw [bj, n9, aw]
theorem Fz {l : List Int} {cap i : Nat} (h : i < l.length) (φ : AV → Prop) : db (some (bj zI (ints l) cap)) none (i * 1) φ = φ (.int .i64 (l.getD i 0)) := by
 have e : (ints l ++ da zI (cap - l.length)).getD (i * 1) .any = .int .i64 (l.getD i 0) := by
  rw [Nat.mul_one, List.getD_eq_getElem?_getD, List.getElem?_append_left (by rw [aw]; exact h)]
  simp [ints, h]
 have hl := aw l
 simp only [z5, db, e, mY, eq_iff_iff, List.length_append, hl]
 constructor
 ·exact fun h => h.2
 ·exact fun h2 => ⟨by omega, h2⟩
theorem J5 {l : List Int} {cap i : Nat} (h : i < l.length) (n : Int) (id : Nat) (H : List aa) (K : List aa → Prop) (hK : K (H.set id (bj zI (ints (l.set i n)) cap))) : gU (some (bj zI (ints l) cap)) 1 id (i * 1) (.int .i64 n) H K := by
 have e : ints (l.set i n) = (ints l).set i (.int .i64 n) := by simp [ints, List.map_set]
 rw [e] at hK
 refine zS (esz := 1) (c := 0) (ns l) (by rw [aw]; exact h) (by decide) (v := .int .i64 n) (y := .int .i64 n) rfl rfl rfl ?_ hK
 simp [ints, h, AV.cells, AV.ab]
structure Tu (l : List Int) (i : Nat) (m : List Int) : Prop where
 len : m.length = l.length
 get : ∀ j, j < l.length → m.getD j 0 = if j < i ∨ l.length - 1 - j < i then l.getD (l.length - 1 - j) 0 else l.getD j 0
theorem yh {l m : List Int} (h : m.length = l.length) (hg : ∀ j, j < l.length → m.getD j 0 = l.getD j 0) : m = l := by
 apply List.ext_getElem h
 intro j h1 h2
 have := hg j h2
 simpa [h1, h2] using this
theorem Tu.done {l m : List Int} {i : Nat} (h : Tu l i m) (hi : l.length ≤ 2 * i + 1) : m = l.reverse := by
 refine yh (by simp [h.len]) fun j hj => ?_
 simp at hj
 rw [h.get j hj]
 have e : l.reverse.getD j 0 = l.getD (l.length - 1 - j) 0 := by
  have h1 : l.length - 1 - j < l.length := by omega
  simp [List.getElem?_reverse hj]
 rw [e]
 split
 ·rfl
 ·rename_i hc
  have : l.length - 1 - j = j := by omega
  rw [this]
theorem kO {l : List Int} {i j : Nat} {x : Int} (hi : i < l.length) : (l.set i x).getD j 0 = if j = i then x else l.getD j 0 := by
 simp only [List.getD_eq_getElem?_getD, List.getElem?_set]
 by_cases h : i = j
 ·subst h; simp [hi]
 ·rw [if_neg h, if_neg (fun e => h e.symm)]
theorem Tu.step {l m : List Int} {i k : Nat} (h : Tu l i m) (hk : l.length = i + k + 1) (aY : i < k) : Tu l (i + 1) ((m.set i (m.getD k 0)).set k (m.getD i 0)) := by
 refine ⟨by simp [h.len], fun j hj => ?_⟩
 have hl := h.len
 rw [kO (by simp; omega), kO (by omega)]
 by_cases h1 : j = k
 ·subst h1
  rw [if_pos rfl, h.get i (by omega), if_neg (by omega), if_pos (by omega)]
  congr 1; omega
 ·rw [if_neg h1]
  by_cases h2 : j = i
  ·subst h2
   rw [if_pos rfl, h.get k (by omega), if_neg (by omega), if_pos (by omega)]
   congr 1; omega
  ·rw [if_neg h2, h.get j hj]
   by_cases h3 : j < i ∨ l.length - 1 - j < i
   ·rw [if_pos h3, if_pos (by omega)]
   ·rw [if_neg h3, if_neg (by omega)]
theorem Ei {H : List aa} {id : Nat} {o : aa} (h : H[id]? = some o) : H.set id o = H := by
 apply List.ext_getElem?
 intro j
 rw [List.getElem?_set]
 split
 ·rename_i e; subst e
  have := (List.getElem?_eq_some_iff.1 h).1
  rw [if_pos this, h]
 ·rfl
theorem V2 (l : List Int) (base : Nat) (v : AV) (H : List aa) (hR : RO zI base v (ints l) H) (hb : l.length * 8 ≤ 140737488355328) : aq Tryz.prog 199 [v] H fun r H' => r = .tuple [] ∧ RO zI base v (ints l.reverse) H' ∧ H'.take base = H.take base ∧ H'.length = H.length := by
 refine Pf.2.calls rfl ?_
 simp only [Pf, aI]
 obtain ⟨o1, o2, o3, o4⟩ := hR.one
 simp +contextual only [o3, hR.len, hR.aL, aw, sZ, Nat.reduceEqDiff, Nat.reduceAdd, ↓reduceIte, reduceCtorEq]
 rcases hR with ⟨e, rfl⟩ | ⟨id, cap, bm, rfl, hg, cF, dS⟩
 ·have e : l = [] := List.map_eq_nil_iff.1 e
  subst e
  refine aB 0 (fun _ => True) (fun _ => [(0, .ah), (2, .int .i64 0), (3, .int .i64 (-1))]) (fun _ => H) ⟨trivial, aG (by rfl) rfl⟩ fun i hi _ => ?_
  simp +contextual only [sZ, Nat.reduceEqDiff, ↓reduceIte, reduceCtorEq, Int.reduceLT]
  exact ⟨H.length, Nat.le_refl _, [], trivial, rfl, rfl, .inl ⟨rfl, rfl⟩, by simp, by simp⟩
 ·rw [aw] at cF ⊢
  have e1 : IntKind.i64.wrap ((l.length : Int) - 1) = (l.length : Int) - 1 - (0 : Nat) := by rw [dY _ (by omega)]; omega
  rw [e1]
  refine aN l.length (fun i m => Tu l i m) (fun i m => [(0, .bf id 0 l.length cap), (2, .int .i64 i), (3, .int .i64 ((l.length : Int) - 1 - i))]) (fun i m => H.set id (bj zI (ints m) cap)) l ⟨⟨rfl, fun j hj => by simp⟩, aG rfl ?_⟩ fun i m hi hI => ?_
  ·exact (Ei hg).symm
  have xw := (List.getElem?_eq_some_iff.1 hg).1
  have hm := hI.len
  simp +contextual only [sZ, Nat.reduceEqDiff, ↓reduceIte, reduceCtorEq]
  refine ⟨fun aY => ?_, fun iW => ?_⟩
  ·obtain ⟨k, hk⟩ : ∃ k, l.length = i + k + 1 := ⟨l.length - i - 1, by omega⟩
   have e2 : (l.length : Int) - 1 - i = (k : Nat) := by omega
   rw [e2] at aY ⊢
   have Pm : k < m.length := by omega
   have XA : i < m.length := by omega
   simp +contextual only [kr, List.getElem?_set_self xw, Fz Pm, Fz XA, sZ, Nat.reduceEqDiff, ↓reduceIte, reduceCtorEq]
   refine ⟨by omega, by omega, by omega, J5 XA _ _ _ _ ?_⟩
   have HS : k < (m.set i (m.getD k 0)).length := by simp; omega
   simp +contextual only [kr, List.getElem?_set_self xw, List.set_set, sZ, Nat.reduceEqDiff, ↓reduceIte, reduceCtorEq]
   refine ⟨by omega, J5 HS _ _ _ _ ?_⟩
   simp +contextual only [List.set_set, sZ, Nat.reduceEqDiff, ↓reduceIte, reduceCtorEq]
   have hw : IntKind.i64.wrap ((k : Int) - 1) = (l.length : Int) - 1 - ((i + 1 : Nat) : Int) := by rw [dY _ (by omega)]; omega
   exact ⟨i + 1, _, ⟨by omega, hI.step hk (by omega)⟩, by omega, aG (by rw [hw, au i (by omega)]) rfl⟩
  ·have hd := hI.done (by omega)
   subst hd
   refine ⟨H.length, Nat.le_refl _, [], trivial, rfl, rfl, .inr ⟨id, cap, bm, by simp [aw], ?_, by simpa [aw] using cF, ?_⟩, ?_, by simp⟩
   ·rw [List.take_of_length_le (by simp), List.getElem?_set_self xw]
   ·intro e; apply dS; have := List.map_eq_nil_iff.1 e; simp at this; rw [this]; rfl
   ·rw [List.take_of_length_le (l := H.set _ _) (by simp), List.take_set_of_le bm]
def bD (s : Int) (l : List Int) : List Int := if s = 2 then l.reverse else l
theorem NS {id cap : Nat} {l : List Int} {H : List aa} (h : H[id]? = some (bj zI (ints l) cap)) (hl : l.length ≤ cap) {K : AV → List aa → Prop} (hK : K (.ap 0 (ints l)) (H.set id .dead)) : dD 1 (.bf id 0 l.length cap) H K := by
 have hc : ∀ (l : List Int) (r : List AV), chunks 1 l.length (ints l ++ r) = ints l := by
  intro l r
  induction l with
  | nil => rfl
  | cons x q ih => exact congrArg (AV.int .i64 x :: ·) ih
 have ho : (ints l ++ da zI (cap - l.length)).all AV.one = true := by
  rw [List.all_append, show (da zI (cap - l.length)).all AV.one = true from (iQ.flat (jC z4 _)).2.2.2, Bool.and_true]
  have := (iQ.flat (ns l)).2.2.2
  rwa [n9] at this
 rw [z5] at h
 simp only [dD, h, List.drop_zero, hc, ho]
 exact ⟨by omega, hl, by simp [aw], trivial, hK⟩
theorem Hr (l : List Int) (s : Int) (hb : l.length * 8 ≤ 140737488355328) : Pure Tryz.prog 149 [bo l, .int .i64 s] (.ap 0 (ints (bD s l))) := by
 refine fun H => Pd.2.calls rfl ?_
 simp only [Pd, aI]
 obtain ⟨k1, k2, k3, k4, k5⟩ := aE l
 simp +contextual only [k2, sZ, Nat.reduceEqDiff, Nat.reduceAdd, ↓reduceIte, reduceCtorEq]
 refine af (V1 l H hb) ?_
 rintro v G ⟨hR, hG, hl⟩
 obtain ⟨o1, o2, o3, o4⟩ := hR.one
 have fin : ∀ (m : List Int) (G' : List aa) (K : AV → List aa → Prop), RO zI H.length v (ints m) G' → G'.take H.length = H → (∀ x G'', (m = [] ∧ x = .ah ∨ x = .ap 0 (ints m)) → x.ab = x → G''.take H.length = H → K x G'') → ff 1 v G' K := by
  intro m G' K wY dZ hK
  rcases wY with ⟨e, rfl⟩ | ⟨id, cap, bm, rfl, hg, cF, dS⟩
  ·exact hK _ _ (.inl ⟨List.map_eq_nil_iff.1 e, rfl⟩) rfl dZ
  ·rw [aw] at cF ⊢
   exact NS hg cF (hK _ _ (.inr rfl) rfl (by rw [List.take_set_of_le bm]; exact dZ))
 have fin2 : ∀ (m : List Int) (x : AV) (G' : List aa), bD s l = m → (m = [] ∧ x = .ah ∨ x = .ap 0 (ints m)) → G'.take H.length = H → bT H.length [.t 4] [(4, x)] G' fun r H' => r = .ap 0 (ints (bD s l)) ∧ H' = H := by
  intro m x G' hm hx dZ
  rw [hm]
  rcases hx with ⟨rfl, rfl⟩ | rfl
  ·exact ⟨H.length, Nat.le_refl _, .ap 0 [], .inr (.inr (.inr (.inl ⟨rfl, 0, rfl⟩))), rfl, rfl, dZ⟩
  ·exact ⟨H.length, Nat.le_refl _, _, le_refl _, by show AV.a7 _ (.ap 0 (ints m)) = true; rw [cW]; exact bk _ _, rfl, dZ⟩
 simp +contextual only [o3, sZ, Nat.reduceEqDiff, Nat.reduceAdd, ↓reduceIte, reduceCtorEq]
 refine ⟨fun hs => ?_, fun hs => ?_⟩
 ·refine af (V2 l H.length v G hR hb) ?_
  rintro r G' ⟨rfl, wY, dZ, _⟩
  simp +contextual only [sZ, ↓reduceIte, reduceCtorEq]
  refine fin l.reverse G' _ wY (by rw [dZ, hG]) fun x G'' hx hu Si => ?_
  simp +contextual only [hu, sZ, ↓reduceIte, reduceCtorEq]
  exact fin2 l.reverse x G'' (by rw [bD, if_pos hs]) hx Si
 ·refine fin l G _ hR hG fun x G'' hx hu Si => ?_
  simp +contextual only [hu, sZ, ↓reduceIte, reduceCtorEq]
  exact fin2 l x G'' (by rw [bD, if_neg hs]) hx Si
end Go.aK
end
section
set_option maxRecDepth 100000
namespace Go.aK
open Go Go.Proofs Go.fq
structure Cx where
 ps : List Int
 ss : List Int
 nd : List Nd
 d : Nat
 e : Nat
 g : Nat
def Cx.tm (c : Cx) (i : Int) : T := (c.nd.getD i.toNat default).1
def Cx.kd (c : Cx) (i : Int) : List Int := (c.nd.getD i.toNat default).2
def Cx.dH (c : Cx) (i : Int) : Prop := 0 ≤ i ∧ i < c.nd.length
def Sj (ps ss : List Int) (p : Int) : Int := ss.getD (ps.findIdx fun q => decide (q = p)) 0
def kP (ps ss : List Int) : Od := ⟨fun n => ps.getD n.toNat 0, Sj ps ss⟩
def Cx.O (c : Cx) : Od := kP c.ps c.ss
structure Va (ps ss : List Int) : Prop where
 len : ss.length = ps.length
 st : ∀ i j, i < ps.length → j < ps.length → ps.getD i 0 = ps.getD j 0 → ss.getD i 0 = ss.getD j 0
theorem Va.sp {ps ss : List Int} (h : Va ps ss) {i : Nat} (hi : i < ps.length) : Sj ps ss (ps.getD i 0) = ss.getD i 0 := by
 unfold Sj
 have hx : ps.getD i 0 ∈ ps := by rw [List.getD_eq_getElem?_getD, List.getElem?_eq_getElem hi]; exact List.getElem_mem hi
 have h1 : ps.findIdx (fun q => decide (q = ps.getD i 0)) < ps.length := List.findIdx_lt_length_of_exists ⟨_, hx, by simp⟩
 have h2 := List.findIdx_getElem (xs := ps) (p := fun q => decide (q = ps.getD i 0)) (w := h1)
 refine h.st _ _ h1 hi ?_
 rw [List.getD_eq_getElem?_getD, List.getElem?_eq_getElem h1]
 exact of_decide_eq_true h2
structure Cx.Ok (c : Cx) : Prop where
 va : Va c.ps c.ss
 nd : c.nd ≠ []
 ne1 : c.d ≠ c.e
 ne2 : c.d ≠ c.g
 ne3 : c.e ≠ c.g
 kl : ∀ i, c.dH i → (c.kd i).length ≤ 100000000
 kids : ∀ i, c.dH i → (c.kd i).map c.tm = (c.tm i).l ∧ ∀ k ∈ c.kd i, c.dH k
 op : ∀ i, c.dH i → (c.tm i).k = 2 → 0 ≤ (c.tm i).n ∧ (c.tm i).n < c.ps.length
def lS (m : List ((Int × Int) × Bool)) : List (AV × AV) := m.map fun p => (.agg [.int .i64 p.1.1, .int .i64 p.1.2], .bool p.2)
def Rt (c : Cx) (P : T → T → Prop) (m : List ((Int × Int) × Bool)) : Prop := ∀ p ∈ m, p.2 = true ↔ P (c.tm p.1.1) (c.tm p.1.2)
structure Du (c : Cx) (H : List aa) : Prop where
 d : H[c.d]? = some (.cells [.ap 0 (ints c.ps), .ap 0 (ints c.ss), .ap 0 (eB c.nd), .map c.e, .map c.g])
 e : ∃ m, H[c.e]? = some (.map (lS m)) ∧ Rt c (E c.O) m
 g : ∃ m, H[c.g]? = some (.map (lS m)) ∧ Rt c (R c.O) m
structure Up (c : Cx) (H H' : List aa) : Prop where
 len : H'.length = H.length
 get : ∀ j, j ≠ c.e → j ≠ c.g → H'[j]? = H[j]?
theorem Up.refl (c : Cx) (H : List aa) : Up c H H := ⟨rfl, fun _ _ _ => rfl⟩
theorem Up.trans {c : Cx} {H H' H'' : List aa} (h : Up c H H') (k : Up c H' H'') : Up c H H'' := ⟨k.len.trans h.len, fun j h1 h2 => (k.get j h1 h2).trans (h.get j h1 h2)⟩
theorem Du.lt {c : Cx} {H : List aa} (h : Du c H) : c.d < H.length ∧ c.e < H.length ∧ c.g < H.length := by
 obtain ⟨m, h1, _⟩ := h.e
 obtain ⟨m', h2, _⟩ := h.g
 exact ⟨(List.getElem?_eq_some_iff.1 h.d).1, (List.getElem?_eq_some_iff.1 h1).1, (List.getElem?_eq_some_iff.1 h2).1⟩
theorem Du.rO {c : Cx} {H : List aa} (h : Du c H) (X : List aa) : Du c (H ++ X) := by
 obtain ⟨l1, l2, l3⟩ := h.lt
 exact ⟨by rw [List.getElem?_append_left l1]; exact h.d, by rw [List.getElem?_append_left l2]; exact h.e, by rw [List.getElem?_append_left l3]; exact h.g⟩
theorem Du.take {c : Cx} {H : List aa} {n : Nat} (h : Du c H) (h1 : c.d < n) (h2 : c.e < n) (h3 : c.g < n) : Du c (H.take n) := by
 exact ⟨by rw [List.getElem?_take, if_pos h1]; exact h.d, by rw [List.getElem?_take, if_pos h2]; exact h.e, by rw [List.getElem?_take, if_pos h3]; exact h.g⟩
theorem Du.set {c : Cx} {H : List aa} {j : Nat} {o : aa} (h : Du c H) (h1 : j ≠ c.d) (h2 : j ≠ c.e) (h3 : j ≠ c.g) : Du c (H.set j o) := by
 exact ⟨by rw [List.getElem?_set_ne h1]; exact h.d, by rw [List.getElem?_set_ne h2]; exact h.e, by rw [List.getElem?_set_ne h3]; exact h.g⟩
theorem Up.take {c : Cx} {H X H' : List aa} (h : Up c (H ++ X) H') : Up c H (H'.take H.length) :=
 ⟨by have := h.len; simp at this ⊢; omega, fun j h1 h2 => by
   rw [List.getElem?_take]
   split
   ·rename_i hj; rw [h.get j h1 h2, List.getElem?_append_left hj]
   ·rename_i hj; rw [List.getElem?_eq_none (by omega)]⟩
def ic (c : Cx) (Q : Prop) (H : List aa) (r : AV) (H' : List aa) : Prop := ∃ b : Bool, r = .bool b ∧ (b = true ↔ Q) ∧ Up c H H' ∧ Du c H'
theorem bS (l : List Int) (H : List aa) (φ : AV → Prop) : aS none (.ai (bo l)) H φ = φ (bo l) := by
 obtain ⟨k1, k2, _⟩ := aE l
 simp [aS, k1, k2]
theorem Zb (p : Nd) (φ : AV → Prop) : ak 0 (some 3) (.ai (Ee p)) φ = φ (.ai p.1.av) := by
 obtain ⟨⟨k, n, l⟩, ks⟩ := p
 simp [ak, Ee, apart, AV.cells, T.av, T.k, T.n, T.l]
theorem C0 (p : Nd) (φ : AV → Prop) : ak 3 none (.ai (Ee p)) φ = φ (.ai (bo p.2)) := by
 obtain ⟨k1, _⟩ := aE p.2
 simp [ak, Ee, apart, AV.cells, k1]
theorem lT (e o : Nat) (l : List Nd) (k : IntKind) (i : Int) (φ : AV → Prop) : ay e (.ap o (eB l)) (.int k i) φ = ((0 ≤ i ∧ i < l.length) ∧ φ (.ai (Ee (l.getD i.toNat default)))) := by
 simp only [ay, qB, eq_iff_iff]
 constructor
 ·rintro ⟨h0, h, h2⟩; refine ⟨by omega, ?_⟩; simpa [eB, h] using h2
 ·rintro ⟨⟨h0, h⟩, h2⟩; have h : i.toNat < l.length := by omega
  refine ⟨h0, h, ?_⟩; simpa [eB, h] using h2
theorem cu (o : Nat) (l : List Nd) : (∀ (own : Nat) (xs : List AV), AV.ap o (eB l) = AV.ap own xs → ∀ z ∈ xs, z.cells.length = 4) = True := by
 simp only [eq_iff_iff, iff_true]
 intro own xs e z hz
 cases e
 exact (jD l z hz).len
theorem cw (e o : Nat) (l : List Int) (k : IntKind) (i : Int) (φ : AV → Prop) : ay e (.ap o (ints l)) (.int k i) φ = ((0 ≤ i ∧ i < l.length) ∧ φ (.ai (.int .i64 (l.getD i.toNat 0)))) := by
 simp only [ay, aw, eq_iff_iff]
 constructor
 ·rintro ⟨h0, h, h2⟩; refine ⟨by omega, ?_⟩; simpa [ints, h] using h2
 ·rintro ⟨⟨h0, h⟩, h2⟩; have h : i.toNat < l.length := by omega
  refine ⟨h0, h, ?_⟩; simpa [ints, h] using h2
def pe (c : Cx) (i : Int) : Int := if (c.tm i).k = 2 then c.O.pl (c.tm i).n else 0
def dq (c : Cx) (i : Int) : Int := if (c.tm i).k = 2 then c.O.sp (c.O.pl (c.tm i).n) else 0
def qQ (c : Cx) (i : Int) : Bool := decide ((c.tm i).k = 2)
def J6 (c : Cx) (i : Int) : AV := .tuple [.int .i64 (pe c i), .int .i64 (dq c i), .bool (qQ c i)]
theorem FA (t : T) (φ : AV → Prop) : ak 0 none (.ai t.av) φ = φ (.ai (.int .i64 t.k)) := by cases t; simp [ak, T.av, apart, AV.cells, AV.one, T.k]
theorem yi {Hs G : List aa} {n0 a b c : Nat} {u v w x y z : AV} {R : AV → List aa → Prop} (Cb : b ≠ a ∧ c ≠ a ∧ c ≠ b) (hH : Hs.take n0 = G) (hb : x.a7 n0 = true ∧ y.a7 n0 = true ∧ z.a7 n0 = true)
 (hx : u.ab = x) (hy : v.ab = y) (hz : w.ab = z) (hR : R (.tuple [x, y, z]) G) : bT n0 [.t a, .t b, .t c] [(a, u), (b, v), (c, w)] Hs R := by
 subst hH; subst hx; subst hy; subst hz
 refine ⟨n0, Nat.le_refl _, [u.ab, v.ab, w.ab], ?_, by simp only [aj, hb.1, hb.2.1, hb.2.2, Bool.and_self], hR⟩
 simp only [ax, if_neg Cb.1, if_neg Cb.2.1, if_neg Cb.2.2, if_true, List.map]
 exact b9 _
theorem pf {c : Cx} (hc : c.Ok) {i : Int} (hi : c.dH i) {H : List aa} (hD : Du c H) : aq Tryz.prog 135 [.ptr c.d 0, .int .i64 i] H fun r H' => r = J6 c i ∧ H' = H := by
 refine Us.2.calls rfl ?_
 simp only [Us, aI]
 simp +contextual only [hD.d, lT, Zb, cu, cw, sZ, Nat.reduceEqDiff, Nat.reduceAdd, Nat.reduceLT, ↓reduceIte, reduceCtorEq]
 refine ⟨hi, fun hk => ?_, fun hk => ?_⟩
 ·exact yi (by decide) (List.take_length) ⟨rfl, rfl, rfl⟩ rfl rfl rfl ⟨by rw [J6, pe, dq, qQ, if_neg (show ¬(c.tm i).k = 2 from hk), if_neg (show ¬(c.tm i).k = 2 from hk), decide_eq_false (show ¬(c.tm i).k = 2 from hk)]; rfl, rfl⟩
 ·obtain ⟨o1, o2⟩ := hc.op i hi hk
  have hl := hc.va.len
  refine ⟨⟨o1, o2⟩, ⟨o1, by rw [hl]; exact o2⟩, ?_⟩
  refine yi (by decide) (List.take_length) ⟨rfl, rfl, rfl⟩ rfl rfl rfl ⟨?_, rfl⟩
  have e := hc.va.sp (i := (c.tm i).n.toNat) (by omega)
  rw [J6, pe, dq, qQ, if_pos (show (c.tm i).k = 2 from hk), if_pos (show (c.tm i).k = 2 from hk), decide_eq_true (show (c.tm i).k = 2 from hk)]
  have e2 : c.O.sp (c.O.pl (c.tm i).n) = c.ss.getD (c.tm i).n.toNat 0 := e
  rw [e2]; rfl
def lU (i k : Int) : AV := .agg [.int .i64 i, .int .i64 k]
theorem rP (i k : Int) : ∀ (m : List ((Int × Int) × Bool)) (n : Nat), (∃ j b, m[j]? = some ((i, k), b) ∧ dN 2 (lU i k) (lS m) n = some (some (n + j, .bool b))) ∨ dN 2 (lU i k) (lS m) n = some none
 | [], n => .inr rfl
 | ((a, b), v) :: r, n => by
   have ih := rP i k r (n + 1)
   have e : cP 2 (lU i k) (.agg [.int .i64 a, .int .i64 b]) = some (decide (i = a ∧ k = b)) := by simp [cP, lU]
   simp only [lS, List.map_cons, dN, e]
   by_cases h : i = a ∧ k = b
   ·obtain ⟨rfl, rfl⟩ := h
    exact .inl ⟨0, v, rfl, by simp⟩
   ·simp only [decide_eq_false h]
    rcases ih with ⟨j, x, h1, h2⟩ | h2
    ·exact .inl ⟨j + 1, x, h1, by rw [show n + (j + 1) = n + 1 + j by omega]; exact h2⟩
    ·exact .inr h2
theorem lkM {i k : Int} {m : List ((Int × Int) × Bool)} {φ : AV → Prop} (h1 : ∀ b, ((i, k), b) ∈ m → φ (.tuple [.bool b, .bool true])) (h2 : φ (.tuple [.bool false, .bool false])) : gZ (some (.map (lS m))) 2 (.bool false) (lU i k) true φ := by
 unfold gZ
 rcases rP i k m 0 with ⟨j, b, h3, h4⟩ | h4
 ·simp only [h4]; exact h1 b (List.mem_of_getElem? h3)
 ·simp only [h4]; exact ⟨by simp [cP, lU], h2⟩
theorem J7 (m : List ((Int × Int) × Bool)) (j : Nat) (i k : Int) (b : Bool) : (lS m).set j (lU i k, .bool b) = lS (m.set j ((i, k), b)) := by simp [lS, lU, List.map_set]
theorem msM {i k : Int} {b : Bool} {m : List ((Int × Int) × Bool)} {id : Nat} {H : List aa} {K : List aa → Prop} (h : ∀ m', (∀ p ∈ m', p ∈ m ∨ p = ((i, k), b)) → K (H.set id (.map (lS m')))) : g9 (some (.map (lS m))) 2 id (lU i k) (.bool b) H K := by
 unfold g9
 refine ⟨by simp [lU, u0, bL, cZ, iO], rfl, rfl, ?_⟩
 have ec : aT (.bool b) = .bool b := rfl
 rcases rP i k m 0 with ⟨j, x, h3, h4⟩ | h4
 ·simp only [h4, ec, Nat.zero_add, J7]
  refine h _ fun p hp => ?_
  rcases List.mem_or_eq_of_mem_set hp with h | h
  ·exact .inl h
  ·exact .inr h
 ·simp only [h4, ec]
  refine ⟨by simp [cP, lU], ?_⟩
  have e : lS m ++ [(lU i k, .bool b)] = lS (m ++ [((i, k), b)]) := by simp [lS, lU]
  rw [e]
  refine h _ fun p hp => ?_
  rcases List.mem_append.1 hp with h | h
  ·exact .inl h
  ·exact .inr (by simpa using h)
theorem bdK (i k : Int) (φ : AV → Prop) : cC [.int .i64 0, .int .i64 0] [(0, 1, .int .i64 i), (1, 1, .int .i64 k)] φ = φ (lU i k) := by
 simp only [cC, gI, eq_iff_iff]
 constructor
 ·rintro ⟨_, _, _, _, _, _, h⟩; exact h
 ·exact fun h => ⟨rfl, rfl, by simp, rfl, rfl, by simp [ag, AV.cells], h⟩
theorem Ej (i k : Int) : (lU i k).val = true ∧ (lU i k).cells.length = 2 ∧ (lU i k).cells.all AV.one = true := ⟨rfl, rfl, rfl⟩
theorem ldK (i k : Int) (H : List aa) (φ : AV → Prop) : aS (some 2) (.ai (lU i k)) H φ = φ (lU i k) := NQ _ _ _ _
def Mp (c : Cx) (w : Nat) (Q : T → T → Prop) : Prop := (w = c.e ∧ Q = E c.O) ∨ (w = c.g ∧ Q = R c.O)
theorem Mp.at {c : Cx} {w : Nat} {Q : T → T → Prop} (h : Mp c w Q) {H : List aa} (hD : Du c H) : ∃ m, H[w]? = some (.map (lS m)) ∧ Rt c Q m := by
 rcases h with ⟨rfl, rfl⟩ | ⟨rfl, rfl⟩
 ·exact hD.e
 ·exact hD.g
theorem Mp.set {c : Cx} (hc : c.Ok) {w : Nat} {Q : T → T → Prop} (h : Mp c w Q) {H : List aa} (hD : Du c H) {m : List ((Int × Int) × Bool)} (hm : Rt c Q m) : Du c (H.set w (.map (lS m))) ∧ Up c H (H.set w (.map (lS m))) := by
 obtain ⟨l1, l2, l3⟩ := hD.lt
 obtain ⟨_, _, n1, n2, n3, _, _, _⟩ := hc
 rcases h with ⟨rfl, rfl⟩ | ⟨rfl, rfl⟩
 ·exact ⟨⟨by rw [List.getElem?_set_ne (fun e => n1 e.symm)]; exact hD.d, ⟨m, by rw [List.getElem?_set_self l2], hm⟩, by rw [List.getElem?_set_ne n3]; exact hD.g⟩, by simp, fun j h1 h2 => by rw [List.getElem?_set_ne (fun e => h1 e.symm)]⟩
 ·exact ⟨⟨by rw [List.getElem?_set_ne (fun e => n2 e.symm)]; exact hD.d, by rw [List.getElem?_set_ne (fun e => n3 e.symm)]; exact hD.e, ⟨m, by rw [List.getElem?_set_self l3], hm⟩⟩, by simp, fun j h1 h2 => by rw [List.getElem?_set_ne (fun e => h2 e.symm)]⟩
theorem ee {c : Cx} {s : Nat} {b : Bool} {Q : Prop} {H H' : List aa} {x : AV} (hx : x = .bool b) (hb : b = true ↔ Q) (hU : Up c H H') (hD : Du c H') : bT H.length [.t s] [(s, x)] H' (ic c Q H) := by
 subst hx
 refine aQ H.length (Nat.le_refl _) (by rw [ax, if_pos rfl]; rfl) ?_
 rw [ax, if_pos rfl, List.take_of_length_le (by rw [hU.len]; exact Nat.le_refl _)]
 exact ⟨b, rfl, hb, hU, hD⟩
theorem V3 {c : Cx} (hc : c.Ok) {w : Nat} {Q : T → T → Prop} (hw : Mp c w Q) (i k : Int) (fn : Nat) (cz : List AV) {H : List aa} (hD : Du c H) (cF : cz.map AV.ab = cz)
 (hf : aq Tryz.prog fn cz H (ic c (Q (c.tm i) (c.tm k)) H)) : aq Tryz.prog 133 [.map w, .int .i64 i, .int .i64 k, .fn (.func fn) [] cz] H (ic c (Q (c.tm i) (c.tm k)) H) := by
 refine Uq.2.calls rfl ?_
 simp only [Uq, aI]
 obtain ⟨m, hm, hr⟩ := hw.at hD
 have kf := Ej i k
 simp +contextual only [bdK, ldK, kf.1, kf.2.1, kf.2.2, hm, sZ, Nat.reduceEqDiff, Nat.reduceAdd, ↓reduceIte, reduceCtorEq]
 refine lkM (fun b hb => ?_) ?_
 ·have hq := hr _ hb
  cases b with
  | true =>
    simp +contextual only [sZ, Nat.reduceEqDiff, Nat.reduceAdd, Nat.reduceLT, ↓reduceIte, reduceCtorEq]
    exact ee rfl hq (Up.refl c H) hD
  | false =>
    simp +contextual only [sZ, Nat.reduceEqDiff, Nat.reduceAdd, Nat.reduceLT, ↓reduceIte, reduceCtorEq]
    exact ee rfl hq (Up.refl c H) hD
 ·simp +contextual only [cF, sZ, Nat.reduceEqDiff, Nat.reduceAdd, Nat.reduceLT, ↓reduceIte, reduceCtorEq]
  refine af hf ?_
  rintro r H' ⟨b, rfl, hb, hU, ja⟩
  obtain ⟨m', LA, Yu⟩ := hw.at ja
  simp +contextual only [ldK, LA, sZ, Nat.reduceEqDiff, ↓reduceIte, reduceCtorEq]
  refine msM fun m2 h2 => ?_
  have qY : Rt c Q m2 := by
   intro p hp
   rcases h2 p hp with h | rfl
   ·exact Yu p h
   ·exact hb
  obtain ⟨s1, s2⟩ := hw.set hc ja qY
  simp +contextual only [sZ, Nat.reduceEqDiff, ↓reduceIte, reduceCtorEq]
  exact ee rfl hb (hU.trans s2) s1
def jU (c : Cx) (i k : Int) : Prop := ∀ H, Du c H → aq Tryz.prog 79 [.ptr c.d 0, .int .i64 i, .int .i64 k] H (ic c (E c.O (c.tm i) (c.tm k)) H)
def gM (c : Cx) (i k : Int) : Prop := ∀ H, Du c H → aq Tryz.prog 76 [.ptr c.d 0, .int .i64 i, .int .i64 k] H (ic c (R c.O (c.tm i) (c.tm k)) H)
def Ch (c : Cx) (i k : Int) : List AV := [.ai (.ptr c.d 0), .ai (.int .i64 i), .ai (.int .i64 k)]
theorem g53 (a b c d e z : AV) : [a, b, c, d, e].getD 3 z = d := rfl
theorem g54 (a b c d e z : AV) : [a, b, c, d, e].getD 4 z = e := rfl
theorem c79 {c : Cx} (hc : c.Ok) {i k : Int} (h : ∀ H, Du c H → aq Tryz.prog 138 (Ch c i k) H (ic c (E c.O (c.tm i) (c.tm k)) H)) : jU c i k := by
 intro H hD
 refine k79.2.calls rfl ?_
 simp only [k79, aI]
 simp +contextual only [hD.d, g53, sZ, Nat.reduceEqDiff, Nat.reduceAdd, Nat.reduceLT, ↓reduceIte, reduceCtorEq]
 refine af (V3 hc (.inl ⟨rfl, rfl⟩) i k 138 (Ch c i k) hD rfl (h H hD)) ?_
 rintro r H' ⟨b, rfl, hb, hU, ja⟩
 simp +contextual only [sZ, ↓reduceIte, reduceCtorEq]
 exact ee rfl hb hU ja
theorem c76 {c : Cx} (hc : c.Ok) {i k : Int} (h : ∀ H, Du c H → aq Tryz.prog 134 (Ch c i k) H (ic c (R c.O (c.tm i) (c.tm k)) H)) : gM c i k := by
 intro H hD
 refine k76.2.calls rfl ?_
 simp only [k76, aI]
 simp +contextual only [hD.d, g54, sZ, Nat.reduceEqDiff, Nat.reduceAdd, Nat.reduceLT, ↓reduceIte, reduceCtorEq]
 refine af (V3 hc (.inr ⟨rfl, rfl⟩) i k 134 (Ch c i k) hD rfl (h H hD)) ?_
 rintro r H' ⟨b, rfl, hb, hU, ja⟩
 simp +contextual only [sZ, ↓reduceIte, reduceCtorEq]
 exact ee rfl hb hU ja
theorem dt (c : Cx) (i : Int) : (J6 c i).ab = J6 c i := rfl
theorem fg (c : Cx) (i : Int) (φ : AV → Prop) : bC (J6 c i) 0 φ = φ (.int .i64 (pe c i)) := by simp [J6, bC, mY]
theorem fh (c : Cx) (i : Int) (φ : AV → Prop) : bC (J6 c i) 1 φ = φ (.int .i64 (dq c i)) := by simp [J6, bC, mY]
theorem fj (c : Cx) (i : Int) (φ : AV → Prop) : bC (J6 c i) 2 φ = φ (.bool (qQ c i)) := by simp [J6, bC, nU]
def tv (c : Cx) (i k : Int) : Bool := qQ c i && (qQ c k && decide (pe c i = pe c k))
theorem jV {c : Cx} {i k : Int} : tv c i k = true ↔ (c.tm i).k = 2 ∧ (c.tm k).k = 2 ∧ c.O.pl (c.tm i).n = c.O.pl (c.tm k).n := by
 simp only [tv, qQ, Bool.and_eq_true, decide_eq_true_eq]
 unfold pe
 constructor
 ·rintro ⟨h1, h2, h3⟩; rw [if_pos h1, if_pos h2] at h3; exact ⟨h1, h2, h3⟩
 ·rintro ⟨h1, h2, h3⟩; refine ⟨h1, h2, ?_⟩; rw [if_pos h1, if_pos h2]; exact h3
theorem Ek {c : Cx} (hc : c.Ok) {i k : Int} (hi : c.dH i) (hk : c.dH k) {H : List aa} (hD : Du c H) : aq Tryz.prog 155 [.ptr c.d 0, .int .i64 i, .int .i64 k] H fun r H' => r = .tuple [.int .i64 (dq c i), .bool (tv c i k)] ∧ H' = H := by
 refine UE.2.calls rfl ?_
 simp only [UE, aI]
 simp +contextual only [sZ, Nat.reduceEqDiff, Nat.reduceAdd, ↓reduceIte, reduceCtorEq]
 refine af (pf hc hi hD) ?_
 rintro r H1 ⟨rfl, rfl⟩
 simp +contextual only [dt, fg, fh, fj, sZ, Nat.reduceEqDiff, Nat.reduceAdd, ↓reduceIte, reduceCtorEq]
 refine af (pf hc hk hD) ?_
 rintro r H1 ⟨rfl, rfl⟩
 simp +contextual only [dt, fg, fh, fj, sZ, Nat.reduceEqDiff, ↓reduceIte, reduceCtorEq]
 have fin : ∀ (s : Int) (b : Bool), s = dq c i → b = tv c i k → bT H1.length [.t 6, .t 7] [(6, .int .i64 s), (7, .bool b)] H1 fun r H' => r = .tuple [.int .i64 (dq c i), .bool (tv c i k)] ∧ H' = H1 := by
  rintro s b rfl rfl
  have := xN (H := H1) (e := []) (s := 6) (s' := 7) (v := .int .i64 (dq c i)) (v' := .bool (tv c i k)) (by decide) rfl rfl rfl rfl
  rwa [List.append_nil] at this
 cases h1 : qQ c i with
 | false =>
   simp +contextual only [sZ, Nat.reduceEqDiff, ↓reduceIte, reduceCtorEq]
   exact fin _ _ rfl (by rw [tv, h1]; rfl)
 | true =>
   cases h2 : qQ c k with
   | false =>
     simp +contextual only [sZ, Nat.reduceEqDiff, ↓reduceIte, reduceCtorEq]
     exact fin _ _ rfl (by rw [tv, h1, h2]; rfl)
   | true =>
     simp +contextual only [sZ, Nat.reduceEqDiff, ↓reduceIte, reduceCtorEq]
     exact fin _ _ rfl (by rw [tv, h1, h2]; rfl)
end Go.aK
end
section
set_option maxRecDepth 100000
namespace Go.aK
open Go Go.Proofs Go.fq
def IL (v : AV) (l : List Int) : Prop := v = bo l ∨ v = .ap 0 (ints l)
theorem IL.one {v : AV} {l : List Int} (h : IL v l) : v.one = true ∧ v.ab = v ∧ v.val = true ∧ v.cells = [v] := by
 rcases h with rfl | rfl
 ·obtain ⟨k1, k2, _, k4, k5⟩ := aE l; exact ⟨k1, k2, k4, k5⟩
 ·exact ⟨rfl, rfl, rfl, rfl⟩
theorem IL.len {v : AV} {l : List Int} (h : IL v l) (hs : l.length < 9223372036854775808) (H : List aa) (φ : AV → Prop) : eW v H φ = φ (.int .i64 l.length) := by
 have hl : ∀ l : List Int, l.length < 9223372036854775808 → eW (.ap 0 (ints l)) H φ = φ (.int .i64 l.length) := by
  intro l hs; simp [eW, aw, hs]
 rcases h with rfl | rfl
 ·cases l with
  | nil => rfl
  | cons x r => exact hl _ hs
 ·exact hl _ hs
theorem IL.vA {v : AV} {l : List Int} (h : IL v l) (H : List aa) (φ : AV → Prop) : gL v H φ = φ (.int .i64 l.length) := by
 rcases h with rfl | rfl
 ·cases l with
  | nil => rfl
  | cons x r => rw [bo, kH, aw]
 ·rw [kH, aw]
theorem IL.aL {v : AV} {l : List Int} (h : IL v l) : aL 1 v = True := by
 rcases h with rfl | rfl
 ·cases l <;> simp [bo, Go.aK.aL]
 ·simp [Go.aK.aL]
theorem IL.idx {v : AV} {l : List Int} (h : IL v l) (k : IntKind) (i : Int) (φ : AV → Prop) : ay 1 v (.int k i) φ = ((0 ≤ i ∧ i < l.length) ∧ φ (.ai (.int .i64 (l.getD i.toNat 0)))) := by
 rcases h with rfl | rfl
 ·cases l with
  | nil => simp [bo, ay]; omega
  | cons x r => exact cw 1 0 (x :: r) k i φ
 ·exact cw 1 0 l k i φ
theorem IL.lens {v : AV} {l : List Int} (h : IL v l) : (∀ (own : Nat) (xs : List AV), v = AV.ap own xs → ∀ z ∈ xs, z.cells.length = 1) = True := by
 rcases h with rfl | rfl
 ·cases l with
  | nil => simp [bo]
  | cons x r => exact dy 0 (x :: r)
 ·exact dy 0 l
def yj (S : List aa → Prop) : Prop := ∀ H H', S H → S H' → H'.length = H.length
def SB (S : List aa → Prop) (Q : Prop) (r : AV) (H' : List aa) : Prop := ∃ b : Bool, r = .bool b ∧ (b = true ↔ Q) ∧ S H'
def SI (S : List aa → Prop) (Q : Int → Prop) (l : List Int) (r : AV) (H' : List aa) : Prop :=
 S H' ∧ ((r = .int .i64 (-1) ∧ ∀ x ∈ l, ¬ Q x) ∨ ∃ n : Nat, r = .int .i64 n ∧ n < l.length ∧ Q (l.getD n 0) ∧ ∀ j, j < n → ¬ Q (l.getD j 0))
theorem z6 {S : List aa → Prop} (hl : yj S) {s : Nat} {b : Bool} {Q : Prop} {H H' : List aa} {x : AV} (hx : x = .bool b) (hb : b = true ↔ Q) (hS : S H) (V4 : S H') : bT H.length [.t s] [(s, x)] H' (SB S Q) := by
 subst hx
 refine aQ H.length (Nat.le_refl _) (by rw [ax, if_pos rfl]; rfl) ?_
 rw [ax, if_pos rfl, List.take_of_length_le (by rw [hl H H' hS V4]; exact Nat.le_refl _)]
 exact ⟨b, rfl, hb, V4⟩
theorem aO {l : List Int} {i : Nat} (h : i < l.length) : l.getD i 0 ∈ l := by rw [List.getD_eq_getElem?_getD, List.getElem?_eq_getElem h]; exact List.getElem_mem h
theorem V5 {S : List aa → Prop} (hS : yj S) {Q : Int → Int → Prop} {a b : List Int} {va vb : AV} (ha : IL va a) (hb : IL vb b) (la : a.length ≤ 1000000000) (lb : b.length ≤ 1000000000) (g : Nat) (pre cz : List AV) (cF : cz.map AV.ab = cz) (k8 : pre.map AV.ab = pre)
 (hf : ∀ x ∈ a, ∀ y ∈ b, ∀ H, S H → aq Tryz.prog g (pre ++ [.int .i64 x, .int .i64 y] ++ cz) H (SB S (Q x y))) {H : List aa} (hH : S H) :
 aq Tryz.prog 140 [va, vb, .fn (.func g) pre cz] H (SB S (a.length = b.length ∧ ∀ j, j < a.length → Q (a.getD j 0) (b.getD j 0))) := by
 refine Uv.2.calls rfl ?_
 simp only [Uv, aI]
 obtain ⟨a1, a2, a3, a4⟩ := ha.one
 obtain ⟨b1, b2, b3, b4⟩ := hb.one
 simp +contextual only [a2, b2, ha.aL, hb.aL, ha.len (by omega), hb.len (by omega), sZ, Nat.reduceEqDiff, Nat.reduceAdd, ↓reduceIte, reduceCtorEq]
 refine ⟨fun dS => z6 hS rfl ⟨fun h => by simp at h, fun h => absurd (by omega) dS⟩ hH hH, fun Zc => ?_⟩
 refine aN a.length (fun i (G : List aa) => S G ∧ ∀ j, j < i → Q (a.getD j 0) (b.getD j 0))
  (fun i G => [(1, vb), (2, .fn (.func g) pre cz), (15, va), (16, .int .i64 b.length), (17, .int .i64 i)]) (fun i G => G) H ⟨⟨hH, fun j hj => by omega⟩, aA _ _ _⟩ fun i G hi hI => ?_
 obtain ⟨hG, hq⟩ := hI
 simp +contextual only [b2, ha.lens, hb.lens, ha.idx, hb.idx, Int.toNat_natCast, cF, k8, sZ, Nat.reduceEqDiff, Nat.reduceAdd, ↓reduceIte, reduceCtorEq]
 refine ⟨fun aY => ⟨by omega, by omega, ?_⟩, fun iW => ?_⟩
 ·refine af (hf _ (aO (by omega)) _ (aO (by omega)) G hG) ?_
  rintro r G' ⟨x, rfl, hx, dZ⟩
  cases x with
  | true =>
    simp +contextual only [sZ, Nat.reduceEqDiff, ↓reduceIte]
    refine ⟨i + 1, G', ⟨by omega, dZ, fun j hj => ?_⟩, by omega, aG (by rw [au i (by omega)]) rfl⟩
    by_cases h : j = i
    ·subst h; exact hx.1 rfl
    ·exact hq j (by omega)
  | false =>
    simp +contextual only [sZ, Nat.reduceEqDiff, ↓reduceIte, reduceCtorEq]
    refine z6 hS rfl ⟨fun h => by simp at h, fun h => ?_⟩ hH dZ
    exact absurd (hx.2 (h.2 i (by omega))) (by simp)
 ·refine z6 hS rfl ⟨fun _ => ⟨by omega, fun j hj => hq j (by omega)⟩, fun _ => rfl⟩ hH hG
theorem J8 {S : List aa → Prop} (hS : yj S) {Q : Int → Prop} {a : List Int} {va : AV} (ha : IL va a) (la : a.length ≤ 1000000000) (g : Nat) (pre cz : List AV) (cF : cz.map AV.ab = cz) (k8 : pre.map AV.ab = pre)
 (hf : ∀ x ∈ a, ∀ H, S H → aq Tryz.prog g (pre ++ [.int .i64 x] ++ cz) H (SB S (Q x))) {H : List aa} (hH : S H) :
 aq Tryz.prog 100 [va, .fn (.func g) pre cz] H (SI S Q a) := by
 refine Bs.2.calls rfl ?_
 simp only [Bs, aI]
 obtain ⟨a1, a2, a3, a4⟩ := ha.one
 simp +contextual only [a2, ha.aL, ha.len (by omega), sZ, Nat.reduceEqDiff, Nat.reduceAdd, ↓reduceIte, reduceCtorEq]
 have fin : ∀ (n : Int) (G : List aa), S G → ((n = -1 ∧ ∀ x ∈ a, ¬ Q x) ∨ ∃ m : Nat, n = m ∧ m < a.length ∧ Q (a.getD m 0) ∧ ∀ j, j < m → ¬ Q (a.getD j 0)) → bT H.length [.t 4] [(4, .int .i64 n)] G (SI S Q a) := by
  intro n G hG hn
  refine aQ H.length (Nat.le_refl _) (by rw [ax, if_pos rfl]; rfl) ?_
  rw [ax, if_pos rfl, List.take_of_length_le (by rw [hS H G hH hG]; exact Nat.le_refl _)]
  refine ⟨hG, ?_⟩
  rcases hn with ⟨rfl, h⟩ | ⟨m, rfl, h⟩
  ·exact .inl ⟨rfl, h⟩
  ·exact .inr ⟨m, rfl, h⟩
 refine aN a.length (fun i (G : List aa) => S G ∧ ∀ j, j < i → ¬ Q (a.getD j 0))
  (fun i G => [(0, va), (1, .fn (.func g) pre cz), (7, .int .i64 a.length), (8, .int .i64 i)]) (fun i G => G) H ⟨⟨hH, fun j hj => by omega⟩, aA _ _ _⟩ fun i G hi hI => ?_
 obtain ⟨hG, hq⟩ := hI
 simp +contextual only [a2, ha.lens, ha.idx, Int.toNat_natCast, cF, k8, sZ, Nat.reduceEqDiff, Nat.reduceAdd, ↓reduceIte, reduceCtorEq]
 refine ⟨fun aY => ⟨by omega, ?_⟩, fun iW => ?_⟩
 ·refine af (hf _ (aO (by omega)) G hG) ?_
  rintro r G' ⟨x, rfl, hx, dZ⟩
  cases x with
  | false =>
    simp +contextual only [sZ, Nat.reduceEqDiff, ↓reduceIte, reduceCtorEq]
    refine ⟨i + 1, G', ⟨by omega, dZ, fun j hj => ?_⟩, by omega, aG (by rw [au i (by omega)]) rfl⟩
    by_cases h : j = i
    ·subst h; exact fun h => absurd (hx.2 h) (by simp)
    ·exact hq j (by omega)
  | true =>
    simp +contextual only [sZ, Nat.reduceEqDiff, ↓reduceIte, reduceCtorEq]
    exact fin _ _ dZ (.inr ⟨i, rfl, by omega, hx.1 rfl, hq⟩)
 ·refine fin _ _ hG (.inl ⟨rfl, fun x hx => ?_⟩)
  obtain ⟨j, hj, rfl⟩ := List.getElem_of_mem hx
  have := hq j (by omega)
  simpa [hj] using this
theorem Ci {S : List aa → Prop} (hS : yj S) {Q : Int → Prop} {a : List Int} {va : AV} (ha : IL va a) (la : a.length ≤ 1000000000) (g : Nat) (pre cz : List AV) (cF : cz.map AV.ab = cz) (k8 : pre.map AV.ab = pre)
 (hf : ∀ x ∈ a, ∀ H, S H → aq Tryz.prog g (pre ++ [.int .i64 x] ++ cz) H (SB S (Q x))) {H : List aa} (hH : S H) :
 aq Tryz.prog 102 [va, .fn (.func g) pre cz] H (SB S (∃ x ∈ a, Q x)) := by
 refine Bt.2.calls rfl ?_
 simp only [Bt, aI]
 obtain ⟨a1, a2, a3, a4⟩ := ha.one
 simp +contextual only [a2, sZ, Nat.reduceEqDiff, Nat.reduceAdd, ↓reduceIte, reduceCtorEq]
 refine af (J8 hS ha la g pre cz cF k8 hf hH) ?_
 rintro r G ⟨hG, ⟨rfl, h⟩ | ⟨n, rfl, h1, h2, _⟩⟩
 ·simp +contextual only [sZ, ↓reduceIte, reduceCtorEq]
  exact z6 hS (b := false) (by simp) ⟨fun h => by simp at h, fun ⟨x, hx, h'⟩ => absurd h' (h x hx)⟩ hH hG
 ·simp +contextual only [sZ, ↓reduceIte, reduceCtorEq]
  exact z6 hS (b := true) (by simp) ⟨fun _ => ⟨_, aO h1, h2⟩, fun _ => rfl⟩ hH hG
end Go.aK
end
section
set_option maxRecDepth 100000
namespace Go.aK
open Go Go.Proofs Go.fq
def SD (c : Cx) (H0 H : List aa) : Prop := Du c H ∧ Up c H0 H
theorem SD.z7 (c : Cx) (H0 : List aa) : yj (SD c H0) := fun H H' h h' => by rw [h'.2.len, h.2.len]
theorem ic.sb {c : Cx} {Q : Prop} {H0 H H' : List aa} {r : AV} (h : ic c Q H r H') (hS : SD c H0 H) : SB (SD c H0) Q r H' := by
 obtain ⟨b, h1, h2, h3, h4⟩ := h; exact ⟨b, h1, h2, h4, hS.2.trans h3⟩
theorem Zd {c : Cx} {i x : Int} (h : gM c i x) {H : List aa} (hD : Du c H) : aq Tryz.prog 233 [.int .i64 x, .ai (.ptr c.d 0), .ai (.int .i64 i)] H (ic c (¬ R c.O (c.tm i) (c.tm x)) H) := by
 refine Vi.2.calls rfl ?_
 simp only [Vi, aI]
 simp +contextual only [sZ, Nat.reduceEqDiff, Nat.reduceAdd, ↓reduceIte, reduceCtorEq]
 refine af (h H hD) ?_
 rintro r H' ⟨b, rfl, hb, hU, ja⟩
 simp +contextual only [sZ, ↓reduceIte, reduceCtorEq]
 refine ee (b := !b) rfl ?_ hU ja
 rw [← hb]; cases b <;> simp
theorem Sk {c : Cx} {i : Int} {l : List Int} {v : AV} (hv : IL v l) (hl : l.length ≤ 1000000000) (h : ∀ x ∈ l, gM c i x) {H : List aa} (hD : Du c H) : aq Tryz.prog 204 [.ptr c.d 0, .int .i64 i, v] H (ic c (∀ x ∈ l, R c.O (c.tm i) (c.tm x)) H) := by
 refine U0.2.calls rfl ?_
 simp only [U0, aI]
 obtain ⟨a1, a2, a3, a4⟩ := hv.one
 simp +contextual only [a2, sZ, Nat.reduceEqDiff, Nat.reduceAdd, ↓reduceIte, reduceCtorEq]
 refine af (Ci (SD.z7 c H) hv hl 233 [] [.ai (.ptr c.d 0), .ai (.int .i64 i)] rfl rfl (Q := fun x => ¬ R c.O (c.tm i) (c.tm x)) (fun x hx G hG => (Zd (h x hx) hG.1).mono fun r H' hr => hr.sb hG) ⟨hD, Up.refl c H⟩) ?_
 rintro r G ⟨b, rfl, hb, hG⟩
 simp +contextual only [sZ, ↓reduceIte, reduceCtorEq]
 refine ee (b := !b) rfl ?_ hG.2 hG.1
 cases b with
 | true =>
   obtain ⟨x, hx, hr⟩ := hb.1 rfl
   exact ⟨fun h => by simp at h, fun h => absurd (h x hx) hr⟩
 | false =>
   refine ⟨fun _ x hx => ?_, fun _ => rfl⟩
   by_cases hr : R c.O (c.tm i) (c.tm x)
   ·exact hr
   ·exact absurd (hb.2 ⟨x, hx, hr⟩) (by simp)
theorem Ze {c : Cx} {x k : Int} (h1 : jU c x k) (h2 : gM c x k) {H : List aa} (hD : Du c H) : aq Tryz.prog 220 [.int .i64 x, .ai (.ptr c.d 0), .ai (.int .i64 k)] H (ic c (E c.O (c.tm x) (c.tm k) ∨ R c.O (c.tm x) (c.tm k)) H) := by
 refine Vd.2.calls rfl ?_
 simp only [Vd, aI]
 simp +contextual only [sZ, Nat.reduceEqDiff, Nat.reduceAdd, ↓reduceIte, reduceCtorEq]
 refine af (h1 H hD) ?_
 rintro r H' ⟨b, rfl, hb, hU, ja⟩
 cases b with
 | true =>
   simp +contextual only [sZ, Nat.reduceEqDiff, ↓reduceIte, reduceCtorEq]
   exact ee rfl ⟨fun _ => .inl (hb.1 rfl), fun _ => rfl⟩ hU ja
 | false =>
   simp +contextual only [sZ, Nat.reduceEqDiff, Nat.reduceAdd, ↓reduceIte, reduceCtorEq]
   refine af (h2 H' ja) ?_
   rintro r H2 ⟨b, rfl, pw, Pn, AA⟩
   simp +contextual only [sZ, Nat.reduceEqDiff, ↓reduceIte, reduceCtorEq]
   refine ee rfl ⟨fun h => .inr (pw.1 h), fun h => ?_⟩ (hU.trans Pn) AA
   rcases h with h | h
   ·exact absurd (hb.2 h) (by simp)
   ·exact pw.2 h
theorem V6 {c : Cx} (hc : c.Ok) {i k : Int} (hi : c.dH i) (h1 : ∀ x ∈ c.kd i, jU c x k) (h2 : ∀ x ∈ c.kd i, gM c x k) {H : List aa} (hD : Du c H) : aq Tryz.prog 183 [.ptr c.d 0, .int .i64 i, .int .i64 k] H (ic c (∃ x ∈ c.kd i, E c.O (c.tm x) (c.tm k) ∨ R c.O (c.tm x) (c.tm k)) H) := by
 refine UR.2.calls rfl ?_
 simp only [UR, aI]
 have k2 : ∀ l, (bo l).ab = bo l := fun l => (aE l).2.1
 simp +contextual only [hD.d, lT, C0, cu, bS, k2, sZ, Nat.reduceEqDiff, Nat.reduceAdd, Nat.reduceLT, ↓reduceIte, reduceCtorEq]
 refine ⟨hi, ?_⟩
 refine af (Ci (SD.z7 c H) (.inl rfl : IL (bo (c.kd i)) (c.kd i)) (by have := hc.kl i hi; omega) 220 [] [.ai (.ptr c.d 0), .ai (.int .i64 k)] rfl rfl (Q := fun x => E c.O (c.tm x) (c.tm k) ∨ R c.O (c.tm x) (c.tm k)) (fun x hx G hG => (Ze (h1 x hx) (h2 x hx) hG.1).mono fun r H' hr => hr.sb hG) ⟨hD, Up.refl c H⟩) ?_
 rintro r G ⟨b, rfl, hb, hG⟩
 simp +contextual only [sZ, ↓reduceIte, reduceCtorEq]
 exact ee rfl hb hG.2 hG.1
theorem V7 {c : Cx} (hc : c.Ok) {i k : Int} (hi : c.dH i) (hk : c.dH k) (h : ∀ x ∈ c.kd k, gM c i x) {H : List aa} (hD : Du c H) : aq Tryz.prog 184 [.ptr c.d 0, .int .i64 i, .int .i64 k] H
 (ic c (qQ c k = true ∧ pe c k < pe c i ∧ ∀ x ∈ c.kd k, R c.O (c.tm i) (c.tm x)) H) := by
 refine US.2.calls rfl ?_
 simp only [US, aI]
 have k2 : ∀ l, (bo l).ab = bo l := fun l => (aE l).2.1
 simp +contextual only [sZ, Nat.reduceEqDiff, Nat.reduceAdd, ↓reduceIte, reduceCtorEq]
 refine af (pf hc hi hD) ?_
 rintro r H1 ⟨rfl, rfl⟩
 simp +contextual only [dt, fg, fh, fj, sZ, Nat.reduceEqDiff, Nat.reduceAdd, ↓reduceIte, reduceCtorEq]
 refine af (pf hc hk hD) ?_
 rintro r H1 ⟨rfl, rfl⟩
 simp +contextual only [dt, fg, fh, fj, sZ, Nat.reduceEqDiff, ↓reduceIte, reduceCtorEq]
 cases hb : qQ c k with
 | false =>
   simp +contextual only [sZ, Nat.reduceEqDiff, ↓reduceIte, reduceCtorEq]
   exact ee rfl ⟨fun h => by simp at h, fun h => by simp at h⟩ (Up.refl c _) hD
 | true =>
   by_cases hp : pe c k < pe c i
   ·simp +contextual only [hp, hD.d, lT, C0, cu, bS, k2, sZ, Nat.reduceEqDiff, Nat.reduceAdd, Nat.reduceLT, ↓reduceIte, reduceCtorEq]
    refine ⟨hk, af (Sk (.inl rfl : IL (bo (c.kd k)) (c.kd k)) (by have := hc.kl k hk; omega) h hD) ?_⟩
    rintro r H2 ⟨b, rfl, pw, hU, ja⟩
    simp +contextual only [sZ, Nat.reduceEqDiff, ↓reduceIte, reduceCtorEq]
    exact ee rfl ⟨fun h => ⟨rfl, hp, pw.1 h⟩, fun h => pw.2 h.2.2⟩ hU ja
   ·simp +contextual only [hp, sZ, Nat.reduceEqDiff, ↓reduceIte, reduceCtorEq]
    exact ee rfl ⟨fun h => by simp at h, fun h => absurd h.2.1 hp⟩ (Up.refl c _) hD
structure HZ (Q : Int → Int → Prop) (a b : List Int) (n : Nat) : Prop where
 la : n ≤ a.length
 lb : n ≤ b.length
 eq : ∀ j, j < n → Q (a.getD j 0) (b.getD j 0)
 no : n < a.length → n < b.length → ¬ Q (a.getD n 0) (b.getD n 0)
theorem V8 {c : Cx} {a b : List Int} {va vb : AV} (ha : IL va a) (hb : IL vb b) (la : a.length ≤ 1000000000) (lb : b.length ≤ 1000000000) (h : ∀ x ∈ a, ∀ y ∈ b, jU c x y) {H : List aa} (hD : Du c H) :
 aq Tryz.prog 150 [.ptr c.d 0, va, vb] H fun r H' => ∃ n : Nat, r = .int .i64 n ∧ HZ (fun x y => E c.O (c.tm x) (c.tm y)) a b n ∧ Up c H H' ∧ Du c H' := by
 refine Uz.2.calls rfl ?_
 simp only [Uz, aI]
 obtain ⟨a1, a2, a3, a4⟩ := ha.one
 obtain ⟨b1, b2, b3, b4⟩ := hb.one
 simp +contextual only [sZ, Nat.reduceEqDiff, Nat.reduceAdd, ↓reduceIte, reduceCtorEq]
 refine aN a.length (fun i (G : List aa) => SD c H G ∧ i ≤ b.length ∧ ∀ j, j < i → E c.O (c.tm (a.getD j 0)) (c.tm (b.getD j 0)))
  (fun i G => [(0, .ptr c.d 0), (1, va), (2, vb), (7, .int .i64 i)]) (fun i G => G) H ⟨⟨⟨hD, Up.refl c H⟩, Nat.zero_le _, fun j hj => by omega⟩, aA _ _ _⟩ fun i G hi hI => ?_
 obtain ⟨hG, Zf, hq⟩ := hI
 have fin : ∀ G', SD c H G' → HZ (fun x y => E c.O (c.tm x) (c.tm y)) a b i → bT H.length [.t 6] [(6, .int .i64 (i : Int))] G' fun r H' => ∃ n : Nat, r = .int .i64 n ∧ HZ (fun x y => E c.O (c.tm x) (c.tm y)) a b n ∧ Up c H H' ∧ Du c H' := by
  intro G' dZ hp
  refine aQ H.length (Nat.le_refl _) (by rw [ax, if_pos rfl]; rfl) ?_
  rw [ax, if_pos rfl, List.take_of_length_le (by rw [dZ.2.len]; exact Nat.le_refl _)]
  exact ⟨i, rfl, hp, dZ.2, dZ.1⟩
 by_cases h1 : (i : Int) < a.length
 ·by_cases h2 : (i : Int) < b.length
  ·simp +contextual only [a2, b2, ha.aL, hb.aL, ha.vA, hb.vA, ha.lens, hb.lens, ha.idx, hb.idx, Int.toNat_natCast, h1, h2, decide_true, sZ, Nat.reduceEqDiff, Nat.reduceAdd, ↓reduceIte, reduceCtorEq]
   refine ⟨by omega, by omega, ?_⟩
   refine af (h _ (aO (by omega)) _ (aO (by omega)) G hG.1) ?_
   rintro r G' ⟨x, rfl, hx, hU, ja⟩
   have dZ : SD c H G' := ⟨ja, hG.2.trans hU⟩
   cases x with
   | true =>
     simp +contextual only [sZ, Nat.reduceEqDiff, ↓reduceIte, reduceCtorEq]
     refine ⟨i + 1, G', ⟨by omega, dZ, by omega, fun j hj => ?_⟩, by omega, aG (by rw [au i (by omega)]) rfl⟩
     by_cases h : j = i
     ·subst h; exact hx.1 rfl
     ·exact hq j (by omega)
   | false =>
     simp +contextual only [sZ, Nat.reduceEqDiff, ↓reduceIte, reduceCtorEq]
     exact fin G' dZ ⟨hi, Zf, hq, fun _ _ he => absurd (hx.2 he) (by simp)⟩
  ·simp +contextual only [a2, b2, ha.aL, hb.aL, ha.vA, hb.vA, h1, h2, decide_true, decide_false, sZ, Nat.reduceEqDiff, ↓reduceIte, reduceCtorEq]
   exact fin G hG ⟨hi, Zf, hq, fun _ h' => absurd h' (by omega)⟩
 ·simp +contextual only [a2, ha.aL, ha.vA, h1, decide_false, sZ, Nat.reduceEqDiff, ↓reduceIte, reduceCtorEq]
  exact fin G hG ⟨hi, Zf, hq, fun h' _ => absurd h' (by omega)⟩
def z8 (c : Cx) (i k : Int) : Prop :=
 tv c i k = true ∧ dq c i ≠ 3 ∧ (∀ x ∈ c.kd k, R c.O (c.tm i) (c.tm x)) ∧
 ∃ n, HZ (fun x y => E c.O (c.tm x) (c.tm y)) (bD (dq c i) (c.kd i)) (bD (dq c i) (c.kd k)) n ∧ n < (bD (dq c i) (c.kd i)).length ∧
  (n = (bD (dq c i) (c.kd k)).length ∨ R c.O (c.tm ((bD (dq c i) (c.kd i)).getD n 0)) (c.tm ((bD (dq c i) (c.kd k)).getD n 0)))
theorem oa {s x : Int} {l : List Int} : x ∈ bD s l ↔ x ∈ l := by unfold bD; split <;> simp
theorem je {s : Int} {l : List Int} : (bD s l).length = l.length := by unfold bD; split <;> simp
theorem HZ.Sl {Q : Int → Int → Prop} {a b : List Int} {n m : Nat} (h : HZ Q a b n) (k : HZ Q a b m) : n = m := by
 rcases Nat.lt_trichotomy n m with h1 | h1 | h1
 ·exact absurd (k.eq n h1) (h.no (by have := k.la; omega) (by have := k.lb; omega))
 ·exact h1
 ·exact absurd (h.eq m h1) (k.no (by have := h.la; omega) (by have := h.lb; omega))
theorem V9 {c : Cx} (hc : c.Ok) {i k : Int} (hi : c.dH i) (hk : c.dH k) (h1 : ∀ x ∈ c.kd k, gM c i x) (h2 : ∀ x ∈ c.kd i, ∀ y ∈ c.kd k, jU c x y) (h3 : ∀ x ∈ c.kd i, ∀ y ∈ c.kd k, gM c x y) {H : List aa} (hD : Du c H) :
 aq Tryz.prog 185 [.ptr c.d 0, .int .i64 i, .int .i64 k] H (ic c (z8 c i k) H) := by
 refine Pe.2.calls rfl ?_
 simp only [Pe, aI]
 have k2 : ∀ l, (bo l).ab = bo l := fun l => (aE l).2.1
 have l1 := hc.kl i hi
 have l2 := hc.kl k hk
 simp +contextual only [sZ, Nat.reduceEqDiff, Nat.reduceAdd, ↓reduceIte, reduceCtorEq]
 refine af (Ek hc hi hk hD) ?_
 rintro r H1 ⟨rfl, rfl⟩
 simp +contextual only [sZ, Nat.reduceEqDiff, Nat.reduceAdd, Nat.reduceLT, ↓reduceIte, reduceCtorEq]
 cases hl : tv c i k with
 | false =>
   simp +contextual only [Bool.not_false, sZ, Nat.reduceEqDiff, ↓reduceIte, reduceCtorEq]
   exact ee rfl ⟨fun h => by simp at h, fun h => by have := h.1; rw [hl] at this; simp at this⟩ (Up.refl c _) hD
 | true =>
   by_cases hs : dq c i = 3
   ·simp +contextual only [Bool.not_true, hs, decide_true, sZ, Nat.reduceEqDiff, ↓reduceIte, reduceCtorEq]
    exact ee rfl ⟨fun h => by simp at h, fun h => absurd hs h.2.1⟩ (Up.refl c _) hD
   ·simp +contextual only [Bool.not_true, hs, decide_false, hD.d, lT, C0, cu, bS, k2, sZ, Nat.reduceEqDiff, Nat.reduceAdd, Nat.reduceLT, ↓reduceIte, reduceCtorEq]
    refine ⟨hk, af (Sk (.inl rfl : IL (bo (c.kd k)) (c.kd k)) (by omega) h1 hD) ?_⟩
    rintro r H2 ⟨b, rfl, pw, hU, AA⟩
    cases b with
    | false =>
      simp +contextual only [Bool.not_false, sZ, Nat.reduceEqDiff, ↓reduceIte, reduceCtorEq]
      exact ee rfl ⟨fun h => by simp at h, fun h => absurd (pw.2 h.2.2.1) (by simp)⟩ hU AA
    | true =>
      have Cb := pw.1 rfl
      simp +contextual only [Bool.not_true, AA.d, lT, C0, cu, bS, k2, sZ, Nat.reduceEqDiff, Nat.reduceAdd, Nat.reduceLT, ↓reduceIte, reduceCtorEq]
      refine ⟨hi, aH (Hr (c.kd i) (dq c i) (by omega)) ?_⟩
      simp +contextual only [AA.d, lT, C0, cu, bS, k2, sZ, Nat.reduceEqDiff, Nat.reduceAdd, Nat.reduceLT, ↓reduceIte, reduceCtorEq]
      refine ⟨hk, aH (Hr (c.kd k) (dq c i) (by omega)) ?_⟩
      have la : (bD (dq c i) (c.kd i)).length ≤ 1000000000 := by rw [je]; omega
      have lb : (bD (dq c i) (c.kd k)).length ≤ 1000000000 := by rw [je]; omega
      have ia : IL (.ap 0 (ints (bD (dq c i) (c.kd i)))) (bD (dq c i) (c.kd i)) := .inr rfl
      have ib : IL (.ap 0 (ints (bD (dq c i) (c.kd k)))) (bD (dq c i) (c.kd k)) := .inr rfl
      simp +contextual only [sZ, Nat.reduceEqDiff, Nat.reduceAdd, ↓reduceIte, reduceCtorEq]
      refine af (V8 ia ib la lb (fun x hx y hy => h2 x (oa.1 hx) y (oa.1 hy)) AA) ?_
      rintro r H3 ⟨n, rfl, hp, Wa, J9⟩
      have U3 := hU.trans Wa
      have yes : ∀ (Hx : List aa), Up c H1 Hx → Du c Hx → n < (bD (dq c i) (c.kd i)).length → (n = (bD (dq c i) (c.kd k)).length ∨ R c.O (c.tm ((bD (dq c i) (c.kd i)).getD n 0)) (c.tm ((bD (dq c i) (c.kd k)).getD n 0))) →
       bT H1.length [.t 6] [(6, .bool true)] Hx (ic c (z8 c i k) H1) := fun Hx u d hn hx => ee rfl ⟨fun _ => ⟨hl, hs, Cb, n, hp, hn, hx⟩, fun _ => rfl⟩ u d
      have no : ∀ (Hx : List aa), Up c H1 Hx → Du c Hx → ¬ (n < (bD (dq c i) (c.kd i)).length ∧ (n = (bD (dq c i) (c.kd k)).length ∨ R c.O (c.tm ((bD (dq c i) (c.kd i)).getD n 0)) (c.tm ((bD (dq c i) (c.kd k)).getD n 0)))) →
       bT H1.length [.t 6] [(6, .bool false)] Hx (ic c (z8 c i k) H1) := fun Hx u d hx => ee rfl ⟨fun h => by simp at h, fun ⟨_, _, _, m, hm, wo⟩ => absurd (hm.Sl hp ▸ wo) hx⟩ u d
      by_cases h4 : (n : Int) < (bD (dq c i) (c.kd i)).length
      ·have d4 : decide ((n : Int) < (bD (dq c i) (c.kd i)).length) = true := decide_eq_true h4
       by_cases h5 : (n : Int) = (bD (dq c i) (c.kd k)).length
       ·have d5 : decide ((n : Int) = (bD (dq c i) (c.kd k)).length) = true := decide_eq_true h5
        simp +contextual only [aw, d4, d5, sZ, Nat.reduceEqDiff, ↓reduceIte, reduceCtorEq]
        exact yes H3 U3 J9 (by omega) (.inl (by omega))
       ·have hlb := hp.lb
        simp +contextual only [aw, dy, cw, Int.toNat_natCast, h4, h5, decide_true, decide_false, sZ, Nat.reduceEqDiff, Nat.reduceAdd, ↓reduceIte, reduceCtorEq]
        refine ⟨by omega, ⟨by omega, by omega⟩, af (h3 _ (oa.1 (aO (by omega))) _ (oa.1 (aO (by omega))) H3 J9) ?_⟩
        rintro r H4 ⟨b, rfl, hb, Tp, Tq⟩
        cases b with
        | true =>
          simp +contextual only [sZ, Nat.reduceEqDiff, ↓reduceIte, reduceCtorEq]
          exact yes H4 (U3.trans Tp) Tq (by omega) (.inr (hb.1 rfl))
        | false =>
          simp +contextual only [sZ, Nat.reduceEqDiff, ↓reduceIte, reduceCtorEq]
          refine no H4 (U3.trans Tp) Tq fun ⟨_, hx⟩ => ?_
          rcases hx with hx | hx
          ·omega
          ·exact absurd (hb.2 hx) (by simp)
      ·simp +contextual only [aw, h4, decide_false, sZ, Nat.reduceEqDiff, ↓reduceIte, reduceCtorEq]
       exact no H3 U3 J9 fun ⟨hx, _⟩ => by omega
end Go.aK
end
section
set_option maxRecDepth 100000
namespace Go.aK
open Go Go.Proofs Go.fq
theorem Cj (n : Int) (h : 0 ≤ n ∧ n < 18446744073709551616) : IntKind.u64.wrap n = n := by
 have : IntKind.u64.bits = 64 := rfl
 have : IntKind.u64.signed = false := rfl
 simp only [IntKind.wrap, *]
 have e : n % 2 ^ 64 = n := Int.emod_eq_of_lt h.1 (by omega)
 rw [e]
 simp
theorem Sm {n : Nat} (h : n < 4294967296) (φ : AV → Prop) : cV .and (.int .u64 (n : Int)) (.int .u64 4294967295) φ = φ (.int .u64 (n : Int)) := by
 have e : (BitVec.ofInt IntKind.u64.bits (n : Int) &&& BitVec.ofInt IntKind.u64.bits 4294967295).toNat = n := by
  show (BitVec.ofInt 64 (n : Int) &&& BitVec.ofInt 64 4294967295).toNat = n
  rw [BitVec.toNat_and]
  have e1 : (BitVec.ofInt 64 (n : Int)).toNat = n := by rw [BitVec.toNat_ofInt]; omega
  have e2 : (BitVec.ofInt 64 4294967295).toNat = 2 ^ 32 - 1 := rfl
  rw [e1, e2, Nat.and_two_pow_sub_one_eq_mod, Nat.mod_eq_of_lt h]
 simp only [cV, e, true_and]
 rw [Cj _ (by omega)]
theorem Sn {n : Nat} (h : n < 4294967296) (φ : AV → Prop) : dL .shr (.int .u64 (n : Int)) (.int .u64 32) φ = φ (.int .u64 0) := by
 have e : Int.fdiv (n : Int) (2 ^ min (32 : Int).toNat IntKind.u64.bits) = 0 := by
  show Int.fdiv (n : Int) (2 ^ 32) = 0
  rw [Int.fdiv_eq_ediv_of_nonneg _ (by decide)]
  omega
 simp only [dL, e]
 simp
theorem Zg {n : Nat} (h : n < 4294967296) : Pure Tryz.prog 213 [.int .u64 1, .int .u64 (n : Int)] (.tuple [.int .u64 0, .int .u64 (n : Int)]) := by
 refine fun H => U5.2.calls rfl ?_
 simp only [U5, aI]
 have a1 : ∀ φ : AV → Prop, cV .and (.int .u64 1) (.int .u64 4294967295) φ = φ (.int .u64 1) := fun φ => Sm (n := 1) (by decide) φ
 have s1 : ∀ φ : AV → Prop, dL .shr (.int .u64 1) (.int .u64 32) φ = φ (.int .u64 0) := fun φ => Sn (n := 1) (by decide) φ
 have a0 : ∀ φ : AV → Prop, cV .and (.int .u64 0) (.int .u64 4294967295) φ = φ (.int .u64 0) := fun φ => Sm (n := 0) (by decide) φ
 have s0 : ∀ φ : AV → Prop, dL .shr (.int .u64 0) (.int .u64 32) φ = φ (.int .u64 0) := fun φ => Sn (n := 0) (by decide) φ
 have w1 : IntKind.u64.wrap (1 * (n : Int)) = n := by rw [Int.one_mul]; exact Cj _ (by omega)
 have w0 : IntKind.u64.wrap 0 = 0 := Cj _ (by omega)
 simp +contextual only [a1, s1, a0, s0, Sm h, Sn h, w1, w0, Int.zero_mul, Int.mul_zero, Int.add_zero, sZ, Nat.reduceEqDiff, Nat.reduceAdd, ↓reduceIte, reduceCtorEq]
 have := xN (H := H) (e := []) (s := 4) (s' := 5) (v := .int .u64 0) (v' := .int .u64 (n : Int)) (by decide) rfl rfl rfl rfl
 rwa [List.append_nil] at this
theorem Zh {n : Nat} (h : n < 4294967296) : Pure Tryz.prog 174 [.int .u64 1, .int .u64 (n : Int)] (.tuple [.int .u64 0, .int .u64 (n : Int)]) := by
 refine fun H => UK.2.calls rfl ?_
 simp only [UK, aI]
 simp +contextual only [sZ, Nat.reduceEqDiff, Nat.reduceAdd, ↓reduceIte, reduceCtorEq]
 refine ae (Zg h) ?_
 simp +contextual only [sZ, Nat.reduceEqDiff, Nat.reduceAdd, Nat.reduceLT, ↓reduceIte, reduceCtorEq]
 have := xN (H := H) (e := []) (s := 4) (s' := 5) (v := .int .u64 0) (v' := .int .u64 (n : Int)) (by decide) rfl rfl rfl rfl
 rwa [List.append_nil] at this
def cN (l : List Int) : aa := .cells (ints l)
def dF (i n : Nat) (x : Int) : List Int := List.replicate i x ++ List.replicate (n - i) 0
theorem mkI (n : Nat) (H : List aa) (K : AV → List aa → Prop) (h : n ≤ 1000000000) : fK 1 8 (.int .i64 0) (.int .i64 (n : Int)) H K = K (.bf H.length 0 n n) (H ++ [cN (dF 0 n 0)]) := by
 have e : flat (List.replicate n (bN (.int .i64 0))) = ints (dF 0 n 0) := by
  rw [← n9]; simp [dF, ints, bN]
 simp only [fK, Int.toNat_natCast, e, bk, cN, true_and, eq_iff_iff]
 constructor
 ·rintro ⟨_, _, h⟩; exact h
 ·exact fun k => ⟨by omega, by omega, k⟩
theorem kQ (l : List Int) (k : Nat) : (ints l).take k = ints (l.take k) := by simp [ints, List.map_take]
theorem rQ (l : List Int) (k : Nat) : (ints l).drop k = ints (l.drop k) := by simp [ints, List.map_drop]
theorem kR (l m : List Int) : ints l ++ ints m = ints (l ++ m) := by simp [ints]
theorem tS (l : List Int) : (ints l).map AV.ab = ints l := by simp [ints, AV.ab]
theorem kS (l : List Int) : (ints l).all AV.one = true := by simp [ints, AV.one]
theorem vB (x : Int) {i m n : Nat} (h : i + m ≤ n) : ag (ints (dF i n x)) i (ints (List.replicate m x)) = ints (dF (i + m) n x) := by
 unfold ag
 rw [kQ, aw, rQ, kR, kR, List.length_replicate]
 congr 1
 unfold dF
 rw [List.take_append_of_le_length (by simp), List.take_of_length_le (by simp), List.drop_append, List.drop_of_length_le (by simp), List.nil_append, List.length_replicate, List.drop_replicate, ← List.append_assoc, List.replicate_append_replicate]
 congr 2; omega
theorem Wb (x : Int) {id n : Nat} {H : List aa} (hg : H[id]? = some (cN (dF 0 n 0))) (K : AV → List aa → Prop) (hK : K (.int .i64 (min 1 n : Nat)) (H.set id (cN (dF (min 1 n) n x)))) : jo 1 (.bf id 0 n n) (.ap 0 (ints [x])) H K := by
 have e0 : dF 0 n 0 = dF 0 n x := by simp [dF]
 rw [e0] at hg
 have ec : wG 1 (.ap 0 (ints [x])) H = some (1, ints [x]) := rfl
 have et : (ints [x]).take (min 1 n * 1) = ints (List.replicate (min 1 n) x) := by
  rcases Nat.eq_zero_or_pos n with rfl | h
  ·rfl
  ·rw [show min 1 n = 1 by omega]; rfl
 have := vB x (i := 0) (m := min 1 n) (n := n) (by omega)
 rw [Nat.zero_add] at this
 simp only [jo, ec, hg, cN, et, tS, kS, bk, this, aw]
 exact ⟨trivial, by simp [dF]; omega, trivial, hK⟩
theorem Wc (x : Int) {id i n : Nat} (h0 : 0 < i) (h1 : i < n) {H : List aa} (hg : H[id]? = some (cN (dF i n x))) (K : AV → List aa → Prop) (hK : K (.int .i64 (min i (n - i) : Nat)) (H.set id (cN (dF (i + min i (n - i)) n x)))) : jo 1 (.bf id i (n - i) (n - i)) (.bf id 0 i n) H K := by
 have hl : (dF i n x).length = n := by simp [dF]; omega
 have ec : wG 1 (.bf id 0 i n) H = some (i, ints (dF i n x)) := by
  simp only [wG, hg, cN, aw, hl, List.drop_zero]
  rw [if_pos (by omega)]
 have et : (ints (dF i n x)).take (min i (n - i) * 1) = ints (List.replicate (min i (n - i)) x) := by
  rw [Nat.mul_one, kQ]
  congr 1
  unfold dF
  rw [List.take_append_of_le_length (by simp; omega), List.take_replicate]
  congr 1; omega
 have := vB x (i := i) (m := min i (n - i)) (n := n) (by omega)
 simp only [jo, ec, hg, cN, et, tS, kS, bk, this, aw, hl]
 exact ⟨trivial, by omega, trivial, hK⟩
theorem slA {id i n : Nat} (h : i < n) (φ : AV → Prop) : bn 1 (.bf id 0 n n) (some (.int .i64 (i : Int))) none none φ = φ (.bf id i (n - i) (n - i)) := by
 simp only [bn, gk, dG, Int.toNat_natCast, eq_iff_iff]
 rw [if_neg (by omega)]
 constructor
 ·intro h; simpa using h.2.2.2
 ·intro k; exact ⟨by omega, by omega, Nat.le_refl _, by simpa using k⟩
theorem slB {id i n : Nat} (h : i < n) (φ : AV → Prop) : bn 1 (.bf id 0 n n) none (some (.int .i64 (i : Int))) none φ = φ (.bf id 0 i n) := by
 simp only [bn, gk, dG, Int.toNat_natCast, eq_iff_iff]
 rw [if_neg (by omega)]
 constructor
 ·intro h; simpa using h.2.2.2
 ·intro k; exact ⟨by omega, by omega, by omega, by simpa using k⟩
theorem So (o : Nat) (x : Int) (n : Nat) (hn : n ≤ 1000000000) (H : List aa) : aq Tryz.prog 113 [.ap o (ints [x]), .int .i64 (n : Int)] H fun r H' => r = .bf H.length 0 n n ∧ H' = H ++ [cN (List.replicate n x)] := by
 refine Ug.2.calls rfl ?_
 simp only [Ug, aI]
 have w1 : IntKind.u64.wrap 1 = 1 := Cj _ (by omega)
 have w2 : IntKind.u64.wrap (n : Int) = n := Cj _ (by omega)
 have w3 : IntKind.i64.wrap (n : Int) = n := dY _ (by omega)
 have e1 : (ints [x]).length = 1 := rfl
 have nn : decide ((n : Int) < 0) = false := decide_eq_false (by omega)
 have ng : decide ((9223372036854775807 : Int) < n) = false := decide_eq_false (by omega)
 have z0 : decide ((0 : Int) < 0) = false := rfl
 have ci : ∀ (k k' : IntKind) (n : Int) (φ : AV → Prop), cp k (.int k' n) φ = φ (.int k (k.wrap n)) := fun _ _ _ _ => rfl
 simp +contextual only [e1, w2, ci, nn, sZ, Nat.reduceEqDiff, Nat.reduceAdd, Nat.reduceLT, ↓reduceIte, reduceCtorEq]
 refine ae (Zh (n := n) (by omega)) ?_
 simp +contextual only [w3, ci, ng, mkI n _ _ hn, sZ, Nat.reduceEqDiff, Nat.reduceAdd, Nat.reduceLT, ↓reduceIte, reduceCtorEq, Int.reduceLT]
 have g0 : (H ++ [cN (dF 0 n 0)])[H.length]? = some (cN (dF 0 n 0)) := by simp
 refine Wb x g0 _ ?_
 simp +contextual only [sZ, Nat.reduceEqDiff, ↓reduceIte, reduceCtorEq]
 have es : ∀ i j, (H ++ [cN (dF i n x)]).set H.length (cN (dF j n x)) = H ++ [cN (dF j n x)] := by intro i j; simp
 refine Jm Nat (fun i => i ≤ n ∧ (0 < n → 0 < i)) (fun i => [(7, .bf H.length 0 n n), (8, .int .i64 i)]) (fun i => H ++ [cN (dF i n x)]) (fun i => n - i) (min 1 n) ⟨by omega, by omega⟩ (aG rfl ?_) ?_
 ·simp
 ·intro i hI
  have gi : (H ++ [cN (dF i n x)])[H.length]? = some (cN (dF i n x)) := by simp
  by_cases aY : (i : Int) < n
  ·have Iv : i < n := by omega
   simp +contextual only [aY, decide_true, Option.map_some, Option.map_none, slA Iv, slB Iv, sZ, Nat.reduceEqDiff, ↓reduceIte]
   refine Wc x (by omega) Iv gi _ ?_
   simp +contextual only [es, sZ, Nat.reduceEqDiff, ↓reduceIte]
   refine ⟨i + min i (n - i), ⟨by omega, by omega⟩, by omega, aG ?_ rfl⟩
   rw [dY _ (by omega)]
   rw [Int.natCast_add]
  ·have e : i = n := by omega
   subst e
   simp +contextual only [aY, decide_false, sZ, Nat.reduceEqDiff, ↓reduceIte, reduceCtorEq]
   have e3 : dF i i x = List.replicate i x := by simp [dF]
   rw [e3]
   refine aQ (H.length + 1) (by omega) (by rw [ax, if_pos rfl, jB]; simp) ?_
   rw [ax, if_pos rfl, List.take_of_length_le (by simp)]
   exact ⟨rfl, rfl⟩
end Go.aK
end
section
set_option maxRecDepth 100000
namespace Go.aK
open Go Go.Proofs Go.fq
def oJ (l : List Bool) : List AV := l.map .bool
def rR (l : List Bool) : aa := .cells (oJ l)
theorem rS (l : List Bool) : (oJ l).length = l.length := by simp [oJ]
def below (n : Nat) (p : Nat → Bool) : List Int := ((List.range n).filter p).map Int.ofNat
theorem vC (n : Nat) (p : Nat → Bool) : below (n + 1) p = if p n = true then below n p ++ [(n : Int)] else below n p := by
 unfold below
 rw [List.range_succ, List.filter_append, List.map_append]
 by_cases h : p n = true
 ·simp [h]
 ·simp [h]
theorem jf (n : Nat) (p : Nat → Bool) : (below n p).length ≤ n := by
 unfold below
 rw [List.length_map]
 have := List.length_filter_le p (List.range n)
 simpa using this
theorem fU {n : Nat} {p : Nat → Bool} {x : Int} : x ∈ below n p ↔ ∃ j : Nat, x = j ∧ j < n ∧ p j = true := by
 unfold below
 simp only [List.mem_map, List.mem_filter, List.mem_range]
 constructor
 ·rintro ⟨j, h, rfl⟩; exact ⟨j, rfl, h⟩
 ·rintro ⟨j, rfl, h⟩; exact ⟨j, h, rfl⟩
structure Pr (Q : Int → Int → Prop) (a b : List Int) (k : Nat) (us : List Bool) (to : List Int) : Prop where
 lu : us.length = a.length
 lt : to.length = b.length
 rest : ∀ j, k ≤ j → j < b.length → to.getD j 0 = -1
 t1 : ∀ j, j < k → to.getD j 0 = -1 ∨ ∃ i : Nat, to.getD j 0 = i ∧ i < a.length ∧ us.getD i false = true ∧ Q (a.getD i 0) (b.getD j 0)
 inj : ∀ j j', j < k → j' < k → to.getD j 0 = to.getD j' 0 → to.getD j 0 ≠ -1 → j = j'
 uu : ∀ i, i < a.length → us.getD i false = true → ∃ j, j < k ∧ to.getD j 0 = i
 free : ∀ j, j < k → to.getD j 0 = -1 → ∀ i, i < a.length → us.getD i false = false → ¬ Q (a.getD i 0) (b.getD j 0)
theorem Ht {l : List Bool} {i j : Nat} {x : Bool} (hi : i < l.length) : (l.set i x).getD j false = if j = i then x else l.getD j false := by
 simp only [List.getD_eq_getElem?_getD, List.getElem?_set]
 by_cases h : i = j
 ·subst h; simp [hi]
 ·rw [if_neg h, if_neg (fun e => h e.symm)]
theorem Pr.start {Q : Int → Int → Prop} {a b : List Int} : Pr Q a b 0 (List.replicate a.length false) (List.replicate b.length (-1)) :=
 ⟨by simp, by simp, fun j _ hj => by simp [hj], fun j h => by omega, fun j j' h => by omega, fun i hi h => by simp [hi] at h, fun j h => by omega⟩
theorem Pr.pair {Q : Int → Int → Prop} {a b : List Int} {k i : Nat} {us : List Bool} {to : List Int} (h : Pr Q a b k us to) (hk : k < b.length) (hi : i < a.length) (hu : us.getD i false = false) (hq : Q (a.getD i 0) (b.getD k 0)) :
 Pr Q a b (k + 1) (us.set i true) (to.set k i) := by
 have hl := h.lt
 have nJ := h.lu
 have gt : ∀ j, (to.set k (i : Int)).getD j 0 = if j = k then (i : Int) else to.getD j 0 := fun j => kO (by omega)
 have gu : ∀ j, (us.set i true).getD j false = if j = i then true else us.getD j false := fun j => Ht (by omega)
 refine ⟨by simp [nJ], by simp [hl], fun j h1 h2 => ?_, fun j hj => ?_, fun j j' hj tT he hn => ?_, fun i' mj FZ => ?_, fun j hj hn i' mj FZ => ?_⟩
 ·rw [gt, if_neg (by omega)]; exact h.rest j (by omega) h2
 ·rw [gt]
  by_cases e : j = k
  ·subst e; rw [if_pos rfl]; exact .inr ⟨i, rfl, hi, by rw [gu, if_pos rfl], hq⟩
  ·rw [if_neg e]
   rcases h.t1 j (by omega) with h1 | ⟨i', h1, h2, h3, h4⟩
   ·exact .inl h1
   ·exact .inr ⟨i', h1, h2, by rw [gu]; split; rfl; exact h3, h4⟩
 ·rw [gt] at he hn
  rw [gt] at he
  by_cases e : j = k
  ·by_cases e' : j' = k
   ·omega
   ·rw [if_pos e, if_neg e'] at he
    rcases h.t1 j' (by omega) with h1 | ⟨i', h1, h2, h3, h4⟩
    ·omega
    ·have : i' = i := by omega
     subst this; rw [hu] at h3; cases h3
  ·rw [if_neg e] at he hn
   by_cases e' : j' = k
   ·rw [if_pos e'] at he
    rcases h.t1 j (by omega) with h1 | ⟨i', h1, h2, h3, h4⟩
    ·omega
    ·have : i' = i := by omega
     subst this; rw [hu] at h3; cases h3
   ·rw [if_neg e'] at he
    exact h.inj j j' (by omega) (by omega) he hn
 ·rw [gu] at FZ
  by_cases e : i' = i
  ·subst e; exact ⟨k, by omega, by rw [gt, if_pos rfl]⟩
  ·rw [if_neg e] at FZ
   obtain ⟨j, h1, h2⟩ := h.uu i' mj FZ
   exact ⟨j, by omega, by rw [gt, if_neg (by omega)]; exact h2⟩
 ·rw [gt] at hn
  rw [gu] at FZ
  by_cases e : j = k
  ·rw [if_pos e] at hn; omega
  ·rw [if_neg e] at hn
   by_cases e' : i' = i
   ·rw [if_pos e'] at FZ; cases FZ
   ·rw [if_neg e'] at FZ
    exact h.free j (by omega) hn i' mj FZ
theorem Pr.ew {Q : Int → Int → Prop} {a b : List Int} {k : Nat} {us : List Bool} {to : List Int} (h : Pr Q a b k us to) (hk : k < b.length) (hq : ∀ i, i < a.length → us.getD i false = false → ¬ Q (a.getD i 0) (b.getD k 0)) : Pr Q a b (k + 1) us to := by
 have hr := h.rest k (Nat.le_refl _) hk
 refine ⟨h.lu, h.lt, fun j h1 h2 => h.rest j (by omega) h2, fun j hj => ?_, fun j j' hj tT he hn => ?_, fun i hi hu => ?_, fun j hj hn i hi hu => ?_⟩
 ·by_cases e : j = k
  ·subst e; exact .inl hr
  ·exact h.t1 j (by omega)
 ·have h1 : j ≠ k := fun e => by subst e; exact hn hr
  have h2 : j' ≠ k := fun e => by subst e; exact hn (he.trans hr)
  exact h.inj j j' (by omega) (by omega) he hn
 ·obtain ⟨j, h1, h2⟩ := h.uu i hi hu; exact ⟨j, by omega, h2⟩
 ·by_cases e : j = k
  ·subst e; exact hq i hi hu
  ·exact h.free j (by omega) hn i hi hu
def Wd (c : Cx) (a b : List Int) (H : List aa) (r : AV) (H' : List aa) : Prop :=
 ∃ us to, Pr (fun x y => E c.O (c.tm x) (c.tm y)) a b b.length us to ∧ r = .tuple [bo (below a.length fun i => !us.getD i false), bo (below b.length fun j => decide (to.getD j 0 < 0)), .ap 0 (ints to)] ∧ Up c H H' ∧ Du c H'
theorem mkB (n : Nat) (H : List aa) (K : AV → List aa → Prop) (h : n ≤ 1000000000) : fK 1 1 (.bool false) (.int .i64 (n : Int)) H K = K (.bf H.length 0 n n) (H ++ [rR (List.replicate n false)]) := by
 have e : flat (List.replicate n (bN (.bool false))) = oJ (List.replicate n false) := by
  induction n with
  | zero => rfl
  | succ n ih => rw [List.replicate_succ, List.replicate_succ]; exact congrArg (AV.bool false :: ·) (ih (by omega))
 have eb : ∀ m, aj m (oJ (List.replicate n false)) = true := fun m => (a9 _ _).2 fun x hx => by
  obtain ⟨y, _, rfl⟩ := List.mem_map.1 hx; rfl
 simp only [fK, Int.toNat_natCast, e, eb, rR, true_and, eq_iff_iff]
 constructor
 ·rintro ⟨_, _, h⟩; exact h
 ·exact fun k => ⟨by omega, by omega, k⟩
theorem Ck {n : Nat} {p q : Nat → Bool} (h : ∀ j, j < n → p j = q j) : below n p = below n q := by
 unfold below
 congr 1
 apply List.filter_congr
 intro j hj
 exact h j (List.mem_range.1 hj)
structure PS (c : Cx) (H : List aa) (us : List Bool) (to : List Int) (G : List aa) : Prop where
 du : Du c G
 up : Up c (H ++ [rR us, cN to]) G
theorem PS.u {c : Cx} {H : List aa} {us : List Bool} {to : List Int} {G : List aa} (hD : Du c H) (h : PS c H us to G) : G[H.length]? = some (rR us) := by
 obtain ⟨l1, l2, l3⟩ := hD.lt
 rw [h.up.get _ (by omega) (by omega)]; simp
theorem PS.t {c : Cx} {H : List aa} {us : List Bool} {to : List Int} {G : List aa} (hD : Du c H) (h : PS c H us to G) : G[H.length + 1]? = some (cN to) := by
 obtain ⟨l1, l2, l3⟩ := hD.lt
 rw [h.up.get _ (by omega) (by omega)]; simp
theorem PS.call {c : Cx} {H : List aa} {us : List Bool} {to : List Int} {G G' : List aa} (h : PS c H us to G) (hU : Up c G G') (hD : Du c G') : PS c H us to G' := ⟨hD, h.up.trans hU⟩
theorem PS.len {c : Cx} {H : List aa} {us : List Bool} {to : List Int} {G : List aa} (h : PS c H us to G) : G.length = H.length + 2 := by have := h.up.len; simpa using this
theorem PS.Zi {c : Cx} {H : List aa} {us us' : List Bool} {to : List Int} {G : List aa} (hD : Du c H) (h : PS c H us to G) : PS c H us' to (G.set H.length (rR us')) := by
 obtain ⟨l1, l2, l3⟩ := hD.lt
 have hl := h.len
 refine ⟨h.du.set (by omega) (by omega) (by omega), by simp [hl], fun j h1 h2 => ?_⟩
 rw [List.getElem?_set]
 by_cases e : H.length = j
 ·subst e; rw [if_pos rfl, if_pos (by omega)]; simp
 ·rw [if_neg e, h.up.get j h1 h2]
  by_cases e2 : j < H.length
  ·rw [List.getElem?_append_left e2, List.getElem?_append_left e2]
  ·rw [List.getElem?_append_right (by omega), List.getElem?_append_right (by omega)]
   obtain ⟨m, rfl⟩ : ∃ m, j = H.length + (m + 1) := ⟨j - H.length - 1, by omega⟩
   simp
theorem PS.Zj {c : Cx} {H : List aa} {us : List Bool} {to to' : List Int} {G : List aa} (hD : Du c H) (h : PS c H us to G) : PS c H us to' (G.set (H.length + 1) (cN to')) := by
 obtain ⟨l1, l2, l3⟩ := hD.lt
 have hl := h.len
 refine ⟨h.du.set (by omega) (by omega) (by omega), by simp [hl], fun j h1 h2 => ?_⟩
 rw [List.getElem?_set]
 by_cases e : H.length + 1 = j
 ·subst e; rw [if_pos rfl, if_pos (by omega)]; simp
 ·rw [if_neg e, h.up.get j h1 h2]
  by_cases e2 : j < H.length
  ·rw [List.getElem?_append_left e2, List.getElem?_append_left e2]
  ·rw [List.getElem?_append_right (by omega), List.getElem?_append_right (by omega)]
   obtain ⟨m, rfl⟩ : ∃ m, j = H.length + m := ⟨j - H.length, by omega⟩
   rcases m with _ | m
   ·simp
   ·rcases m with _ | m
    ·omega
    ·simp
theorem XP {us : List Bool} {i : Nat} (h : i < us.length) (φ : AV → Prop) : db (some (rR us)) none (i * 1) φ = φ (.bool (us.getD i false)) := by
 have e : (oJ us).getD (i * 1) .any = .bool (us.getD i false) := by
  rw [Nat.mul_one]; simp [oJ, h]
 simp only [rR, db, e, nU, rS, eq_iff_iff]
 constructor
 ·exact fun h => h.2
 ·exact fun h2 => ⟨by omega, h2⟩
theorem z9 {l : List Int} {i : Nat} (h : i < l.length) (φ : AV → Prop) : db (some (cN l)) none (i * 1) φ = φ (.int .i64 (l.getD i 0)) := by
 have e : (ints l).getD (i * 1) .any = .int .i64 (l.getD i 0) := by
  rw [Nat.mul_one]; simp [ints, h]
 simp only [cN, db, e, mY, aw, eq_iff_iff]
 constructor
 ·exact fun h => h.2
 ·exact fun h2 => ⟨by omega, h2⟩
theorem stB {us : List Bool} {i : Nat} (h : i < us.length) (x : Bool) (id : Nat) (H : List aa) (K : List aa → Prop) : gU (some (rR us)) 1 id (i * 1) (.bool x) H K = K (H.set id (rR (us.set i x))) := by
 have e : ag (oJ us) (i * 1) [AV.bool x] = oJ (us.set i x) := by
  rw [Nat.mul_one, nc _ _ _ (by rw [rS]; exact h)]; simp [oJ, List.map_set]
 have e2 : (AV.bool x).cells.map AV.ab = [.bool x] := rfl
 simp only [rR, gU, e2, e, rS, eq_iff_iff]
 constructor
 ·exact fun h => h.2.2.2.2.2
 ·exact fun h2 => ⟨rfl, rfl, by omega, rfl, rfl, h2⟩
theorem Ka {l : List Int} {i : Nat} (h : i < l.length) (x : Int) (id : Nat) (H : List aa) (K : List aa → Prop) : gU (some (cN l)) 1 id (i * 1) (.int .i64 x) H K = K (H.set id (cN (l.set i x))) := by
 have e : ag (ints l) (i * 1) [AV.int .i64 x] = ints (l.set i x) := by
  rw [Nat.mul_one, nc _ _ _ (by rw [aw]; exact h)]; simp [ints, List.map_set]
 have e2 : (AV.int .i64 x).cells.map AV.ab = [.int .i64 x] := rfl
 simp only [cN, gU, e2, e, aw, eq_iff_iff]
 constructor
 ·exact fun h => h.2.2.2.2.2
 ·exact fun h2 => ⟨rfl, rfl, by omega, rfl, rfl, h2⟩
theorem Cl {id : Nat} {l : List Int} {H : List aa} (h : H[id]? = some (cN l)) {K : AV → List aa → Prop} (hK : K (.ap 0 (ints l)) (H.set id .dead)) : dD 1 (.bf id 0 l.length l.length) H K := by
 have hc : ∀ (l : List Int), chunks 1 l.length (ints l) = ints l := by
  intro l
  induction l with
  | nil => rfl
  | cons x q ih => exact congrArg (AV.int .i64 x :: ·) ih
 simp only [dD, h, cN, List.drop_zero, hc, kS]
 exact ⟨by omega, Nat.le_refl _, by simp [aw], trivial, hK⟩
theorem Kb {id n : Nat} {l : List Int} {H : List aa} (h : H[id]? = some (cN l)) (hn : l.length = n) {K : AV → List aa → Prop} (hK : K (.ap 0 (ints l)) (H.set id .dead)) : ff 1 (.bf id 0 n n) H K := by
 subst hn; exact Cl h hK
theorem Sp {c : Cx} {a b : List Int} {va vb : AV} (ha : IL va a) (hb : IL vb b) (la : a.length ≤ 1000000000) (lb : b.length ≤ 1000000000) (h : ∀ x ∈ a, ∀ y ∈ b, jU c x y) {H : List aa} (hD : Du c H) :
 aq Tryz.prog 139 [.ptr c.d 0, va, vb] H (Wd c a b H) := by
 refine Pc.2.calls rfl ?_
 simp only [Pc, aI]
 obtain ⟨a1, a2, a3, a4⟩ := ha.one
 obtain ⟨b1, b2, b3, b4⟩ := hb.one
 simp +contextual only [a2, b2, ha.aL, hb.aL, ha.len (by omega), hb.len (by omega), mkB _ _ _ la, sZ, Nat.reduceEqDiff, Nat.reduceAdd, ↓reduceIte, reduceCtorEq]
 refine af (So 0 (-1) b.length lb _) ?_
 rintro r G0 ⟨rfl, rfl⟩
 have el : (H ++ [rR (List.replicate a.length false)]).length = H.length + 1 := by simp
 rw [el]
 simp +contextual only [b2, hb.aL, hb.len (by omega), sZ, Nat.reduceEqDiff, ↓reduceIte, reduceCtorEq]
 have ps0 : PS c H (List.replicate a.length false) (List.replicate b.length (-1)) (H ++ [rR (List.replicate a.length false), cN (List.replicate b.length (-1))]) := ⟨hD.rO _, Up.refl c _⟩
 generalize H ++ [rR (List.replicate a.length false), cN (List.replicate b.length (-1))] = G0 at ps0 ⊢
 refine aN b.length (fun k (p : List aa × List Bool × List Int) => PS c H p.2.1 p.2.2 p.1 ∧ Pr (fun x y => E c.O (c.tm x) (c.tm y)) a b k p.2.1 p.2.2)
  (fun k p => [(0, .ptr c.d 0), (1, va), (9, .bf H.length 0 a.length a.length), (10, .bf (H.length + 1) 0 b.length b.length), (11, .ah), (12, oq (below k fun j => decide (p.2.2.getD j 0 < 0))), (26, vb), (27, .int .i64 b.length), (28, .int .i64 k)])
  (fun k p => p.1) (G0, List.replicate a.length false, List.replicate b.length (-1)) ⟨⟨ps0, Pr.start⟩, aA _ _ _⟩ fun k p hk hI => ?_
 obtain ⟨G, us, to⟩ := p
 obtain ⟨px, Aa⟩ := hI
 simp only at px Aa
 simp +contextual only [a2, ha.aL, hb.lens, hb.idx, Int.toNat_natCast, ha.len (by omega), sZ, Nat.reduceEqDiff, ↓reduceIte, reduceCtorEq]
 refine ⟨fun aY => ⟨by omega, ?_⟩, fun iW => ?_⟩
 ·have aY := bZ aY
  refine kI (Q1 := fun x e G' => x = .exit 2 ∧ ∃ us' to', PS c H us' to' G' ∧ Pr (fun x y => E c.O (c.tm x) (c.tm y)) a b (k + 1) us' to' ∧ (∀ j, j < k → to'.getD j 0 = to.getD j 0) ∧
   get e 0 = .ptr c.d 0 ∧ get e 1 = va ∧ get e 9 = .bf H.length 0 a.length a.length ∧ get e 10 = .bf (H.length + 1) 0 b.length b.length ∧ get e 11 = .ah ∧ get e 12 = oq (below k fun j => decide (to.getD j 0 < 0)) ∧ get e 13 = .int .i64 (k : Int) ∧ get e 26 = vb ∧ get e 27 = .int .i64 (b.length : Int) ∧ get e 28 = .int .i64 (k : Int)) ?_ ?_
  ·refine aN a.length (fun i (G' : List aa) => PS c H us to G' ∧ ∀ i', i' < i → us.getD i' false = false → ¬ E c.O (c.tm (a.getD i' 0)) (c.tm (b.getD k 0)))
    (fun i G' => [(0, .ptr c.d 0), (1, va), (9, .bf H.length 0 a.length a.length), (10, .bf (H.length + 1) 0 b.length b.length), (11, .ah), (12, oq (below k fun j => decide (to.getD j 0 < 0))), (13, .int .i64 (k : Int)), (14, .int .i64 (b.getD k 0)), (26, vb), (27, .int .i64 b.length), (28, .int .i64 k), (33, va), (34, .int .i64 a.length), (35, .int .i64 i)])
    (fun i G' => G') G ⟨⟨px, fun i' mj => by omega⟩, aA _ _ _⟩ fun i G' hi hI => ?_
   obtain ⟨Ab, jJ⟩ := hI
   have hlu := Aa.lu
   have mq := Aa.lt
   have gu := Ab.u hD
   by_cases Ls : (i : Int) < a.length
   ·have We : i < a.length := by omega
    have Tr : i < us.length := by omega
    cases hu : us.getD i false with
    | true =>
      simp +contextual only [Ls, decide_true, ha.lens, ha.idx, Int.toNat_natCast, kr, gu, XP Tr, hu, Bool.not_true, sZ, Nat.reduceEqDiff, ↓reduceIte, reduceCtorEq]
      refine ⟨by omega, by omega, ⟨i + 1, G', ⟨by omega, Ab, fun i' mj h0 => ?_⟩, by omega, aG (by rw [au i (by omega)]) rfl⟩⟩
      by_cases e : i' = i
      ·subst e; rw [hu] at h0; cases h0
      ·exact jJ i' (by omega) h0
    | false =>
      simp +contextual only [Ls, decide_true, ha.lens, ha.idx, Int.toNat_natCast, kr, gu, XP Tr, hu, Bool.not_false, sZ, Nat.reduceEqDiff, Nat.reduceAdd, ↓reduceIte, reduceCtorEq]
      refine ⟨by omega, by omega, ?_⟩
      refine af (h _ (aO We) _ (aO aY) G' Ab.du) ?_
      rintro r G2 ⟨x, rfl, hx, hU, AA⟩
      have ps2 := Ab.call hU AA
      cases x with
      | false =>
        simp +contextual only [sZ, Nat.reduceEqDiff, ↓reduceIte, reduceCtorEq]
        refine ⟨i + 1, G2, ⟨by omega, ps2, fun i' mj h0 => ?_⟩, by omega, aG (by rw [au i (by omega)]) rfl⟩
        by_cases e : i' = i
        ·subst e; exact fun hh => absurd (hx.2 hh) (by simp)
        ·exact jJ i' (by omega) h0
      | true =>
        have gu2 := ps2.u hD
        have ps3 := ps2.Zi (us' := us.set i true) hD
        have gt3 := ps3.t hD
        have Gc : k < to.length := by omega
        simp +contextual only [kr, gu2, gt3, stB Tr, Ka Gc, sZ, Nat.reduceEqDiff, ↓reduceIte, reduceCtorEq]
        refine ⟨by omega, by omega, us.set i true, to.set k i, ps3.Zj hD, Aa.pair aY We hu (hx.1 rfl), fun j hj => ?_⟩
        rw [kO Gc, if_neg (by omega)]
   ·simp +contextual only [Ls, decide_false, sZ, Nat.reduceEqDiff, ↓reduceIte, reduceCtorEq]
    exact ⟨us, to, Ab, Aa.ew aY fun i' mj h0 => jJ i' (by omega) h0, fun _ _ => rfl⟩
  ·rintro x e G' ⟨rfl, us', to', Ab, NT, hsame, e0, e1, e9, e10, e11, e12, e13, e26, e27, e28⟩
   have hlu := NT.lu
   have mq := NT.lt
   have gt := Ab.t hD
   have Gc : k < to'.length := by omega
   have ebl : (below k fun j => decide (to'.getD j 0 < 0)) = below k fun j => decide (to.getD j 0 < 0) := Ck fun j hj => by rw [hsame j hj]
   have ebs := vC k fun j => decide (to'.getD j 0 < 0)
   have ebn := jf k fun j => decide (to.getD j 0 < 0)
   by_cases wE : to'.getD k 0 < 0
   ·rw [if_pos (by simpa using wE), ebl] at ebs
    simp +contextual only [e0, e1, e9, e10, e11, e12, e13, e26, e27, e28, kr, gt, z9 Gc, wE, decide_true, (eO _).2.1, vu, kK, sZ, Nat.reduceEqDiff, Nat.reduceAdd, ↓reduceIte, reduceCtorEq]
    refine ⟨by omega, by omega, k + 1, (G', us', to'), ⟨aY, Ab, NT⟩, by omega, aG (by rw [au k (by omega), ebs]) rfl⟩
   ·rw [if_neg (by simpa using wE), ebl] at ebs
    simp +contextual only [e0, e1, e9, e10, e11, e12, e13, e26, e27, e28, kr, gt, z9 Gc, wE, decide_false, sZ, Nat.reduceEqDiff, ↓reduceIte, reduceCtorEq]
    refine ⟨by omega, k + 1, (G', us', to'), ⟨aY, Ab, NT⟩, by omega, aG (by rw [au k (by omega), ebs]) rfl⟩
 ·have hkk : k = b.length := by omega
  subst hkk
  have hlu := Aa.lu
  have mq := Aa.lt
  have gu := px.u hD
  have gt := px.t hD
  refine aB a.length (fun i => True) (fun i => [(10, .bf (H.length + 1) 0 b.length b.length), (11, oq (below i fun j => !us.getD j false)), (12, oq (below b.length fun j => decide (to.getD j 0 < 0))), (69, .bf H.length 0 a.length a.length), (70, .int .i64 a.length), (71, .int .i64 i)])
   (fun i => G) ⟨trivial, aA _ _ _⟩ fun i hi _ => ?_
  have ebs := vC i fun j => !us.getD j false
  have ebn := jf i fun j => !us.getD j false
  by_cases Ls : (i : Int) < a.length
  ·have Tr : i < us.length := by omega
   cases hu : us.getD i false with
   | true =>
     rw [hu, if_neg (by simp)] at ebs
     simp +contextual only [Ls, decide_true, kr, gu, XP Tr, hu, Bool.not_true, sZ, Nat.reduceEqDiff, ↓reduceIte, reduceCtorEq]
     refine ⟨by omega, i + 1, by omega, by omega, aG (by rw [au i (by omega), ebs]) rfl⟩
   | false =>
     rw [hu, if_pos (by simp)] at ebs
     simp +contextual only [Ls, decide_true, kr, gu, XP Tr, hu, Bool.not_false, (eO _).2.1, vu, kK, sZ, Nat.reduceEqDiff, Nat.reduceAdd, ↓reduceIte, reduceCtorEq]
     refine ⟨by omega, by omega, i + 1, by omega, by omega, aG (by rw [au i (by omega), ebs]) rfl⟩
  ·have Zk : i = a.length := by omega
   subst Zk
   simp +contextual only [Ls, decide_false, (eO _).2.1, sZ, Nat.reduceEqDiff, ↓reduceIte]
   refine Kb gt mq ?_
   simp +contextual only [(aE _).2.1, sZ, Nat.reduceEqDiff, ↓reduceIte, reduceCtorEq]
   obtain ⟨l1, l2, l3⟩ := hD.lt
   refine yi (by decide) rfl ⟨(aE _).2.2.1 _, (aE _).2.2.1 _, ?_⟩ (aE _).2.1 (aE _).2.1 rfl ⟨us, to, Aa, rfl, ?_, ?_⟩
   ·rw [uZ, cW]; exact bk _ _
   ·rw [List.take_set_of_le (by omega)]; exact px.up.take
   ·rw [List.take_set_of_le (by omega)]; exact px.du.take l1 l2 l3
end Go.aK
end
section
namespace Go.aK
open Go Go.Proofs Go.fq
theorem Hu {β : Type} (f : Int → β) (a : List Int) : a.map f = (List.range a.length).map fun i => f (a.getD i 0) := by
 apply List.ext_getElem
 ·simp
 ·intro i h1 h2
  have : i < a.length := by simpa using h1
  simp [this]
theorem Cm {β : Type} (f : Int → β) (a : List Int) (p : Nat → Bool) : (a.map f).Perm (((List.range a.length).filter p).map (fun i => f (a.getD i 0)) ++ ((List.range a.length).filter fun i => !p i).map fun i => f (a.getD i 0)) := by
 rw [Hu, ← List.map_append]
 exact (List.filter_append_perm p (List.range a.length)).symm.map _
theorem qC (n : Nat) (p : Nat → Bool) : ((List.range n).filter p).Nodup := List.Pairwise.filter p List.nodup_range
def sV (f : Int → T) (a : List Int) (us : List Bool) : List T := ((List.range a.length).filter fun i => !us.getD i false).map fun i => f (a.getD i 0)
def Co (f : Int → T) (b to : List Int) : List T := ((List.range b.length).filter fun j => decide (to.getD j 0 < 0)).map fun j => f (b.getD j 0)
theorem Pr.parts {f : Int → T} {a b : List Int} {us : List Bool} {to : List Int} (h : Pr (fun x y => f x = f y) a b b.length us to) :
 ∃ C, (a.map f).Perm (sV f a us ++ C) ∧ (b.map f).Perm (Co f b to ++ C) ∧ Sb (sV f a us) (Co f b to) := by
 refine ⟨((List.range b.length).filter fun j => !decide (to.getD j 0 < 0)).map fun j => f (b.getD j 0), ?_, Cm f b _, ?_⟩
 ·have h1 := Cm f a (fun i => !us.getD i false)
  refine h1.trans (List.Perm.append_left _ ?_)
  have hp : (((List.range b.length).filter fun j => !decide (to.getD j 0 < 0)).map fun j => (to.getD j 0).toNat).Perm ((List.range a.length).filter fun i => !!us.getD i false) := by
   rw [List.perm_ext_iff_of_nodup]
   ·intro i
    simp only [List.mem_map, List.mem_filter, List.mem_range, Bool.not_eq_true', decide_eq_false_iff_not, Bool.not_not]
    constructor
    ·rintro ⟨j, ⟨hj, hn⟩, rfl⟩
     rcases h.t1 j hj with h2 | ⟨i, h2, h3, h4, _⟩
     ·omega
     ·rw [h2]; exact ⟨by simpa using h3, by simpa using h4⟩
    ·rintro ⟨hi, hu⟩
     obtain ⟨j, h2, h3⟩ := h.uu i hi hu
     exact ⟨j, ⟨h2, by omega⟩, by omega⟩
   ·rw [List.Nodup, List.pairwise_map]
    refine List.Pairwise.imp_of_mem ?_ (qC _ _)
    intro j j' hj tT dS he
    simp only [List.mem_filter, List.mem_range, Bool.not_eq_true', decide_eq_false_iff_not] at hj tT
    exact dS (h.inj j j' hj.1 tT.1 (by omega) (by omega))
   ·exact qC _ _
  refine (hp.map fun i => f (a.getD i 0)).symm.trans ?_
  rw [List.map_map]
  refine List.Perm.of_eq (List.map_congr_left fun j hj => ?_)
  simp only [List.mem_filter, List.mem_range, Bool.not_eq_true', decide_eq_false_iff_not] at hj
  rcases h.t1 j hj.1 with h2 | ⟨i, h2, h3, h4, h5⟩
  ·omega
  ·show f (a.getD (to.getD j 0).toNat 0) = f (b.getD j 0)
   rw [h2]; exact h5
 ·intro z hz H5
  simp only [sV, Co, List.mem_map, List.mem_filter, List.mem_range, decide_eq_true_eq, Bool.not_eq_true'] at hz H5
  obtain ⟨i, ⟨hi, hu⟩, rfl⟩ := hz
  obtain ⟨j, ⟨hj, hn⟩, he⟩ := H5
  refine h.free j hj ?_ i hi hu he.symm
  rcases h.t1 j hj with h2 | ⟨i', h2, _⟩
  ·exact h2
  ·omega
theorem rT {f : Int → T} {a : List Int} {us : List Bool} : sV f a us = [] ↔ below a.length (fun i => !us.getD i false) = [] := by
 simp [sV, below]
theorem Pr.mu {f : Int → T} {G : T → T → Prop} {a b : List Int} {us : List Bool} {to : List Int} (h : Pr (fun x y => f x = f y) a b b.length us to) :
 Mu G (a.map f) (b.map f) ↔ below a.length (fun i => !us.getD i false) ≠ [] ∧ ∀ y ∈ below b.length (fun j => decide (to.getD j 0 < 0)), ∃ x ∈ below a.length (fun i => !us.getD i false), G (f (a.getD x.toNat 0)) (f (b.getD y.toNat 0)) := by
 obtain ⟨C, h1, h2, h3⟩ := h.parts
 rw [Sc h1 h2 h3, Ne, rT]
 refine and_congr Iff.rfl ⟨fun hh y hy => ?_, fun hh y hy => ?_⟩
 ·obtain ⟨j, rfl, hj, hn⟩ := fU.1 hy
  obtain ⟨x, hx, hg⟩ := hh (f (b.getD j 0)) (by simp only [Co, List.mem_map, List.mem_filter, List.mem_range]; exact ⟨j, ⟨hj, hn⟩, rfl⟩)
  simp only [sV, List.mem_map, List.mem_filter, List.mem_range] at hx
  obtain ⟨i, ⟨hi, hu⟩, rfl⟩ := hx
  exact ⟨i, fU.2 ⟨i, rfl, hi, hu⟩, hg⟩
 ·simp only [Co, List.mem_map, List.mem_filter, List.mem_range] at hy
  obtain ⟨j, ⟨hj, hn⟩, rfl⟩ := hy
  obtain ⟨x, hx, hg⟩ := hh j (fU.2 ⟨j, rfl, hj, hn⟩)
  obtain ⟨i, rfl, hi, hu⟩ := fU.1 hx
  refine ⟨f (a.getD i 0), ?_, hg⟩
  simp only [sV, List.mem_map, List.mem_filter, List.mem_range]
  exact ⟨i, ⟨hi, hu⟩, rfl⟩
theorem Pr.perm {f : Int → T} {a b : List Int} {us : List Bool} {to : List Int} (h : Pr (fun x y => f x = f y) a b b.length us to) (hl : a.length = b.length) :
 (a.map f).Perm (b.map f) ↔ below a.length (fun i => !us.getD i false) = [] := by
 obtain ⟨C, h1, h2, h3⟩ := h.parts
 rw [wX h1 h2 h3, rT (f := f)]
 constructor
 ·exact fun h => h.1
 ·intro h0
  refine ⟨h0, ?_⟩
  have e1 := h1.length_eq
  have e2 := h2.length_eq
  have e3 : (sV f a us).length = 0 := by rw [(rT (f := f)).2 h0]; rfl
  simp only [List.length_append, List.length_map] at e1 e2
  exact List.length_eq_zero_iff.1 (by omega)
end Go.aK
end
section
set_option maxRecDepth 100000
set_option maxHeartbeats 0
namespace Go.aK
open Go Go.Proofs
noncomputable def Po := aI Tryz.call186 Tryz.func186 Tryz.ntmps186 [(0,0,1),(5,3,2000),(5,8,1000),(6,6,2000)] [(0,[1,2,3]),(1,[1,2,3,7,8]),(2,[1,2,3,26]),(3,[6]),(4,[3,9,10]),(5,[3,9,10,11,12]),(6,[6])] [(4,(.take 0 true (.take 1 true (.take 2 true (.take 3 true (.take 4 true (.take 5 true (.take 6 true (.take 7 true (.take 8 false (.take 9 false (.take 10 false (.take 12 false (.br 11 (.take 13 false (.take 14 false (.take 15 false (.br 16 (.br 17 (.br 18 (.br 19 .done .nil) .nil) .nil) (.br 17 (.br 16 (.br 18 (.br 19 .done .nil) .nil) .nil) .nil))))) (.br 16 (.br 11 (.take 13 false (.take 14 false (.take 15 false (.br 17 (.br 18 (.br 19 .done .nil) .nil) .nil)))) (.br 17 (.br 11 (.take 13 false (.take 14 false (.take 15 false (.br 18 (.br 19 .done .nil) .nil)))) (.br 18 (.take 11 true (.take 13 true (.take 14 true (.take 15 true (.br 19 .done .nil))))) .nil)) .nil)) (.br 17 (.br 11 (.take 13 false (.take 14 false (.take 15 false (.br 16 (.br 18 (.br 19 .done .nil) .nil) .nil)))) (.br 16 (.br 11 (.take 13 false (.take 14 false (.take 15 false (.br 18 (.br 19 .done .nil) .nil)))) (.br 18 (.take 11 true (.take 13 true (.take 14 true (.take 15 true (.br 19 .done .nil))))) .nil)) .nil)) .nil))))))))))))))))]
end Go.aK
end
section
set_option maxRecDepth 100000
namespace Go.aK
open Go Go.Proofs Go.fq
def nf (c : Cx) (x : Int) : T := norm c.O (c.tm x)
def wZ (c : Cx) (i k : Int) : Prop := tv c i k = true ∧ dq c i = 3 ∧ Mu (Gt c.O.sp) ((c.kd i).map (nf c)) ((c.kd k).map (nf c))
theorem Zl {c : Cx} {a b : List Int} {va vb : AV} (ha : IL va a) (hb : IL vb b) {p q : Nat} {x y : Int} (hx : 0 ≤ x ∧ x < a.length) (hy : 0 ≤ y ∧ y < b.length) (h : gM c (a.getD x.toNat 0) (b.getD y.toNat 0)) {G : List aa} (hD : Du c G) (gp : G[p]? = some (.cells [va])) (gq : G[q]? = some (.cells [vb])) :
 aq Tryz.prog 222 [.int .i64 x, .ai (.ptr c.d 0), .ptr p 0, .ptr q 0, .ai (.int .i64 y)] G (ic c (R c.O (c.tm (a.getD x.toNat 0)) (c.tm (b.getD y.toNat 0))) G) := by
 refine Vf.2.calls rfl ?_
 simp only [Vf, aI]
 obtain ⟨a1, a2, a3, a4⟩ := ha.one
 obtain ⟨b1, b2, b3, b4⟩ := hb.one
 simp +contextual only [gp, gq, a2, b2, ha.lens, hb.lens, ha.idx, hb.idx, sZ, Nat.reduceEqDiff, Nat.reduceAdd, Nat.reduceLT, ↓reduceIte, reduceCtorEq]
 refine ⟨hx, hy, af (h G hD) ?_⟩
 rintro r G' ⟨z, rfl, hz, hU, ja⟩
 simp +contextual only [sZ, ↓reduceIte, reduceCtorEq]
 exact ee rfl hz hU ja
theorem Zm {c : Cx} {a b l : List Int} {va vb vl : AV} (ha : IL va a) (hb : IL vb b) (hl : IL vl l) (ll : l.length ≤ 1000000000) {p q : Nat} {y : Int} (hx : ∀ x ∈ l, 0 ≤ x ∧ x < a.length) (hy : 0 ≤ y ∧ y < b.length) (h : ∀ x ∈ l, gM c (a.getD x.toNat 0) (b.getD y.toNat 0)) {G : List aa} (hD : Du c G)
 (gp : G[p]? = some (.cells [va])) (gq : G[q]? = some (.cells [vb])) (np : p ≠ c.e ∧ p ≠ c.g) (nq : q ≠ c.e ∧ q ≠ c.g) :
 aq Tryz.prog 221 [.int .i64 y, .ai vl, .ai (.ptr c.d 0), .ptr p 0, .ptr q 0] G (ic c (¬ ∃ x ∈ l, R c.O (c.tm (a.getD x.toNat 0)) (c.tm (b.getD y.toNat 0))) G) := by
 refine Ve.2.calls rfl ?_
 simp only [Ve, aI]
 obtain ⟨a1, a2, a3, a4⟩ := hl.one
 have ld : ∀ (H : List aa) (φ : AV → Prop), aS none (.ai vl) H φ = φ vl := fun H φ => by simp [aS, a1, a2]
 simp +contextual only [ld, a2, sZ, Nat.reduceEqDiff, Nat.reduceAdd, ↓reduceIte, reduceCtorEq]
 refine af (Ci (SD.z7 c G) hl ll 222 [] [.ai (.ptr c.d 0), .ptr p 0, .ptr q 0, .ai (.int .i64 y)] rfl rfl (Q := fun x => R c.O (c.tm (a.getD x.toNat 0)) (c.tm (b.getD y.toNat 0)))
  (fun x wo G' dZ => (Zl ha hb (hx x wo) hy (h x wo) dZ.1 (by rw [dZ.2.get p np.1 np.2, gp]) (by rw [dZ.2.get q nq.1 nq.2, gq])).mono fun r H' hr => hr.sb dZ) ⟨hD, Up.refl c G⟩) ?_
 rintro r G' ⟨z, rfl, hz, dZ⟩
 simp +contextual only [sZ, ↓reduceIte, reduceCtorEq]
 refine ee (b := !z) rfl ?_ dZ.2 dZ.1
 rw [← hz]; cases z <;> simp
theorem kT {P : Px} {t : DT} {f : AV → Env} {H : List aa} {o : Option aa} {off : Nat} {K1 K2 : Env → List aa → Prop} (h : db o none off fun x => iP P t (f x) H K1) (hk : ∀ e G, K1 e G → K2 e G) : db o none off fun x => iP P t (f x) H K2 := by
 unfold db at *
 split at h
 ·exact ⟨h.1, dx h.2 hk⟩
 ·exact h.elim
theorem Wf {c : Cx} (hc : c.Ok) {i k : Int} (hi : c.dH i) (hk : c.dH k) (h2 : ∀ x ∈ c.kd i, ∀ y ∈ c.kd k, jU c x y) (h3 : ∀ x ∈ c.kd i, ∀ y ∈ c.kd k, gM c x y) {H : List aa} (hD : Du c H) :
 aq Tryz.prog 186 [.ptr c.d 0, .int .i64 i, .int .i64 k] H (ic c (wZ c i k) H) := by
 refine Po.2.calls rfl ?_
 simp only [Po, aI]
 have k2 : ∀ l, (bo l).ab = bo l := fun l => (aE l).2.1
 have l1 := hc.kl i hi
 have l2 := hc.kl k hk
 simp +contextual only [sZ, Nat.reduceEqDiff, Nat.reduceAdd, ↓reduceIte, reduceCtorEq]
 refine af (Ek hc hi hk hD) ?_
 rintro r H1 ⟨rfl, rfl⟩
 simp +contextual only [sZ, Nat.reduceEqDiff, Nat.reduceAdd, Nat.reduceLT, ↓reduceIte]
 cases hl : tv c i k with
 | false =>
   simp +contextual only [Bool.not_false, sZ, Nat.reduceEqDiff, ↓reduceIte, reduceCtorEq]
   exact ee rfl ⟨fun h => by simp at h, fun h => by have := h.1; rw [hl] at this; simp at this⟩ (Up.refl c _) hD
 | true =>
   by_cases hs : dq c i = 3
   ·have d3 : decide (dq c i = 3) = true := decide_eq_true hs
    have d3' : decide (¬dq c i = 3) = false := decide_eq_false (fun h => h hs)
    simp +contextual only [Bool.not_true, hs, not_true_eq_false, decide_false, sZ, Nat.reduceEqDiff, Nat.reduceAdd, ↓reduceIte]
    obtain ⟨l4, l5, l6⟩ := hD.lt
    have ed : ∀ X : List aa, (H1 ++ X)[c.d]? = H1[c.d]? := fun X => List.getElem?_append_left l4
    refine kT (K1 := fun e G => get e 3 = .ai (.ptr c.d 0) ∧ ∃ p q X, get e 9 = .ptr p 0 ∧ get e 10 = .ptr q 0 ∧ H1.length ≤ p ∧ H1.length ≤ q ∧ G = H1 ++ X ∧ G[p]? = some (.cells [bo (c.kd i)]) ∧ G[q]? = some (.cells [bo (c.kd k)])) ?_ ?_
    ·obtain ⟨k1, k3, k4, k5, k6⟩ := aE (c.kd i)
     obtain ⟨m1, m3, m4, m5, m6⟩ := aE (c.kd k)
     have g0 : ∀ (x : aa) (l : List aa), (H1 ++ x :: l)[H1.length]? = some x := fun x l => by simp
     have g1 : ∀ (x y : aa), (H1 ++ [x, y])[H1.length + 1]? = some y := fun x y => by simp
     have ei : (c.nd.getD i.toNat default).snd = c.kd i := rfl
     have ek : (c.nd.getD k.toNat default).snd = c.kd k := rfl
     have sp : ∀ x : AV, ag [AV.ah] 0 [x] = [x] := fun x => rfl
     have A : ∃ p q X, AV.ptr H1.length 0 = AV.ptr p 0 ∧ AV.ptr (H1.length + 1) 0 = AV.ptr q 0 ∧ H1.length ≤ p ∧ H1.length ≤ q ∧ H1 ++ [.cells [bo (c.kd i)], .cells [bo (c.kd k)]] = H1 ++ X ∧ (H1 ++ [aa.cells [bo (c.kd i)], .cells [bo (c.kd k)]])[p]? = some (.cells [bo (c.kd i)]) ∧ (H1 ++ [aa.cells [bo (c.kd i)], .cells [bo (c.kd k)]])[q]? = some (.cells [bo (c.kd k)]) :=
      ⟨_, _, _, rfl, rfl, Nat.le_refl _, Nat.le_succ _, rfl, g0 _ _, g1 _ _⟩
     have B : ∃ p q X, AV.ptr (H1.length + 1) 0 = AV.ptr p 0 ∧ AV.ptr H1.length 0 = AV.ptr q 0 ∧ H1.length ≤ p ∧ H1.length ≤ q ∧ H1 ++ [.cells [bo (c.kd k)], .cells [bo (c.kd i)]] = H1 ++ X ∧ (H1 ++ [aa.cells [bo (c.kd k)], .cells [bo (c.kd i)]])[p]? = some (.cells [bo (c.kd i)]) ∧ (H1 ++ [aa.cells [bo (c.kd k)], .cells [bo (c.kd i)]])[q]? = some (.cells [bo (c.kd k)]) :=
      ⟨_, _, _, rfl, rfl, Nat.le_succ _, Nat.le_refl _, rfl, g1 _ _, g0 _ _⟩
     simp +contextual only [ed, hD.d, lT, C0, cu, bS, k2, ei, ek, k1, k4, k5, k6, m1, m4, m5, m6, List.map_cons, List.map_nil, sp, List.all_cons, List.all_nil, Bool.and_true, bL, cZ, sZ, Nat.reduceEqDiff, Nat.reduceAdd, Nat.reduceLT, ↓reduceIte]
     refine ⟨hi, ?_⟩
     repeat' apply And.intro
     all_goals first | exact hk.1 | exact hk.2 | exact A | exact B
    ·rintro e G ⟨e3, p, q, X, e9, e10, hp, hq, rfl, gp, gq⟩
     simp +contextual only [e3, e9, e10, gp, gq, k2, sZ, Nat.reduceEqDiff, Nat.reduceAdd, Nat.reduceLT, ↓reduceIte, reduceCtorEq]
     refine af (Sp (.inl rfl : IL (bo (c.kd i)) (c.kd i)) (.inl rfl : IL (bo (c.kd k)) (c.kd k)) (by omega) (by omega) h2 (hD.rO X)) ?_
     rintro r G' ⟨us, to, Aa, rfl, hU, ja⟩
     have XQ := Pr.mu (f := nf c) (G := Gt c.O.sp) Aa
     have lbl := jf (c.kd i).length fun i => !us.getD i false
     have lbo := jf (c.kd k).length fun j => decide (to.getD j 0 < 0)
     have il : IL (bo (below (c.kd i).length fun i => !us.getD i false)) (below (c.kd i).length fun i => !us.getD i false) := .inl rfl
     have io : IL (bo (below (c.kd k).length fun j => decide (to.getD j 0 < 0))) (below (c.kd k).length fun j => decide (to.getD j 0 < 0)) := .inl rfl
     have ml : ∀ x ∈ below (c.kd i).length (fun i => !us.getD i false), 0 ≤ x ∧ x < (c.kd i).length := by
      intro x hx; obtain ⟨j, rfl, hj, _⟩ := fU.1 hx; omega
     have mo : ∀ x ∈ below (c.kd k).length (fun j => decide (to.getD j 0 < 0)), 0 ≤ x ∧ x < (c.kd k).length := by
      intro x hx; obtain ⟨j, rfl, hj, _⟩ := fU.1 hx; omega
     generalize (below (c.kd i).length fun i => !us.getD i false) = L at *
     generalize (below (c.kd k).length fun j => decide (to.getD j 0 < 0)) = V at *
     obtain ⟨a1, a2, a3, a4⟩ := il.one
     obtain ⟨b1, b2, b3, b4⟩ := io.one
     have hG1 : ∀ G2, Up c (H1 ++ X) G2 → Du c G2 → Up c H1 (G2.take H1.length) ∧ Du c (G2.take H1.length) := fun G2 u d => ⟨u.take, d.take l4 l5 l6⟩
     have fin : ∀ G2 (b : Bool), Up c (H1 ++ X) G2 → Du c G2 → (b = true ↔ wZ c i k) → bT H1.length [.t 6] [(6, .bool b)] G2 (ic c (wZ c i k) H1) := by
      intro G2 b u d hb
      refine aQ H1.length (Nat.le_refl _) (by rw [ax, if_pos rfl]; rfl) ?_
      rw [ax, if_pos rfl]
      exact ⟨b, rfl, hb, (hG1 G2 u d).1, (hG1 G2 u d).2⟩
     simp +contextual only [List.map_cons, List.map_nil, k2, a1, a3, a4, il.aL, il.len (by omega), bS, sZ, Nat.reduceEqDiff, Nat.reduceAdd, Nat.reduceLT, ↓reduceIte, reduceCtorEq]
     refine ⟨fun hL => ?_, fun hL => ?_⟩
     ·have gp' : G'[p]? = some (.cells [bo (c.kd i)]) := by rw [hU.get p (by omega) (by omega), gp]
      have gq' : G'[q]? = some (.cells [bo (c.kd k)]) := by rw [hU.get q (by omega) (by omega), gq]
      have gm : ∀ {x : Int} {l : List Int}, 0 ≤ x ∧ x < l.length → l.getD x.toNat 0 ∈ l := fun h => aO (by omega)
      refine af (Ci (SD.z7 c G') io (by omega) 221 [] [.ai (bo L), .ai (.ptr c.d 0), .ptr p 0, .ptr q 0] rfl rfl (Q := fun y => ¬ ∃ x ∈ L, R c.O (c.tm ((c.kd i).getD x.toNat 0)) (c.tm ((c.kd k).getD y.toNat 0)))
       (fun y hy G2 Sq => (Zm (.inl rfl) (.inl rfl) il (by omega) ml (mo y hy) (fun x hx => h3 _ (gm (ml x hx)) _ (gm (mo y hy))) Sq.1 (by rw [Sq.2.get p (by omega) (by omega), gp']) (by rw [Sq.2.get q (by omega) (by omega), gq']) ⟨by omega, by omega⟩ ⟨by omega, by omega⟩).mono fun r H' hr => hr.sb Sq) ⟨ja, Up.refl c G'⟩) ?_
      rintro r G2 ⟨z, rfl, hz, Sq⟩
      simp +contextual only [sZ, Nat.reduceEqDiff, ↓reduceIte, reduceCtorEq]
      refine fin G2 (!z) (hU.trans Sq.2) Sq.1 ?_
      have hLn : L ≠ [] := by intro e; rw [e] at hL; simp at hL
      rw [wZ, XQ]
      cases z with
      | true =>
        obtain ⟨y, hy, hn⟩ := hz.1 rfl
        exact ⟨fun h => by simp at h, fun ⟨_, _, _, h⟩ => absurd (h y hy) hn⟩
      | false =>
        refine ⟨fun _ => ⟨hl, hs, hLn, fun y hy => ?_⟩, fun _ => rfl⟩
        by_cases Gl : ∃ x ∈ L, R c.O (c.tm ((c.kd i).getD x.toNat 0)) (c.tm ((c.kd k).getD y.toNat 0))
        ·exact Gl
        ·exact absurd (hz.2 ⟨y, hy, Gl⟩) (by simp)
     ·refine fin G' false hU ja ⟨fun h => by simp at h, fun h => ?_⟩
      have := (XQ.1 h.2.2).1
      exact absurd (List.length_eq_zero_iff.1 (by omega)) this
   ·have d3' : decide (¬dq c i = 3) = true := decide_eq_true hs
    simp +contextual only [Bool.not_true, hs, decide_true, not_false_eq_true, sZ, Nat.reduceEqDiff, ↓reduceIte, reduceCtorEq]
    exact ee rfl ⟨fun h => by simp at h, fun h => absurd h.2.1 hs⟩ (Up.refl c _) hD
theorem tU {c : Cx} (hc : c.Ok) {i : Int} (hi : c.dH i) : (c.tm i).l.map (norm c.O) = (c.kd i).map (nf c) := by
 rw [← (hc.kids i hi).1, List.map_map]; rfl
theorem El {f : Int → T} {a b : List Int} : a.map f = b.map f ↔ a.length = b.length ∧ ∀ j, j < a.length → f (a.getD j 0) = f (b.getD j 0) := by
 constructor
 ·intro h
  have hl : a.length = b.length := by simpa using congrArg List.length h
  refine ⟨hl, fun j hj => ?_⟩
  have := congrArg (fun l => l[j]?) h
  have hb : j < b.length := by omega
  simpa [hj, hb] using this
 ·rintro ⟨hl, h⟩
  apply List.ext_getElem
  ·simpa using hl
  ·intro j h1 h2
   have h3 : j < a.length := by simpa using h1
   have h4 : j < b.length := by simpa using h2
   simpa [h3, h4] using h j h3
theorem Zn {c : Cx} (hc : c.Ok) {i k : Int} (hi : c.dH i) (hk : c.dH k) (h2 : ∀ x ∈ c.kd i, ∀ y ∈ c.kd k, jU c x y) {H : List aa} (hD : Du c H) : aq Tryz.prog 138 (Ch c i k) H (ic c (E c.O (c.tm i) (c.tm k)) H) := by
 refine Uu.2.calls rfl ?_
 simp only [Uu, aI, Ch]
 have k2 : ∀ l, (bo l).ab = bo l := fun l => (aE l).2.1
 have l1 := hc.kl i hi
 have l2 := hc.kl k hk
 simp +contextual only [sZ, Nat.reduceEqDiff, Nat.reduceAdd, ↓reduceIte, reduceCtorEq]
 refine af (pf hc hi hD) ?_
 rintro r H1 ⟨rfl, rfl⟩
 simp +contextual only [dt, fg, fh, fj, sZ, Nat.reduceEqDiff, Nat.reduceAdd, ↓reduceIte, reduceCtorEq]
 refine af (pf hc hk hD) ?_
 rintro r H1 ⟨rfl, rfl⟩
 simp +contextual only [dt, fg, fh, fj, sZ, Nat.reduceEqDiff, ↓reduceIte, reduceCtorEq]
 have eqf : ∀ b : Bool, cM false (.bool b) (.bool b) = fun φ => φ (.bool true) := fun b => by funext φ; cases b <;> simp [cM]
 have fT0 := FA
 have fT1 : ∀ (t : T) (φ : AV → Prop), ak 1 none (.ai t.av) φ = φ (.ai (.int .i64 t.n)) := fun t φ => by cases t; simp [ak, T.av, apart, AV.cells, AV.one, T.n]
 have ei : (c.nd.getD i.toNat default).fst = c.tm i := rfl
 have ek : (c.nd.getD k.toNat default).fst = c.tm k := rfl
 have hE := VW (O := c.O) (a := c.tm i) (b := c.tm k)
 rw [tU hc hi, tU hc hk] at hE
 cases XR : qQ c i with
 | false =>
   have ki : (c.tm i).k ≠ 2 := of_decide_eq_false XR
   cases Em : qQ c k with
   | false =>
     have kk : (c.tm k).k ≠ 2 := of_decide_eq_false Em
     simp +contextual only [Bool.not_false, hD.d, lT, Zb, fT1, cu, ei, ek, sZ, Nat.reduceEqDiff, Nat.reduceAdd, Nat.reduceLT, ↓reduceIte, reduceCtorEq]
     refine ⟨hi, hk, ee rfl ?_ (Up.refl c _) hD⟩
     rw [hE, decide_eq_true_eq]
     exact ⟨fun h => .inr ⟨ki, kk, h⟩, fun h => by rcases h with h | h; exact absurd h.1 ki; exact h.2.2⟩
   | true =>
     have kk : (c.tm k).k = 2 := of_decide_eq_true Em
     simp +contextual only [Bool.not_false, sZ, Nat.reduceEqDiff, ↓reduceIte, reduceCtorEq]
     refine ee rfl ?_ (Up.refl c _) hD
     rw [hE]
     exact ⟨fun h => by simp at h, fun h => by rcases h with h | h; exact absurd h.1 ki; exact absurd kk h.2.1⟩
 | true =>
   have ki : (c.tm i).k = 2 := of_decide_eq_true XR
   cases Em : qQ c k with
   | false =>
     have kk : (c.tm k).k ≠ 2 := of_decide_eq_false Em
     simp +contextual only [Bool.not_false, Bool.not_true, sZ, Nat.reduceEqDiff, ↓reduceIte, reduceCtorEq]
     refine ee rfl ?_ (Up.refl c _) hD
     rw [hE]
     exact ⟨fun h => by simp at h, fun h => by rcases h with h | h; exact absurd h.2.1 kk; exact absurd ki h.1⟩
   | true =>
     have kk : (c.tm k).k = 2 := of_decide_eq_true Em
     have epi : pe c i = c.O.pl (c.tm i).n := if_pos ki
     have epk : pe c k = c.O.pl (c.tm k).n := if_pos kk
     have esi : dq c i = c.O.sp (c.O.pl (c.tm i).n) := if_pos ki
     have XS : E c.O (c.tm i) (c.tm k) ↔ pe c i = pe c k ∧ (if dq c i = 3 then ((c.kd i).map (nf c)).Perm ((c.kd k).map (nf c)) else (c.kd i).map (nf c) = (c.kd k).map (nf c)) := by
      rw [hE, epi, epk, esi]
      exact ⟨fun h => by rcases h with h | h; exact h.2.2; exact absurd ki h.1, fun h => .inl ⟨ki, kk, h⟩⟩
     have eki : (c.nd.getD i.toNat default).snd = c.kd i := rfl
     have ekk : (c.nd.getD k.toNat default).snd = c.kd k := rfl
     have ii : IL (bo (c.kd i)) (c.kd i) := .inl rfl
     have ik : IL (bo (c.kd k)) (c.kd k) := .inl rfl
     have hlen : E c.O (c.tm i) (c.tm k) → (c.kd i).length = (c.kd k).length := by
      intro h
      have h := (XS.1 h).2
      split at h
      ·simpa using h.length_eq
      ·simpa using congrArg List.length h
     simp +contextual only [Bool.not_true, hD.d, lT, C0, cu, bS, k2, eki, ekk, ii.aL, ik.aL, ii.len (by omega), ik.len (by omega), sZ, Nat.reduceEqDiff, Nat.reduceAdd, Nat.reduceLT, ↓reduceIte, reduceCtorEq]
     refine ⟨hi, hk, fun hp => ⟨fun hn => ?_, fun hlk => ⟨fun h3 => ?_, fun h3 => ?_⟩⟩, fun hp => ?_⟩
     ·refine ee rfl ⟨fun h => by simp at h, fun h => absurd (hlen h) (by omega)⟩ (Up.refl c _) hD
     ·refine af (Sp ii ik (by omega) (by omega) h2 hD) ?_
      rintro r G ⟨us, to, Aa, rfl, hU, ja⟩
      have Tg := Pr.perm (f := nf c) Aa (by omega)
      have lbl := jf (c.kd i).length fun i => !us.getD i false
      have il : IL (bo (below (c.kd i).length fun i => !us.getD i false)) (below (c.kd i).length fun i => !us.getD i false) := .inl rfl
      generalize (below (c.kd i).length fun i => !us.getD i false) = L at *
      simp +contextual only [k2, il.aL, il.len (by omega), sZ, Nat.reduceEqDiff, Nat.reduceAdd, Nat.reduceLT, ↓reduceIte, reduceCtorEq]
      refine ee rfl ?_ hU ja
      rw [XS, if_pos h3, Tg, decide_eq_true_eq]
      exact ⟨fun h => ⟨hp, List.length_eq_zero_iff.1 (by omega)⟩, fun h => by rw [h.2]; rfl⟩
     ·refine af (V5 (SD.z7 c _) ii ik (by omega) (by omega) 79 [.ptr c.d 0] [] rfl rfl (Q := fun x y => E c.O (c.tm x) (c.tm y)) (fun x hx y hy G hG => (h2 x hx y hy G hG.1).mono fun r H' hr => hr.sb hG) ⟨hD, Up.refl c _⟩) ?_
      rintro r G ⟨b, rfl, hb, hG⟩
      simp +contextual only [sZ, ↓reduceIte, reduceCtorEq]
      refine ee rfl ?_ hG.2 hG.1
      rw [XS, if_neg h3, hb]
      have := El (f := nf c) (a := c.kd i) (b := c.kd k)
      exact ⟨fun h => ⟨hp, this.2 h⟩, fun h => this.1 h.2⟩
     ·exact ee rfl ⟨fun h => by simp at h, fun h => absurd (XS.1 h).1 hp⟩ (Up.refl c _) hD
end Go.aK
end
