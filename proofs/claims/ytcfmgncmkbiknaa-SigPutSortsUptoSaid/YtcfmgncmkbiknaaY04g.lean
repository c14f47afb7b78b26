/- mapped, Shift. -/
import Derived.Test.YtcfmgncmkbiknaaY04f
set_option maxRecDepth 100000
set_option linter.unusedSimpArgs false
namespace Go.Abs
open Go Go.Proofs
mutual
def mapT (f : Int → T) : T → T
  | .mk k n l => if k = 1 then f n else .mk k n (mapTs f l)
def mapTs (f : Int → T) : List T → List T
  | [] => []
  | x :: r => mapT f x :: mapTs f r
end
theorem mapTs_map (f : Int → T) : ∀ l, mapTs f l = l.map (mapT f)
  | [] => rfl
  | x :: r => by simp [mapTs, mapTs_map f r]
theorem mapT_eq (f : Int → T) (x : T) : mapT f x = if x.k = 1 then f x.n else .mk x.k x.n (mapTs f x.l) := by cases x; simp only [mapT, T.k, T.n, T.l]; rfl
def outT : List T → AV
  | [] => .nils
  | v :: r => .lst 3 (avs (v :: r))
theorem avs_snoc (l : List T) (x : T) : avs l ++ [x.av] = avs (l ++ [x]) := by simp [avs_map]
theorem outT_snoc (vs : List T) (n : T) : AV.lst 3 (avs (vs ++ [n])) = outT (vs ++ [n]) := by
  cases vs <;> rfl
theorem outT_one (vs : List T) : (outT vs).one = true := by cases vs <;> rfl
theorem outT_blw (k : Nat) (vs : List T) : (outT vs).blw k = true := by
  cases vs with
  | nil => rfl
  | cons v r => simp only [outT, bw_lst, avs_blw]
theorem ap_outT (b : Nat) (vs : List T) (n : T) (o : Nat) (ψ : List AV → Prop) : aappend 3 b (outT vs) (.lst o [n.av]) ψ = ((vs.length + 1) * b ≤ 140737488355328 ∧ ψ (avs (vs ++ [n]))) := by
  cases vs with
  | nil => simp [outT, ap_nils, ok_T, avs]
  | cons v r =>
    show aappend 3 b (.lst 3 (avs (v :: r))) _ ψ = _
    rw [ap_lst, ok_T, avs_len, avs_snoc]
    simp
theorem outT_drop (vs : List T) : (outT vs).drop = .lst 0 (avs vs) := by cases vs <;> rfl
theorem shaped_kids {x : T} (h : x.shaped = true) : x.l.length ≤ 8 ∧ ∀ y ∈ x.l, y.shaped = true := by
  rw [x.shaped_eq, Bool.and_eq_true, Bool.not_eq_true', Bool.or_eq_false_iff] at h
  have h1 := h.1.2
  have h2 := h.2
  rw [shapeds_all] at h2
  exact ⟨by simpa using h1, fun y hy => List.all_eq_true.1 h2 y hy⟩
theorem mapTs_take (f : Int → T) {l : List T} {i : Nat} (h : i < l.length) : mapTs f (l.take (i + 1)) = mapTs f (l.take i) ++ [mapT f (l.getD i default)] := by
  rw [mapTs_map, mapTs_map, List.take_add_one, List.map_append]
  simp [h]
theorem c77 (g : Nat) (cap : List AV) (f : Int → T) (x : T) (hcap : cap.map AV.unown = cap) (hb : belowL 0 cap = true) (hf : ∀ n, Pure Try.prog g ([.int .i64 n] ++ cap) (f n).av) (hs : x.shaped = true) :
    Pure Try.prog 77 [x.av, .fn (.func g) [] cap] (mapT f x).av := by
  have ih : ∀ y ∈ x.l, Pure Try.prog 77 [y.av, .fn (.func g) [] cap] (mapT f y).av := fun y hy => c77 g cap f y hcap hb hf ((shaped_kids hs).2 y hy)
  refine fun H => ok77.calls (by simp [fi77]) ?_
  simp only [fi77, ir77]
  have hl8 := (shaped_kids hs).1
  simp (contextual := true) (maxSteps := 1000000) only [hcap, stepsS, stepsT, stepsN, if_true, forall_const, ne_eq, implies_true, List.nil_append, List.append_nil, List.cons_append, List.length_cons, List.length_nil, Nat.reduceEqDiff, Nat.reduceAdd, Nat.reduceLT, Nat.reduceLeDiff, ↓reduceIte, reduceCtorEq, Int.reduceEq, Int.reduceLT]
  refine ⟨fun hk => scall_pure (hf x.n) ?_, fun hk _ => ?_⟩
  · simp (contextual := true) (maxSteps := 1000000) only [stepsS, stepsT, stepsN, if_true, forall_const, ne_eq, implies_true, List.nil_append, List.append_nil, List.cons_append, List.length_cons, List.length_nil, Nat.reduceEqDiff, Nat.reduceAdd, Nat.reduceLT, Nat.reduceLeDiff, ↓reduceIte, reduceCtorEq, Int.reduceEq, Int.reduceLT]
    exact ret1v (T.av_blw _ _) (by rw [mapT_eq, if_pos hk])
  · refine swp_loop_nat x.l.length (fun _ => True) (fun i => [(1, .fn (.func g) [] cap), (4, .ptr H.length 0), (5, .ptr (H.length + 1) 0), (21, .lst 0 (avs x.l)), (22, .int .i64 x.l.length), (23, .int .i64 i)])
      (fun i => H ++ [.cells [.int .i64 0, .int .i64 0, .nils], .cells [.int .i64 x.k, .int .i64 x.n, outT (mapTs f (x.l.take i))]]) ⟨trivial, sle_refl _ _ _⟩ fun i hi hI => ?_
    simp (contextual := true) (maxSteps := 1000000) only [outT_one, outT_blw, outT_drop, stepsS, stepsT, stepsN, if_true, forall_const, ne_eq, implies_true, List.nil_append, List.append_nil, List.cons_append, List.length_cons, List.length_nil, Nat.reduceEqDiff, Nat.reduceAdd, Nat.reduceLT, Nat.reduceLeDiff, ↓reduceIte, reduceCtorEq, Int.reduceEq, Int.reduceLT]
    refine ⟨fun hlt => ⟨len_lt hlt, ?_, ?_⟩, fun hge => ?_⟩
    · have hlt := len_lt hlt
      refine scall_pure (ih _ (mem_getD hlt)) ?_
      simp (contextual := true) (maxSteps := 1000000) only [ap_outT, outT_snoc, outT_one, outT_blw, stepsS, stepsT, stepsN, if_true, forall_const, ne_eq, implies_true, List.nil_append, List.append_nil, List.cons_append, List.length_cons, List.length_nil, Nat.reduceEqDiff, Nat.reduceAdd, Nat.reduceLT, Nat.reduceLeDiff, ↓reduceIte, reduceCtorEq, Int.reduceEq, Int.reduceLT]
      refine ⟨by rw [mapTs_map]; simp; omega, i + 1, hlt, by omega, sle_eq (by rw [wrap_nat i (by omega)]) ?_⟩
      rw [mapTs_take f hlt]
    · have hlt := len_lt hlt
      refine scall_pure (ih _ (mem_getD hlt)) ?_
      simp (contextual := true) (maxSteps := 1000000) only [ap_outT, outT_snoc, outT_one, outT_blw, stepsS, stepsT, stepsN, if_true, forall_const, ne_eq, implies_true, List.nil_append, List.append_nil, List.cons_append, List.length_cons, List.length_nil, Nat.reduceEqDiff, Nat.reduceAdd, Nat.reduceLT, Nat.reduceLeDiff, ↓reduceIte, reduceCtorEq, Int.reduceEq, Int.reduceLT]
      refine ⟨by rw [mapTs_map]; simp; omega, i + 1, hlt, by omega, sle_eq (by rw [wrap_nat i (by omega)]) ?_⟩
      rw [mapTs_take f hlt]
    · rw [List.take_of_length_le (len_nlt hge)]
      refine ret1v (by simp only [bw_agg, bl_cons, bw_int, bw_lst, avs_blw, bl_nil, Bool.and_self]) ?_
      rw [mapT_eq, if_neg hk]; rfl
termination_by SizeOf.sizeOf x
decreasing_by exact T.lt hy

/-! ### Shift -/
def shN (from_ by_ n : Int) : Int := if from_ ≤ n then IntKind.i64.wrap (n + by_) else n
theorem c79 (from_ by_ n : Int) : Pure Try.prog 79 [.int .i64 n, .iptr (.int .i64 from_), .iptr (.int .i64 by_)] (T.mk 1 (shN from_ by_ n) []).av := by
  refine fun H => ok79.calls (by simp [fi79]) ?_
  simp only [fi79, ir79]
  simp (contextual := true) (maxSteps := 1000000) only [stepsS, stepsT, stepsN, if_true, forall_const, ne_eq, implies_true, List.nil_append, List.append_nil, List.cons_append, List.length_cons, List.length_nil, Nat.reduceEqDiff, Nat.reduceAdd, Nat.reduceLT, Nat.reduceLeDiff, ↓reduceIte, reduceCtorEq, Int.reduceEq, Int.reduceLT]
  refine ⟨fun h => ret1v ?_ ?_, fun h => ret1v ?_ ?_⟩
  · simp only [bw_agg, bl_cons, bw_int, bw_lst, bl_nil, Bool.and_self]
  · rw [shN, if_pos h]; rfl
  · simp only [bw_agg, bl_cons, bw_int, bw_lst, bl_nil, Bool.and_self]
  · rw [shN, if_neg (by omega)]; rfl
def badV (from_ by_ v : Int) : Bool := decide (from_ ≤ v ∧ ((1000000 < v ∧ 0 ≤ by_) ∨ (1000000 - min v 1000000 < by_ ∧ 0 < by_) ∨ (by_ < 0 ∧ (by_ < from_ - v ∨ 1000000 < v + by_))))
def T0 : T := .mk 0 0 []
def shT (from_ by_ : Int) (t : T) : T := mapT (fun n => .mk 1 (shN from_ by_ n) []) t
def shiftS (t : T) (from_ by_ : Int) : T × Int :=
  if t.tree = true then
    if from_ < 0 then (T0, 1)
    else if (walkVs [t] []).any (badV from_ by_) = true then (T0, 1)
    else (shT from_ by_ t, 0)
  else (T0, 4)
theorem any_drop {p : Int → Bool} {l : List Int} {i : Nat} (h : i < l.length) : (l.drop i).any p = (p (l.getD i 0) || (l.drop (i + 1)).any p) := by
  rw [List.drop_eq_getElem_cons h, List.any_cons]
  simp [h]
theorem T0_blw (n : Nat) : (AV.agg [AV.int IntKind.i64 0, AV.int IntKind.i64 0, AV.lst 0 []]).blw n = true := by
  simp only [bw_agg, bl_cons, bw_int, bw_lst, bl_nil, Bool.and_self]
theorem c33n (t : T) (from_ by_ : Int) (ht : t.tree = false) : Pure Try.prog 33 [t.av, .int .i64 from_, .int .i64 by_] (.tuple [(shiftS t from_ by_).1.av, .int .i64 (shiftS t from_ by_).2]) := by
  refine fun H => ok33.calls (by simp [fi33]) ?_
  simp only [fi33, ir33]
  simp (contextual := true) (maxSteps := 1000000) only [stepsS, stepsT, stepsN, if_true, forall_const, ne_eq, implies_true, List.nil_append, List.append_nil, List.cons_append, List.length_cons, List.length_nil, Nat.reduceEqDiff, Nat.reduceAdd, Nat.reduceLT, Nat.reduceLeDiff, ↓reduceIte, reduceCtorEq, Int.reduceEq, Int.reduceLT]
  refine scall_pure (c57 t) ?_
  rw [ht]
  simp (contextual := true) (maxSteps := 1000000) only [stepsS, stepsT, stepsN, if_true, forall_const, ne_eq, implies_true, List.nil_append, List.append_nil, List.cons_append, List.length_cons, List.length_nil, Nat.reduceEqDiff, Nat.reduceAdd, Nat.reduceLT, Nat.reduceLeDiff, ↓reduceIte, reduceCtorEq, Int.reduceEq, Int.reduceLT]
  exact ret2v (T.av_blw _ _) rfl (by rw [shiftS, if_neg (by rw [ht]; simp)]; rfl) (by rw [shiftS, if_neg (by rw [ht]; simp)]; rfl)
theorem c33 (t : T) (from_ by_ : Int) (hf1 : from_ ≤ 9223372036854775807) (hb0 : -9223372036854775808 ≤ by_) (hb1 : by_ ≤ 9223372036854775807)
    (hv : ∀ v ∈ walkVs [t] [], 0 ≤ v ∧ v ≤ 9223372036854775807) : Pure Try.prog 33 [t.av, .int .i64 from_, .int .i64 by_] (.tuple [(shiftS t from_ by_).1.av, .int .i64 (shiftS t from_ by_).2]) := by
  refine fun H => ok33.calls (by simp [fi33]) ?_
  simp only [fi33, ir33]
  simp (contextual := true) (maxSteps := 1000000) only [stepsS, stepsT, stepsN, if_true, forall_const, ne_eq, implies_true, List.nil_append, List.append_nil, List.cons_append, List.length_cons, List.length_nil, Nat.reduceEqDiff, Nat.reduceAdd, Nat.reduceLT, Nat.reduceLeDiff, ↓reduceIte, reduceCtorEq, Int.reduceEq, Int.reduceLT]
  refine scall_pure (c57 t) ?_
  cases ht : t.tree with
  | false =>
    simp (contextual := true) (maxSteps := 1000000) only [stepsS, stepsT, stepsN, if_true, forall_const, ne_eq, implies_true, List.nil_append, List.append_nil, List.cons_append, List.length_cons, List.length_nil, Nat.reduceEqDiff, Nat.reduceAdd, Nat.reduceLT, Nat.reduceLeDiff, ↓reduceIte, reduceCtorEq, Int.reduceEq, Int.reduceLT]
    exact ret2v (T.av_blw _ _) rfl (by rw [shiftS, if_neg (by rw [ht]; simp)]; rfl) (by rw [shiftS, if_neg (by rw [ht]; simp)]; rfl)
  | true =>
    simp (contextual := true) (maxSteps := 1000000) only [stepsS, stepsT, stepsN, if_true, forall_const, ne_eq, implies_true, List.nil_append, List.append_nil, List.cons_append, List.length_cons, List.length_nil, Nat.reduceEqDiff, Nat.reduceAdd, Nat.reduceLT, Nat.reduceLeDiff, ↓reduceIte, reduceCtorEq, Int.reduceEq, Int.reduceLT]
    refine ⟨fun h => ret2v (T.av_blw _ _) rfl (by rw [shiftS, if_pos ht, if_pos h]; rfl) (by rw [shiftS, if_pos ht, if_pos h]; rfl), fun h => ?_⟩
    have hst := (T.tree_iff t).1 ht
    refine scall_pure (c76 [t] (by simp only [szs]; omega)) ?_
    have e : shiftS t from_ by_ = if (walkVs [t] []).any (badV from_ by_) = true then (T0, 1) else (shT from_ by_ t, 0) := by rw [shiftS, if_pos ht, if_neg (by omega)]
    generalize hL : walkVs [t] [] = L at *
    generalize shiftS t from_ by_ = S at *
    simp (contextual := true) (maxSteps := 1000000) only [stepsS, stepsT, stepsN, if_true, forall_const, ne_eq, implies_true, List.nil_append, List.append_nil, List.cons_append, List.length_cons, List.length_nil, Nat.reduceEqDiff, Nat.reduceAdd, Nat.reduceLT, Nat.reduceLeDiff, ↓reduceIte, reduceCtorEq, Int.reduceEq, Int.reduceLT]
    intro _
    refine swp_loop_nat L.length (fun i => (L.drop i).any (badV from_ by_) = L.any (badV from_ by_)) (fun i => [(3, .iptr t.av), (4, .iptr (.int .i64 from_)), (5, .iptr (.int .i64 by_)), (6, .ptr H.length 0), (19, .lst 0 (ints L)), (20, .int .i64 L.length), (21, .int .i64 i)])
      (fun i => H ++ [.cells [.int .i64 0, .int .i64 0, .nils]]) ⟨rfl, sle_refl _ _ _⟩ fun i hi hI => ?_
    by_cases hlt : i < L.length
    · rw [any_drop hlt] at hI
      have hmem : L.getD i 0 ∈ L := by simp [hlt]
      have hvr := hv _ hmem
      have hE : badV from_ by_ (L.getD i 0) = true → S = (T0, 1) := fun h => by rw [e, if_pos (by rw [← hI, h]; rfl)]
      have hC : badV from_ by_ (L.getD i 0) = false → (L.drop (i + 1)).any (badV from_ by_) = L.any (badV from_ by_) := fun h => by rw [← hI, h]; rfl
      have w1 : IntKind.i64.wrap (1000000 - min (L.getD i 0) 1000000) = 1000000 - min (L.getD i 0) 1000000 := wrap_in _ (by omega)
      have w2 : IntKind.i64.wrap (from_ - L.getD i 0) = from_ - L.getD i 0 := wrap_in _ (by omega)
      have w3 : by_ < 0 → IntKind.i64.wrap (L.getD i 0 + by_) = L.getD i 0 + by_ := fun h => wrap_in _ (by omega)
      have leafE : badV from_ by_ (L.getD i 0) = true → aret2 H.length [.agg [.int .i64 0, .int .i64 0, .lst 0 []], .int .i64 1] (H ++ [.cells [.int .i64 0, .int .i64 0, .nils]])
        (fun r H' => r = .tuple [S.1.av, .int .i64 S.2] ∧ H' = H) := fun h => by rw [hE h]; exact ret2v (T.av_blw H.length T0) rfl rfl rfl
      simp (contextual := true) (maxSteps := 1000000) only [w1, w2, stepsS, stepsT, stepsN, if_true, forall_const, ne_eq, implies_true, List.nil_append, List.append_nil, List.cons_append, List.length_cons, List.length_nil, Nat.reduceEqDiff, Nat.reduceAdd, Nat.reduceLT, Nat.reduceLeDiff, ↓reduceIte, reduceCtorEq, Int.reduceEq, Int.reduceLT]
      refine ⟨fun _ => ⟨hlt, ?_⟩, fun hge => absurd hge (by omega)⟩
      generalize L.getD i 0 = v at *
      have leafC : badV from_ by_ v = false → ∃ j, (j ≤ L.length ∧ (L.drop j).any (badV from_ by_) = L.any (badV from_ by_)) ∧ L.length - j < L.length - i ∧
          sle H.length [(3, t.av.iptr), (4, (AV.int IntKind.i64 from_).iptr), (5, (AV.int IntKind.i64 by_).iptr), (6, AV.ptr H.length 0), (19, AV.lst 0 (ints L)), (20, AV.int IntKind.i64 L.length), (21, AV.int IntKind.i64 (IntKind.i64.wrap (i + 1)))]
            (H ++ [AObj.cells [AV.int IntKind.i64 0, AV.int IntKind.i64 0, AV.nils]])
            [(3, t.av.iptr), (4, (AV.int IntKind.i64 from_).iptr), (5, (AV.int IntKind.i64 by_).iptr), (6, AV.ptr H.length 0), (19, AV.lst 0 (ints L)), (20, AV.int IntKind.i64 L.length), (21, AV.int IntKind.i64 j)]
            (H ++ [AObj.cells [AV.int IntKind.i64 0, AV.int IntKind.i64 0, AV.nils]]) :=
        fun h => ⟨i + 1, ⟨hlt, hC h⟩, by omega, sle_eq (by rw [wrap_nat i (by omega)]) rfl⟩
      clear hI hE hC e hL hv ht hst w1 w2
      repeat' (first | apply And.intro | intro)
      all_goals first
        | exact leafE (by rw [badV, decide_eq_true_eq]; omega)
        | exact leafC (by rw [badV, decide_eq_false_iff_not]; omega)
        | (exfalso; omega)
    · rw [List.drop_of_length_le (by omega)] at hI
      simp (contextual := true) (maxSteps := 1000000) only [stepsS, stepsT, stepsN, if_true, forall_const, ne_eq, implies_true, List.nil_append, List.append_nil, List.cons_append, List.length_cons, List.length_nil, Nat.reduceEqDiff, Nat.reduceAdd, Nat.reduceLT, Nat.reduceLeDiff, ↓reduceIte, reduceCtorEq, Int.reduceEq, Int.reduceLT]
      refine ⟨fun h => absurd h (by omega), fun _ => ?_⟩
      refine scall_pure (c77 79 [.iptr (.int .i64 from_), .iptr (.int .i64 by_)] (fun n => .mk 1 (shN from_ by_ n) []) t rfl rfl (fun n => c79 from_ by_ n) hst.2.2) ?_
      have eS : S = (shT from_ by_ t, 0) := by rw [e, if_neg (by rw [← hI]; simp)]
      rw [eS]
      simp (contextual := true) (maxSteps := 1000000) only [stepsS, stepsT, stepsN, if_true, forall_const, ne_eq, implies_true, List.nil_append, List.append_nil, List.cons_append, List.length_cons, List.length_nil, Nat.reduceEqDiff, Nat.reduceAdd, Nat.reduceLT, Nat.reduceLeDiff, ↓reduceIte, reduceCtorEq, Int.reduceEq, Int.reduceLT]
      exact ret2v (T.av_blw H.length (shT from_ by_ t)) rfl (T.av_unown _) rfl
end Go.Abs
