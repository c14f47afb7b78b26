/- ref.Subst. -/
import Derived.Test.YtcfmgncmkbiknaaY04mb
set_option maxRecDepth 100000
set_option linter.unusedSimpArgs false
set_option linter.unusedVariables false
namespace Go.Abs
open Go Go.Proofs
theorem c60 (t : T) : Pure Try.prog 60 [t.av] (.tuple [(boundS t).1.av, .int .i64 (boundS t).2]) := by
  refine fun H => ok60.calls (by simp [fi60]) ?_
  simp only [fi60, ir60]
  simp (contextual := true) (maxSteps := 1000000) only [stepsS, stepsT, stepsN, if_true, forall_const, ne_eq, implies_true, List.nil_append, List.append_nil, List.cons_append, List.length_cons, List.length_nil, Nat.reduceEqDiff, Nat.reduceAdd, Nat.reduceLT, Nat.reduceLeDiff, ↓reduceIte, reduceCtorEq, Int.reduceEq, Int.reduceLT]
  refine scall_pure (c15' t) ?_
  cases h : t.tree with
  | true =>
    simp (contextual := true) (maxSteps := 1000000) only [stepsS, stepsT, stepsN, if_true, forall_const, ne_eq, implies_true, List.nil_append, List.append_nil, List.cons_append, List.length_cons, List.length_nil, Nat.reduceEqDiff, Nat.reduceAdd, Nat.reduceLT, Nat.reduceLeDiff, ↓reduceIte, reduceCtorEq, Int.reduceEq, Int.reduceLT]
    exact ret2v (T.av_blw _ _) rfl (by rw [boundS, if_pos h]; exact t.av_unown) (by rw [boundS, if_pos h]; rfl)
  | false =>
    simp (contextual := true) (maxSteps := 1000000) only [stepsS, stepsT, stepsN, if_true, forall_const, ne_eq, implies_true, List.nil_append, List.append_nil, List.cons_append, List.length_cons, List.length_nil, Nat.reduceEqDiff, Nat.reduceAdd, Nat.reduceLT, Nat.reduceLeDiff, ↓reduceIte, reduceCtorEq, Int.reduceEq, Int.reduceLT]
    exact ret2v (T.av_blw _ _) rfl (by rw [boundS, if_neg (by rw [h]; simp)]; rfl) (by rw [boundS, if_neg (by rw [h]; simp)]; rfl)
theorem c61 (l : List T) (t : T) (ht : t.shaped = true) (hv : ∀ v ∈ t.fv, v < (l.length : Int)) : Pure Try.prog 61 [t.av, .lst 0 (avs l)] (sub l t).av := by
  have hkids := shaped_kids ht
  have ih : ∀ y ∈ t.l, (∀ v ∈ y.fv, v < (l.length : Int)) → Pure Try.prog 61 [y.av, .lst 0 (avs l)] (sub l y).av := fun y hy hv => c61 l y (hkids.2 y hy) hv
  refine fun H => ok61.calls (by simp [fi61]) ?_
  simp only [fi61, ir61]
  by_cases hk : t.k = 1
  · have hn : t.n ∈ t.fv := by cases t; simp only [T.k] at hk; simp [T.fv, T.n, hk]
    have hn0 := fv_shaped t ht _ hn
    have hn1 := hv _ hn
    have hnn : t.n = ((t.n.toNat : Nat) : Int) := by omega
    have eo : sub l t = l.getD t.n.toNat default := by rw [sub_eq, if_pos hk]
    rw [eo]
    generalize t.n.toNat = m at *
    simp (contextual := true) (maxSteps := 1000000) only [hk, hnn, stepsS, stepsT, stepsN, if_true, forall_const, ne_eq, implies_true, List.nil_append, List.append_nil, List.cons_append, List.length_cons, List.length_nil, Nat.reduceEqDiff, Nat.reduceAdd, Nat.reduceLT, Nat.reduceLeDiff, ↓reduceIte, reduceCtorEq, Int.reduceEq, Int.reduceLT]
    exact ⟨by omega, ret1v (T.av_blw _ _) rfl⟩
  · simp (contextual := true) (maxSteps := 1000000) only [hk, stepsS, stepsT, stepsN, if_true, forall_const, ne_eq, implies_true, List.nil_append, List.append_nil, List.cons_append, List.length_cons, List.length_nil, Nat.reduceEqDiff, Nat.reduceAdd, Nat.reduceLT, Nat.reduceLeDiff, ↓reduceIte, reduceCtorEq, Int.reduceEq, Int.reduceLT]
    refine swp_loop_nat t.l.length (fun _ => True) (fun i => [(1, .lst 0 (avs l)), (2, .iptr t.av), (4, .ptr H.length 0), (5, .ptr (H.length + 1) 0), (6, .int .i64 i)])
      (fun i => H ++ [.cells [.int .i64 0, .int .i64 0, .nils], .cells [.int .i64 t.k, .int .i64 t.n, outT (subs l (t.l.take i))]]) ⟨trivial, sle_refl _ _ _⟩ fun i hi hI => ?_
    simp (contextual := true) (maxSteps := 1000000) only [outT_one, outT_blw, outT_drop, stepsS, stepsT, stepsN, if_true, forall_const, ne_eq, implies_true, List.nil_append, List.append_nil, List.cons_append, List.length_cons, List.length_nil, Nat.reduceEqDiff, Nat.reduceAdd, Nat.reduceLT, Nat.reduceLeDiff, ↓reduceIte, reduceCtorEq, Int.reduceEq, Int.reduceLT]
    intro _
    refine ⟨fun hlt => ?_, fun hge => ?_⟩
    · have hlt := len_lt hlt
      refine ⟨hlt, dcall_pure (ih _ (mem_getD hlt) (fun v hv' => hv v (fvs_mem hk hlt hv'))) ?_⟩
      simp (contextual := true) (maxSteps := 1000000) only [ap_outT, outT_snoc, outT_one, outT_blw, stepsS, stepsT, stepsN, if_true, forall_const, ne_eq, implies_true, List.nil_append, List.append_nil, List.cons_append, List.length_cons, List.length_nil, Nat.reduceEqDiff, Nat.reduceAdd, Nat.reduceLT, Nat.reduceLeDiff, ↓reduceIte, reduceCtorEq, Int.reduceEq, Int.reduceLT]
      have et : subs l (t.l.take (i + 1)) = subs l (t.l.take i) ++ [sub l (t.l.getD i default)] := mapTs_take _ hlt
      refine ⟨by rw [subs, mapTs_map]; simp; omega, i + 1, hlt, by omega, sle_eq (by rw [wrap_nat i (by omega)]) (by rw [et])⟩
    · rw [List.take_of_length_le (len_nlt hge)]
      refine ret1v (by simp only [bw_agg, bl_cons, bw_int, bw_lst, avs_blw, bl_nil, Bool.and_self]) ?_
      rw [sub_eq, if_neg hk]; rfl
termination_by SizeOf.sizeOf t
decreasing_by exact T.lt hy
theorem mostL_lt (m : Int) : ∀ (l : List Int) (a : Int), (mostL l a < m ↔ a < m ∧ ∀ v ∈ l, v < m)
  | [], a => by simp [mostL]
  | x :: r, a => by
    rw [mostL, mostL_lt m r]
    simp only [List.mem_cons]
    constructor
    · rintro ⟨h1, h2⟩
      refine ⟨by omega, fun v hv => ?_⟩
      rcases hv with rfl | hv
      · omega
      · exact h2 v hv
    · rintro ⟨h1, h2⟩
      have := h2 x (.inl rfl)
      exact ⟨by omega, fun v hv => h2 v (.inr hv)⟩
/-- The greatest variable, both ways. -/
theorem most_gts {l : List T} (h : treesB l = true) : mostL (varsL l) (-1) = gts l := by
  have e : varsL l = walkVs l [] := by rw [varsW, if_pos h]
  rw [e]
  have h1 := gts_ge l
  have h2 : -1 ≤ mostL (walkVs l []) (-1) := by
    have := mostL_lt (-1) (walkVs l []) (-1)
    rcases Int.lt_or_le (mostL (walkVs l []) (-1)) (-1) with h | h
    · have := (this.1 h).1; omega
    · exact h
  have k1 := (gts_lt (gts l + 1) (by omega) l).1 (by omega)
  have k2 := (mostL_lt (mostL (walkVs l []) (-1) + 1) (walkVs l []) (-1)).1 (by omega)
  have a := (mostL_lt (gts l + 1) (walkVs l []) (-1)).2 ⟨by omega, fun v hv => k1 v ((mem_walk0 l v).1 hv)⟩
  have b := (gts_lt (mostL (walkVs l []) (-1) + 1) (by omega) l).2 fun v hv => k2.2 v ((mem_walk0 l v).2 hv)
  omega
theorem c22 (t : T) (l : List T) : Pure Try.prog 22 [t.av, .lst 0 (avs l)] (.tuple [(substS t l).1.av, .int .i64 (substS t l).2]) := by
  refine fun H => ok22.calls (by simp [fi22]) ?_
  simp only [fi22, ir22]
  simp (contextual := true) (maxSteps := 1000000) only [stepsS, stepsT, stepsN, if_true, forall_const, ne_eq, implies_true, List.nil_append, List.append_nil, List.cons_append, List.length_cons, List.length_nil, Nat.reduceEqDiff, Nat.reduceAdd, Nat.reduceLT, Nat.reduceLeDiff, ↓reduceIte, reduceCtorEq, Int.reduceEq, Int.reduceLT]
  refine scall_pure (c15' t) ?_
  cases ht : t.tree with
  | false =>
    have e : substS t l = (T0, 4) := by rw [substS, if_neg (by rw [ht]; simp)]
    rw [e]
    simp (contextual := true) (maxSteps := 1000000) only [stepsS, stepsT, stepsN, if_true, forall_const, ne_eq, implies_true, List.nil_append, List.append_nil, List.cons_append, List.length_cons, List.length_nil, Nat.reduceEqDiff, Nat.reduceAdd, Nat.reduceLT, Nat.reduceLeDiff, ↓reduceIte, reduceCtorEq, Int.reduceEq, Int.reduceLT]
    exact ret2v (T.av_blw _ T0) rfl rfl rfl
  | true =>
    simp (contextual := true) (maxSteps := 1000000) only [stepsS, stepsT, stepsN, if_true, forall_const, ne_eq, implies_true, List.nil_append, List.append_nil, List.cons_append, List.length_cons, List.length_nil, Nat.reduceEqDiff, Nat.reduceAdd, Nat.reduceLT, Nat.reduceLeDiff, ↓reduceIte, reduceCtorEq, Int.reduceEq, Int.reduceLT]
    refine scall_pure (c16 l) ?_
    cases hb : treesB l with
    | false =>
      have e : substS t l = (T0, 4) := by rw [substS, if_neg (by rw [hb]; simp)]
      rw [e]
      simp (contextual := true) (maxSteps := 1000000) only [Bool.false_eq_true, stepsS, stepsT, stepsN, if_true, forall_const, ne_eq, implies_true, List.nil_append, List.append_nil, List.cons_append, List.length_cons, List.length_nil, Nat.reduceEqDiff, Nat.reduceAdd, Nat.reduceLT, Nat.reduceLeDiff, ↓reduceIte, reduceCtorEq, Int.reduceEq, Int.reduceLT]
      exact ret2v (T.av_blw _ T0) rfl rfl rfl
    | true =>
      have htt : t.tree = true ∧ treesB l = true := ⟨ht, hb⟩
      have hti := (T.tree_iff _).1 ht
      simp (contextual := true) (maxSteps := 1000000) only [stepsS, stepsT, stepsN, if_true, forall_const, ne_eq, implies_true, List.nil_append, List.append_nil, List.cons_append, List.length_cons, List.length_nil, Nat.reduceEqDiff, Nat.reduceAdd, Nat.reduceLT, Nat.reduceLeDiff, ↓reduceIte, reduceCtorEq, Int.reduceEq, Int.reduceLT]
      refine scall_pure (c29 [t] (by simp only [szs]; omega)) ?_
      simp (contextual := true) (maxSteps := 1000000) only [stepsS, stepsT, stepsN, if_true, forall_const, ne_eq, implies_true, List.nil_append, List.append_nil, List.cons_append, List.length_cons, List.length_nil, Nat.reduceEqDiff, Nat.reduceAdd, Nat.reduceLT, Nat.reduceLeDiff, ↓reduceIte, reduceCtorEq, Int.reduceEq, Int.reduceLT]
      refine scall_pure (c52 _ 0) ?_
      rw [most_gts (by simp [treesB, ht])]
      simp (contextual := true) (maxSteps := 1000000) only [stepsS, stepsT, stepsN, if_true, forall_const, ne_eq, implies_true, List.nil_append, List.append_nil, List.cons_append, List.length_cons, List.length_nil, Nat.reduceEqDiff, Nat.reduceAdd, Nat.reduceLT, Nat.reduceLeDiff, ↓reduceIte, reduceCtorEq, Int.reduceEq, Int.reduceLT]
      refine fun _ => ⟨fun hge => ?_, fun hlt => ?_⟩
      · have e : substS t l = (T0, 1) := by rw [substS, if_pos htt, if_neg (by omega)]
        rw [e]
        exact ret2v (T.av_blw _ T0) rfl rfl rfl
      have e : substS t l = if (sub l t).tree = true then (sub l t, 0) else (T0, 2) := by rw [substS, if_pos htt, if_pos hlt]
      rw [e]
      have hv := (gts_lt l.length (by omega) [t]).1 hlt
      simp only [fvs, List.append_nil] at hv
      refine scall_pure (c61 l t hti.2.2 hv) ?_
      simp (contextual := true) (maxSteps := 1000000) only [stepsS, stepsT, stepsN, if_true, forall_const, ne_eq, implies_true, List.nil_append, List.append_nil, List.cons_append, List.length_cons, List.length_nil, Nat.reduceEqDiff, Nat.reduceAdd, Nat.reduceLT, Nat.reduceLeDiff, ↓reduceIte, reduceCtorEq, Int.reduceEq, Int.reduceLT]
      refine scall_pure (c60 _) ?_
      simp (contextual := true) (maxSteps := 1000000) only [stepsS, stepsT, stepsN, if_true, forall_const, ne_eq, implies_true, List.nil_append, List.append_nil, List.cons_append, List.length_cons, List.length_nil, Nat.reduceEqDiff, Nat.reduceAdd, Nat.reduceLT, Nat.reduceLeDiff, ↓reduceIte, reduceCtorEq, Int.reduceEq, Int.reduceLT]
      exact ret2v (T.av_blw _ _) rfl (T.av_unown _) rfl
end Go.Abs
