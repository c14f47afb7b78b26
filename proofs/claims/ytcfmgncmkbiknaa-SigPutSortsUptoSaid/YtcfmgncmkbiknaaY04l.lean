/- Subst; what is behind what. -/
import Derived.Test.YtcfmgncmkbiknaaY04k
set_option maxRecDepth 100000
set_option linter.unusedSimpArgs false
set_option linter.unusedVariables false
namespace Go.Abs
open Go Go.Proofs
mutual
theorem gtT_lt (m : Int) (hm : 0 ≤ m) : ∀ (x : T), (gtT x < m ↔ ∀ v ∈ x.fv, v < m)
  | .mk k n l => by
    have h := gts_lt m hm l
    simp only [gtT, T.fv]
    by_cases hk : k = 1
    · rw [if_pos hk, if_pos hk]
      constructor
      · intro h2 v hv
        rcases List.mem_cons.1 hv with rfl | hv
        · omega
        · exact h.1 (by omega) v hv
      · intro h2
        have := h2 n (by simp)
        have := h.2 fun v hv => h2 v (List.mem_cons_of_mem _ hv)
        omega
    · rw [if_neg hk, if_neg hk, ← h]
      omega
theorem gts_lt (m : Int) (hm : 0 ≤ m) : ∀ (l : List T), (gts l < m ↔ ∀ v ∈ fvs l, v < m)
  | [] => by simp only [gts, fvs]; simp; omega
  | x :: r => by
    simp only [gts, fvs, List.mem_append]
    have h1 := gtT_lt m hm x
    have h2 := gts_lt m hm r
    constructor
    · intro h v hv
      rcases hv with hv | hv
      · exact h1.1 (by omega) v hv
      · exact h2.1 (by omega) v hv
    · intro h
      have := h1.2 fun v hv => h v (.inl hv)
      have := h2.2 fun v hv => h v (.inr hv)
      omega
end
def substS (t : T) (l : List T) : T × Int :=
  if t.tree = true ∧ treesB l = true then if gts [t] < l.length then if (sub l t).tree = true then (sub l t, 0) else (T0, 2) else (T0, 1) else (T0, 4)
theorem bd02 (a b c : AV) (x y : AV) (φ : AV → Prop) (hb : c.unown = c) : abuild [a, b, c] [(0, 1, x), (2, 1, y)] φ = (x.val = true ∧ x.cells.length = 1 ∧ y.val = true ∧ y.cells.length = 1 ∧ φ (.agg (asplice (asplice [a, b, c] 0 (x.cells.map AV.unown)) 2 (y.cells.map AV.unown)))) := by
  simp only [abuild, afill, eq_iff_iff]
  constructor
  · rintro ⟨h1, h2, h3, h4, h5, h6, h7⟩; exact ⟨h1, h2, h4, h5, h7⟩
  · rintro ⟨h1, h2, h4, h5, h7⟩
    have e1 : (x.cells.map AV.unown).length = 1 := by simpa using h2
    refine ⟨h1, h2, by simp, h4, h5, ?_, h7⟩
    simp [asplice, h2]
theorem c19 (t : T) (l : List T) (hl : l.length * 40 ≤ 140737488355328) : Pure Try.prog 19 [t.av, .lst 0 (avs l)] (.tuple [(substS t l).1.av, .int .i64 (substS t l).2]) := by
  refine fun H => ok19.calls (by simp [fi19]) ?_
  simp only [fi19, ir19]
  simp (contextual := true) (maxSteps := 1000000) only [stepsS, stepsT, stepsN, if_true, forall_const, ne_eq, implies_true, List.nil_append, List.append_nil, List.cons_append, List.length_cons, List.length_nil, Nat.reduceEqDiff, Nat.reduceAdd, Nat.reduceLT, Nat.reduceLeDiff, ↓reduceIte, reduceCtorEq, Int.reduceEq, Int.reduceLT]
  refine scall_pure (c57 t) ?_
  cases ht : t.tree with
  | false =>
    have e : substS t l = (T0, 4) := by rw [substS, if_neg (by rw [ht]; simp)]
    rw [e]
    simp (contextual := true) (maxSteps := 1000000) only [stepsS, stepsT, stepsN, if_true, forall_const, ne_eq, implies_true, List.nil_append, List.append_nil, List.cons_append, List.length_cons, List.length_nil, Nat.reduceEqDiff, Nat.reduceAdd, Nat.reduceLT, Nat.reduceLeDiff, ↓reduceIte, reduceCtorEq, Int.reduceEq, Int.reduceLT]
    exact ret2v (T.av_blw _ T0) rfl rfl rfl
  | true =>
    simp (contextual := true) (maxSteps := 1000000) only [stepsS, stepsT, stepsN, if_true, forall_const, ne_eq, implies_true, List.nil_append, List.append_nil, List.cons_append, List.length_cons, List.length_nil, Nat.reduceEqDiff, Nat.reduceAdd, Nat.reduceLT, Nat.reduceLeDiff, ↓reduceIte, reduceCtorEq, Int.reduceEq, Int.reduceLT]
    refine scall_pure (c53 l) ?_
    cases hb : treesB l with
    | false =>
      have e : substS t l = (T0, 4) := by rw [substS, if_neg (by rw [hb]; simp)]
      rw [e]
      simp (contextual := true) (maxSteps := 1000000) only [Bool.false_eq_true, stepsS, stepsT, stepsN, if_true, forall_const, ne_eq, implies_true, List.nil_append, List.append_nil, List.cons_append, List.length_cons, List.length_nil, Nat.reduceEqDiff, Nat.reduceAdd, Nat.reduceLT, Nat.reduceLeDiff, ↓reduceIte, reduceCtorEq, Int.reduceEq, Int.reduceLT]
      exact ret2v (T.av_blw _ T0) rfl rfl rfl
    | true =>
      have htt : t.tree = true ∧ treesB l = true := ⟨ht, hb⟩
      have hti := (T.tree_iff _).1 ht
      simp (contextual := true) (maxSteps := 1000000) only [stepsS, stepsT, stepsN, if_true, forall_const, ne_eq, implies_true, List.nil_append, List.append_nil, List.cons_append, List.length_cons, List.length_nil, Nat.reduceEqDiff, Nat.reduceAdd, Nat.reduceLT, Nat.reduceLeDiff, ↓reduceIte, reduceCtorEq, Int.reduceEq, Int.reduceLT]
      refine scall_pure (c54 [t]) ?_
      simp (contextual := true) (maxSteps := 1000000) only [bd02, stepsS, stepsT, stepsN, if_true, forall_const, ne_eq, implies_true, List.nil_append, List.append_nil, List.cons_append, List.length_cons, List.length_nil, Nat.reduceEqDiff, Nat.reduceAdd, Nat.reduceLT, Nat.reduceLeDiff, ↓reduceIte, reduceCtorEq, Int.reduceEq, Int.reduceLT]
      refine fun _ => ⟨fun hge => ?_, fun hlt => ?_⟩
      · have e : substS t l = (T0, 1) := by rw [substS, if_pos htt, if_neg (by omega)]
        rw [e]
        exact ret2v (T.av_blw _ T0) rfl rfl rfl
      have e : substS t l = if (sub l t).tree = true then (sub l t, 0) else (T0, 2) := by rw [substS, if_pos htt, if_pos hlt]
      rw [e]
      have hv := (gts_lt l.length (by omega) [t]).1 hlt
      simp only [fvs, List.append_nil] at hv
      refine swp_loop_nat l.length (fun _ => True) (fun i => [(2, .iptr t.av), (4, .ptr H.length 0), (6, .ptr (H.length + 1) 0), (32, .lst 0 (avs l)), (33, .int .i64 l.length), (34, .int .i64 i)])
          (fun i => H ++ [.cells [.int .i64 0, .int .i64 0, .nils], .cells [.lst 0 (avs l), outC ((l.take i).map T.sz), .int .i64 2000]]) ⟨trivial, sle_refl _ _ _⟩ fun i hi hI => ?_
      simp (contextual := true) (maxSteps := 1000000) only [outC_one, outC_blw, stepsS, stepsT, stepsN, if_true, forall_const, ne_eq, implies_true, List.nil_append, List.append_nil, List.cons_append, List.length_cons, List.length_nil, Nat.reduceEqDiff, Nat.reduceAdd, Nat.reduceLT, Nat.reduceLeDiff, ↓reduceIte, reduceCtorEq, Int.reduceEq, Int.reduceLT]
      refine ⟨fun hlt => ⟨len_lt hlt, ?_⟩, fun hge => ?_⟩
      · have hlt := len_lt hlt
        have htr := (T.tree_iff _).1 (List.all_eq_true.1 hb _ (mem_getD hlt))
        have es : (sizeS (l.getD i default)).1 = (l.getD i default).sz := by rw [sizeS, if_pos ⟨htr.1, htr.2.1⟩]
        have et : (l.take (i + 1)).map T.sz = (l.take i).map T.sz ++ [(l.getD i default).sz] := by
          rw [List.take_add_one, List.map_append]; simp [hlt]
        refine scall_pure (c34 _) ?_
        simp (contextual := true) (maxSteps := 1000000) only [es, ap_out, outC_snoc, outC_one, outC_blw, stepsS, stepsT, stepsN, if_true, forall_const, ne_eq, implies_true, List.nil_append, List.append_nil, List.cons_append, List.length_cons, List.length_nil, Nat.reduceEqDiff, Nat.reduceAdd, Nat.reduceLT, Nat.reduceLeDiff, ↓reduceIte, reduceCtorEq, Int.reduceEq, Int.reduceLT]
        refine ⟨by simp; omega, i + 1, hlt, by omega, sle_eq (by rw [wrap_nat i (by omega)]) (by rw [et])⟩
      · rw [List.take_of_length_le (len_nlt hge)]
        refine scall_to (c58 l (Fam.mk2 H (fillO l) (.cells [.int .i64 0, .int .i64 0, .nils]) []) t 2000 hti.2.2 hb hv (by omega) (by omega)) ?_
        rintro r H' (⟨h1, rfl, rfl⟩ | ⟨h1, rfl, left', rfl⟩)
        · simp (contextual := true) (maxSteps := 1000000) only [stepsS, stepsT, stepsN, if_true, forall_const, ne_eq, implies_true, List.nil_append, List.append_nil, List.cons_append, List.length_cons, List.length_nil, Nat.reduceEqDiff, Nat.reduceAdd, Nat.reduceLT, Nat.reduceLeDiff, ↓reduceIte, reduceCtorEq, Int.reduceEq, Int.reduceLT]
          refine scall_pure (c59 _) ?_
          simp (contextual := true) (maxSteps := 1000000) only [stepsS, stepsT, stepsN, if_true, forall_const, ne_eq, implies_true, List.nil_append, List.append_nil, List.cons_append, List.length_cons, List.length_nil, Nat.reduceEqDiff, Nat.reduceAdd, Nat.reduceLT, Nat.reduceLeDiff, ↓reduceIte, reduceCtorEq, Int.reduceEq, Int.reduceLT]
          exact ret2v (T.av_blw _ _) rfl (T.av_unown _) rfl
        · simp (contextual := true) (maxSteps := 1000000) only [stepsS, stepsT, stepsN, if_true, forall_const, ne_eq, implies_true, List.nil_append, List.append_nil, List.cons_append, List.length_cons, List.length_nil, Nat.reduceEqDiff, Nat.reduceAdd, Nat.reduceLT, Nat.reduceLeDiff, ↓reduceIte, reduceCtorEq, Int.reduceEq, Int.reduceLT]
          have e2 : ¬ (sub l t).tree = true := fun h => by have := ((T.tree_iff _).1 h).1; omega
          rw [if_neg e2]
          exact ret2v (T.av_blw _ T0) rfl rfl rfl
end Go.Abs
