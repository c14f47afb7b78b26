/- SigShifts: the law's walk. -/
import Derived.Test.YtcfmgncmkbiknaaY04h
set_option maxRecDepth 100000
set_option linter.unusedSimpArgs false
set_option linter.unusedVariables false
namespace Go.Abs
open Go Go.Proofs
mutual
theorem lookT_sz : ∀ (x : T) (d left : Int), 0 ≤ left → (lookT x d left).1 = true → (lookT x d left).2 = left - x.sz
  | .mk k n l, d, left, h0, h => by
    simp only [lookT, T.sz] at h ⊢
    split at h
    · cases h
    · rename_i hn
      rw [if_neg hn]
      rw [looks_sz l (d + 1) (left - 1) (by omega) h]
      omega
theorem looks_sz : ∀ (l : List T) (d left : Int), 0 ≤ left → (looks l d left).1 = true → (looks l d left).2 = left - szs l
  | [], d, left, h0, h => by simp [looks, szs]
  | x :: r, d, left, h0, h => by
    simp only [looks, szs] at h ⊢
    split at h
    · rename_i hb
      rw [if_pos hb]
      have h1 := lookT_sz x d left h0 hb
      have h2 := lookT_le x d left
      rw [looks_sz r d _ ((h2.2 h0).2 hb) h, h1]
      omega
    · cases h
end
theorem few_sz {l : List T} (h : fewL l = true) : szs l ≤ 6000 := by
  have h1 := looks_sz l 1 6000 (by omega) h
  have h2 := (looks_le l 1 6000).2 (by omega)
  have := h2.2 h
  omega
theorem c9 (t : T) (f a b : Int) (hw : t.wf) (hf : -9223372036854775808 ≤ f ∧ f ≤ 9223372036854775807) : Pure Try.prog 9 [t.av, .int .i64 f, .int .i64 a, .int .i64 b] (.bool true) := by
  have hv := fv_wf t hw
  refine fun H => ok9.calls (by simp [fi9]) ?_
  simp only [fi9, ir9]
  simp (config := {contextual := true, maxSteps := 1000000}) only [stepsS, stepsT, Nat.reduceEqDiff, Nat.reduceAdd, Nat.reduceLT, Nat.reduceLeDiff, ↓reduceIte, reduceCtorEq, Int.reduceEq, Int.reduceLT, if_true, List.nil_append, List.append_nil, List.cons_append, or_true, true_or, true_and, and_true, true_implies, forall_const, Bool.true_and, Bool.and_true, Bool.not_true, Bool.not_false, decide_true, decide_false, ne_eq, Classical.not_not, not_true_eq_false, not_false_eq_true, false_implies, implies_true, Int.not_le, Int.not_lt, Nat.le_refl, List.length_cons, List.length_nil]
  refine scall_pure c13 ?_
  simp (config := {contextual := true, maxSteps := 1000000}) only [stepsS, stepsT, Nat.reduceEqDiff, Nat.reduceAdd, Nat.reduceLT, Nat.reduceLeDiff, ↓reduceIte, reduceCtorEq, Int.reduceEq, Int.reduceLT, if_true, List.nil_append, List.append_nil, List.cons_append, or_true, true_or, true_and, and_true, true_implies, forall_const, Bool.true_and, Bool.and_true, Bool.not_true, Bool.not_false, decide_true, decide_false, ne_eq, Classical.not_not, not_true_eq_false, not_false_eq_true, false_implies, implies_true, Int.not_le, Int.not_lt, Nat.le_refl, List.length_cons, List.length_nil]
  refine scall_pure (c14 [t]) ?_
  cases hfew : fewL [t] with
  | false =>
    simp (config := {contextual := true, maxSteps := 1000000}) only [stepsS, stepsT, Nat.reduceEqDiff, Nat.reduceAdd, Nat.reduceLT, Nat.reduceLeDiff, ↓reduceIte, reduceCtorEq, Int.reduceEq, Int.reduceLT, if_true, List.nil_append, List.append_nil, List.cons_append, or_true, true_or, true_and, and_true, true_implies, forall_const, Bool.true_and, Bool.and_true, Bool.not_true, Bool.not_false, decide_true, decide_false, ne_eq, Classical.not_not, not_true_eq_false, not_false_eq_true, false_implies, implies_true, Int.not_le, Int.not_lt, Nat.le_refl, List.length_cons, List.length_nil]
    exact ret0 rfl rfl
  | true =>
    have hsz := few_sz hfew
    simp (config := {contextual := true, maxSteps := 1000000}) only [stepsS, stepsT, Nat.reduceEqDiff, Nat.reduceAdd, Nat.reduceLT, Nat.reduceLeDiff, ↓reduceIte, reduceCtorEq, Int.reduceEq, Int.reduceLT, if_true, List.nil_append, List.append_nil, List.cons_append, or_true, true_or, true_and, and_true, true_implies, forall_const, Bool.true_and, Bool.and_true, Bool.not_true, Bool.not_false, decide_true, decide_false, ne_eq, Classical.not_not, not_true_eq_false, not_false_eq_true, false_implies, implies_true, Int.not_le, Int.not_lt, Nat.le_refl, List.length_cons, List.length_nil]
    refine ⟨fun ha0 => ⟨fun ha1 => ⟨fun hb0 => ⟨fun _ => ret0 rfl rfl, fun hb1 => ?_⟩, fun _ => ret0 rfl rfl⟩, fun _ => ret0 rfl rfl⟩, fun _ => ret0 rfl rfl⟩
    refine scall_pure (c33' t f a hf.2 (by omega) (by omega) fun _ => hv) ?_
    simp (config := {contextual := true, maxSteps := 1000000}) only [stepsS, stepsT, Nat.reduceEqDiff, Nat.reduceAdd, Nat.reduceLT, Nat.reduceLeDiff, ↓reduceIte, reduceCtorEq, Int.reduceEq, Int.reduceLT, if_true, List.nil_append, List.append_nil, List.cons_append, or_true, true_or, true_and, and_true, true_implies, forall_const, Bool.true_and, Bool.and_true, Bool.not_true, Bool.not_false, decide_true, decide_false, ne_eq, Classical.not_not, not_true_eq_false, not_false_eq_true, false_implies, implies_true, Int.not_le, Int.not_lt, Nat.le_refl, List.length_cons, List.length_nil]
    generalize hS : shiftS t f a = S at *
    refine ⟨fun he => ?_, fun he => ?_⟩
    · have := shift_err (t := t) (f := f) (b := a) (by rw [hS]; exact he)
      rw [hS] at this
      rw [this]
      exact ret0 rfl rfl
    · have hlaw := shift_law hv (by omega : -2000000 ≤ a ∧ a ≤ 2000000) (by omega : -2000000 ≤ b ∧ b ≤ 2000000) (by rw [hS]; exact he)
      rw [hS] at hlaw
      obtain ⟨l1, l2, l3⟩ := hlaw
      have wn : IntKind.i64.wrap (0 - a) = -a := by rw [wrap_in _ (by omega)]; omega
      have wab : IntKind.i64.wrap (a + b) = a + b := wrap_in _ (by omega)
      refine ⟨fun hap => ?_, fun hap => ?_⟩
      · simp (config := {contextual := true, maxSteps := 1000000}) only [wn, stepsS, stepsT, Nat.reduceEqDiff, Nat.reduceAdd, Nat.reduceLT, Nat.reduceLeDiff, ↓reduceIte, reduceCtorEq, Int.reduceEq, Int.reduceLT, if_true, List.nil_append, List.append_nil, List.cons_append, or_true, true_or, true_and, and_true, true_implies, forall_const, Bool.true_and, Bool.and_true, Bool.not_true, Bool.not_false, decide_true, decide_false, ne_eq, Classical.not_not, not_true_eq_false, not_false_eq_true, false_implies, implies_true, Int.not_le, Int.not_lt, Nat.le_refl, List.length_cons, List.length_nil]
        refine scall_pure (c33' S.1 f (-a) hf.2 (by omega) (by omega) fun _ => l3) ?_
        rw [(l1 hap).1, (l1 hap).2]
        simp (config := {contextual := true, maxSteps := 1000000}) only [stepsS, stepsT, Nat.reduceEqDiff, Nat.reduceAdd, Nat.reduceLT, Nat.reduceLeDiff, ↓reduceIte, reduceCtorEq, Int.reduceEq, Int.reduceLT, if_true, List.nil_append, List.append_nil, List.cons_append, or_true, true_or, true_and, and_true, true_implies, forall_const, Bool.true_and, Bool.and_true, Bool.not_true, Bool.not_false, decide_true, decide_false, ne_eq, Classical.not_not, not_true_eq_false, not_false_eq_true, false_implies, implies_true, Int.not_le, Int.not_lt, Nat.le_refl, List.length_cons, List.length_nil]
        refine scall_pure (c20 t t) ?_
        rw [(T.same_iff t t).2 rfl]
        simp (config := {contextual := true, maxSteps := 1000000}) only [stepsS, stepsT, Nat.reduceEqDiff, Nat.reduceAdd, Nat.reduceLT, Nat.reduceLeDiff, ↓reduceIte, reduceCtorEq, Int.reduceEq, Int.reduceLT, if_true, List.nil_append, List.append_nil, List.cons_append, or_true, true_or, true_and, and_true, true_implies, forall_const, Bool.true_and, Bool.and_true, Bool.not_true, Bool.not_false, decide_true, decide_false, ne_eq, Classical.not_not, not_true_eq_false, not_false_eq_true, false_implies, implies_true, Int.not_le, Int.not_lt, Nat.le_refl, List.length_cons, List.length_nil]
        refine scall_pure (c33' S.1 f b hf.2 (by omega) (by omega) fun _ => l3) ?_
        simp (config := {contextual := true, maxSteps := 1000000}) only [wab, stepsS, stepsT, Nat.reduceEqDiff, Nat.reduceAdd, Nat.reduceLT, Nat.reduceLeDiff, ↓reduceIte, reduceCtorEq, Int.reduceEq, Int.reduceLT, if_true, List.nil_append, List.append_nil, List.cons_append, or_true, true_or, true_and, and_true, true_implies, forall_const, Bool.true_and, Bool.and_true, Bool.not_true, Bool.not_false, decide_true, decide_false, ne_eq, Classical.not_not, not_true_eq_false, not_false_eq_true, false_implies, implies_true, Int.not_le, Int.not_lt, Nat.le_refl, List.length_cons, List.length_nil]
        refine scall_pure (c33' t f (a + b) hf.2 (by omega) (by omega) fun _ => hv) ?_
        simp (config := {contextual := true, maxSteps := 1000000}) only [stepsS, stepsT, Nat.reduceEqDiff, Nat.reduceAdd, Nat.reduceLT, Nat.reduceLeDiff, ↓reduceIte, reduceCtorEq, Int.reduceEq, Int.reduceLT, if_true, List.nil_append, List.append_nil, List.cons_append, or_true, true_or, true_and, and_true, true_implies, forall_const, Bool.true_and, Bool.and_true, Bool.not_true, Bool.not_false, decide_true, decide_false, ne_eq, Classical.not_not, not_true_eq_false, not_false_eq_true, false_implies, implies_true, Int.not_le, Int.not_lt, Nat.le_refl, List.length_cons, List.length_nil]
        refine ⟨fun h2 => ⟨fun h3 => scall_pure (c20 _ _) ?_, fun h3 => absurd (l2 h2).1 h3⟩, fun h2 => ret0 rfl rfl⟩
        rw [(l2 h2).2, (T.same_iff _ _).2 rfl]
        simp (config := {contextual := true, maxSteps := 1000000}) only [stepsS, stepsT, Nat.reduceEqDiff, Nat.reduceAdd, Nat.reduceLT, Nat.reduceLeDiff, ↓reduceIte, reduceCtorEq, Int.reduceEq, Int.reduceLT, if_true, List.nil_append, List.append_nil, List.cons_append, or_true, true_or, true_and, and_true, true_implies, forall_const, Bool.true_and, Bool.and_true, Bool.not_true, Bool.not_false, decide_true, decide_false, ne_eq, Classical.not_not, not_true_eq_false, not_false_eq_true, false_implies, implies_true, Int.not_le, Int.not_lt, Nat.le_refl, List.length_cons, List.length_nil]
        exact ret0 rfl rfl
      · simp (config := {contextual := true, maxSteps := 1000000}) only [stepsS, stepsT, Nat.reduceEqDiff, Nat.reduceAdd, Nat.reduceLT, Nat.reduceLeDiff, ↓reduceIte, reduceCtorEq, Int.reduceEq, Int.reduceLT, if_true, List.nil_append, List.append_nil, List.cons_append, or_true, true_or, true_and, and_true, true_implies, forall_const, Bool.true_and, Bool.and_true, Bool.not_true, Bool.not_false, decide_true, decide_false, ne_eq, Classical.not_not, not_true_eq_false, not_false_eq_true, false_implies, implies_true, Int.not_le, Int.not_lt, Nat.le_refl, List.length_cons, List.length_nil]
        refine scall_pure (c33' S.1 f b hf.2 (by omega) (by omega) fun _ => l3) ?_
        simp (config := {contextual := true, maxSteps := 1000000}) only [wab, stepsS, stepsT, Nat.reduceEqDiff, Nat.reduceAdd, Nat.reduceLT, Nat.reduceLeDiff, ↓reduceIte, reduceCtorEq, Int.reduceEq, Int.reduceLT, if_true, List.nil_append, List.append_nil, List.cons_append, or_true, true_or, true_and, and_true, true_implies, forall_const, Bool.true_and, Bool.and_true, Bool.not_true, Bool.not_false, decide_true, decide_false, ne_eq, Classical.not_not, not_true_eq_false, not_false_eq_true, false_implies, implies_true, Int.not_le, Int.not_lt, Nat.le_refl, List.length_cons, List.length_nil]
        refine scall_pure (c33' t f (a + b) hf.2 (by omega) (by omega) fun _ => hv) ?_
        simp (config := {contextual := true, maxSteps := 1000000}) only [stepsS, stepsT, Nat.reduceEqDiff, Nat.reduceAdd, Nat.reduceLT, Nat.reduceLeDiff, ↓reduceIte, reduceCtorEq, Int.reduceEq, Int.reduceLT, if_true, List.nil_append, List.append_nil, List.cons_append, or_true, true_or, true_and, and_true, true_implies, forall_const, Bool.true_and, Bool.and_true, Bool.not_true, Bool.not_false, decide_true, decide_false, ne_eq, Classical.not_not, not_true_eq_false, not_false_eq_true, false_implies, implies_true, Int.not_le, Int.not_lt, Nat.le_refl, List.length_cons, List.length_nil]
        refine ⟨fun h2 => ⟨fun h3 => scall_pure (c20 _ _) ?_, fun h3 => absurd (l2 h2).1 h3⟩, fun h2 => ret0 rfl rfl⟩
        rw [(l2 h2).2, (T.same_iff _ _).2 rfl]
        simp (config := {contextual := true, maxSteps := 1000000}) only [stepsS, stepsT, Nat.reduceEqDiff, Nat.reduceAdd, Nat.reduceLT, Nat.reduceLeDiff, ↓reduceIte, reduceCtorEq, Int.reduceEq, Int.reduceLT, if_true, List.nil_append, List.append_nil, List.cons_append, or_true, true_or, true_and, and_true, true_implies, forall_const, Bool.true_and, Bool.and_true, Bool.not_true, Bool.not_false, decide_true, decide_false, ne_eq, Classical.not_not, not_true_eq_false, not_false_eq_true, false_implies, implies_true, Int.not_le, Int.not_lt, Nat.le_refl, List.length_cons, List.length_nil]
        exact ret0 rfl rfl
end Go.Abs
