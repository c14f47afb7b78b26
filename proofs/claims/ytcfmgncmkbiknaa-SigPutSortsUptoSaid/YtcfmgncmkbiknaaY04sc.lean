/- Signatures: what is checked of an operation; its key. -/
import Derived.Test.YtcfmgncmkbiknaaY04sb
set_option maxRecDepth 100000
set_option linter.unusedSimpArgs false
set_option linter.unusedVariables false
namespace Go.Abs
open Go Go.Proofs
def isS (n a : Int) : Bool := decide (0 ≤ a) && decide (a < n)
theorem c105 (n a : Int) : Pure Try.prog 105 [.int .i64 a, .iptr (.int .i64 n)] (.bool (isS n a)) := by
  refine fun H => ok105.calls (by simp [fi105]) ?_
  simp only [fi105, ir105]
  unfold isS
  simp (contextual := true) (maxSteps := 1000000) only [stepsS, stepsT, stepsN, if_true, forall_const, ne_eq, implies_true, List.nil_append, List.append_nil, List.cons_append, List.length_cons, List.length_nil, Nat.reduceEqDiff, Nat.reduceAdd, Nat.reduceLT, Nat.reduceLeDiff, ↓reduceIte, reduceCtorEq, Int.reduceEq, Int.reduceLT]
  refine ⟨fun h => ret0 rfl (by simp [h]), fun h => ret0 rfl (by simp; omega)⟩
theorem c107 (n a : Int) : Pure Try.prog 107 [.int .i64 a, .iptr (.fn (.func 105) [] [.iptr (.int .i64 n)])] (.bool (!isS n a)) := by
  refine fun H => ok107.calls (by simp [fi107]) ?_
  simp only [fi107, ir107]
  simp (contextual := true) (maxSteps := 1000000) only [stepsS, stepsT, stepsN, if_true, forall_const, ne_eq, implies_true, List.nil_append, List.append_nil, List.cons_append, List.length_cons, List.length_nil, Nat.reduceEqDiff, Nat.reduceAdd, Nat.reduceLT, Nat.reduceLeDiff, ↓reduceIte, reduceCtorEq, Int.reduceEq, Int.reduceLT]
  refine scall_pure (c105 n a) ?_
  simp (contextual := true) (maxSteps := 1000000) only [stepsS, stepsT, stepsN, if_true, forall_const, ne_eq, implies_true, List.nil_append, List.append_nil, List.cons_append, List.length_cons, List.length_nil, Nat.reduceEqDiff, Nat.reduceAdd, Nat.reduceLT, Nat.reduceLeDiff, ↓reduceIte, reduceCtorEq, Int.reduceEq, Int.reduceLT]
  exact ret0 rfl rfl
/-- Whether an operation fits so many sorts. -/
def goodB (o : Opn) (n : Int) : Bool :=
  nameB o.name && (decide (cntB o.name 95 < o.name.size) && ((decide (cntB o.name 95 = 0) || decide (cntB o.name 95 = o.args.length)) && (decide ((o.args.length : Int) ≤ 8) && (isS n o.res && !o.args.any fun a => !isS n a))))
theorem c90 (o : Opn) (n : Int) : Pure Try.prog 90 [o.av, .int .i64 n] (.bool (goodB o n)) := by
  refine fun H => ok90.calls (by simp [fi90]) ?_
  simp only [fi90, ir90]
  unfold goodB
  simp (contextual := true) (maxSteps := 1000000) only [stepsO, stepsS, stepsT, stepsN, if_true, forall_const, ne_eq, implies_true, List.nil_append, List.append_nil, List.cons_append, List.length_cons, List.length_nil, Nat.reduceEqDiff, Nat.reduceAdd, Nat.reduceLT, Nat.reduceLeDiff, ↓reduceIte, reduceCtorEq, Int.reduceEq, Int.reduceLT]
  refine scall_pure (c106 o.name) ?_
  simp (contextual := true) (maxSteps := 1000000) only [stepsO, stepsS, stepsT, stepsN, if_true, forall_const, ne_eq, implies_true, List.nil_append, List.append_nil, List.cons_append, List.length_cons, List.length_nil, Nat.reduceEqDiff, Nat.reduceAdd, Nat.reduceLT, Nat.reduceLeDiff, ↓reduceIte, reduceCtorEq, Int.reduceEq, Int.reduceLT]
  refine scall_pure (c88 o.name) ?_
  cases hn : nameB o.name with
  | false =>
    simp (contextual := true) (maxSteps := 1000000) only [stepsO, Bool.false_eq_true, stepsS, stepsT, stepsN, if_true, forall_const, ne_eq, implies_true, List.nil_append, List.append_nil, List.cons_append, List.length_cons, List.length_nil, Nat.reduceEqDiff, Nat.reduceAdd, Nat.reduceLT, Nat.reduceLeDiff, ↓reduceIte, reduceCtorEq, Int.reduceEq, Int.reduceLT]
    exact ret0 rfl rfl
  | true =>
    have h66 := c66 107 [.iptr (.fn (.func 105) [] [.iptr (.int .i64 n)])] rfl rfl (fun a => !isS n a) o.args (fun a _ => c107 n a)
    have h105 := c105 n o.res
    generalize isS n o.res = q at h105 ⊢
    generalize (o.args.any fun a => !isS n a) = z at h66 ⊢
    by_cases h1 : cntB o.name 95 < o.name.size
    · have e1 : decide (cntB o.name 95 < o.name.size) = true := decide_eq_true h1
      simp (contextual := true) (maxSteps := 1000000) only [stepsO, h1, stepsS, stepsT, stepsN, if_true, forall_const, ne_eq, implies_true, List.nil_append, List.append_nil, List.cons_append, List.length_cons, List.length_nil, Nat.reduceEqDiff, Nat.reduceAdd, Nat.reduceLT, Nat.reduceLeDiff, ↓reduceIte, reduceCtorEq, Int.reduceEq, Int.reduceLT]
      refine ⟨fun h20 _ => ⟨fun h21 => ?_, fun h21 => ?_⟩, fun h20 _ => ?_⟩
      · have e2 : (decide (cntB o.name 95 = 0) || decide (cntB o.name 95 = (o.args.length : Int))) = true := by simp [h21]
        refine ⟨fun h3 => scall_pure h105 ?_, fun h3 => ?_⟩
        · have e3 : decide ((o.args.length : Int) ≤ 8) = true := decide_eq_true h3
          rw [e1, e2, e3]
          cases q with
          | false =>
            simp (contextual := true) (maxSteps := 1000000) only [stepsO, Bool.false_eq_true, stepsS, stepsT, stepsN, if_true, forall_const, ne_eq, implies_true, List.nil_append, List.append_nil, List.cons_append, List.length_cons, List.length_nil, Nat.reduceEqDiff, Nat.reduceAdd, Nat.reduceLT, Nat.reduceLeDiff, ↓reduceIte, reduceCtorEq, Int.reduceEq, Int.reduceLT]
            exact ret0 rfl (by simp)
          | true =>
            simp (contextual := true) (maxSteps := 1000000) only [stepsO, stepsS, stepsT, stepsN, if_true, forall_const, ne_eq, implies_true, List.nil_append, List.append_nil, List.cons_append, List.length_cons, List.length_nil, Nat.reduceEqDiff, Nat.reduceAdd, Nat.reduceLT, Nat.reduceLeDiff, ↓reduceIte, reduceCtorEq, Int.reduceEq, Int.reduceLT]
            refine scall_pure h66 ?_
            simp (contextual := true) (maxSteps := 1000000) only [stepsO, stepsS, stepsT, stepsN, if_true, forall_const, ne_eq, implies_true, List.nil_append, List.append_nil, List.cons_append, List.length_cons, List.length_nil, Nat.reduceEqDiff, Nat.reduceAdd, Nat.reduceLT, Nat.reduceLeDiff, ↓reduceIte, reduceCtorEq, Int.reduceEq, Int.reduceLT]
            exact ret0 rfl (by simp)
        · have e3 : decide ((o.args.length : Int) ≤ 8) = false := decide_eq_false (by omega)
          exact ret0 rfl (by rw [e3]; simp)
      · have e2 : (decide (cntB o.name 95 = 0) || decide (cntB o.name 95 = (o.args.length : Int))) = false := by simp [h20, h21]
        exact ret0 rfl (by rw [e2]; simp)
      · have e2 : (decide (cntB o.name 95 = 0) || decide (cntB o.name 95 = (o.args.length : Int))) = true := by simp [h20]
        refine ⟨fun h3 => scall_pure h105 ?_, fun h3 => ?_⟩
        · have e3 : decide ((o.args.length : Int) ≤ 8) = true := decide_eq_true h3
          rw [e1, e2, e3]
          cases q with
          | false =>
            simp (contextual := true) (maxSteps := 1000000) only [stepsO, Bool.false_eq_true, stepsS, stepsT, stepsN, if_true, forall_const, ne_eq, implies_true, List.nil_append, List.append_nil, List.cons_append, List.length_cons, List.length_nil, Nat.reduceEqDiff, Nat.reduceAdd, Nat.reduceLT, Nat.reduceLeDiff, ↓reduceIte, reduceCtorEq, Int.reduceEq, Int.reduceLT]
            exact ret0 rfl (by simp)
          | true =>
            simp (contextual := true) (maxSteps := 1000000) only [stepsO, stepsS, stepsT, stepsN, if_true, forall_const, ne_eq, implies_true, List.nil_append, List.append_nil, List.cons_append, List.length_cons, List.length_nil, Nat.reduceEqDiff, Nat.reduceAdd, Nat.reduceLT, Nat.reduceLeDiff, ↓reduceIte, reduceCtorEq, Int.reduceEq, Int.reduceLT]
            refine scall_pure h66 ?_
            simp (contextual := true) (maxSteps := 1000000) only [stepsO, stepsS, stepsT, stepsN, if_true, forall_const, ne_eq, implies_true, List.nil_append, List.append_nil, List.cons_append, List.length_cons, List.length_nil, Nat.reduceEqDiff, Nat.reduceAdd, Nat.reduceLT, Nat.reduceLeDiff, ↓reduceIte, reduceCtorEq, Int.reduceEq, Int.reduceLT]
            exact ret0 rfl (by simp)
        · have e3 : decide ((o.args.length : Int) ≤ 8) = false := decide_eq_false (by omega)
          exact ret0 rfl (by rw [e3]; simp)
    · have e1 : decide (cntB o.name 95 < o.name.size) = false := decide_eq_false h1
      rw [e1]
      simp (contextual := true) (maxSteps := 1000000) only [stepsO, h1, Bool.false_eq_true, stepsS, stepsT, stepsN, if_true, forall_const, ne_eq, implies_true, List.nil_append, List.append_nil, List.cons_append, List.length_cons, List.length_nil, Nat.reduceEqDiff, Nat.reduceAdd, Nat.reduceLT, Nat.reduceLeDiff, ↓reduceIte, reduceCtorEq, Int.reduceEq, Int.reduceLT]
      exact ret0 rfl (by simp)
end Go.Abs
