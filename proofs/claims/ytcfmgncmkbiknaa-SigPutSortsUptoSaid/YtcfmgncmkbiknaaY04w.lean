/- A part of the proof; its place is told by its neighbours. -/
import Derived.Test.YtcfmgncmkbiknaaY04v
set_option maxRecDepth 100000
set_option linter.unusedSimpArgs false
namespace Go.Abs
open Go Go.Proofs
mutual
def lookT : T → Int → Int → Bool × Int
  | .mk _ _ l, deep, left => if left - 1 < 0 ∨ 1000 < deep then (false, left - 1) else looks l (deep + 1) (left - 1)
def looks : List T → Int → Int → Bool × Int
  | [], _, left => (true, left)
  | x :: r, deep, left => if (lookT x deep left).1 = true then looks r deep (lookT x deep left).2 else (false, (lookT x deep left).2)
end
def fewL (l : List T) : Bool := (looks l 1 6000).1
mutual
theorem lookT_le : ∀ (x : T) (deep left : Int), (lookT x deep left).2 ≤ left ∧ (0 ≤ left → -1 ≤ (lookT x deep left).2 ∧ ((lookT x deep left).1 = true → 0 ≤ (lookT x deep left).2))
  | .mk k n l, deep, left => by
    simp only [lookT]
    split
    · simp; omega
    · rename_i hn
      have := looks_le l (deep + 1) (left - 1)
      exact ⟨by omega, fun _ => this.2 (by omega)⟩
theorem looks_le : ∀ (l : List T) (deep left : Int), (looks l deep left).2 ≤ left ∧ (0 ≤ left → -1 ≤ (looks l deep left).2 ∧ ((looks l deep left).1 = true → 0 ≤ (looks l deep left).2))
  | [], deep, left => by simp [looks]; omega
  | x :: r, deep, left => by
    have h1 := lookT_le x deep left
    simp only [looks]
    split
    · rename_i hb
      have h2 := looks_le r deep (lookT x deep left).2
      exact ⟨by omega, fun h0 => h2.2 ((h1.2 h0).2 hb)⟩
    · exact ⟨h1.1, fun h0 => ⟨(h1.2 h0).1, fun e => by cases e⟩⟩
end
theorem looks_drop {l : List T} {i : Nat} {d left : Int} (h : i < l.length) : looks (l.drop i) d left = if (lookT (l.getD i default) d left).1 = true then looks (l.drop (i + 1)) d (lookT (l.getD i default) d left).2 else (false, (lookT (l.getD i default) d left).2) := by
  rw [List.drop_eq_getElem_cons h]
  simp [looks, h]

def fewObjs (n : Nat) (left : Int) : List AObj := [.cells [.int .i64 left], .cells [.fn (.func 49) [] [.ptr n 0, .ptr (n + 1) 0]]]
theorem c49 (H : List AObj) (x : T) (deep left : Int) (h0 : 0 ≤ left) (h1 : left ≤ 6000) (h2 : 0 ≤ deep) (h3 : deep ≤ 1001) :
    ACalls Try.prog 49 [x.av, .int .i64 deep, .ptr H.length 0, .ptr (H.length + 1) 0] (H ++ fewObjs H.length left) fun r H' => r = .bool (lookT x deep left).1 ∧ H' = H ++ fewObjs H.length (lookT x deep left).2 := by
  have ih : ∀ y ∈ x.l, ∀ (deep left : Int), 0 ≤ left → left ≤ 6000 → 0 ≤ deep → deep ≤ 1001 →
    ACalls Try.prog 49 [y.av, .int .i64 deep, .ptr H.length 0, .ptr (H.length + 1) 0] (H ++ fewObjs H.length left) fun r H' => r = .bool (lookT y deep left).1 ∧ H' = H ++ fewObjs H.length (lookT y deep left).2 :=
      fun y hy deep left h0 h1 h2 h3 => c49 H y deep left h0 h1 h2 h3
  have e : lookT x deep left = if left - 1 < 0 ∨ 1000 < deep then (false, left - 1) else looks x.l (deep + 1) (left - 1) := by cases x; simp only [lookT, T.l]
  refine ok49.calls (by simp [fi49]) ?_
  simp only [fi49, ir49]
  simp only [fewObjs, stepsS, stepsT, stepsN, if_true, forall_const, ne_eq, implies_true, List.nil_append, List.append_nil, List.cons_append, List.length_cons, List.length_nil, Nat.reduceEqDiff, Nat.reduceAdd, Nat.reduceLT, Nat.reduceLeDiff, ↓reduceIte, reduceCtorEq, Int.reduceEq, Int.reduceLT]
  rw [wrap_in (left - 1) (by omega)]
  refine ⟨fun h4 => ⟨fun h5 => ?_, fun h5 hl => ?_⟩, fun h4 => ?_⟩
  · rw [e, if_pos (.inr h5)]
    exact ret2 (by simp [fewObjs]) rfl rfl rfl
  · have e2 : lookT x deep left = looks x.l (deep + 1) (left - 1) := by rw [e, if_neg (by omega)]
    refine swp_loop_st x.l.length (fun i (s : Int) => 0 ≤ s ∧ s ≤ 6000 ∧ looks (x.l.drop i) (deep + 1) s = lookT x deep left)
      (fun i s => [(1, .int .i64 deep), (3, .ptr (H.length + 1) 0), (18, .lst 0 (avs x.l)), (19, .int .i64 x.l.length), (20, .int .i64 i)]) (fun i s => H ++ fewObjs H.length s) (left - 1) ⟨⟨by omega, by omega, by rw [e2]; rfl⟩, sle_refl _ _ _⟩ fun i s hi hI => ?_
    obtain ⟨k0, k1, hI⟩ := hI
    simp only [fewObjs, stepsS, stepsT, stepsN, if_true, forall_const, ne_eq, implies_true, List.nil_append, List.append_nil, List.cons_append, List.length_cons, List.length_nil, Nat.reduceEqDiff, Nat.reduceAdd, Nat.reduceLT, Nat.reduceLeDiff, ↓reduceIte, reduceCtorEq, Int.reduceEq, Int.reduceLT]
    refine ⟨fun hlt => ⟨len_lt hlt, ?_⟩, fun hge => ?_⟩
    · have hlt := len_lt hlt
      rw [wrap_in (deep + 1) (by omega)]
      rw [looks_drop hlt] at hI
      have hle := lookT_le (x.l.getD i default) (deep + 1) s
      refine scall_to (ih _ (mem_getD hlt) (deep + 1) s k0 k1 (by omega) (by omega)) ?_
      rintro r H' ⟨rfl, rfl⟩
      simp only [fewObjs, stepsS, stepsT, stepsN, if_true, forall_const, ne_eq, implies_true, List.nil_append, List.append_nil, List.cons_append, List.length_cons, List.length_nil, Nat.reduceEqDiff, Nat.reduceAdd, Nat.reduceLT, Nat.reduceLeDiff, ↓reduceIte, reduceCtorEq, Int.reduceEq, Int.reduceLT]
      refine scond_b (fun hb => ?_) (fun hb => ?_) <;> simp only [stepsS, stepsT, stepsN, if_true, forall_const, ne_eq, implies_true, List.nil_append, List.append_nil, List.cons_append, List.length_cons, List.length_nil, Nat.reduceEqDiff, Nat.reduceAdd, Nat.reduceLT, Nat.reduceLeDiff, ↓reduceIte, reduceCtorEq, Int.reduceEq, Int.reduceLT]
      · rw [if_pos hb] at hI
        exact ⟨i + 1, (lookT (x.l.getD i default) (deep + 1) s).2, ⟨hlt, (hle.2 k0).2 hb, by omega, hI⟩, by omega, sle_eq (by rw [wrap_nat i (by omega)]) rfl⟩
      · rw [if_neg (by rw [hb]; simp)] at hI
        rw [← hI]
        exact ret2 (by simp [fewObjs]) rfl rfl rfl
    · rw [List.drop_of_length_le (len_nlt hge)] at hI
      rw [← hI]
      exact ret2 (by simp [fewObjs]) rfl rfl rfl
  · rw [e, if_pos (.inl h4)]
    exact ret2 (by simp [fewObjs]) rfl rfl rfl
termination_by SizeOf.sizeOf x
decreasing_by exact T.lt hy
theorem c14 (l : List T) : Pure Try.prog 14 [.lst 0 (avs l)] (.bool (fewL l)) := by
  refine fun H => ok14.calls (by simp [fi14]) ?_
  simp only [fi14, ir14]
  simp only [stepsS, stepsT, stepsN, if_true, forall_const, ne_eq, implies_true, List.nil_append, List.append_nil, List.cons_append, List.length_cons, List.length_nil, Nat.reduceEqDiff, Nat.reduceAdd, Nat.reduceLT, Nat.reduceLeDiff, ↓reduceIte, reduceCtorEq, Int.reduceEq, Int.reduceLT]
  refine ⟨by simp; omega, fun hl => ?_⟩
  refine swp_loop_st l.length (fun i (s : Int) => 0 ≤ s ∧ s ≤ 6000 ∧ (looks (l.drop i) 1 s).1 = fewL l)
      (fun i s => [(4, .ptr (H.length + 1) 0), (8, .lst 0 (avs l)), (9, .int .i64 l.length), (10, .int .i64 i)]) (fun i s => H ++ fewObjs H.length s) 6000 ⟨⟨by omega, by omega, rfl⟩, sle_refl _ _ _⟩ fun i s hi hI => ?_
  obtain ⟨k0, k1, hI⟩ := hI
  simp only [fewObjs, stepsS, stepsT, stepsN, if_true, forall_const, ne_eq, implies_true, List.nil_append, List.append_nil, List.cons_append, List.length_cons, List.length_nil, Nat.reduceEqDiff, Nat.reduceAdd, Nat.reduceLT, Nat.reduceLeDiff, ↓reduceIte, reduceCtorEq, Int.reduceEq, Int.reduceLT]
  refine ⟨fun hlt => ⟨len_lt hlt, ?_⟩, fun hge => ?_⟩
  · have hlt := len_lt hlt
    rw [looks_drop hlt] at hI
    have hle := lookT_le (l.getD i default) 1 s
    refine scall_to (c49 H (l.getD i default) 1 s k0 k1 (by omega) (by omega)) ?_
    rintro r H' ⟨rfl, rfl⟩
    simp only [fewObjs, stepsS, stepsT, stepsN, if_true, forall_const, ne_eq, implies_true, List.nil_append, List.append_nil, List.cons_append, List.length_cons, List.length_nil, Nat.reduceEqDiff, Nat.reduceAdd, Nat.reduceLT, Nat.reduceLeDiff, ↓reduceIte, reduceCtorEq, Int.reduceEq, Int.reduceLT]
    refine scond_b (fun hb => ?_) (fun hb => ?_) <;> simp only [stepsS, stepsT, stepsN, if_true, forall_const, ne_eq, implies_true, List.nil_append, List.append_nil, List.cons_append, List.length_cons, List.length_nil, Nat.reduceEqDiff, Nat.reduceAdd, Nat.reduceLT, Nat.reduceLeDiff, ↓reduceIte, reduceCtorEq, Int.reduceEq, Int.reduceLT]
    · rw [if_pos hb] at hI
      exact ⟨i + 1, (lookT (l.getD i default) 1 s).2, ⟨hlt, (hle.2 k0).2 hb, by omega, hI⟩, by omega, sle_eq (by rw [wrap_nat i (by omega)]) rfl⟩
    · rw [if_neg (by rw [hb]; simp)] at hI
      rw [← hI]
      exact ret1 rfl rfl
  · rw [List.drop_of_length_le (len_nlt hge)] at hI
    rw [← hI]
    exact ret1 rfl rfl
end Go.Abs
