/- Size, Compare, Vars, Ground: both ways. -/
import Derived.Test.YtcfmgncmkbiknaaY04h
set_option maxRecDepth 100000
set_option linter.unusedSimpArgs false
set_option linter.unusedVariables false
namespace Go.Abs
open Go Go.Proofs
def sizeS (t : T) : Int × Int := if t.sz ≤ 2000 ∧ t.dp ≤ 200 then (t.sz, t.dp) else (2001, 201)
theorem cnt0 (t : T) : (¬ over (cntT t 1 (0, 0)) ↔ t.sz ≤ 2000 ∧ t.dp ≤ 200) ∧ (¬ over (cntT t 1 (0, 0)) → cntT t 1 (0, 0) = (t.sz, t.dp)) := by
  have h := cntT_spec t 1 (0, 0) (by unfold cntOk; simp)
  have hd := t.dp_pos
  refine ⟨h.1.trans ⟨fun k => ⟨by omega, by omega⟩, fun k => ⟨by simp only; omega, by omega⟩⟩, fun k => ?_⟩
  have := h.2 k
  exact Prod.ext (by simpa using this.1) (by have := this.2; simp only at this ⊢; omega)
theorem c34 (t : T) : Pure Try.prog 34 [t.av] (.tuple [.int .i64 (sizeS t).1, .int .i64 (sizeS t).2]) := by
  refine fun H => ok34.calls (by simp [fi34]) ?_
  simp only [fi34, ir34]
  simp (contextual := true) (maxSteps := 1000000) only [stepsS, stepsT, stepsN, if_true, forall_const, ne_eq, implies_true, List.nil_append, List.append_nil, List.cons_append, List.length_cons, List.length_nil, Nat.reduceEqDiff, Nat.reduceAdd, Nat.reduceLT, Nat.reduceLeDiff, ↓reduceIte, reduceCtorEq, Int.reduceEq, Int.reduceLT]
  refine scall_to (c80 H t 1 (0, 0) (by unfold cntOk; simp)) ?_
  rintro r H' ⟨rfl, rfl⟩
  simp (contextual := true) (maxSteps := 1000000) only [stepsS, stepsT, stepsN, if_true, forall_const, ne_eq, implies_true, List.nil_append, List.append_nil, List.cons_append, List.length_cons, List.length_nil, Nat.reduceEqDiff, Nat.reduceAdd, Nat.reduceLT, Nat.reduceLeDiff, ↓reduceIte, reduceCtorEq, Int.reduceEq, Int.reduceLT]
  refine scall_to (c81 H (cntT t 1 (0, 0))) ?_
  rintro r H' ⟨rfl, rfl⟩
  have h0 := cnt0 t
  cases hb : overB (cntT t 1 (0, 0)) with
  | true =>
    have hn : ¬ (t.sz ≤ 2000 ∧ t.dp ≤ 200) := fun h => h0.1.2 h ((overB_iff _).1 hb)
    simp (contextual := true) (maxSteps := 1000000) only [cntObj, stepsS, stepsT, stepsN, if_true, forall_const, ne_eq, implies_true, List.nil_append, List.append_nil, List.cons_append, List.length_cons, List.length_nil, Nat.reduceEqDiff, Nat.reduceAdd, Nat.reduceLT, Nat.reduceLeDiff, ↓reduceIte, reduceCtorEq, Int.reduceEq, Int.reduceLT]
    exact ret22 (by decide) rfl rfl (by rw [sizeS, if_neg hn]; rfl) (by rw [sizeS, if_neg hn]; rfl)
  | false =>
    have hn : ¬ over (cntT t 1 (0, 0)) := fun h => by rw [(overB_iff _).2 h] at hb; cases hb
    have h1 := h0.1.1 hn
    rw [h0.2 hn]
    simp (contextual := true) (maxSteps := 1000000) only [cntObj, stepsS, stepsT, stepsN, if_true, forall_const, ne_eq, implies_true, List.nil_append, List.append_nil, List.cons_append, List.length_cons, List.length_nil, Nat.reduceEqDiff, Nat.reduceAdd, Nat.reduceLT, Nat.reduceLeDiff, ↓reduceIte, reduceCtorEq, Int.reduceEq, Int.reduceLT]
    exact ret22 (by decide) rfl rfl (by rw [sizeS, if_pos h1]; rfl) (by rw [sizeS, if_pos h1]; rfl)
theorem dps_drop {l : List T} {i : Nat} (h : i < l.length) : dps (l.drop i) = max (l.getD i default).dp (dps (l.drop (i + 1))) := by
  rw [List.drop_eq_getElem_cons h]
  simp [dps, h]
theorem c82 (t : T) (hd : t.dp ≤ 1000000) : Pure Try.prog 82 [t.av] (.int .i64 t.dp) := by
  have e : t.dp = 1 + dps t.l := by cases t; simp only [T.dp, T.l]
  have hk : ∀ y ∈ t.l, y.dp ≤ 1000000 := by
    intro y hy
    have : ∀ (l : List T), y ∈ l → y.dp ≤ dps l := by
      intro l
      induction l with
      | nil => intro h; cases h
      | cons x r ih =>
        intro h
        simp only [dps]
        rcases List.mem_cons.1 h with rfl | h
        · omega
        · have := ih h; omega
    have := this _ hy
    omega
  have ih : ∀ y ∈ t.l, Pure Try.prog 82 [y.av] (.int .i64 y.dp) := fun y hy => c82 y (hk y hy)
  refine fun H => ok82.calls (by simp [fi82]) ?_
  simp only [fi82, ir82]
  simp (contextual := true) (maxSteps := 1000000) only [stepsS, stepsT, stepsN, if_true, forall_const, ne_eq, implies_true, List.nil_append, List.append_nil, List.cons_append, List.length_cons, List.length_nil, Nat.reduceEqDiff, Nat.reduceAdd, Nat.reduceLT, Nat.reduceLeDiff, ↓reduceIte, reduceCtorEq, Int.reduceEq, Int.reduceLT]
  have h0 := dps_pos t.l
  refine swp_loop_st t.l.length (fun i (s : Int) => 0 ≤ s ∧ max s (dps (t.l.drop i)) = dps t.l)
      (fun i s => [(1, .iptr t.av), (3, .int .i64 s), (4, .int .i64 i)]) (fun i s => H) 0 ⟨⟨by omega, by rw [List.drop_zero]; omega⟩, sle_refl _ _ _⟩ fun i s hi hI => ?_
  obtain ⟨k1, hI⟩ := hI
  simp (contextual := true) (maxSteps := 1000000) only [stepsS, stepsT, stepsN, if_true, forall_const, ne_eq, implies_true, List.nil_append, List.append_nil, List.cons_append, List.length_cons, List.length_nil, Nat.reduceEqDiff, Nat.reduceAdd, Nat.reduceLT, Nat.reduceLeDiff, ↓reduceIte, reduceCtorEq, Int.reduceEq, Int.reduceLT]
  intro _
  refine ⟨fun hlt => ⟨len_lt hlt, ?_⟩, fun hge => ?_⟩
  · have hlt := len_lt hlt
    rw [dps_drop hlt] at hI
    refine scall_pure (ih _ (mem_getD hlt)) ?_
    simp (contextual := true) (maxSteps := 1000000) only [stepsS, stepsT, stepsN, if_true, forall_const, ne_eq, implies_true, List.nil_append, List.append_nil, List.cons_append, List.length_cons, List.length_nil, Nat.reduceEqDiff, Nat.reduceAdd, Nat.reduceLT, Nat.reduceLeDiff, ↓reduceIte, reduceCtorEq, Int.reduceEq, Int.reduceLT]
    exact ⟨i + 1, max s (t.l.getD i default).dp, ⟨hlt, by omega, by omega⟩, by omega, sle_eq (by rw [wrap_nat i (by omega)]) rfl⟩
  · rw [List.drop_of_length_le (len_nlt hge)] at hI
    simp only [dps] at hI
    exact ret0 rfl (by rw [wrap_in _ (by omega), e]; congr 1; omega)
termination_by SizeOf.sizeOf t
decreasing_by exact T.lt hy
theorem c35 (t : T) : Pure Try.prog 35 [t.av] (.tuple [.int .i64 (sizeS t).1, .int .i64 (sizeS t).2]) := by
  have hs := ctdT_spec t 2000 1 (by omega) (by omega)
  have hd := t.dp_pos
  have hz := t.sz_pos
  refine fun H => ok35.calls (by simp [fi35]) ?_
  simp only [fi35, ir35]
  simp (contextual := true) (maxSteps := 1000000) only [stepsS, stepsT, stepsN, if_true, forall_const, ne_eq, implies_true, List.nil_append, List.append_nil, List.cons_append, List.length_cons, List.length_nil, Nat.reduceEqDiff, Nat.reduceAdd, Nat.reduceLT, Nat.reduceLeDiff, ↓reduceIte, reduceCtorEq, Int.reduceEq, Int.reduceLT]
  refine scall_pure (c50 t 2000 1 (by omega) (by omega) (by omega) (by omega)) ?_
  cases hb : (ctdT t 2000 1).2 with
  | false =>
    have hn : ¬ (t.sz ≤ 2000 ∧ t.dp ≤ 200) := fun h => by rw [hs.1.2 ⟨h.1, by omega⟩] at hb; cases hb
    simp (contextual := true) (maxSteps := 1000000) only [stepsS, stepsT, stepsN, if_true, forall_const, ne_eq, implies_true, List.nil_append, List.append_nil, List.cons_append, List.length_cons, List.length_nil, Nat.reduceEqDiff, Nat.reduceAdd, Nat.reduceLT, Nat.reduceLeDiff, ↓reduceIte, reduceCtorEq, Int.reduceEq, Int.reduceLT]
    exact ret20 (by decide) rfl rfl (by rw [sizeS, if_neg hn]; rfl) (by rw [sizeS, if_neg hn]; rfl)
  | true =>
    have h1 := hs.1.1 hb
    have h1' : t.sz ≤ 2000 ∧ t.dp ≤ 200 := ⟨h1.1, by omega⟩
    have w : IntKind.i64.wrap (2000 - (ctdT t 2000 1).1) = t.sz := by rw [hs.2 hb, wrap_in _ (by omega)]; omega
    simp (contextual := true) (maxSteps := 1000000) only [w, stepsS, stepsT, stepsN, if_true, forall_const, ne_eq, implies_true, List.nil_append, List.append_nil, List.cons_append, List.length_cons, List.length_nil, Nat.reduceEqDiff, Nat.reduceAdd, Nat.reduceLT, Nat.reduceLeDiff, ↓reduceIte, reduceCtorEq, Int.reduceEq, Int.reduceLT]
    refine scall_pure (c82 t (by omega)) ?_
    simp (contextual := true) (maxSteps := 1000000) only [stepsS, stepsT, stepsN, if_true, forall_const, ne_eq, implies_true, List.nil_append, List.append_nil, List.cons_append, List.length_cons, List.length_nil, Nat.reduceEqDiff, Nat.reduceAdd, Nat.reduceLT, Nat.reduceLeDiff, ↓reduceIte, reduceCtorEq, Int.reduceEq, Int.reduceLT]
    exact ret20 (by decide) rfl rfl (by rw [sizeS, if_pos h1']; rfl) (by rw [sizeS, if_pos h1']; rfl)

/-! ### Compare -/
theorem c83 (a b : Int) : Pure Try.prog 83 [.int .i64 a, .int .i64 b] (.int .i64 (icmp a b)) := by
  refine fun H => ok83.calls (by simp [fi83]) ?_
  simp only [fi83, ir83]
  simp (contextual := true) (maxSteps := 1000000) only [stepsS, stepsT, stepsN, if_true, forall_const, ne_eq, implies_true, List.nil_append, List.append_nil, List.cons_append, List.length_cons, List.length_nil, Nat.reduceEqDiff, Nat.reduceAdd, Nat.reduceLT, Nat.reduceLeDiff, ↓reduceIte, reduceCtorEq, Int.reduceEq, Int.reduceLT]
  exact ⟨fun h => ret0 rfl (by simp [icmp, h]), fun h => ⟨fun h2 => ret0 rfl (by simp [icmp, h2, Int.not_lt.2 h]), fun h2 => ret0 rfl (by simp [icmp, Int.not_lt.2 h, Int.not_lt.2 h2])⟩⟩
def body36 : IR := match ir36 with | .seq _ (.seq _ (.seq _ (.seq _ (.seq (.seq _ (.block _ (.loop x))) _)))) => x | _ => .skip
theorem loop36 {a b : T} (ih : ∀ x ∈ a.l, ∀ y, Pure Try.prog 36 [x.av, y.av] (.int .i64 (x.cmp y))) (c : Int) (hc : c = 0 → a.l.length = b.l.length) {H : List AObj} {n0 : Nat} {Q : Exit → Env → List AObj → Prop}
    (hQ : ∀ i : Nat, Q (.exit 0) [(2, .iptr a.av), (3, .iptr b.av), (5, .int .i64 (thn c (cmps a.l b.l))), (6, .int .i64 i), (36, .bool false)] H) :
    swp Try.prog n0 (.loop body36) [(2, .iptr a.av), (3, .iptr b.av), (5, .int .i64 c), (6, .int .i64 0)] H Q := by
  simp only [body36, ir36]
  refine swp_loop_st a.l.length (fun i (s : Int) => (s = 0 → a.l.length = b.l.length) ∧ thn s (cmps (a.l.drop i) (b.l.drop i)) = thn c (cmps a.l b.l))
      (fun i s => [(2, .iptr a.av), (3, .iptr b.av), (5, .int .i64 s), (6, .int .i64 i)]) (fun i s => H) c ⟨⟨hc, rfl⟩, sle_refl _ _ _⟩ fun i s hi hI => ?_
  obtain ⟨k1, hI⟩ := hI
  simp (contextual := true) (maxSteps := 1000000) only [stepsS, stepsT, stepsN, if_true, forall_const, ne_eq, implies_true, List.nil_append, List.append_nil, List.cons_append, List.length_cons, List.length_nil, Nat.reduceEqDiff, Nat.reduceAdd, Nat.reduceLT, Nat.reduceLeDiff, ↓reduceIte, reduceCtorEq, Int.reduceEq, Int.reduceLT]
  intro _
  have hstop : s ≠ 0 → s = thn c (cmps a.l b.l) := fun h => by rw [← hI, thn, if_pos h]
  refine ⟨fun hlt => ⟨fun hs => ?_, fun hs => ?_⟩, fun hge => ?_⟩
  · have hlt := len_lt hlt
    have hlen := k1 hs
    have hlt2 : i < b.l.length := by omega
    rw [cmps_drop hlt hlt2, hs] at hI
    refine ⟨hlt, hlt2, dcall_pure (ih _ (mem_getD hlt) _) ?_⟩
    simp (contextual := true) (maxSteps := 1000000) only [stepsS, stepsT, stepsN, if_true, forall_const, ne_eq, implies_true, List.nil_append, List.append_nil, List.cons_append, List.length_cons, List.length_nil, Nat.reduceEqDiff, Nat.reduceAdd, Nat.reduceLT, Nat.reduceLeDiff, ↓reduceIte, reduceCtorEq, Int.reduceEq, Int.reduceLT]
    exact ⟨i + 1, (a.l.getD i default).cmp (b.l.getD i default), ⟨hlt, fun _ => hlen, by rw [← hI]; simp only [thn]; simp⟩, by omega, sle_eq (by rw [wrap_nat i (by omega)]) rfl⟩
  · have := hQ i
    rw [← hstop hs] at this
    exact this
  · have hge := len_nlt hge
    have : s = thn c (cmps a.l b.l) := by
      by_cases hs : s = 0
      · have := k1 hs
        rw [← hI, List.drop_of_length_le hge, List.drop_of_length_le (by omega), hs]; simp [thn, cmps]
      · exact hstop hs
    have h2 := hQ i
    rw [← this] at h2
    exact h2
theorem c36 (a b : T) : Pure Try.prog 36 [a.av, b.av] (.int .i64 (a.cmp b)) := by
  have ih : ∀ x ∈ a.l, ∀ y, Pure Try.prog 36 [x.av, y.av] (.int .i64 (x.cmp y)) := fun x hx y => c36 x y
  have e := cmp_eq a b
  refine fun H => ok36.calls (by simp [fi36]) ?_
  simp only [fi36, ir36]
  simp (contextual := true) (maxSteps := 1000000) only [stepsS, stepsT, stepsN, if_true, forall_const, ne_eq, implies_true, List.nil_append, List.append_nil, List.cons_append, List.length_cons, List.length_nil, Nat.reduceEqDiff, Nat.reduceAdd, Nat.reduceLT, Nat.reduceLeDiff, ↓reduceIte, reduceCtorEq, Int.reduceEq, Int.reduceLT]
  refine scall_pure (c83 _ _) ?_
  simp (contextual := true) (maxSteps := 1000000) only [stepsS, stepsT, stepsN, if_true, forall_const, ne_eq, implies_true, List.nil_append, List.append_nil, List.cons_append, List.length_cons, List.length_nil, Nat.reduceEqDiff, Nat.reduceAdd, Nat.reduceLT, Nat.reduceLeDiff, ↓reduceIte, reduceCtorEq, Int.reduceEq, Int.reduceLT]
  refine ⟨fun h1 => scall_pure (c83 _ _) ?_, fun h1 => ?_⟩
  · simp (contextual := true) (maxSteps := 1000000) only [stepsS, stepsT, stepsN, if_true, forall_const, ne_eq, implies_true, List.nil_append, List.append_nil, List.cons_append, List.length_cons, List.length_nil, Nat.reduceEqDiff, Nat.reduceAdd, Nat.reduceLT, Nat.reduceLeDiff, ↓reduceIte, reduceCtorEq, Int.reduceEq, Int.reduceLT]
    refine ⟨fun h2 _ _ => scall_pure (c83 _ _) ?_, fun h2 => ?_⟩
    · simp (contextual := true) (maxSteps := 1000000) only [stepsS, stepsT, stepsN, if_true, forall_const, ne_eq, implies_true, List.nil_append, List.append_nil, List.cons_append, List.length_cons, List.length_nil, Nat.reduceEqDiff, Nat.reduceAdd, Nat.reduceLT, Nat.reduceLeDiff, ↓reduceIte, reduceCtorEq, Int.reduceEq, Int.reduceLT]
      refine loop36 ih _ (fun h => by rw [icmp_zero] at h; omega) fun i => ?_
      simp (contextual := true) (maxSteps := 1000000) only [stepsS, stepsT, stepsN, if_true, forall_const, ne_eq, implies_true, List.nil_append, List.append_nil, List.cons_append, List.length_cons, List.length_nil, Nat.reduceEqDiff, Nat.reduceAdd, Nat.reduceLT, Nat.reduceLeDiff, ↓reduceIte, reduceCtorEq, Int.reduceEq, Int.reduceLT]
      exact ret0 rfl (by rw [e, h1, h2]; simp [thn])
    · refine loop36 ih _ (fun h => absurd h h2) fun i => ?_
      simp (contextual := true) (maxSteps := 1000000) only [stepsS, stepsT, stepsN, if_true, forall_const, ne_eq, implies_true, List.nil_append, List.append_nil, List.cons_append, List.length_cons, List.length_nil, Nat.reduceEqDiff, Nat.reduceAdd, Nat.reduceLT, Nat.reduceLeDiff, ↓reduceIte, reduceCtorEq, Int.reduceEq, Int.reduceLT]
      exact ret0 rfl (by rw [e, h1]; simp [thn, h2])
  · refine loop36 ih _ (fun h => absurd h h1) fun i => ?_
    simp (contextual := true) (maxSteps := 1000000) only [stepsS, stepsT, stepsN, if_true, forall_const, ne_eq, implies_true, List.nil_append, List.append_nil, List.cons_append, List.length_cons, List.length_nil, Nat.reduceEqDiff, Nat.reduceAdd, Nat.reduceLT, Nat.reduceLeDiff, ↓reduceIte, reduceCtorEq, Int.reduceEq, Int.reduceLT]
    exact ret0 rfl (by rw [e]; simp [thn, h1])
termination_by SizeOf.sizeOf a
decreasing_by exact T.lt hx

/-! ### SameInts, Vars, Ground -/
theorem c37 (a b : List Int) (o o' : Nat) : Pure Try.prog 37 [.lst o (ints a), .lst o' (ints b)] (.bool (decide (a = b))) := by
  refine fun H => ok37.calls (by simp [fi37]) ?_
  simp only [fi37, ir37]
  simp (contextual := true) (maxSteps := 1000000) only [stepsS, stepsT, stepsN, if_true, forall_const, ne_eq, implies_true, List.nil_append, List.append_nil, List.cons_append, List.length_cons, List.length_nil, Nat.reduceEqDiff, Nat.reduceAdd, Nat.reduceLT, Nat.reduceLeDiff, ↓reduceIte, reduceCtorEq, Int.reduceEq, Int.reduceLT]
  refine fun _ _ => ⟨fun hne => ret0 rfl ?_, fun hl => ?_⟩
  · rw [decide_eq_false]
    intro h; subst h; exact hne rfl
  have hl : a.length = b.length := by omega
  refine swp_loop_nat a.length (fun i => decide (a.drop i = b.drop i) = decide (a = b)) (fun i => [(0, .lst o (ints a)), (1, .lst o' (ints b)), (5, .int .i64 i)]) (fun i => H) ⟨rfl, sle_refl _ _ _⟩ fun i hi hI => ?_
  simp (contextual := true) (maxSteps := 1000000) only [stepsS, stepsT, stepsN, if_true, forall_const, ne_eq, implies_true, List.nil_append, List.append_nil, List.cons_append, List.length_cons, List.length_nil, Nat.reduceEqDiff, Nat.reduceAdd, Nat.reduceLT, Nat.reduceLeDiff, ↓reduceIte, reduceCtorEq, Int.reduceEq, Int.reduceLT]
  intro _
  refine ⟨fun hlt => ⟨len_lt hlt, ?_⟩, fun hge => ?_⟩
  · have hlt := len_lt hlt
    have hlt2 : i < b.length := by omega
    rw [List.drop_eq_getElem_cons hlt, List.drop_eq_getElem_cons hlt2] at hI
    have e1 : a.getD i 0 = a[i] := by simp [hlt]
    have e2 : b.getD i 0 = b[i] := by simp [hlt2]
    rw [e1, e2]
    refine ⟨hlt2, fun hne => ret0 rfl ?_, fun he => ⟨i + 1, ⟨hlt, ?_⟩, by omega, sle_eq (by rw [wrap_nat i (by omega)]) rfl⟩⟩
    · rw [← hI, decide_eq_false]
      intro h; exact hne (List.cons.inj h).1
    · rw [← hI, he]
      exact decide_eq_decide.2 (by rw [List.cons.injEq]; simp only [true_and])
  · have hge := len_nlt hge
    rw [List.drop_of_length_le hge, List.drop_of_length_le (by omega)] at hI
    exact ret0 rfl (by rw [← hI]; rfl)
theorem varsW (l : List T) : varsL l = if treesB l = true then walkVs l [] else [] := by
  unfold varsL
  split
  · rename_i h
    rw [walks_rv l []]
    rw [shapeds_all, List.all_eq_true]
    intro x hx
    exact ((T.tree_iff x).1 (List.all_eq_true.1 h x hx)).2.2
  · rfl
theorem c38 (l : List T) (hl : szs l ≤ 1000000) : Pure Try.prog 38 [.lst 0 (avs l)] (.lst 0 (ints (varsL l))) := by
  refine fun H => ok38.calls (by simp [fi38]) ?_
  simp only [fi38, ir38]
  simp (contextual := true) (maxSteps := 1000000) only [stepsS, stepsT, stepsN, if_true, forall_const, ne_eq, implies_true, List.nil_append, List.append_nil, List.cons_append, List.length_cons, List.length_nil, Nat.reduceEqDiff, Nat.reduceAdd, Nat.reduceLT, Nat.reduceLeDiff, ↓reduceIte, reduceCtorEq, Int.reduceEq, Int.reduceLT]
  refine scall_pure (c53 l) ?_
  cases hb : treesB l with
  | false =>
    simp (contextual := true) (maxSteps := 1000000) only [Bool.false_eq_true, stepsS, stepsT, stepsN, if_true, forall_const, ne_eq, implies_true, List.nil_append, List.append_nil, List.cons_append, List.length_cons, List.length_nil, Nat.reduceEqDiff, Nat.reduceAdd, Nat.reduceLT, Nat.reduceLeDiff, ↓reduceIte, reduceCtorEq, Int.reduceEq, Int.reduceLT]
    exact ret0l (by rw [varsL, hb]; exact .inr (.inr (.inr (.inl ⟨rfl, 0, rfl⟩)))) (by simp only [bw_lst, ints_blw])
  | true =>
    simp (contextual := true) (maxSteps := 1000000) only [stepsS, stepsT, stepsN, if_true, forall_const, ne_eq, implies_true, List.nil_append, List.append_nil, List.cons_append, List.length_cons, List.length_nil, Nat.reduceEqDiff, Nat.reduceAdd, Nat.reduceLT, Nat.reduceLeDiff, ↓reduceIte, reduceCtorEq, Int.reduceEq, Int.reduceLT]
    refine scall_pure (c76 l hl) ?_
    simp (contextual := true) (maxSteps := 1000000) only [stepsS, stepsT, stepsN, if_true, forall_const, ne_eq, implies_true, List.nil_append, List.append_nil, List.cons_append, List.length_cons, List.length_nil, Nat.reduceEqDiff, Nat.reduceAdd, Nat.reduceLT, Nat.reduceLeDiff, ↓reduceIte, reduceCtorEq, Int.reduceEq, Int.reduceLT]
    exact ret0 (by simp only [bw_lst, ints_blw]) (by rw [varsW, if_pos hb])
mutual
def gtT : T → Int
  | .mk k n l => max (if k = 1 then n else -1) (gts l)
def gts : List T → Int
  | [] => -1
  | x :: r => max (gtT x) (gts r)
end
theorem gts_drop {l : List T} {i : Nat} (h : i < l.length) : gts (l.drop i) = max (gtT (l.getD i default)) (gts (l.drop (i + 1))) := by
  rw [List.drop_eq_getElem_cons h]
  simp [gts, h]
theorem gts_ge : ∀ l : List T, -1 ≤ gts l
  | [] => by simp [gts]
  | x :: r => by simp only [gts]; have := gts_ge r; omega
theorem c54 (l : List T) : Pure Try.prog 54 [.lst 0 (avs l)] (.int .i64 (gts l)) := by
  have ih : ∀ y ∈ l, Pure Try.prog 54 [.lst 0 (avs y.l)] (.int .i64 (gts y.l)) := fun y hy => c54 y.l
  refine fun H => ok54.calls (by simp [fi54]) ?_
  simp only [fi54, ir54]
  simp (contextual := true) (maxSteps := 1000000) only [stepsS, stepsT, stepsN, if_true, forall_const, ne_eq, implies_true, List.nil_append, List.append_nil, List.cons_append, List.length_cons, List.length_nil, Nat.reduceEqDiff, Nat.reduceAdd, Nat.reduceLT, Nat.reduceLeDiff, ↓reduceIte, reduceCtorEq, Int.reduceEq, Int.reduceLT]
  intro _
  have h0 := gts_ge l
  refine swp_loop_st l.length (fun i (s : Int) => -1 ≤ s ∧ max s (gts (l.drop i)) = gts l)
      (fun i s => [(3, .int .i64 s), (6, .lst 0 (avs l)), (7, .int .i64 l.length), (8, .int .i64 i)]) (fun i s => H) (-1) ⟨⟨by omega, by rw [List.drop_zero]; omega⟩, sle_refl _ _ _⟩ fun i s hi hI => ?_
  obtain ⟨k1, hI⟩ := hI
  simp (contextual := true) (maxSteps := 1000000) only [stepsS, stepsT, stepsN, if_true, forall_const, ne_eq, implies_true, List.nil_append, List.append_nil, List.cons_append, List.length_cons, List.length_nil, Nat.reduceEqDiff, Nat.reduceAdd, Nat.reduceLT, Nat.reduceLeDiff, ↓reduceIte, reduceCtorEq, Int.reduceEq, Int.reduceLT]
  refine ⟨fun hlt => ⟨len_lt hlt, fun hk => ?_, fun hk => ?_⟩, fun hge => ?_⟩
  · have hlt := len_lt hlt
    rw [gts_drop hlt] at hI
    have e : gtT (l.getD i default) = max (if (l.getD i default).k = 1 then (l.getD i default).n else -1) (gts (l.getD i default).l) := by cases l.getD i default; simp only [gtT, T.k, T.n, T.l]; rfl
    rw [if_pos hk] at e
    refine scall_pure (ih _ (mem_getD hlt)) ?_
    simp (contextual := true) (maxSteps := 1000000) only [stepsS, stepsT, stepsN, if_true, forall_const, ne_eq, implies_true, List.nil_append, List.append_nil, List.cons_append, List.length_cons, List.length_nil, Nat.reduceEqDiff, Nat.reduceAdd, Nat.reduceLT, Nat.reduceLeDiff, ↓reduceIte, reduceCtorEq, Int.reduceEq, Int.reduceLT]
    exact ⟨i + 1, max (max s (l.getD i default).n) (gts (l.getD i default).l), ⟨hlt, by omega, by omega⟩, by omega, sle_eq (by rw [wrap_nat i (by omega)]) rfl⟩
  · have hlt := len_lt hlt
    rw [gts_drop hlt] at hI
    have e : gtT (l.getD i default) = max (if (l.getD i default).k = 1 then (l.getD i default).n else -1) (gts (l.getD i default).l) := by cases l.getD i default; simp only [gtT, T.k, T.n, T.l]; rfl
    rw [if_neg hk] at e
    refine scall_pure (ih _ (mem_getD hlt)) ?_
    simp (contextual := true) (maxSteps := 1000000) only [stepsS, stepsT, stepsN, if_true, forall_const, ne_eq, implies_true, List.nil_append, List.append_nil, List.cons_append, List.length_cons, List.length_nil, Nat.reduceEqDiff, Nat.reduceAdd, Nat.reduceLT, Nat.reduceLeDiff, ↓reduceIte, reduceCtorEq, Int.reduceEq, Int.reduceLT]
    exact ⟨i + 1, max s (gts (l.getD i default).l), ⟨hlt, by omega, by omega⟩, by omega, sle_eq (by rw [wrap_nat i (by omega)]) rfl⟩
  · rw [List.drop_of_length_le (len_nlt hge)] at hI
    simp only [gts] at hI
    exact ret0 rfl (by congr 1; omega)
termination_by SizeOf.sizeOf l
decreasing_by
  have h1 := List.sizeOf_lt_of_mem hy
  have h2 : SizeOf.sizeOf y.l < SizeOf.sizeOf y := by cases y; simp only [T.l, T.mk.sizeOf_spec]; omega
  omega

mutual
theorem gtT_fv : ∀ (x : T), x.shaped = true → (gtT x < 0 ↔ x.fv = [])
  | .mk k n l, h => by
    have hs := gts_fv l (shaped_sub h)
    have h0 := gts_ge l
    simp only [gtT, T.fv]
    by_cases hk : k = 1
    · have hn : 0 ≤ n := fv_shaped _ h n (by simp [T.fv, hk])
      rw [if_pos hk, if_pos hk]
      constructor
      · intro h; omega
      · intro h; cases h
    · rw [if_neg hk, if_neg hk, ← hs]
      omega
theorem gts_fv : ∀ (l : List T), shapeds l = true → (gts l < 0 ↔ fvs l = [])
  | [], _ => by simp [gts, fvs]
  | x :: r, h => by
    simp only [shapeds, Bool.and_eq_true] at h
    simp only [gts, fvs, List.append_eq_nil_iff]
    rw [← gtT_fv x h.1, ← gts_fv r h.2]
    omega
end
def groundB (t : T) : Bool := t.tree && decide (t.fv = [])
theorem c39 (t : T) : Pure Try.prog 39 [t.av] (.bool (groundB t)) := by
  refine fun H => ok39.calls (by simp [fi39]) ?_
  simp only [fi39, ir39]
  simp (contextual := true) (maxSteps := 1000000) only [stepsS, stepsT, stepsN, if_true, forall_const, ne_eq, implies_true, List.nil_append, List.append_nil, List.cons_append, List.length_cons, List.length_nil, Nat.reduceEqDiff, Nat.reduceAdd, Nat.reduceLT, Nat.reduceLeDiff, ↓reduceIte, reduceCtorEq, Int.reduceEq, Int.reduceLT]
  refine scall_pure (c57 t) ?_
  cases ht : t.tree with
  | false =>
    simp (contextual := true) (maxSteps := 1000000) only [stepsS, stepsT, stepsN, if_true, forall_const, ne_eq, implies_true, List.nil_append, List.append_nil, List.cons_append, List.length_cons, List.length_nil, Nat.reduceEqDiff, Nat.reduceAdd, Nat.reduceLT, Nat.reduceLeDiff, ↓reduceIte, reduceCtorEq, Int.reduceEq, Int.reduceLT]
    exact ret0 rfl (by rw [groundB, ht]; rfl)
  | true =>
    simp (contextual := true) (maxSteps := 1000000) only [stepsS, stepsT, stepsN, if_true, forall_const, ne_eq, implies_true, List.nil_append, List.append_nil, List.cons_append, List.length_cons, List.length_nil, Nat.reduceEqDiff, Nat.reduceAdd, Nat.reduceLT, Nat.reduceLeDiff, ↓reduceIte, reduceCtorEq, Int.reduceEq, Int.reduceLT]
    refine scall_pure (c54 [t]) ?_
    simp (contextual := true) (maxSteps := 1000000) only [stepsS, stepsT, stepsN, if_true, forall_const, ne_eq, implies_true, List.nil_append, List.append_nil, List.cons_append, List.length_cons, List.length_nil, Nat.reduceEqDiff, Nat.reduceAdd, Nat.reduceLT, Nat.reduceLeDiff, ↓reduceIte, reduceCtorEq, Int.reduceEq, Int.reduceLT]
    refine ret0 rfl ?_
    have h := gts_fv [t] (by rw [shapeds_all]; simp [((T.tree_iff t).1 ht).2.2])
    simp only [fvs, List.append_nil] at h
    rw [groundB, ht, Bool.true_and, decide_eq_decide.2 h]
theorem c40 (t : T) : Pure Try.prog 40 [t.av] (.bool (groundB t)) := by
  refine fun H => ok40.calls (by simp [fi40]) ?_
  simp only [fi40, ir40]
  simp (contextual := true) (maxSteps := 1000000) only [stepsS, stepsT, stepsN, if_true, forall_const, ne_eq, implies_true, List.nil_append, List.append_nil, List.cons_append, List.length_cons, List.length_nil, Nat.reduceEqDiff, Nat.reduceAdd, Nat.reduceLT, Nat.reduceLeDiff, ↓reduceIte, reduceCtorEq, Int.reduceEq, Int.reduceLT]
  refine scall_pure (c15' t) ?_
  cases ht : t.tree with
  | false =>
    simp (contextual := true) (maxSteps := 1000000) only [stepsS, stepsT, stepsN, if_true, forall_const, ne_eq, implies_true, List.nil_append, List.append_nil, List.cons_append, List.length_cons, List.length_nil, Nat.reduceEqDiff, Nat.reduceAdd, Nat.reduceLT, Nat.reduceLeDiff, ↓reduceIte, reduceCtorEq, Int.reduceEq, Int.reduceLT]
    exact ret0 rfl (by rw [groundB, ht]; rfl)
  | true =>
    have hz := (T.tree_iff t).1 ht
    simp (contextual := true) (maxSteps := 1000000) only [stepsS, stepsT, stepsN, if_true, forall_const, ne_eq, implies_true, List.nil_append, List.append_nil, List.cons_append, List.length_cons, List.length_nil, Nat.reduceEqDiff, Nat.reduceAdd, Nat.reduceLT, Nat.reduceLeDiff, ↓reduceIte, reduceCtorEq, Int.reduceEq, Int.reduceLT]
    refine scall_pure (c29 [t] (by simp only [szs]; omega)) ?_
    simp (contextual := true) (maxSteps := 1000000) only [stepsS, stepsT, stepsN, if_true, forall_const, ne_eq, implies_true, List.nil_append, List.append_nil, List.cons_append, List.length_cons, List.length_nil, Nat.reduceEqDiff, Nat.reduceAdd, Nat.reduceLT, Nat.reduceLeDiff, ↓reduceIte, reduceCtorEq, Int.reduceEq, Int.reduceLT]
    intro _
    refine ret0 rfl ?_
    have e : varsL [t] = walkVs [t] [] := by rw [varsW, if_pos (by simp [treesB, ht])]
    have h : (((varsL [t]).length : Int) = 0) ↔ t.fv = [] := by
      rw [e]
      constructor
      · intro h
        have : walkVs [t] [] = [] := List.length_eq_zero_iff.1 (by omega)
        rw [List.eq_nil_iff_forall_not_mem]
        intro v hv
        have := (mem_vars t v).2 hv
        rw [‹walkVs [t] [] = []›] at this
        cases this
      · intro h
        have : walkVs [t] [] = [] := by
          rw [List.eq_nil_iff_forall_not_mem]
          intro v hv
          have := (mem_vars t v).1 hv
          rw [h] at this; cases this
        rw [this]; rfl
    rw [groundB, ht, Bool.true_and, decide_eq_decide.2 h]
theorem ok_avs (l : List T) : okE 3 (avs l) = True := by
  simp only [okE, eq_iff_iff, iff_true]
  intro y hy
  rw [avs_map] at hy
  obtain ⟨z, _, rfl⟩ := List.mem_map.1 hy
  exact ⟨z.av_clen, z.av_one⟩
theorem few_app {a b : T} {l : List T} (h : fewL (a :: b :: l) = true) : szs l ≤ 6000 := by
  have := few_sz h
  simp only [szs] at this
  have := a.sz_pos
  have := b.sz_pos
  omega
end Go.Abs
