/- Signatures: Sort. -/
import Derived.Test.YtcfmgncmkbiknaaY04se
set_option maxRecDepth 100000
set_option linter.unusedSimpArgs false
set_option linter.unusedVariables false
namespace Go.Abs
open Go Go.Proofs
/-- What variables have, where their sorts are given. -/
def hasV (vars : List Int) (v sort : Int) (_ : Unit) : Bool × Unit := (decide (v < vars.length) && decide (vars.getD v.toNat 0 = sort), ())
theorem c69 (vars : List Int) (v sort : Int) (h0 : 0 ≤ v) : Pure Try.prog 69 [.int .i64 v, .int .i64 sort, .iptr (.lst 0 (ints vars))] (.bool (hasV vars v sort ()).1) := by
  refine fun H => ok69.calls (by simp [fi69]) ?_
  simp only [fi69, ir69]
  unfold hasV
  obtain ⟨m, rfl⟩ := Int.eq_ofNat_of_zero_le h0
  by_cases h : (m : Int) < vars.length
  · have hm : m < vars.length := by omega
    rw [decide_eq_true h, Int.toNat_natCast]
    simp (contextual := true) (maxSteps := 1000000) only [h, hm, stepsS, stepsT, stepsN, if_true, forall_const, ne_eq, implies_true, List.nil_append, List.append_nil, List.cons_append, List.length_cons, List.length_nil, Nat.reduceEqDiff, Nat.reduceAdd, Nat.reduceLT, Nat.reduceLeDiff, ↓reduceIte, reduceCtorEq, Int.reduceEq, Int.reduceLT]
    exact fun _ => ret0 rfl rfl
  · rw [decide_eq_false h]
    simp (contextual := true) (maxSteps := 1000000) only [h, Bool.false_and, stepsS, stepsT, stepsN, if_true, forall_const, ne_eq, implies_true, List.nil_append, List.append_nil, List.cons_append, List.length_cons, List.length_nil, Nat.reduceEqDiff, Nat.reduceAdd, Nat.reduceLT, Nat.reduceLeDiff, ↓reduceIte, reduceCtorEq, Int.reduceEq, Int.reduceLT]
    exact fun _ => ret0 rfl rfl
def sort0 (s : Sg) (vars : List Int) (t : T) : Int :=
  if t.k = 1 ∧ t.n < vars.length then vars.getD t.n.toNat 0 else if t.k = 2 ∧ t.n < s.ops.length then (s.ops.getD t.n.toNat default).res else -1
def typB (s : Sg) (vars : List Int) (t : T) (k : Int) : Bool := (tyT s.ops (hasV vars) t k ()).1
def sortS (s : Sg) (vars : List Int) (t : T) : Int × Int :=
  if chkB s = true then if (vars.any fun a => !isS s.sorts.length a) = true then (0, 1) else if t.tree = true then
    if sort0 s vars t < 0 ∨ typB s vars t (sort0 s vars t) = false then (0, 4) else (sort0 s vars t, 0) else (0, 4) else (0, 40)
theorem c68p (s : Sg) (vars : List Int) (t : T) (k : Int) (ht : t.shaped = true) : Pure Try.prog 68 [s.av, t.av, .int .i64 k, .fn (.func 69) [] [.iptr (.lst 0 (ints vars))]] (.bool (typB s vars t k)) := by
  intro H
  have h := c68 (σ := Unit) (S := fun _ => H) (n0 := H.length) (fun _ => rfl) 69 [.iptr (.lst 0 (ints vars))] rfl (by simp [belowL, AV.blw, ints_blw]) s (hasV vars) (fun v => 0 ≤ v)
    (fun v sort st e hv => (c69 vars v sort hv (H ++ e)).mono fun r H' ⟨h1, h2⟩ => ⟨by rw [h1], h2⟩) t k () [] ht (fv_shaped t ht)
  rw [List.append_nil] at h
  exact h.mono fun r H' ⟨h1, h2⟩ => ⟨h1, by rw [h2]⟩
def rest26 : IR := ir26.tl.tl.tl.tl
theorem ir26_eq : ir26 = .seq ir26.hd (.seq ir26.tl.hd (.seq ir26.tl.tl.hd (.seq ir26.tl.tl.tl.hd rest26))) := rfl
def Q26 (H : List AObj) (x : Int × Int) : Exit → Env → List AObj → Prop := fun e env H' => (e = Exit.normal ∨ e = Exit.ret) ∧ aret H.length [RX.t 6, RX.t 7] env H' fun r H' => r = AV.tuple [.int .i64 x.1, .int .i64 x.2] ∧ H' = H
theorem rest26_ok {H : List AObj} {env : Env} (s : Sg) (vars : List Int) (t : T) (x : Int) (ht : t.shaped = true) (h3 : get env 3 = .iptr s.av) (h4 : get env 4 = .iptr (.lst 0 (ints vars))) (h5 : get env 5 = .iptr t.av) (h8 : get env 8 = .int .i64 x) :
    swp Try.prog H.length rest26 env H (Q26 H (if x < 0 ∨ typB s vars t x = false then (0, 4) else (x, 0))) := by
  unfold Q26
  simp only [rest26, IR.tl, ir26]
  have hty := c68p s vars t x ht
  simp (contextual := true) (maxSteps := 1000000) only [stepsO, h3, h4, h5, h8, stepsS, stepsT, stepsN, if_true, forall_const, ne_eq, implies_true, List.nil_append, List.append_nil, List.cons_append, List.length_cons, List.length_nil, Nat.reduceEqDiff, Nat.reduceAdd, Nat.reduceLT, Nat.reduceLeDiff, ↓reduceIte, reduceCtorEq, Int.reduceEq, Int.reduceLT]
  refine ⟨fun h => scall_pure hty ?_, fun h => ?_⟩
  · cases hb : typB s vars t x with
    | true =>
      rw [if_neg (by rintro (h' | h') <;> first | omega | cases h')]
      simp (contextual := true) (maxSteps := 1000000) only [stepsO, h8, stepsS, stepsT, stepsN, if_true, forall_const, ne_eq, implies_true, List.nil_append, List.append_nil, List.cons_append, List.length_cons, List.length_nil, Nat.reduceEqDiff, Nat.reduceAdd, Nat.reduceLT, Nat.reduceLeDiff, ↓reduceIte, reduceCtorEq, Int.reduceEq, Int.reduceLT]
      exact ret20 (by decide) rfl rfl rfl rfl
    | false =>
      rw [if_pos (.inr rfl)]
      simp (contextual := true) (maxSteps := 1000000) only [stepsO, h8, Bool.false_eq_true, stepsS, stepsT, stepsN, if_true, forall_const, ne_eq, implies_true, List.nil_append, List.append_nil, List.cons_append, List.length_cons, List.length_nil, Nat.reduceEqDiff, Nat.reduceAdd, Nat.reduceLT, Nat.reduceLeDiff, ↓reduceIte, reduceCtorEq, Int.reduceEq, Int.reduceLT]
      exact ret20 (by decide) rfl rfl rfl rfl
  · rw [if_pos (.inl h)]
    exact ret20 (by decide) rfl rfl rfl rfl
theorem c26 (s : Sg) (vars : List Int) (t : T) : Pure Try.prog 26 [s.av, .lst 0 (ints vars), t.av] (.tuple [.int .i64 (sortS s vars t).1, .int .i64 (sortS s vars t).2]) := by
  refine fun H => ok26.calls (by simp [fi26]) ?_
  simp only [fi26]
  rw [ir26_eq]
  simp only [IR.hd, IR.tl, ir26]
  simp (contextual := true) (maxSteps := 1000000) only [stepsO, stepsS, stepsT, stepsN, if_true, forall_const, ne_eq, implies_true, List.nil_append, List.append_nil, List.cons_append, List.length_cons, List.length_nil, Nat.reduceEqDiff, Nat.reduceAdd, Nat.reduceLT, Nat.reduceLeDiff, ↓reduceIte, reduceCtorEq, Int.reduceEq, Int.reduceLT]
  refine scall_pure (c48 s) ?_
  cases hc : chkB s with
  | false =>
    have e : sortS s vars t = (0, 40) := by rw [sortS, if_neg (by rw [hc]; simp)]
    rw [e]
    simp (contextual := true) (maxSteps := 1000000) only [stepsO, Bool.false_eq_true, Int.reduceEq, stepsS, stepsT, stepsN, if_true, forall_const, ne_eq, implies_true, List.nil_append, List.append_nil, List.cons_append, List.length_cons, List.length_nil, Nat.reduceEqDiff, Nat.reduceAdd, Nat.reduceLT, Nat.reduceLeDiff, ↓reduceIte, reduceCtorEq, Int.reduceEq, Int.reduceLT]
    exact ret20 (by decide) rfl rfl rfl rfl
  | true =>
    simp (contextual := true) (maxSteps := 1000000) only [stepsO, stepsS, stepsT, stepsN, if_true, forall_const, ne_eq, implies_true, List.nil_append, List.append_nil, List.cons_append, List.length_cons, List.length_nil, Nat.reduceEqDiff, Nat.reduceAdd, Nat.reduceLT, Nat.reduceLeDiff, ↓reduceIte, reduceCtorEq, Int.reduceEq, Int.reduceLT]
    refine scall_pure (c66 67 [.iptr s.av] rfl (by simp [belowL, AV.blw, Sg.av_blw]) (fun a => !isS s.sorts.length a) vars (fun a _ => c67 s a)) ?_
    cases hv : (vars.any fun a => !isS s.sorts.length a) with
    | true =>
      have e : sortS s vars t = (0, 1) := by rw [sortS, if_pos hc, if_pos hv]
      rw [e]
      simp (contextual := true) (maxSteps := 1000000) only [stepsO, stepsS, stepsT, stepsN, if_true, forall_const, ne_eq, implies_true, List.nil_append, List.append_nil, List.cons_append, List.length_cons, List.length_nil, Nat.reduceEqDiff, Nat.reduceAdd, Nat.reduceLT, Nat.reduceLeDiff, ↓reduceIte, reduceCtorEq, Int.reduceEq, Int.reduceLT]
      exact ret20 (by decide) rfl rfl rfl rfl
    | false =>
      simp (contextual := true) (maxSteps := 1000000) only [stepsO, Bool.false_eq_true, stepsS, stepsT, stepsN, if_true, forall_const, ne_eq, implies_true, List.nil_append, List.append_nil, List.cons_append, List.length_cons, List.length_nil, Nat.reduceEqDiff, Nat.reduceAdd, Nat.reduceLT, Nat.reduceLeDiff, ↓reduceIte, reduceCtorEq, Int.reduceEq, Int.reduceLT]
      refine scall_pure (c57 t) ?_
      cases ht : t.tree with
      | false =>
        have e : sortS s vars t = (0, 4) := by rw [sortS, if_pos hc, if_neg (by rw [hv]; simp), if_neg (by rw [ht]; simp)]
        rw [e]
        simp (contextual := true) (maxSteps := 1000000) only [stepsO, Bool.false_eq_true, stepsS, stepsT, stepsN, if_true, forall_const, ne_eq, implies_true, List.nil_append, List.append_nil, List.cons_append, List.length_cons, List.length_nil, Nat.reduceEqDiff, Nat.reduceAdd, Nat.reduceLT, Nat.reduceLeDiff, ↓reduceIte, reduceCtorEq, Int.reduceEq, Int.reduceLT]
        exact ret20 (by decide) rfl rfl rfl rfl
      | true =>
        have e : sortS s vars t = if sort0 s vars t < 0 ∨ typB s vars t (sort0 s vars t) = false then (0, 4) else (sort0 s vars t, 0) := by rw [sortS, if_pos hc, if_neg (by rw [hv]; simp), if_pos ht]
        rw [e]
        have hs := ((T.tree_iff t).1 ht).2.2
        have hR : ∀ {env : Env} (x : Int), get env 3 = .iptr s.av → get env 4 = .iptr (.lst 0 (ints vars)) → get env 5 = .iptr t.av → get env 8 = .int .i64 x → swp Try.prog H.length rest26 env H (Q26 H (if x < 0 ∨ typB s vars t x = false then (0, 4) else (x, 0))) :=
          fun x h3 h4 h5 h8 => rest26_ok s vars t x hs h3 h4 h5 h8
        have hn0 : 0 ≤ t.n := by
          have := hs
          rw [T.shaped_eq] at this
          simp only [Bool.and_eq_true, Bool.not_eq_true', Bool.or_eq_false_iff, decide_eq_false_iff_not, Bool.and_eq_false_iff] at this
          omega
        obtain ⟨m, hm⟩ := Int.eq_ofNat_of_zero_le hn0
        by_cases h1 : t.k = 1 ∧ t.n < vars.length
        · have e0 : sort0 s vars t = vars.getD m 0 := by rw [sort0, if_pos h1, hm]; rfl
          rw [e0]
          have hlt : m < vars.length := by omega
          have hlt' : (m : Int) < vars.length := by omega
          simp (contextual := true) (maxSteps := 1000000) only [stepsO, h1.1, hm, hlt, hlt', stepsS, stepsT, stepsN, if_true, forall_const, ne_eq, implies_true, List.nil_append, List.append_nil, List.cons_append, List.length_cons, List.length_nil, Nat.reduceEqDiff, Nat.reduceAdd, Nat.reduceLT, Nat.reduceLeDiff, ↓reduceIte, reduceCtorEq, Int.reduceEq, Int.reduceLT]
          exact fun _ => hR _ rfl rfl rfl rfl
        · by_cases h2 : t.k = 2 ∧ t.n < s.ops.length
          · have e0 : sort0 s vars t = (s.ops.getD m default).res := by rw [sort0, if_neg h1, if_pos h2, hm]; rfl
            rw [e0]
            have hlt : m < s.ops.length := by omega
            have hlt' : (m : Int) < s.ops.length := by omega
            simp (contextual := true) (maxSteps := 1000000) only [stepsO, h2.1, hm, hlt, hlt', Int.reduceEq, stepsS, stepsT, stepsN, if_true, forall_const, ne_eq, implies_true, List.nil_append, List.append_nil, List.cons_append, List.length_cons, List.length_nil, Nat.reduceEqDiff, Nat.reduceAdd, Nat.reduceLT, Nat.reduceLeDiff, ↓reduceIte, reduceCtorEq, Int.reduceEq, Int.reduceLT]
            exact fun _ => hR _ rfl rfl rfl rfl
          · have e0 : sort0 s vars t = -1 := by rw [sort0, if_neg h1, if_neg h2]
            rw [e0]
            by_cases hk : t.k = 1
            · have hnl : ¬ (m : Int) < vars.length := fun h => h1 ⟨hk, by omega⟩
              simp (contextual := true) (maxSteps := 1000000) only [stepsO, hk, hm, hnl, Int.reduceEq, stepsS, stepsT, stepsN, if_true, forall_const, ne_eq, implies_true, List.nil_append, List.append_nil, List.cons_append, List.length_cons, List.length_nil, Nat.reduceEqDiff, Nat.reduceAdd, Nat.reduceLT, Nat.reduceLeDiff, ↓reduceIte, reduceCtorEq, Int.reduceEq, Int.reduceLT]
              exact fun _ => hR _ rfl rfl rfl rfl
            · by_cases hk2 : t.k = 2
              · have hnl : ¬ (m : Int) < s.ops.length := fun h => h2 ⟨hk2, by omega⟩
                simp (contextual := true) (maxSteps := 1000000) only [stepsO, hk2, hm, hnl, Int.reduceEq, stepsS, stepsT, stepsN, if_true, forall_const, ne_eq, implies_true, List.nil_append, List.append_nil, List.cons_append, List.length_cons, List.length_nil, Nat.reduceEqDiff, Nat.reduceAdd, Nat.reduceLT, Nat.reduceLeDiff, ↓reduceIte, reduceCtorEq, Int.reduceEq, Int.reduceLT]
                exact fun _ => hR _ rfl rfl rfl rfl
              · simp (contextual := true) (maxSteps := 1000000) only [stepsO, hk, hk2, Int.reduceEq, stepsS, stepsT, stepsN, if_true, forall_const, ne_eq, implies_true, List.nil_append, List.append_nil, List.cons_append, List.length_cons, List.length_nil, Nat.reduceEqDiff, Nat.reduceAdd, Nat.reduceLT, Nat.reduceLeDiff, ↓reduceIte, reduceCtorEq, Int.reduceEq, Int.reduceLT]
                exact hR _ rfl rfl rfl rfl
end Go.Abs
