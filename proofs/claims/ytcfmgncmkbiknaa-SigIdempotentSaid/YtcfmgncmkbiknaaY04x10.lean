/- SigIdempotent's walk. -/
import Derived.Test.YtcfmgncmkbiknaaY04nz
import Derived.Test.YtcfmgncmkbiknaaY04L10
set_option maxRecDepth 100000
set_option linter.unusedSimpArgs false
set_option linter.unusedVariables false
set_option maxHeartbeats 1000000
namespace Go.Abs
open Go Go.Proofs
def rest10 : IR := ir10.tl.tl.tl.tl.tl.tl
theorem ir10_eq : ir10 = .seq ir10.hd (.seq ir10.tl.hd (.seq ir10.tl.tl.hd (.seq ir10.tl.tl.tl.hd (.seq ir10.tl.tl.tl.tl.hd (.seq ir10.tl.tl.tl.tl.tl.hd rest10))))) := rfl
def Q10 (H : List AObj) : Exit → Env → List AObj → Prop := fun e env H' => (e = Exit.normal ∨ e = Exit.ret) ∧ aret H.length [RX.t 4] env H' fun r H' => r = AV.bool true ∧ H' = H
theorem var_av (i : Nat) (n : Int) (hi : i < n.toNat) : ((List.range n.toNat).map fun (v : Nat) => T.mk 1 v []).getD i default = .mk 1 i [] := by simp [hi]
theorem rest10_ok {a b : T} {is : Bool} (ha : a.tree = true) (hb : b.tree = true) (hga : gts [a] ≤ 200) (hsw : (uniS b a).2.2 = 2 ∨ ((uniS b a).2.2 = 0 ∧ (uniS b a).2.1 = is)) {H G : List AObj} (hG : G.take H.length = H) (hGl : H.length ≤ G.length) {env : Env} (h2 : get env 2 = .iptr a.av) (h3 : get env 3 = .iptr b.av) (h6 : get env 6 = .bool is) :
    swp Try.prog H.length rest10 env G (Q10 H) := by
  have hai := (T.tree_iff _).1 ha
  have hg0 := gts_ge [a]
  unfold Q10
  simp only [rest10, IR.tl, ir10]
  simp (contextual := true) (maxSteps := 1000000) only [h2, h3, h6, stepsS, stepsT, stepsN, if_true, forall_const, ne_eq, implies_true, List.nil_append, List.append_nil, List.cons_append, List.length_cons, List.length_nil, Nat.reduceEqDiff, Nat.reduceAdd, Nat.reduceLT, Nat.reduceLeDiff, ↓reduceIte, reduceCtorEq, Int.reduceEq, Int.reduceLT]
  refine scall_pure (c18 a a) ?_
  rw [uni_self ha (by omega)]
  have w1 : IntKind.i64.wrap (gts [a] + 1) = ((gts [a] + 1).toNat : Int) := by rw [wrap_in _ (by omega)]; omega
  have hget := fun i => var_av i (gts [a] + 1)
  have hlen : ((List.range (gts [a] + 1).toNat).map fun (v : Nat) => T.mk 1 v []).length = (gts [a] + 1).toNat := by simp
  have hn : (gts [a] + 1).toNat ≤ 201 := by omega
  generalize ((List.range (gts [a] + 1).toNat).map fun (v : Nat) => T.mk 1 v []) = ids at *
  generalize (gts [a] + 1).toNat = n at *
  simp (contextual := true) (maxSteps := 1000000) only [h2, h3, h6, stepsS, stepsT, stepsN, if_true, forall_const, ne_eq, implies_true, List.nil_append, List.append_nil, List.cons_append, List.length_cons, List.length_nil, Nat.reduceEqDiff, Nat.reduceAdd, Nat.reduceLT, Nat.reduceLeDiff, ↓reduceIte, reduceCtorEq, Int.reduceEq, Int.reduceLT]
  intro _
  simp (contextual := true) (maxSteps := 1000000) only [h2, h3, h6, stepsS, stepsT, stepsN, if_true, forall_const, ne_eq, implies_true, List.nil_append, List.append_nil, List.cons_append, List.length_cons, List.length_nil, Nat.reduceEqDiff, Nat.reduceAdd, Nat.reduceLT, Nat.reduceLeDiff, ↓reduceIte, reduceCtorEq, Int.reduceEq, Int.reduceLT]
  refine scall_pure (c17 [a] (by simp only [szs]; omega)) ?_
  rw [most_gts (by simp [treesB, ha])]
  simp (contextual := true) (maxSteps := 1000000) only [h2, h3, h6, w1, hlen, stepsS, stepsT, stepsN, if_true, forall_const, ne_eq, implies_true, List.nil_append, List.append_nil, List.cons_append, List.length_cons, List.length_nil, Nat.reduceEqDiff, Nat.reduceAdd, Nat.reduceLT, Nat.reduceLeDiff, ↓reduceIte, reduceCtorEq, Int.reduceEq, Int.reduceLT]
  intro _
  refine swp_loop_nat n (fun i => True)
    (fun i => [(2, .iptr a.av), (3, .iptr b.av), (6, .bool is), (97, .lst 0 (avs ids)), (98, .int .i64 n), (99, .int .i64 i)]) (fun i => G) ⟨trivial, sle_refl _ _ _⟩ fun i hi hI => ?_
  simp (contextual := true) (maxSteps := 1000000) only [h2, h3, h6, stepsS, stepsT, stepsN, if_true, forall_const, ne_eq, implies_true, List.nil_append, List.append_nil, List.cons_append, List.length_cons, List.length_nil, Nat.reduceEqDiff, Nat.reduceAdd, Nat.reduceLT, Nat.reduceLeDiff, ↓reduceIte, reduceCtorEq, Int.reduceEq, Int.reduceLT]
  refine ⟨fun hlt => ⟨by have := len_lt hlt; omega, ?_⟩, fun hge => ?_⟩
  · have hlt := len_lt hlt
    refine dcall_pure (c21 _) ?_
    have eg := hget i hlt
    have hs : ∀ x : T, x.same x = true := fun x => (T.same_iff x x).2 rfl
    simp (contextual := true) (maxSteps := 1000000) only [h2, h3, h6, stepsS, stepsT, stepsN, if_true, forall_const, ne_eq, implies_true, List.nil_append, List.append_nil, List.cons_append, List.length_cons, List.length_nil, Nat.reduceEqDiff, Nat.reduceAdd, Nat.reduceLT, Nat.reduceLeDiff, ↓reduceIte, reduceCtorEq, Int.reduceEq, Int.reduceLT]
    refine dcall_pure (c20 _ _) ?_
    rw [eg, hs]
    simp (contextual := true) (maxSteps := 1000000) only [h2, h3, h6, stepsS, stepsT, stepsN, if_true, forall_const, ne_eq, implies_true, List.nil_append, List.append_nil, List.cons_append, List.length_cons, List.length_nil, Nat.reduceEqDiff, Nat.reduceAdd, Nat.reduceLT, Nat.reduceLeDiff, ↓reduceIte, reduceCtorEq, Int.reduceEq, Int.reduceLT]
    exact ⟨i + 1, hlt, by omega, sle_drop (by rw [wrap_nat i (by omega)]) hGl (by simp only [stepsS, stepsT, stepsN, if_true, forall_const, ne_eq, implies_true, List.nil_append, List.append_nil, List.cons_append, List.length_cons, List.length_nil, Nat.reduceEqDiff, Nat.reduceAdd, Nat.reduceLT, Nat.reduceLeDiff, ↓reduceIte, reduceCtorEq, Int.reduceEq, Int.reduceLT]) _ rfl⟩
  · refine scall_pure (c18 b a) ?_
    simp (contextual := true) (maxSteps := 1000000) only [stepsS, stepsT, stepsN, if_true, forall_const, ne_eq, implies_true, List.nil_append, List.append_nil, List.cons_append, List.length_cons, List.length_nil, Nat.reduceEqDiff, Nat.reduceAdd, Nat.reduceLT, Nat.reduceLeDiff, ↓reduceIte, reduceCtorEq, Int.reduceEq, Int.reduceLT]
    refine ⟨fun h1 => ⟨fun h0 => ?_, fun h0 => ?_⟩, fun h1 => ?_⟩
    · have : (uniS b a).2.1 = is := by
        rcases hsw with h | h
        · exact absurd h h1
        · exact h.2
      exact retw hG rfl rfl ⟨by simp [this], rfl⟩
    · exfalso; omega
    · exact retw hG rfl rfl ⟨rfl, rfl⟩
theorem c10 (a b : T) : Pure Try.prog 10 [a.av, b.av] (.bool true) := by
  refine fun H => ok10.calls (by simp [fi10]) ?_
  simp only [fi10]
  rw [ir10_eq]
  simp only [IR.hd, IR.tl, ir10]
  simp (contextual := true) (maxSteps := 1000000) only [stepsS, stepsT, stepsN, if_true, forall_const, ne_eq, implies_true, List.nil_append, List.append_nil, List.cons_append, List.length_cons, List.length_nil, Nat.reduceEqDiff, Nat.reduceAdd, Nat.reduceLT, Nat.reduceLeDiff, ↓reduceIte, reduceCtorEq, Int.reduceEq, Int.reduceLT]
  refine scall_pure c13 ?_
  simp (contextual := true) (maxSteps := 1000000) only [stepsS, stepsT, stepsN, if_true, forall_const, ne_eq, implies_true, List.nil_append, List.append_nil, List.cons_append, List.length_cons, List.length_nil, Nat.reduceEqDiff, Nat.reduceAdd, Nat.reduceLT, Nat.reduceLeDiff, ↓reduceIte, reduceCtorEq, Int.reduceEq, Int.reduceLT]
  refine scall_pure (c14 [a, b]) ?_
  cases hf : fewL [a, b] with
  | false =>
    simp (contextual := true) (maxSteps := 1000000) only [Bool.false_eq_true, stepsS, stepsT, stepsN, if_true, forall_const, ne_eq, implies_true, List.nil_append, List.append_nil, List.cons_append, List.length_cons, List.length_nil, Nat.reduceEqDiff, Nat.reduceAdd, Nat.reduceLT, Nat.reduceLeDiff, ↓reduceIte, reduceCtorEq, Int.reduceEq, Int.reduceLT]
    exact ret0 rfl rfl
  | true =>
    simp (contextual := true) (maxSteps := 1000000) only [stepsS, stepsT, stepsN, if_true, forall_const, ne_eq, implies_true, List.nil_append, List.append_nil, List.cons_append, List.length_cons, List.length_nil, Nat.reduceEqDiff, Nat.reduceAdd, Nat.reduceLT, Nat.reduceLeDiff, ↓reduceIte, reduceCtorEq, Int.reduceEq, Int.reduceLT]
    refine scall_pure (c15' a) ?_
    cases ha : a.tree with
    | false =>
      simp (contextual := true) (maxSteps := 1000000) only [Bool.false_eq_true, stepsS, stepsT, stepsN, if_true, forall_const, ne_eq, implies_true, List.nil_append, List.append_nil, List.cons_append, List.length_cons, List.length_nil, Nat.reduceEqDiff, Nat.reduceAdd, Nat.reduceLT, Nat.reduceLeDiff, ↓reduceIte, reduceCtorEq, Int.reduceEq, Int.reduceLT]
      exact ret0 rfl rfl
    | true =>
      simp (contextual := true) (maxSteps := 1000000) only [stepsS, stepsT, stepsN, if_true, forall_const, ne_eq, implies_true, List.nil_append, List.append_nil, List.cons_append, List.length_cons, List.length_nil, Nat.reduceEqDiff, Nat.reduceAdd, Nat.reduceLT, Nat.reduceLeDiff, ↓reduceIte, reduceCtorEq, Int.reduceEq, Int.reduceLT]
      refine scall_pure (c15' b) ?_
      cases hb : b.tree with
      | false =>
        simp (contextual := true) (maxSteps := 1000000) only [Bool.false_eq_true, stepsS, stepsT, stepsN, if_true, forall_const, ne_eq, implies_true, List.nil_append, List.append_nil, List.cons_append, List.length_cons, List.length_nil, Nat.reduceEqDiff, Nat.reduceAdd, Nat.reduceLT, Nat.reduceLeDiff, ↓reduceIte, reduceCtorEq, Int.reduceEq, Int.reduceLT]
        exact ret0 rfl rfl
      | true =>
        have hai := (T.tree_iff _).1 ha
        have hbi := (T.tree_iff _).1 hb
        simp (contextual := true) (maxSteps := 1000000) only [stepsS, stepsT, stepsN, if_true, forall_const, ne_eq, implies_true, List.nil_append, List.append_nil, List.cons_append, List.length_cons, List.length_nil, Nat.reduceEqDiff, Nat.reduceAdd, Nat.reduceLT, Nat.reduceLeDiff, ↓reduceIte, reduceCtorEq, Int.reduceEq, Int.reduceLT]
        refine scall_pure (c17 [a, b] (by simp only [szs]; omega)) ?_
        rw [most_gts (by simp [treesB, ha, hb])]
        simp (contextual := true) (maxSteps := 1000000) only [stepsS, stepsT, stepsN, if_true, forall_const, ne_eq, implies_true, List.nil_append, List.append_nil, List.cons_append, List.length_cons, List.length_nil, Nat.reduceEqDiff, Nat.reduceAdd, Nat.reduceLT, Nat.reduceLeDiff, ↓reduceIte, reduceCtorEq, Int.reduceEq, Int.reduceLT]
        refine ⟨fun _ => ret0 rfl rfl, fun hg => ?_⟩
        have hg0 := gts_ge [a, b]
        have hg2 := gts2 a b
        have hga := gts_ge [a]
        refine scall_pure (c18 a b) ?_
        have herr := uni_err ha hb (by omega)
        have hswap := uni_swap ha hb (by omega)
        have hfix := @uni_fix a b
        have hlen := uni_len a b
        generalize uniS a b = R at *
        obtain ⟨u, is, er⟩ := R
        simp only at herr hswap hfix hlen
        have hR : er = 0 → ∀ {env : Env}, get env 2 = .iptr a.av → get env 3 = .iptr b.av → get env 6 = .bool is → swp Try.prog H.length rest10 env H (Q10 H) :=
          fun he _ h2 h3 h6 => rest10_ok ha hb (by omega) (hswap he) (List.take_length) (Nat.le_refl _) h2 h3 h6
        simp (contextual := true) (maxSteps := 1000000) only [stepsS, stepsT, stepsN, if_true, forall_const, ne_eq, implies_true, List.nil_append, List.append_nil, List.cons_append, List.length_cons, List.length_nil, Nat.reduceEqDiff, Nat.reduceAdd, Nat.reduceLT, Nat.reduceLeDiff, ↓reduceIte, reduceCtorEq, Int.reduceEq, Int.reduceLT]
        refine ⟨fun he => ?_, fun he => ?_⟩
        · have : er = 2 := by omega
          exact ret0 rfl (by simp [this])
        · cases is with
          | false =>
            simp (contextual := true) (maxSteps := 1000000) only [Bool.false_eq_true, stepsS, stepsT, stepsN, if_true, forall_const, ne_eq, implies_true, List.nil_append, List.append_nil, List.cons_append, List.length_cons, List.length_nil, Nat.reduceEqDiff, Nat.reduceAdd, Nat.reduceLT, Nat.reduceLeDiff, ↓reduceIte, reduceCtorEq, Int.reduceEq, Int.reduceLT]
            have := hR he (env := [(2, a.av.iptr), (3, b.av.iptr), (5, .lst 0 (avs u)), (6, .bool false), (53, .bool false)]) rfl rfl rfl
            exact this
          | true =>
            simp (contextual := true) (maxSteps := 1000000) only [stepsS, stepsT, stepsN, if_true, forall_const, ne_eq, implies_true, List.nil_append, List.append_nil, List.cons_append, List.length_cons, List.length_nil, Nat.reduceEqDiff, Nat.reduceAdd, Nat.reduceLT, Nat.reduceLeDiff, ↓reduceIte, reduceCtorEq, Int.reduceEq, Int.reduceLT]
            intro _
            refine swp_loop_nat u.length (fun i => True)
              (fun i => [(2, .iptr a.av), (3, .iptr b.av), (5, .lst 0 (avs u)), (6, .bool true), (54, .lst 0 (avs u)), (55, .int .i64 u.length), (56, .int .i64 i)]) (fun i => H) ⟨trivial, sle_refl _ _ _⟩ fun i hi hI => ?_
            simp (contextual := true) (maxSteps := 1000000) only [stepsS, stepsT, stepsN, if_true, forall_const, ne_eq, implies_true, List.nil_append, List.append_nil, List.cons_append, List.length_cons, List.length_nil, Nat.reduceEqDiff, Nat.reduceAdd, Nat.reduceLT, Nat.reduceLeDiff, ↓reduceIte, reduceCtorEq, Int.reduceEq, Int.reduceLT]
            refine ⟨fun hlt => ⟨len_lt hlt, ?_⟩, fun hge => ?_⟩
            · have hlt := len_lt hlt
              refine scall_pure (c19 _ u (by omega)) ?_
              rw [hfix rfl _ (mem_getD hlt)]
              simp (contextual := true) (maxSteps := 1000000) only [stepsS, stepsT, stepsN, if_true, forall_const, ne_eq, implies_true, List.nil_append, List.append_nil, List.cons_append, List.length_cons, List.length_nil, Nat.reduceEqDiff, Nat.reduceAdd, Nat.reduceLT, Nat.reduceLeDiff, ↓reduceIte, reduceCtorEq, Int.reduceEq, Int.reduceLT]
              refine scall_pure (c20 _ _) ?_
              have hs : ∀ x : T, x.same x = true := fun x => (T.same_iff x x).2 rfl
              rw [hs]
              simp (contextual := true) (maxSteps := 1000000) only [stepsS, stepsT, stepsN, if_true, forall_const, ne_eq, implies_true, List.nil_append, List.append_nil, List.cons_append, List.length_cons, List.length_nil, Nat.reduceEqDiff, Nat.reduceAdd, Nat.reduceLT, Nat.reduceLeDiff, ↓reduceIte, reduceCtorEq, Int.reduceEq, Int.reduceLT]
              exact ⟨i + 1, hlt, by omega, sle_eq (by rw [wrap_nat i (by omega)]) rfl⟩
            · exact hR he rfl rfl rfl
end Go.Abs
