/- SigPuts' walk. -/
import Derived.Test.YtcfmgncmkbiknaaPah
import Derived.Test.YtcfmgncmkbiknaaPag
set_option maxRecDepth 100000
set_option linter.unusedSimpArgs false
set_option linter.unusedVariables false
set_option maxHeartbeats 1000000
namespace Go.Abs
open Go Go.Proofs
theorem pas_len (l : List (List Int)) : (pas l).length = l.length := by simp [pas]
theorem lens_pas (o : Nat) (l : List (List Int)) : (∀ (own : Nat) (xs : List AV), AV.lst o (pas l) = AV.lst own xs → ∀ z ∈ xs, z.cells.length = 1) = True := by
  simp only [eq_iff_iff, iff_true]
  intro own xs e z hz
  cases e
  obtain ⟨y, _, rfl⟩ := List.mem_map.1 hz
  rfl
theorem idx_pas (e o : Nat) (l : List (List Int)) (k : IntKind) (i : Nat) (φ : AV → Prop) : aindexAddr e (.lst o (pas l)) (.int k (i : Int)) φ = (i < l.length ∧ φ (.iptr (.lst 0 (ints (l.getD i []))))) := by
  simp only [aindexAddr, pas_len, Int.toNat_natCast, eq_iff_iff]
  constructor
  · rintro ⟨_, h, h2⟩; refine ⟨h, ?_⟩; simpa [pas, h] using h2
  · rintro ⟨h, h2⟩; refine ⟨by omega, h, ?_⟩; simpa [pas, h] using h2
theorem atT_tree : ∀ (p : List Int) {t x : T}, t.tree = true → atT t p = some x → x.tree = true
  | [], t, x, h, e => by simp only [atT] at e; cases e; exact h
  | i :: r, t, x, h, e => by
    simp only [atT] at e
    split at e
    · cases e
    · exact atT_tree r (tree_kids h _ (mem_getD (by omega))) e
theorem AtS_ok {t x : T} {p : List Int} (h : t.tree = true) (e : atT t p = some x) : AtS t p = (x, 0) := by rw [AtS, if_pos h, e]
theorem which_lt (w n : Int) (h0 : 0 < n) (h1 : n ≤ 2000) : ∃ j : Nat, (j : Int) < n ∧ IntKind.i64.wrap ((IntKind.u64.wrap w).tmod n) = (j : Int) := by
  have hw : 0 ≤ IntKind.u64.wrap w := by
    simp only [IntKind.wrap]
    have h2 : IntKind.u64.bits = 64 := rfl
    have h3 : IntKind.u64.signed = false := rfl
    rw [h2, h3]
    simp
    exact Int.emod_nonneg _ (by omega)
  have e : (IntKind.u64.wrap w).tmod n = (IntKind.u64.wrap w) % n := Int.tmod_eq_emod_of_nonneg hw
  have h2 := Int.emod_nonneg (IntKind.u64.wrap w) (show n ≠ 0 by omega)
  have h3 := Int.emod_lt_of_pos (IntKind.u64.wrap w) h0
  rw [e]
  refine ⟨((IntKind.u64.wrap w) % n).toNat, by omega, ?_⟩
  rw [wrap_in _ (by omega)]
  omega
theorem ci2 (k k' : IntKind) (n : Int) (φ : AV → Prop) : aconvInt k (.int k' n) φ = φ (.int k (k.wrap n)) := _root_.id rfl
theorem c12 (t u : T) (w : Int) : Pure Try.prog 12 [t.av, u.av, .int .i64 w] (.bool true) := by
  refine fun H => ok12.calls (by simp [fi12]) ?_
  simp only [fi12, ir12]
  simp (contextual := true) (maxSteps := 1000000) only [stepsS, stepsT, stepsN, if_true, forall_const, ne_eq, implies_true, List.nil_append, List.append_nil, List.cons_append, List.length_cons, List.length_nil, Nat.reduceEqDiff, Nat.reduceAdd, Nat.reduceLT, Nat.reduceLeDiff, ↓reduceIte, reduceCtorEq, Int.reduceEq, Int.reduceLT]
  refine scall_pure c13 ?_
  simp (contextual := true) (maxSteps := 1000000) only [stepsS, stepsT, stepsN, if_true, forall_const, ne_eq, implies_true, List.nil_append, List.append_nil, List.cons_append, List.length_cons, List.length_nil, Nat.reduceEqDiff, Nat.reduceAdd, Nat.reduceLT, Nat.reduceLeDiff, ↓reduceIte, reduceCtorEq, Int.reduceEq, Int.reduceLT]
  refine scall_pure (c14 [t, u]) ?_
  cases hf : fewL [t, u] with
  | false =>
    simp (contextual := true) (maxSteps := 1000000) only [Bool.false_eq_true, stepsS, stepsT, stepsN, if_true, forall_const, ne_eq, implies_true, List.nil_append, List.append_nil, List.cons_append, List.length_cons, List.length_nil, Nat.reduceEqDiff, Nat.reduceAdd, Nat.reduceLT, Nat.reduceLeDiff, ↓reduceIte, reduceCtorEq, Int.reduceEq, Int.reduceLT]
    exact ret0 rfl rfl
  | true =>
    simp (contextual := true) (maxSteps := 1000000) only [stepsS, stepsT, stepsN, if_true, forall_const, ne_eq, implies_true, List.nil_append, List.append_nil, List.cons_append, List.length_cons, List.length_nil, Nat.reduceEqDiff, Nat.reduceAdd, Nat.reduceLT, Nat.reduceLeDiff, ↓reduceIte, reduceCtorEq, Int.reduceEq, Int.reduceLT]
    refine scall_pure (c15' t) ?_
    cases ht : t.tree with
    | false =>
      simp (contextual := true) (maxSteps := 1000000) only [Bool.false_eq_true, stepsS, stepsT, stepsN, if_true, forall_const, ne_eq, implies_true, List.nil_append, List.append_nil, List.cons_append, List.length_cons, List.length_nil, Nat.reduceEqDiff, Nat.reduceAdd, Nat.reduceLT, Nat.reduceLeDiff, ↓reduceIte, reduceCtorEq, Int.reduceEq, Int.reduceLT]
      exact ret0 rfl rfl
    | true =>
      simp (contextual := true) (maxSteps := 1000000) only [stepsS, stepsT, stepsN, if_true, forall_const, ne_eq, implies_true, List.nil_append, List.append_nil, List.cons_append, List.length_cons, List.length_nil, Nat.reduceEqDiff, Nat.reduceAdd, Nat.reduceLT, Nat.reduceLeDiff, ↓reduceIte, reduceCtorEq, Int.reduceEq, Int.reduceLT]
      refine scall_pure (c15' u) ?_
      cases hu : u.tree with
      | false =>
        simp (contextual := true) (maxSteps := 1000000) only [Bool.false_eq_true, stepsS, stepsT, stepsN, if_true, forall_const, ne_eq, implies_true, List.nil_append, List.append_nil, List.cons_append, List.length_cons, List.length_nil, Nat.reduceEqDiff, Nat.reduceAdd, Nat.reduceLT, Nat.reduceLeDiff, ↓reduceIte, reduceCtorEq, Int.reduceEq, Int.reduceLT]
        exact ret0 rfl rfl
      | true =>
        have hti := (T.tree_iff t).1 ht
        have hz := t.sz_pos
        have ep : pathsV t = .lst 0 (pas (pathsT t [])) := by rw [pathsV, if_pos ht]
        simp (contextual := true) (maxSteps := 1000000) only [stepsS, stepsT, stepsN, if_true, forall_const, ne_eq, implies_true, List.nil_append, List.append_nil, List.cons_append, List.length_cons, List.length_nil, Nat.reduceEqDiff, Nat.reduceAdd, Nat.reduceLT, Nat.reduceLeDiff, ↓reduceIte, reduceCtorEq, Int.reduceEq, Int.reduceLT]
        refine scall_pure (c41 t) ?_
        rw [ep, if_pos ht]
        simp (contextual := true) (maxSteps := 1000000) only [stepsS, stepsT, stepsN, if_true, forall_const, ne_eq, implies_true, List.nil_append, List.append_nil, List.cons_append, List.length_cons, List.length_nil, Nat.reduceEqDiff, Nat.reduceAdd, Nat.reduceLT, Nat.reduceLeDiff, ↓reduceIte, reduceCtorEq, Int.reduceEq, Int.reduceLT]
        refine scall_pure (c34 t) ?_
        have es : sizeS t = (t.sz, t.dp) := by rw [sizeS, if_pos ⟨hti.1, hti.2.1⟩]
        rw [es]
        have hlen := paths_len t []
        have hps : ∀ q ∈ pathsT t [], (atT t q).isSome = true := fun q hq => by
          obtain ⟨s, rfl, h⟩ := paths_at t [] q hq
          simpa using h
        generalize pathsT t [] = ps at *
        have hne : ¬ t.sz = 0 := by omega
        have wz : IntKind.u64.wrap t.sz = t.sz := by
          simp only [IntKind.wrap]
          have h2 : IntKind.u64.bits = 64 := rfl
          have h3 : IntKind.u64.signed = false := rfl
          rw [h2, h3]
          simp
          omega
        simp (contextual := true) (maxSteps := 1000000) only [lens_pas, idx_pas, pas_len, hlen, hne, stepsS, stepsT, stepsN, if_true, forall_const, ne_eq, implies_true, List.nil_append, List.append_nil, List.cons_append, List.length_cons, List.length_nil, Nat.reduceEqDiff, Nat.reduceAdd, Nat.reduceLT, Nat.reduceLeDiff, ↓reduceIte, reduceCtorEq, Int.reduceEq, Int.reduceLT]
        intro _
        simp (contextual := true) (maxSteps := 1000000) only [ci2, wz, hne, stepsS, stepsT, stepsN, if_true, forall_const, ne_eq, implies_true, List.nil_append, List.append_nil, List.cons_append, List.length_cons, List.length_nil, Nat.reduceEqDiff, Nat.reduceAdd, Nat.reduceLT, Nat.reduceLeDiff, ↓reduceIte, reduceCtorEq, Int.reduceEq, Int.reduceLT]
        obtain ⟨j, hj, ej⟩ := which_lt w t.sz (by omega) (by omega)
        have hj' : j < ps.length := by omega
        have hq := hps (ps.getD j []) (by rw [List.getD_eq_getElem?_getD, List.getElem?_eq_getElem hj']; exact List.getElem_mem hj')
        obtain ⟨old, hold⟩ := Option.isSome_iff_exists.1 hq
        rw [ej]
        simp (contextual := true) (maxSteps := 1000000) only [lens_pas, idx_pas, stepsS, stepsT, stepsN, if_true, forall_const, ne_eq, implies_true, List.nil_append, List.append_nil, List.cons_append, List.length_cons, List.length_nil, Nat.reduceEqDiff, Nat.reduceAdd, Nat.reduceLT, Nat.reduceLeDiff, ↓reduceIte, reduceCtorEq, Int.reduceEq, Int.reduceLT]
        refine ⟨hj', ?_⟩
        generalize ps.getD j [] = q at *
        have eA := AtS_ok ht hold
        have hto := atT_tree q ht hold
        refine scall_pure (c42 t q) ?_
        rw [eA]
        simp (contextual := true) (maxSteps := 1000000) only [stepsS, stepsT, stepsN, if_true, forall_const, ne_eq, implies_true, List.nil_append, List.append_nil, List.cons_append, List.length_cons, List.length_nil, Nat.reduceEqDiff, Nat.reduceAdd, Nat.reduceLT, Nat.reduceLeDiff, ↓reduceIte, reduceCtorEq, Int.reduceEq, Int.reduceLT]
        refine scall_pure (c43 t q u) ?_
        have eP : PutS t q u = boundS (putT t q u) := by rw [PutS, if_pos ⟨ht, hu⟩, if_pos hq]
        rw [eP]
        cases hx : (putT t q u).tree with
        | false =>
          have eB : boundS (putT t q u) = (T0, 2) := by rw [boundS, if_neg (by rw [hx]; simp)]
          rw [eB]
          simp (contextual := true) (maxSteps := 1000000) only [stepsS, stepsT, stepsN, if_true, forall_const, ne_eq, implies_true, List.nil_append, List.append_nil, List.cons_append, List.length_cons, List.length_nil, Nat.reduceEqDiff, Nat.reduceAdd, Nat.reduceLT, Nat.reduceLeDiff, ↓reduceIte, reduceCtorEq, Int.reduceEq, Int.reduceLT]
          exact ret0 rfl (by simp)
        | true =>
          have eB : boundS (putT t q u) = (putT t q u, 0) := by rw [boundS, if_pos hx]
          rw [eB]
          simp (contextual := true) (maxSteps := 1000000) only [stepsS, stepsT, stepsN, if_true, forall_const, ne_eq, implies_true, List.nil_append, List.append_nil, List.cons_append, List.length_cons, List.length_nil, Nat.reduceEqDiff, Nat.reduceAdd, Nat.reduceLT, Nat.reduceLeDiff, ↓reduceIte, reduceCtorEq, Int.reduceEq, Int.reduceLT]
          refine scall_pure (c42 _ q) ?_
          rw [AtS_ok hx (atT_put q t u hq)]
          simp (contextual := true) (maxSteps := 1000000) only [stepsS, stepsT, stepsN, if_true, forall_const, ne_eq, implies_true, List.nil_append, List.append_nil, List.cons_append, List.length_cons, List.length_nil, Nat.reduceEqDiff, Nat.reduceAdd, Nat.reduceLT, Nat.reduceLeDiff, ↓reduceIte, reduceCtorEq, Int.reduceEq, Int.reduceLT]
          refine scall_pure (c43 _ q old) ?_
          have eP2 : PutS (putT t q u) q old = (t, 0) := by
            rw [PutS, if_pos ⟨hx, hto⟩, if_pos (by rw [atT_put q t u hq]; rfl), put_put q t u old hold, boundS, if_pos ht]
          rw [eP2]
          have hs : ∀ x : T, x.same x = true := fun x => (T.same_iff x x).2 rfl
          simp (contextual := true) (maxSteps := 1000000) only [stepsS, stepsT, stepsN, if_true, forall_const, ne_eq, implies_true, List.nil_append, List.append_nil, List.cons_append, List.length_cons, List.length_nil, Nat.reduceEqDiff, Nat.reduceAdd, Nat.reduceLT, Nat.reduceLeDiff, ↓reduceIte, reduceCtorEq, Int.reduceEq, Int.reduceLT]
          refine scall_pure (c20 _ _) ?_
          rw [hs]
          simp (contextual := true) (maxSteps := 1000000) only [stepsS, stepsT, stepsN, if_true, forall_const, ne_eq, implies_true, List.nil_append, List.append_nil, List.cons_append, List.length_cons, List.length_nil, Nat.reduceEqDiff, Nat.reduceAdd, Nat.reduceLT, Nat.reduceLeDiff, ↓reduceIte, reduceCtorEq, Int.reduceEq, Int.reduceLT]
          refine scall_pure (c20 _ _) ?_
          rw [hs]
          simp (contextual := true) (maxSteps := 1000000) only [pas_len, stepsS, stepsT, stepsN, if_true, forall_const, ne_eq, implies_true, List.nil_append, List.append_nil, List.cons_append, List.length_cons, List.length_nil, Nat.reduceEqDiff, Nat.reduceAdd, Nat.reduceLT, Nat.reduceLeDiff, ↓reduceIte, reduceCtorEq, Int.reduceEq, Int.reduceLT]
          intro _
          refine swp_loop_nat ps.length (fun i => True)
            (fun i => [(3, .iptr t.av), (11, .lst 0 (ints q)), (13, .iptr (putT t q u).av), (122, .lst 0 (pas ps)), (123, .int .i64 ps.length), (124, .int .i64 i)]) (fun i => H) ⟨trivial, sle_refl _ _ _⟩ fun i hi hI => ?_
          simp (contextual := true) (maxSteps := 1000000) only [lens_pas, idx_pas, stepsS, stepsT, stepsN, if_true, forall_const, ne_eq, implies_true, List.nil_append, List.append_nil, List.cons_append, List.length_cons, List.length_nil, Nat.reduceEqDiff, Nat.reduceAdd, Nat.reduceLT, Nat.reduceLeDiff, ↓reduceIte, reduceCtorEq, Int.reduceEq, Int.reduceLT]
          refine ⟨fun hlt => ⟨len_lt hlt, ?_⟩, fun hge => ret0 rfl rfl⟩
          have hlt := len_lt hlt
          have hp := hps (ps.getD i []) (by rw [List.getD_eq_getElem?_getD, List.getElem?_eq_getElem hlt]; exact List.getElem_mem hlt)
          generalize ps.getD i [] = p at *
          refine ⟨fun _ => ret0 rfl rfl, fun _ => scall_pure (c44 p q) ?_⟩
          by_cases h1 : p.length ≤ q.length ∧ p = q.take p.length
          · rw [decide_eq_true h1]
            simp (contextual := true) (maxSteps := 1000000) only [stepsS, stepsT, stepsN, if_true, forall_const, ne_eq, implies_true, List.nil_append, List.append_nil, List.cons_append, List.length_cons, List.length_nil, Nat.reduceEqDiff, Nat.reduceAdd, Nat.reduceLT, Nat.reduceLeDiff, ↓reduceIte, reduceCtorEq, Int.reduceEq, Int.reduceLT]
            exact ⟨i + 1, hlt, by omega, sle_eq (by rw [wrap_nat i (by omega)]) rfl⟩
          · rw [decide_eq_false h1]
            simp (contextual := true) (maxSteps := 1000000) only [Bool.false_eq_true, stepsS, stepsT, stepsN, if_true, forall_const, ne_eq, implies_true, List.nil_append, List.append_nil, List.cons_append, List.length_cons, List.length_nil, Nat.reduceEqDiff, Nat.reduceAdd, Nat.reduceLT, Nat.reduceLeDiff, ↓reduceIte, reduceCtorEq, Int.reduceEq, Int.reduceLT]
            refine scall_pure (c44 q p) ?_
            by_cases h2 : q.length ≤ p.length ∧ q = p.take q.length
            · rw [decide_eq_true h2]
              simp (contextual := true) (maxSteps := 1000000) only [stepsS, stepsT, stepsN, if_true, forall_const, ne_eq, implies_true, List.nil_append, List.append_nil, List.cons_append, List.length_cons, List.length_nil, Nat.reduceEqDiff, Nat.reduceAdd, Nat.reduceLT, Nat.reduceLeDiff, ↓reduceIte, reduceCtorEq, Int.reduceEq, Int.reduceLT]
              exact ⟨i + 1, hlt, by omega, sle_eq (by rw [wrap_nat i (by omega)]) rfl⟩
            · rw [decide_eq_false h2]
              simp (contextual := true) (maxSteps := 1000000) only [Bool.false_eq_true, stepsS, stepsT, stepsN, if_true, forall_const, ne_eq, implies_true, List.nil_append, List.append_nil, List.cons_append, List.length_cons, List.length_nil, Nat.reduceEqDiff, Nat.reduceAdd, Nat.reduceLT, Nat.reduceLeDiff, ↓reduceIte, reduceCtorEq, Int.reduceEq, Int.reduceLT]
              obtain ⟨y, hy⟩ := Option.isSome_iff_exists.1 hp
              have hy2 := atT_apart q p t u hq hp h2 h1
              rw [hy] at hy2
              refine scall_pure (c42 t p) ?_
              rw [AtS_ok ht hy]
              simp (contextual := true) (maxSteps := 1000000) only [stepsS, stepsT, stepsN, if_true, forall_const, ne_eq, implies_true, List.nil_append, List.append_nil, List.cons_append, List.length_cons, List.length_nil, Nat.reduceEqDiff, Nat.reduceAdd, Nat.reduceLT, Nat.reduceLeDiff, ↓reduceIte, reduceCtorEq, Int.reduceEq, Int.reduceLT]
              refine scall_pure (c42 _ p) ?_
              rw [AtS_ok hx hy2]
              simp (contextual := true) (maxSteps := 1000000) only [stepsS, stepsT, stepsN, if_true, forall_const, ne_eq, implies_true, List.nil_append, List.append_nil, List.cons_append, List.length_cons, List.length_nil, Nat.reduceEqDiff, Nat.reduceAdd, Nat.reduceLT, Nat.reduceLeDiff, ↓reduceIte, reduceCtorEq, Int.reduceEq, Int.reduceLT]
              refine scall_pure (c20 _ _) ?_
              rw [hs]
              simp (contextual := true) (maxSteps := 1000000) only [stepsS, stepsT, stepsN, if_true, forall_const, ne_eq, implies_true, List.nil_append, List.append_nil, List.cons_append, List.length_cons, List.length_nil, Nat.reduceEqDiff, Nat.reduceAdd, Nat.reduceLT, Nat.reduceLeDiff, ↓reduceIte, reduceCtorEq, Int.reduceEq, Int.reduceLT]
              exact ⟨i + 1, hlt, by omega, sle_eq (by rw [wrap_nat i (by omega)]) rfl⟩
end Go.Abs
