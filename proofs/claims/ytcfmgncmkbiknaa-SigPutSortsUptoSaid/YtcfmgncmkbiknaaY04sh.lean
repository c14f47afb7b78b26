/- Signatures: Infer. -/
import Derived.Test.YtcfmgncmkbiknaaY04sg
set_option maxRecDepth 100000
set_option linter.unusedSimpArgs false
set_option linter.unusedVariables false
namespace Go.Abs
open Go Go.Proofs
theorem c70 (s : Sg) (a : Int) : Pure Try.prog 70 [.int .i64 a, .iptr s.av] (.bool (!isS s.sorts.length a)) := by
  refine fun H => ok70.calls (by simp [fi70]) ?_
  simp only [fi70, ir70]
  unfold isS
  simp (contextual := true) (maxSteps := 1000000) only [stepsO, stepsS, stepsT, stepsN, if_true, forall_const, ne_eq, implies_true, List.nil_append, List.append_nil, List.cons_append, List.length_cons, List.length_nil, Nat.reduceEqDiff, Nat.reduceAdd, Nat.reduceLT, Nat.reduceLeDiff, ↓reduceIte, reduceCtorEq, Int.reduceEq, Int.reduceLT]
  refine ⟨fun h1 _ => ret0 rfl ?_, fun h1 => ret0 rfl ?_⟩
  · have e1 : decide (0 ≤ a) = true := decide_eq_true h1
    rw [e1, Bool.true_and]
    by_cases h2 : a < (s.sorts.length : Int)
    · rw [decide_eq_true h2, decide_eq_false (by omega)]; rfl
    · rw [decide_eq_false h2, decide_eq_true (by omega)]; rfl
  · have e1 : decide (0 ≤ a) = false := decide_eq_false (by omega)
    rw [e1]; rfl
/-- Numbers, so many. -/
structure NL (N : Nat) where
  l : List Int
  h : l.length = N
def NL.put {N : Nat} (s : NL N) (i : Nat) (x : Int) : NL N := ⟨s.l.set i x, by rw [List.length_set]; exact s.h⟩
def infV {N : Nat} (v sort : Int) (s : NL N) : Bool × NL N :=
  if s.l.getD v.toNat 0 < 0 then (true, s.put v.toNat sort) else (decide (s.l.getD v.toNat 0 = sort), s)
theorem idx_arr1 (id N c i : Nat) (k : IntKind) (φ : AV → Prop) : aindexAddr 1 (.arr id 0 N c) (.int k (i : Int)) φ = (i < N ∧ φ (.ptr id i)) := by
  simp only [aindexAddr, Int.toNat_natCast, Nat.zero_add, Nat.mul_one, eq_iff_iff]
  constructor
  · rintro ⟨_, h⟩; exact h
  · exact fun h => ⟨by omega, h⟩
theorem loadI {l : List Int} {i : Nat} (h : i < l.length) (φ : AV → Prop) : loadC (some (objI l)) none i φ = φ (.int .i64 (l.getD i 0)) := by
  have e : (ints l).getD i .any = .int .i64 (l.getD i 0) := by simp [ints, h]
  simp only [objI, loadC, e, ints_len, un_int, eq_iff_iff]
  exact ⟨fun h => h.2, fun h2 => ⟨h, h2⟩⟩
theorem storeI {l : List Int} {i : Nat} (h : i < l.length) (x : Int) (id : Nat) (H : List AObj) (K : List AObj → Prop) : storeC (some (objI l)) 1 id i (.int .i64 x) H K = K (H.set id (objI (l.set i x))) := by
  have e : asplice (ints l) i [.int .i64 x] = ints (l.set i x) := by
    rw [asplice]
    simp only [List.length_cons, List.length_nil, Nat.zero_add]
    rw [show ints (l.set i x) = (ints l).set i (.int .i64 x) by simp [ints, List.map_set]]
    rw [List.set_eq_take_append_cons_drop, if_pos (by rw [ints_len]; exact h)]
    simp
  simp only [objI, storeC, AV.val, AV.cells, List.length_cons, List.length_nil, List.all_cons, List.all_nil, AV.one, AV.unown, List.map_cons, List.map_nil, e, ints_len, belowL, AV.blw, eq_iff_iff]
  constructor
  · exact fun h => by simpa using h.2.2.2.2
  · exact fun h2 => by simp [h2]; omega
theorem on_arr' (id N c o : Nat) : (AV.arr id o N c).one = true := rfl
theorem li_arr (id N c o : Nat) (H : List AObj) (φ : AV → Prop) : aload none (.iptr (.arr id o N c)) H φ = φ (.arr id o N c) := by simp [aload, AV.one, AV.unown]
theorem chunksI : ∀ (l : List Int) , chunks 1 l.length (ints l) = ints l
  | [] => rfl
  | x :: r => by
    have ih := chunksI r
    simp only [ints, List.map_cons, List.length_cons, chunks] at ih ⊢
    simp only [List.drop_succ_cons, List.drop_zero, ih]
    rfl
theorem freezeI {l : List Int} {id : Nat} {H : List AObj} (h : H[id]? = some (objI l)) (K : AV → List AObj → Prop) : asetf 1 (.arr id 0 l.length l.length) H K = K (.lst 0 (ints l)) (H.set id .dead) := by
  simp only [asetf, h, objI, List.drop_zero, chunksI, ints_len, ints_one, eq_iff_iff]
  exact ⟨fun h => h.2.2.2.2, fun k => ⟨by omega, by omega, by omega, trivial, k⟩⟩
theorem c72 {N n id : Nat} {S : NL N → List AObj} (F : Fam S id (fun s => objI s.l) n) (v sort : Int) (s : NL N) (e : List AObj) (h0 : 0 ≤ v) (h1 : v < N) :
    ACalls Try.prog 72 [.int .i64 v, .int .i64 sort, .iptr (.arr id 0 N N)] (S s ++ e) fun r H' => r = .bool (infV v sort s).1 ∧ H' = S (infV v sort s).2 ++ e := by
  have F' := F.app e
  have fg : ∀ s, (S s ++ e)[id]? = some (objI s.l) := F'.get
  have fs : ∀ (s : NL N) (i : Nat) (x : Int), (S s ++ e).set id (objI (s.l.set i x)) = S (s.put i x) ++ e := fun s i x => F'.set s (s.put i x)
  obtain ⟨m, rfl⟩ := Int.eq_ofNat_of_zero_le h0
  have hm : m < s.l.length := by rw [s.h]; omega
  have hmN : m < N := by omega
  refine ok72.calls (by simp [fi72]) ?_
  rw [F'.len s]
  simp only [fi72, ir72]
  unfold infV
  rw [Int.toNat_natCast]
  simp (contextual := true) (maxSteps := 1000000) only [fg, un_arr', li_arr, idx_arr1, hmN, loadI hm, stepsS, stepsT, stepsN, if_true, forall_const, ne_eq, implies_true, List.nil_append, List.append_nil, List.cons_append, List.length_cons, List.length_nil, Nat.reduceEqDiff, Nat.reduceAdd, Nat.reduceLT, Nat.reduceLeDiff, ↓reduceIte, reduceCtorEq, Int.reduceEq, Int.reduceLT]
  refine ⟨fun hlt => ?_, fun hge => ?_⟩
  · simp (contextual := true) (maxSteps := 1000000) only [fg, un_arr', li_arr, idx_arr1, hmN, loadI hm, storeI hm, stepsS, stepsT, stepsN, if_true, forall_const, ne_eq, implies_true, List.nil_append, List.append_nil, List.cons_append, List.length_cons, List.length_nil, Nat.reduceEqDiff, Nat.reduceAdd, Nat.reduceLT, Nat.reduceLeDiff, ↓reduceIte, reduceCtorEq, Int.reduceEq, Int.reduceLT]
    rw [fs s]
    have hm2 : m < (s.put m sort).l.length := by rw [(s.put m sort).h]; exact hmN
    have eg : (s.put m sort).l.getD m 0 = sort := by simp [NL.put, hm]
    simp (contextual := true) (maxSteps := 1000000) only [fg, un_arr', li_arr, idx_arr1, hmN, loadI hm2, stepsS, stepsT, stepsN, if_true, forall_const, ne_eq, implies_true, List.nil_append, List.append_nil, List.cons_append, List.length_cons, List.length_nil, Nat.reduceEqDiff, Nat.reduceAdd, Nat.reduceLT, Nat.reduceLeDiff, ↓reduceIte, reduceCtorEq, Int.reduceEq, Int.reduceLT]
    rw [if_pos hlt]
    exact retw (List.take_of_length_le (by rw [F'.len]; exact Nat.le_refl _)) rfl rfl ⟨by rw [eg]; simp, rfl⟩
  · simp (contextual := true) (maxSteps := 1000000) only [fg, un_arr', li_arr, idx_arr1, hmN, loadI hm, stepsS, stepsT, stepsN, if_true, forall_const, ne_eq, implies_true, List.nil_append, List.append_nil, List.cons_append, List.length_cons, List.length_nil, Nat.reduceEqDiff, Nat.reduceAdd, Nat.reduceLT, Nat.reduceLeDiff, ↓reduceIte, reduceCtorEq, Int.reduceEq, Int.reduceLT]
    rw [if_neg (by omega)]
    exact retw (List.take_of_length_le (by rw [F'.len]; exact Nat.le_refl _)) rfl rfl ⟨rfl, rfl⟩
def N0 (N : Nat) : NL N := ⟨List.replicate N (-1), by simp⟩
theorem c27 (s : Sg) (t : T) (k : Int) (hc : chkB s = true) (hk : isS s.sorts.length k = true) (ht : t.tree = true) (hg : gts [t] < 4000) {N : Nat} (hN : gts [t] + 1 = (N : Int)) {st : NL N} (hty : tyT s.ops infV t k (N0 N) = (true, st)) :
    Pure Try.prog 27 [s.av, .lst 0 (avs [t]), .lst 0 (ints [k])] (.tuple [.lst 0 (ints st.l), .int .i64 0]) := by
  refine fun H => ok27.calls (by simp [fi27]) ?_
  simp only [fi27, ir27]
  have hg0 := gts_ge [t]
  have hti := (T.tree_iff _).1 ht
  have hv := (gts1 t (gts [t] + 1) (by omega)).1 (by omega)
  simp (contextual := true) (maxSteps := 1000000) only [stepsO, stepsS, stepsT, stepsN, if_true, forall_const, ne_eq, implies_true, List.nil_append, List.append_nil, List.cons_append, List.length_cons, List.length_nil, Nat.reduceEqDiff, Nat.reduceAdd, Nat.reduceLT, Nat.reduceLeDiff, ↓reduceIte, reduceCtorEq, Int.reduceEq, Int.reduceLT]
  refine scall_pure (c48 s) ?_
  rw [if_pos hc]
  simp (contextual := true) (maxSteps := 1000000) only [stepsO, ints_len, stepsS, stepsT, stepsN, if_true, forall_const, ne_eq, implies_true, List.nil_append, List.append_nil, List.cons_append, List.length_cons, List.length_nil, Nat.reduceEqDiff, Nat.reduceAdd, Nat.reduceLT, Nat.reduceLeDiff, ↓reduceIte, reduceCtorEq, Int.reduceEq, Int.reduceLT]
  refine scall_pure (c66 70 [.iptr s.av] rfl (by simp [belowL, AV.blw, Sg.av_blw]) (fun a => !isS s.sorts.length a) [k] (fun a _ => c70 s a)) ?_
  have ea : ([k].any fun a => !isS s.sorts.length a) = false := by simp [hk]
  rw [ea]
  simp (contextual := true) (maxSteps := 1000000) only [stepsO, Bool.false_eq_true, stepsS, stepsT, stepsN, if_true, forall_const, ne_eq, implies_true, List.nil_append, List.append_nil, List.cons_append, List.length_cons, List.length_nil, Nat.reduceEqDiff, Nat.reduceAdd, Nat.reduceLT, Nat.reduceLeDiff, ↓reduceIte, reduceCtorEq, Int.reduceEq, Int.reduceLT]
  refine scall_pure (c53 [t]) ?_
  rw [if_pos (by simp [treesB, ht])]
  simp (contextual := true) (maxSteps := 1000000) only [stepsO, Bool.false_eq_true, stepsS, stepsT, stepsN, if_true, forall_const, ne_eq, implies_true, List.nil_append, List.append_nil, List.cons_append, List.length_cons, List.length_nil, Nat.reduceEqDiff, Nat.reduceAdd, Nat.reduceLT, Nat.reduceLeDiff, ↓reduceIte, reduceCtorEq, Int.reduceEq, Int.reduceLT]
  refine scall_pure (c54 [t]) ?_
  simp (contextual := true) (maxSteps := 1000000) only [stepsO, Bool.false_eq_true, stepsS, stepsT, stepsN, if_true, forall_const, ne_eq, implies_true, List.nil_append, List.append_nil, List.cons_append, List.length_cons, List.length_nil, Nat.reduceEqDiff, Nat.reduceAdd, Nat.reduceLT, Nat.reduceLeDiff, ↓reduceIte, reduceCtorEq, Int.reduceEq, Int.reduceLT]
  refine ⟨fun h => by omega, fun _ => ?_⟩
  simp (contextual := true) (maxSteps := 1000000) only [stepsO, stepsS, stepsT, stepsN, if_true, forall_const, ne_eq, implies_true, List.nil_append, List.append_nil, List.cons_append, List.length_cons, List.length_nil, Nat.reduceEqDiff, Nat.reduceAdd, Nat.reduceLT, Nat.reduceLeDiff, ↓reduceIte, reduceCtorEq, Int.reduceEq, Int.reduceLT]
  refine scall_pure (c54 [t]) ?_
  have w1 : IntKind.i64.wrap (gts [t] + 1) = (N : Int) := by rw [wrap_in _ (by omega)]; omega
  simp (contextual := true) (maxSteps := 1000000) only [stepsO, w1, stepsS, stepsT, stepsN, if_true, forall_const, ne_eq, implies_true, List.nil_append, List.append_nil, List.cons_append, List.length_cons, List.length_nil, Nat.reduceEqDiff, Nat.reduceAdd, Nat.reduceLT, Nat.reduceLeDiff, ↓reduceIte, reduceCtorEq, Int.reduceEq, Int.reduceLT]
  refine scall_to (c71 N (by omega) _) ?_
  rintro r H' ⟨rfl, rfl⟩
  simp (contextual := true) (maxSteps := 1000000) only [stepsO, stepsS, stepsT, stepsN, if_true, forall_const, ne_eq, implies_true, List.nil_append, List.append_nil, List.cons_append, List.length_cons, List.length_nil, Nat.reduceEqDiff, Nat.reduceAdd, Nat.reduceLT, Nat.reduceLeDiff, ↓reduceIte, reduceCtorEq, Int.reduceEq, Int.reduceLT]
  refine ⟨rfl, rfl, rfl, ?_⟩
  refine swp_loop_nat 1 (fun i => True) (fun i => [(2, .lst 0 (ints [k])), (3, .iptr s.av), (8, .iptr (.arr H.length 0 N N)), (40, .lst 0 (avs [t])), (41, .int .i64 (1 : Nat)), (42, .int .i64 i)])
    (fun i => H ++ [objI (if i = 0 then (N0 N).l else st.l)]) ⟨trivial, sle_refl _ _ _⟩ fun i hi hI => ?_
  simp (contextual := true) (maxSteps := 1000000) only [stepsO, stepsS, stepsT, stepsN, if_true, forall_const, ne_eq, implies_true, List.nil_append, List.append_nil, List.cons_append, List.length_cons, List.length_nil, Nat.reduceEqDiff, Nat.reduceAdd, Nat.reduceLT, Nat.reduceLeDiff, ↓reduceIte, reduceCtorEq, Int.reduceEq, Int.reduceLT]
  refine ⟨fun hlt => ?_, fun hge => ?_⟩
  · have hi0 : i = 0 := by omega
    subst hi0
    simp (contextual := true) (maxSteps := 1000000) only [stepsO, stepsS, stepsT, stepsN, if_true, forall_const, ne_eq, implies_true, List.nil_append, List.append_nil, List.cons_append, List.length_cons, List.length_nil, Nat.reduceEqDiff, Nat.reduceAdd, Nat.reduceLT, Nat.reduceLeDiff, ↓reduceIte, reduceCtorEq, Int.reduceEq, Int.reduceLT]
    have hcall := c68 (S := fun s : NL N => H ++ [objI s.l]) (n0 := H.length + 1) (fun s => by simp) 72 [.iptr (.arr H.length 0 N N)] rfl (by simp [belowL, AV.blw]) s infV (fun v => 0 ≤ v ∧ v < (N : Int))
      (fun v sort s e hv => c72 (Fam.mk1 H (fun s : NL N => objI s.l) []) v sort s e hv.1 hv.2) t k (N0 N) [.cells t.av.cells] hti.2.2 (fun v hv' => ⟨fv_shaped t hti.2.2 v hv', by have := hv v hv'; omega⟩)
    rw [List.append_assoc, hty] at hcall
    refine scall_to hcall ?_
    rintro r H' ⟨rfl, rfl⟩
    simp (contextual := true) (maxSteps := 1000000) only [stepsO, li_arr, stepsS, stepsT, stepsN, if_true, forall_const, ne_eq, implies_true, List.nil_append, List.append_nil, List.cons_append, List.length_cons, List.length_nil, Nat.reduceEqDiff, Nat.reduceAdd, Nat.reduceLT, Nat.reduceLeDiff, ↓reduceIte, reduceCtorEq, Int.reduceEq, Int.reduceLT]
    exact ⟨1, by omega, by omega, sle_drop (by rfl) (by simp) (by simp [eb_cons, eb_nil, AV.blw, Sg.av_blw, ints_blw, avs_blw]) [.cells t.av.cells] (by simp)⟩
  · have hi1 : i = 1 := by omega
    subst hi1
    have fz : ∀ K, asetf 1 (.arr H.length 0 N N) (H ++ [objI st.l]) K = K (.lst 0 (ints st.l)) ((H ++ [objI st.l]).set H.length .dead) := by
      intro K
      have := freezeI (l := st.l) (id := H.length) (H := H ++ [objI st.l]) (by simp) K
      rw [st.h] at this
      exact this
    simp (contextual := true) (maxSteps := 1000000) only [stepsO, li_arr, fz, stepsS, stepsT, stepsN, if_true, forall_const, ne_eq, implies_true, List.nil_append, List.append_nil, List.cons_append, List.length_cons, List.length_nil, Nat.reduceEqDiff, Nat.reduceAdd, Nat.reduceLT, Nat.reduceLeDiff, ↓reduceIte, reduceCtorEq, Int.reduceEq, Int.reduceLT]
    exact ret22 (e := [.dead]) (by decide) (by simp [AV.blw, ints_blw]) rfl rfl rfl
end Go.Abs
