/- Match. -/
import Derived.Test.YtcfmgncmkbiknaaY04r
set_option maxRecDepth 100000
set_option linter.unusedSimpArgs false
set_option linter.unusedVariables false
namespace Go.Abs
open Go Go.Proofs
mutual
theorem mtc_mem {P : T → Prop} (hP : ∀ y, P y → ∀ z ∈ y.l, P z) : ∀ (p t : T) (l : List T), P t → ∀ x ∈ (mtc p t l).2, x ∈ l ∨ P x
  | .mk k n ps, t, l, ht, x, hx => by
    simp only [mtc] at hx
    split at hx
    · split at hx
      · rcases List.mem_or_eq_of_mem_set hx with h | h
        · exact .inl h
        · exact .inr (h ▸ ht)
      · exact .inl hx
    · split at hx
      · exact mtcs_mem hP ps t.l l (hP t ht) x hx
      · exact .inl hx
theorem mtcs_mem {P : T → Prop} (hP : ∀ y, P y → ∀ z ∈ y.l, P z) : ∀ (ps ts l : List T), (∀ z ∈ ts, P z) → ∀ x ∈ (mtcs ps ts l).2, x ∈ l ∨ P x
  | [], _, l, _, x, hx => by simp only [mtcs] at hx; exact .inl hx
  | _ :: _, [], l, _, x, hx => by simp only [mtcs] at hx; exact .inl hx
  | p :: ps, t :: ts, l, ht, x, hx => by
    simp only [mtcs] at hx
    have h1 := mtc_mem hP p t l (ht t (by simp))
    split at hx
    · rcases mtcs_mem hP ps ts _ (fun z hz => ht z (List.mem_cons_of_mem _ hz)) x hx with h | h
      · exact h1 x h
      · exact .inr h
    · exact h1 x hx
end
theorem tree_kids {t : T} (h : t.tree = true) : ∀ y ∈ t.l, y.tree = true := by
  intro y hy
  rw [T.tree_iff] at h ⊢
  cases t with
  | mk k n l =>
    simp only [T.l] at hy
    simp only [T.sz, T.dp] at h
    have h1 : ∀ (l : List T), y ∈ l → y.sz ≤ szs l ∧ y.dp ≤ dps l := by
      intro l
      induction l with
      | nil => intro h; cases h
      | cons x r ih =>
        intro hm
        simp only [szs, dps]
        have := szs_pos r
        have := x.sz_pos
        rcases List.mem_cons.1 hm with rfl | hm
        · omega
        · have := ih hm; omega
    have := h1 l hy
    exact ⟨by omega, by omega, (shaped_kids h.2.2).2 y hy⟩
theorem set_getD {α : Type} [Inhabited α] {l : List α} {i : Nat} (h : i < l.length) : l.set i (l.getD i default) = l := by
  apply List.ext_getElem
  · simp
  · intro j h1 h2
    rw [List.getElem_set]
    split
    · rename_i e; subst e; simp [h]
    · rfl
theorem gd_T0 (x : T) : x.av.cells.getD 0 .any = .int .i64 x.k := by cases x; rfl
theorem gd_T1 (x : T) : x.av.cells.getD 1 .any = .int .i64 x.n := by cases x; rfl
theorem gd_T2 (x : T) : x.av.cells.getD 2 .any = .lst 0 (avs x.l) := by cases x; rfl
theorem ret3m {Hs G : List AObj} {n0 a b c : Nat} (m : Nat) {u v w x y z : AV} {R : AV → List AObj → Prop} (hm : n0 ≤ m) (hab : b ≠ a ∧ c ≠ a ∧ c ≠ b) (hH : Hs.take m = G) (hb : x.blw m = true ∧ y.blw m = true ∧ z.blw m = true)
    (hx : u.unown.le x) (hy : v.unown.le y) (hz : w.unown.le z) (hR : R (.tuple [x, y, z]) G) : aret n0 [.t a, .t b, .t c] [(a, u), (b, v), (c, w)] Hs R := by
  subst hH
  refine ⟨m, hm, [x, y, z], ?_, by simp only [belowL, hb.1, hb.2.1, hb.2.2, Bool.and_self], hR⟩
  simp only [gt_cons, if_neg hab.1, if_neg hab.2.1, if_neg hab.2.2, if_true, List.map]
  exact ⟨hx, hy, hz, trivial⟩
/-- What Match leaves: of a pattern, and of a tree. -/
def mtR (p t : T) : Bool × List T := mtc p t (List.replicate (gts [p] + 1).toNat T0)
def c30R (H : List AObj) (p t : T) (r : AV) (H' : List AObj) : Prop :=
  if p.tree = true ∧ t.tree = true then
    if gts [p] ≤ 4000 then
      if (mtR p t).1 = true then r = .tuple [.arr H.length 0 (mtR p t).2.length (mtR p t).2.length, .bool true, .int .i64 0] ∧ H' = H ++ [objL (mtR p t).2]
      else r = .tuple [.nils, .bool false, .int .i64 0] ∧ H' = H
    else r = .tuple [.nils, .bool false, .int .i64 1] ∧ H' = H
  else r = .tuple [.nils, .bool false, .int .i64 4] ∧ H' = H
theorem c30u (p t : T) (H : List AObj) : ACalls Try.prog 30 [p.av, t.av] H (c30R H p t) := by
  refine ok30u.calls (by simp [fi30u]) ?_
  simp only [fi30u, ir30u]
  simp (contextual := true) (maxSteps := 1000000) only [stepsS, stepsT, stepsN, if_true, forall_const, ne_eq, implies_true, List.nil_append, List.append_nil, List.cons_append, List.length_cons, List.length_nil, Nat.reduceEqDiff, Nat.reduceAdd, Nat.reduceLT, Nat.reduceLeDiff, ↓reduceIte, reduceCtorEq, Int.reduceEq, Int.reduceLT]
  refine scall_pure (c53 [p, t]) ?_
  have etb : treesB [p, t] = (p.tree && t.tree) := by simp [treesB]
  rw [etb]
  by_cases htt : p.tree = true ∧ t.tree = true
  · have hpi := (T.tree_iff p).1 htt.1
    rw [htt.1, htt.2]
    simp (contextual := true) (maxSteps := 1000000) only [stepsS, stepsT, stepsN, if_true, forall_const, ne_eq, implies_true, List.nil_append, List.append_nil, List.cons_append, List.length_cons, List.length_nil, Nat.reduceEqDiff, Nat.reduceAdd, Nat.reduceLT, Nat.reduceLeDiff, ↓reduceIte, reduceCtorEq, Int.reduceEq, Int.reduceLT]
    refine scall_pure (c54 [p]) ?_
    have hg := gts_ge [p]
    simp (contextual := true) (maxSteps := 1000000) only [stepsS, stepsT, stepsN, if_true, forall_const, ne_eq, implies_true, List.nil_append, List.append_nil, List.cons_append, List.length_cons, List.length_nil, Nat.reduceEqDiff, Nat.reduceAdd, Nat.reduceLT, Nat.reduceLeDiff, ↓reduceIte, reduceCtorEq, Int.reduceEq, Int.reduceLT]
    refine ⟨fun hb => ?_, fun hb => ?_⟩
    · refine ret3w (G := H) (by decide) (by simp) ⟨rfl, rfl, rfl⟩ (.inl rfl) (.inl rfl) (.inl rfl) ?_
      rw [c30R, if_pos htt, if_neg (by omega)]
      exact ⟨rfl, rfl⟩
    · have hN : gts [p] + 1 = ((gts [p] + 1).toNat : Int) := by omega
      have hv := (gts1 p (gts [p] + 1) (by omega)).1 (by omega)
      have w1 : IntKind.i64.wrap (gts [p] + 1) = ((gts [p] + 1).toNat : Int) := by rw [wrap_in _ (by omega)]; omega
      have hR : ∀ r H', c30R H p t r H' = if (mtR p t).1 = true then r = .tuple [.arr H.length 0 (mtR p t).2.length (mtR p t).2.length, .bool true, .int .i64 0] ∧ H' = H ++ [objL (mtR p t).2]
          else r = .tuple [.nils, .bool false, .int .i64 0] ∧ H' = H := by
        intro r H'
        rw [c30R, if_pos htt, if_pos hb]
      have hRe : c30R H p t = fun r H' => if (mtR p t).1 = true then r = .tuple [.arr H.length 0 (mtR p t).2.length (mtR p t).2.length, .bool true, .int .i64 0] ∧ H' = H ++ [objL (mtR p t).2]
          else r = .tuple [.nils, .bool false, .int .i64 0] ∧ H' = H := by funext r H'; exact hR r H'
      rw [hRe]
      clear hR hRe
      have hm := c74 (Fam.mk1 H objL []) p t (List.replicate (gts [p] + 1).toNat T0) hpi.2.2 (fun v hv' => by rw [List.length_replicate, ← hN]; exact hv v hv')
      have hmm := mtc_mem (P := fun y => y.tree = true) (fun y hy => tree_kids hy) p t (List.replicate (gts [p] + 1).toNat T0) htt.2
      have hml := mtc_len p t (List.replicate (gts [p] + 1).toNat T0)
      rw [List.length_replicate] at hm hml
      have eR : mtc p t (List.replicate (gts [p] + 1).toNat T0) = mtR p t := rfl
      simp only [eR] at hm
      rw [eR] at hmm hml
      have hNb : (gts [p] + 1).toNat ≤ 4001 := by omega
      rw [w1, mkL _ _ _ (by omega)]
      simp (contextual := true) (maxSteps := 1000000) only [un_arr', stepsS, stepsT, stepsN, if_true, forall_const, ne_eq, implies_true, List.nil_append, List.append_nil, List.cons_append, List.length_cons, List.length_nil, Nat.reduceEqDiff, Nat.reduceAdd, Nat.reduceLT, Nat.reduceLeDiff, ↓reduceIte, reduceCtorEq, Int.reduceEq, Int.reduceLT]
      refine scall_to hm ?_
      rintro r H' ⟨rfl, rfl⟩
      simp (contextual := true) (maxSteps := 1000000) only [un_arr', stepsS, stepsT, stepsN, if_true, forall_const, ne_eq, implies_true, List.nil_append, List.append_nil, List.cons_append, List.length_cons, List.length_nil, Nat.reduceEqDiff, Nat.reduceAdd, Nat.reduceLT, Nat.reduceLeDiff, ↓reduceIte, reduceCtorEq, Int.reduceEq, Int.reduceLT]
      clear hm
      generalize mtR p t = R at *
      generalize (gts [p] + 1).toNat = N at *
      cases hr : R.1 with
      | false =>
        simp (contextual := true) (maxSteps := 1000000) only [Bool.false_eq_true, stepsS, stepsT, stepsN, if_true, forall_const, ne_eq, implies_true, List.nil_append, List.append_nil, List.cons_append, List.length_cons, List.length_nil, Nat.reduceEqDiff, Nat.reduceAdd, Nat.reduceLT, Nat.reduceLeDiff, ↓reduceIte, reduceCtorEq, Int.reduceEq, Int.reduceLT]
        exact ret3w (G := H) (by decide) (by simp) ⟨rfl, rfl, rfl⟩ (.inl rfl) (.inl rfl) (.inl rfl) ⟨rfl, rfl⟩
      | true =>
        simp (contextual := true) (maxSteps := 1000000) only [un_arr', stepsS, stepsT, stepsN, if_true, forall_const, ne_eq, implies_true, List.nil_append, List.append_nil, List.cons_append, List.length_cons, List.length_nil, Nat.reduceEqDiff, Nat.reduceAdd, Nat.reduceLT, Nat.reduceLeDiff, ↓reduceIte, reduceCtorEq, Int.reduceEq, Int.reduceLT]
        refine swp_loop_nat N (fun i => True)
          (fun i => [(8, .arr H.length 0 N N), (29, .arr H.length 0 N N), (30, .int .i64 N), (31, .int .i64 i)]) (fun i => H ++ [objL R.2]) ⟨trivial, sle_refl _ _ _⟩ fun i hi hI => ?_
        simp (contextual := true) (maxSteps := 1000000) only [un_arr', stepsS, stepsT, stepsN, if_true, forall_const, ne_eq, implies_true, List.nil_append, List.append_nil, List.cons_append, List.length_cons, List.length_nil, Nat.reduceEqDiff, Nat.reduceAdd, Nat.reduceLT, Nat.reduceLeDiff, ↓reduceIte, reduceCtorEq, Int.reduceEq, Int.reduceLT]
        refine ⟨fun hlt => ?_, fun hge => ?_⟩
        · have hlt := len_lt hlt
          have hlt2 : i < R.2.length := by omega
          have hx := hmm _ (mem_getD hlt2)
          simp (contextual := true) (maxSteps := 1000000) only [un_arr', idx_arr, loadL3 hlt2, gd_T0, hlt, stepsS, stepsT, stepsN, if_true, forall_const, ne_eq, implies_true, List.nil_append, List.append_nil, List.cons_append, List.length_cons, List.length_nil, Nat.reduceEqDiff, Nat.reduceAdd, Nat.reduceLT, Nat.reduceLeDiff, ↓reduceIte, reduceCtorEq, Int.reduceEq, Int.reduceLT]
          refine ⟨fun hk0 => scall_pure (c75 _ ?_) ?_, fun hk0 => ?_⟩
          · rcases hx with hx | hx
            · exact absurd (by rw [List.eq_of_mem_replicate hx]; rfl) hk0
            · exact ((T.tree_iff _).1 hx).2.2
          · simp (contextual := true) (maxSteps := 1000000) only [un_arr', idx_arr, hlt, storeL hlt2, stepsS, stepsT, stepsN, if_true, forall_const, ne_eq, implies_true, List.nil_append, List.append_nil, List.cons_append, List.length_cons, List.length_nil, Nat.reduceEqDiff, Nat.reduceAdd, Nat.reduceLT, Nat.reduceLeDiff, ↓reduceIte, reduceCtorEq, Int.reduceEq, Int.reduceLT]
            have es : R.2.set i (R.2.getD i default) = R.2 := set_getD hlt2
            rw [es]
            exact ⟨i + 1, hlt, by omega, sle_drop (by rw [wrap_nat i (by omega)]) (by simp) (by simp only [eb_cons, eb_nil, bw_arr, bw_int, List.length_append, List.length_cons, List.length_nil]; simp) [.cells (R.2.getD i default).av.cells] (by rw [List.append_assoc]; rfl)⟩
          · exact ⟨i + 1, hlt, by omega, sle_drop (by rw [wrap_nat i (by omega)]) (by simp) (by simp only [eb_cons, eb_nil, bw_arr, bw_int, List.length_append, List.length_cons, List.length_nil]; simp) [.cells (R.2.getD i default).av.cells] (by rw [List.append_assoc]; rfl)⟩
        · refine ret3m (G := H ++ [objL R.2]) (H.length + 1) (by omega) (by decide) (List.take_of_length_le (by simp)) ⟨?_, rfl, rfl⟩ (.inl rfl) (.inl rfl) (.inl rfl) ?_
          · rw [un_arr', bw_arr]; simp
          · rw [if_pos rfl, hml]
            exact ⟨rfl, rfl⟩
  · have e : (p.tree && t.tree) = false := by
      cases h1 : p.tree <;> cases h2 : t.tree <;> simp_all
    rw [e]
    simp (contextual := true) (maxSteps := 1000000) only [Bool.false_eq_true, stepsS, stepsT, stepsN, if_true, forall_const, ne_eq, implies_true, List.nil_append, List.append_nil, List.cons_append, List.length_cons, List.length_nil, Nat.reduceEqDiff, Nat.reduceAdd, Nat.reduceLT, Nat.reduceLeDiff, ↓reduceIte, reduceCtorEq, Int.reduceEq, Int.reduceLT]
    refine ret3w (G := H) (by decide) (by simp) ⟨rfl, rfl, rfl⟩ (.inl rfl) (.inl rfl) (.inl rfl) ?_
    rw [c30R, if_neg htt]
    exact ⟨rfl, rfl⟩
end Go.Abs
