/- SigInstances' walk. -/
import Derived.Test.YtcfmgncmkbiknaaY04md
set_option maxRecDepth 100000
set_option linter.unusedSimpArgs false
set_option linter.unusedVariables false
namespace Go.Abs
open Go Go.Proofs
theorem chunksL : ∀ (l : List T), chunks 3 l.length (flat (avs l)) = avs l
  | [] => rfl
  | x :: r => by
    have ih := chunksL r
    rw [flat_cons, List.length_cons, chunks, if_neg (by decide), avs]
    rw [show List.take 3 (x.av.cells ++ flat (avs r)) = x.av.cells by rw [List.take_append_of_le_length (by rw [T.av_clen]; omega), List.take_of_length_le (by rw [T.av_clen]; omega)]]
    rw [show List.drop 3 (x.av.cells ++ flat (avs r)) = flat (avs r) by
      have := List.drop_left (l₁ := x.av.cells) (l₂ := flat (avs r)); rwa [T.av_clen] at this]
    rw [T.cells_unown, T.agg_cells, ih]
theorem flatL_one : ∀ (l : List T), (flat (avs l)).all AV.one = true
  | [] => rfl
  | x :: r => by rw [flat_cons, List.all_append, T.av_one, flatL_one r]; rfl
theorem freezeL {l : List T} {id : Nat} {H : List AObj} (h : H[id]? = some (objL l)) (K : AV → List AObj → Prop) : asetf 3 (.arr id 0 l.length l.length) H K = K (.lst 0 (avs l)) (H.set id .dead) := by
  simp only [asetf, h, objL, List.drop_zero, chunksL, flat_len, flatL_one, eq_iff_iff]
  constructor
  · exact fun k => k.2.2.2.2
  · exact fun k => ⟨by omega, by omega, by omega, trivial, k⟩
def IR.hd : IR → IR | .seq a _ => a | x => x
def IR.tl : IR → IR | .seq _ b => b | x => x
def rest7 : IR := ir7u.tl.tl.tl.tl.tl.tl
def rest7b : IR := ir7u.tl.tl.tl.tl.tl.tl.tl.tl
theorem ir7_eq : ir7u = .seq ir7u.hd (.seq ir7u.tl.hd (.seq ir7u.tl.tl.hd (.seq ir7u.tl.tl.tl.hd (.seq ir7u.tl.tl.tl.tl.hd (.seq ir7u.tl.tl.tl.tl.tl.hd rest7))))) := rfl
theorem rest7_eq : rest7 = .seq ir7u.tl.tl.tl.tl.tl.tl.hd (.seq ir7u.tl.tl.tl.tl.tl.tl.tl.hd rest7b) := rfl
def Q7 (H : List AObj) : Exit → Env → List AObj → Prop := fun e env H' => (e = Exit.normal ∨ e = Exit.ret) ∧ aret H.length [RX.t 6] env H' fun r H' => r = AV.bool true ∧ H' = H
theorem mtR_fv {p : T} (hp : p.tree = true) (n : Nat) (hn : n = (gts [p] + 1).toNat) : ∀ v ∈ p.fv, v < ((List.replicate n T0).length : Int) := by
  have hg := gts_ge [p]
  have hv := (gts1 p (gts [p] + 1) (by omega)).1 (by omega)
  intro v h
  have := hv v h
  rw [List.length_replicate]
  omega
theorem mtR_sound {p t : T} (hp : p.tree = true) (ht : t.tree = true) (h : (mtR p t).1 = true) : sub (mtR p t).2 p = t ∧ ∀ v ∈ p.fv, ((mtR p t).2.getD v.toNat default).tree = true := by
  have hs := mtc_sound p t _ ((T.tree_iff p).1 hp).2.2 ((T.tree_iff t).1 ht).2.2 (mtR_fv hp _ rfl) h
  refine ⟨hs.1, fun v hv => ?_⟩
  have hk := hs.2 v hv
  have hv0 := fv_shaped p ((T.tree_iff p).1 hp).2.2 v hv
  have hlt : v.toNat < (mtR p t).2.length := by
    have := mtR_fv hp _ rfl v hv
    unfold mtR
    rw [mtc_len]
    omega
  rcases mtc_mem (P := fun y => y.tree = true) (fun y hy => tree_kids hy) p t _ ht _ (mem_getD hlt) with h2 | h2
  · exact absurd (by rw [List.eq_of_mem_replicate h2]; rfl) hk
  · exact h2
theorem mtR_comp {p : T} (hp : p.tree = true) (σ : Int → T) : (mtR p (mapT σ p)).1 = true ∧ fits σ (mtR p (mapT σ p)).2 :=
  mtc_comp p _ ((T.tree_iff p).1 hp).2.2 (mtR_fv hp _ rfl) (fits_rep σ _)
theorem mtR_len (p t : T) : (mtR p t).2.length = (gts [p] + 1).toNat := by unfold mtR; rw [mtc_len, List.length_replicate]
theorem inst_law {p t : T} (hp : p.tree = true) (ht : t.tree = true) : ((mtR p t).1 && (mtR t p).1) = sames (nrmS [p]).1 (nrmS [t]).1 := by
  rw [Bool.eq_iff_iff, Bool.and_eq_true, sames_iff]
  constructor
  · rintro ⟨h1, h2⟩
    have a := mtR_sound hp ht h1
    have b := mtR_sound ht hp h2
    exact both_ways hp (fun v hv => ((T.tree_iff _).1 (a.2 v hv)).2.2) a.1 b.1
  · intro h
    obtain ⟨σ, hs⟩ := norm_inst hp ht h
    obtain ⟨τ, hr⟩ := norm_inst ht hp h.symm
    refine ⟨?_, ?_⟩
    · have := (mtR_comp hp σ).1
      rwa [← hs] at this
    · have := (mtR_comp ht τ).1
      rwa [← hr] at this
theorem c30_ok {H : List AObj} {p t : T} (hp : p.tree = true) (ht : t.tree = true) (hg : gts [p] ≤ 200) : ACalls Try.prog 30 [p.av, t.av] H fun r H' =>
    ((mtR p t).1 = true ∧ r = .tuple [.arr H.length 0 (mtR p t).2.length (mtR p t).2.length, .bool true, .int .i64 0] ∧ H' = H ++ [objL (mtR p t).2]) ∨
    ((mtR p t).1 = false ∧ r = .tuple [.nils, .bool false, .int .i64 0] ∧ H' = H) := by
  refine (c30u p t H).mono fun r H' hr => ?_
  rw [c30R, if_pos ⟨hp, ht⟩, if_pos (by omega)] at hr
  cases hm : (mtR p t).1 with
  | true => rw [hm, if_pos rfl] at hr; exact .inl ⟨rfl, hr⟩
  | false => rw [hm, if_neg (by simp)] at hr; exact .inr ⟨rfl, hr⟩
theorem subst_ok {t : T} {l : List T} (h : (substS t l).2 = 0) : t.tree = true ∧ treesB l = true ∧ gts [t] < l.length ∧ (sub l t).tree = true ∧ (substS t l).1 = sub l t := by
  unfold substS at h ⊢
  split at h
  · rename_i c1
    split at h
    · rename_i c2
      split at h
      · rename_i c3
        exact ⟨c1.1, c1.2, c2, c3, by rw [if_pos c1, if_pos c2, if_pos c3]⟩
      · cases h
    · cases h
  · cases h
theorem rest7b_ok {p t : T} (hp : p.tree = true) (ht : t.tree = true) (hgp : gts [p] ≤ 200) (hgt : gts [t] ≤ 200) {H E : List AObj} {env : Env} (h3 : get env 3 = .iptr p.av) (h4 : get env 4 = .iptr t.av) (h8 : get env 8 = .bool (mtR p t).1) :
    swp Try.prog H.length rest7b env (H ++ E) (Q7 H) := by
  have hpi := (T.tree_iff _).1 hp
  have hti := (T.tree_iff _).1 ht
  unfold Q7
  simp only [rest7b, IR.tl, ir7u]
  simp (contextual := true) (maxSteps := 1000000) only [h3, h4, h8, stepsS, stepsT, stepsN, if_true, forall_const, ne_eq, implies_true, List.nil_append, List.append_nil, List.cons_append, List.length_cons, List.length_nil, Nat.reduceEqDiff, Nat.reduceAdd, Nat.reduceLT, Nat.reduceLeDiff, ↓reduceIte, reduceCtorEq, Int.reduceEq, Int.reduceLT]
  refine scall_to (c30_ok ht hp hgt) ?_
  have hlaw := inst_law hp ht
  have hnp := nrmS_ok (trees1 hp)
  have hnt := nrmS_ok (trees1 ht)
  generalize hA : nrmS [p] = A at *
  generalize hB : nrmS [t] = B at *
  have e1 : A.2.2 = 0 := by rw [hnp]
  have e2 : B.2.2 = 0 := by rw [hnt]
  clear hnp hnt
  rintro r H' h
  obtain ⟨x, E', hr, hH⟩ : ∃ x E', r = .tuple [x, .bool (mtR t p).1, .int .i64 0] ∧ H' = H ++ E' := by
    rcases h with ⟨hm, rfl, rfl⟩ | ⟨hm, rfl, rfl⟩
    · exact ⟨_, _, by rw [hm], List.append_assoc _ _ _⟩
    · exact ⟨_, _, by rw [hm], rfl⟩
  subst hr hH
  clear h
  simp (contextual := true) (maxSteps := 1000000) only [h3, h4, h8, stepsS, stepsT, stepsN, if_true, forall_const, ne_eq, implies_true, List.nil_append, List.append_nil, List.cons_append, List.length_cons, List.length_nil, Nat.reduceEqDiff, Nat.reduceAdd, Nat.reduceLT, Nat.reduceLeDiff, ↓reduceIte, reduceCtorEq, Int.reduceEq, Int.reduceLT]
  refine scall_pure (c31 [p] (by simp only [szs]; omega) (by simp)) ?_
  simp (contextual := true) (maxSteps := 1000000) only [h3, h4, h8, hA, stepsS, stepsT, stepsN, if_true, forall_const, ne_eq, implies_true, List.nil_append, List.append_nil, List.cons_append, List.length_cons, List.length_nil, Nat.reduceEqDiff, Nat.reduceAdd, Nat.reduceLT, Nat.reduceLeDiff, ↓reduceIte, reduceCtorEq, Int.reduceEq, Int.reduceLT]
  refine scall_pure (c31 [t] (by simp only [szs]; omega) (by simp)) ?_
  cases hi : (mtR p t).1 <;> cases hb : (mtR t p).1 <;> rw [hi, hb] at hlaw
  all_goals
    simp (contextual := true) (maxSteps := 1000000) only [h3, h4, h8, hB, e1, e2, Bool.false_eq_true, stepsS, stepsT, stepsN, if_true, forall_const, ne_eq, implies_true, List.nil_append, List.append_nil, List.cons_append, List.length_cons, List.length_nil, Nat.reduceEqDiff, Nat.reduceAdd, Nat.reduceLT, Nat.reduceLeDiff, ↓reduceIte, reduceCtorEq, Int.reduceEq, Int.reduceLT]
    refine scall_pure (c32 _ _ 0 0) ?_
    rw [← hlaw]
    simp (contextual := true) (maxSteps := 1000000) only [stepsS, stepsT, stepsN, if_true, forall_const, ne_eq, implies_true, List.nil_append, List.append_nil, List.cons_append, List.length_cons, List.length_nil, Nat.reduceEqDiff, Nat.reduceAdd, Nat.reduceLT, Nat.reduceLeDiff, ↓reduceIte, reduceCtorEq, Int.reduceEq, Int.reduceLT]
    exact ret1 rfl rfl
theorem rest7_ok {p t : T} {l : List T} (hp : p.tree = true) (ht : t.tree = true) (hgp : gts [p] ≤ 200) (hgt : gts [t] ≤ 200) {H E : List AObj} {env : Env} (h2 : get env 2 = .lst 0 (avs l)) (h3 : get env 3 = .iptr p.av) (h4 : get env 4 = .iptr t.av) (h8 : get env 8 = .bool (mtR p t).1) :
    swp Try.prog H.length rest7 env (H ++ E) (Q7 H) := by
  rw [rest7_eq]
  simp only [IR.hd, IR.tl, ir7u]
  simp (contextual := true) (maxSteps := 1000000) only [h2, h3, h4, h8, stepsS, stepsT, stepsN, if_true, forall_const, ne_eq, implies_true, List.nil_append, List.append_nil, List.cons_append, List.length_cons, List.length_nil, Nat.reduceEqDiff, Nat.reduceAdd, Nat.reduceLT, Nat.reduceLeDiff, ↓reduceIte, reduceCtorEq, Int.reduceEq, Int.reduceLT]
  refine scall_pure (c22 p l) ?_
  simp (contextual := true) (maxSteps := 1000000) only [h2, h3, h4, h8, stepsS, stepsT, stepsN, if_true, forall_const, ne_eq, implies_true, List.nil_append, List.append_nil, List.cons_append, List.length_cons, List.length_nil, Nat.reduceEqDiff, Nat.reduceAdd, Nat.reduceLT, Nat.reduceLeDiff, ↓reduceIte, reduceCtorEq, Int.reduceEq, Int.reduceLT]
  refine ⟨fun he => ?_, fun he => ?_⟩
  · obtain ⟨a1, a2, a3, a4, a5⟩ := subst_ok he
    rw [a5]
    have hy := mtR_comp hp fun n => l.getD n.toNat default
    have hyl := mtR_len p (sub l p)
    have hg0 := gts_ge [p]
    change (mtR p (sub l p)).1 = true ∧ fits _ (mtR p (sub l p)).2 at hy
    refine scall_to (c30_ok hp a4 hgp) ?_
    rintro r H' (⟨hm, rfl, rfl⟩ | ⟨hm, rfl, rfl⟩)
    · generalize (mtR p (sub l p)).2 = n at *
      simp (contextual := true) (maxSteps := 1000000) only [un_arr', h2, h3, h4, h8, stepsS, stepsT, stepsN, if_true, forall_const, ne_eq, implies_true, List.nil_append, List.append_nil, List.cons_append, List.length_cons, List.length_nil, Nat.reduceEqDiff, Nat.reduceAdd, Nat.reduceLT, Nat.reduceLeDiff, ↓reduceIte, reduceCtorEq, Int.reduceEq, Int.reduceLT]
      refine fun _ => ⟨fun _ => by omega, fun hle => ?_⟩
      refine swp_loop_nat n.length (fun i => True)
        (fun i => [(2, .lst 0 (avs l)), (3, .iptr p.av), (4, .iptr t.av), (8, .bool (mtR p t).1), (14, .arr (H.length + E.length) 0 n.length n.length), (121, .int .i64 n.length), (122, .int .i64 i)])
        (fun i => H ++ (E ++ [objL n])) ⟨trivial, sle_refl _ _ _⟩ fun i hi hI => ?_
      simp (contextual := true) (maxSteps := 1000000) only [un_arr', stepsS, stepsT, stepsN, if_true, forall_const, ne_eq, implies_true, List.nil_append, List.append_nil, List.cons_append, List.length_cons, List.length_nil, Nat.reduceEqDiff, Nat.reduceAdd, Nat.reduceLT, Nat.reduceLeDiff, ↓reduceIte, reduceCtorEq, Int.reduceEq, Int.reduceLT]
      refine ⟨fun hlt => ?_, fun hge => ?_⟩
      · have hlt := len_lt hlt
        have hll : i < l.length := by omega
        simp (contextual := true) (maxSteps := 1000000) only [un_arr', idx_arr, loadL0 hlt, loadL3 hlt, hlt, hll, Nat.add_zero, stepsS, stepsT, stepsN, if_true, forall_const, ne_eq, implies_true, List.nil_append, List.append_nil, List.cons_append, List.length_cons, List.length_nil, Nat.reduceEqDiff, Nat.reduceAdd, Nat.reduceLT, Nat.reduceLeDiff, ↓reduceIte, reduceCtorEq, Int.reduceEq, Int.reduceLT]
        refine ⟨fun hk0 => dcall_pure (c20 _ _) ?_, fun hk0 => ?_⟩
        · have e := hy.2 i hk0
          simp only [Int.toNat_natCast] at e
          have hs : (n.getD i default).same (l.getD i default) = true := by rw [e]; exact (T.same_iff _ _).2 rfl
          simp (contextual := true) (maxSteps := 1000000) only [hs, stepsS, stepsT, stepsN, if_true, forall_const, ne_eq, implies_true, List.nil_append, List.append_nil, List.cons_append, List.length_cons, List.length_nil, Nat.reduceEqDiff, Nat.reduceAdd, Nat.reduceLT, Nat.reduceLeDiff, ↓reduceIte, reduceCtorEq, Int.reduceEq, Int.reduceLT]
          exact ⟨i + 1, hlt, by omega, sle_eq (by rw [wrap_nat i (by omega)]) rfl⟩
        · exact ⟨i + 1, hlt, by omega, sle_eq (by rw [wrap_nat i (by omega)]) rfl⟩
      · refine rest7b_ok hp ht hgp hgt ?_ ?_ ?_ <;> simp only [gt_cons, ↓reduceIte, Nat.reduceEqDiff]
    · rw [hy.1] at hm; cases hm
  · refine rest7b_ok hp ht hgp hgt ?_ ?_ ?_ <;> simp only [gt_cons, ↓reduceIte, Nat.reduceEqDiff]
theorem c7 (p t : T) (l : List T) (hl : (2 + l.length) * 40 ≤ 140737488355328) : Pure Try.prog 7 [p.av, t.av, .lst 0 (avs l)] (.bool true) := by
  refine fun H => ok7u.calls (by simp [fi7u]) ?_
  simp only [fi7u]
  rw [ir7_eq]
  simp only [IR.hd, IR.tl, ir7u]
  simp (contextual := true) (maxSteps := 1000000) only [stepsS, stepsT, stepsN, if_true, forall_const, ne_eq, implies_true, List.nil_append, List.append_nil, List.cons_append, List.length_cons, List.length_nil, Nat.reduceEqDiff, Nat.reduceAdd, Nat.reduceLT, Nat.reduceLeDiff, ↓reduceIte, reduceCtorEq, Int.reduceEq, Int.reduceLT]
  refine scall_pure c13 ?_
  simp (contextual := true) (maxSteps := 1000000) only [ok_avs, stepsS, stepsT, stepsN, if_true, forall_const, ne_eq, implies_true, List.nil_append, List.append_nil, List.cons_append, List.length_cons, List.length_nil, Nat.reduceEqDiff, Nat.reduceAdd, Nat.reduceLT, Nat.reduceLeDiff, ↓reduceIte, reduceCtorEq, Int.reduceEq, Int.reduceLT]
  refine ⟨hl, scall_pure (c14 (p :: t :: l)) ?_⟩
  cases hf : fewL (p :: t :: l) with
  | false =>
    simp (contextual := true) (maxSteps := 1000000) only [Bool.false_eq_true, stepsS, stepsT, stepsN, if_true, forall_const, ne_eq, implies_true, List.nil_append, List.append_nil, List.cons_append, List.length_cons, List.length_nil, Nat.reduceEqDiff, Nat.reduceAdd, Nat.reduceLT, Nat.reduceLeDiff, ↓reduceIte, reduceCtorEq, Int.reduceEq, Int.reduceLT]
    exact ret0 rfl rfl
  | true =>
    have hz := few_app hf
    simp (contextual := true) (maxSteps := 1000000) only [stepsS, stepsT, stepsN, if_true, forall_const, ne_eq, implies_true, List.nil_append, List.append_nil, List.cons_append, List.length_cons, List.length_nil, Nat.reduceEqDiff, Nat.reduceAdd, Nat.reduceLT, Nat.reduceLeDiff, ↓reduceIte, reduceCtorEq, Int.reduceEq, Int.reduceLT]
    refine scall_pure (c15' p) ?_
    cases hp : p.tree with
    | false =>
      simp (contextual := true) (maxSteps := 1000000) only [Bool.false_eq_true, stepsS, stepsT, stepsN, if_true, forall_const, ne_eq, implies_true, List.nil_append, List.append_nil, List.cons_append, List.length_cons, List.length_nil, Nat.reduceEqDiff, Nat.reduceAdd, Nat.reduceLT, Nat.reduceLeDiff, ↓reduceIte, reduceCtorEq, Int.reduceEq, Int.reduceLT]
      exact ret0 rfl rfl
    | true =>
      simp (contextual := true) (maxSteps := 1000000) only [stepsS, stepsT, stepsN, if_true, forall_const, ne_eq, implies_true, List.nil_append, List.append_nil, List.cons_append, List.length_cons, List.length_nil, Nat.reduceEqDiff, Nat.reduceAdd, Nat.reduceLT, Nat.reduceLeDiff, ↓reduceIte, reduceCtorEq, Int.reduceEq, Int.reduceLT]
      refine scall_pure (c15' t) ?_
      cases ht : t.tree with
      | false =>
        simp (contextual := true) (maxSteps := 1000000) only [Bool.false_eq_true, stepsS, stepsT, stepsN, if_true, forall_const, ne_eq, implies_true, List.nil_append, List.append_nil, List.cons_append, List.length_cons, List.length_nil, Nat.reduceEqDiff, Nat.reduceAdd, Nat.reduceLT, Nat.reduceLeDiff, ↓reduceIte, reduceCtorEq, Int.reduceEq, Int.reduceLT]
        exact ret0 rfl rfl
      | true =>
        have hpi := (T.tree_iff _).1 hp
        have hti := (T.tree_iff _).1 ht
        simp (contextual := true) (maxSteps := 1000000) only [stepsS, stepsT, stepsN, if_true, forall_const, ne_eq, implies_true, List.nil_append, List.append_nil, List.cons_append, List.length_cons, List.length_nil, Nat.reduceEqDiff, Nat.reduceAdd, Nat.reduceLT, Nat.reduceLeDiff, ↓reduceIte, reduceCtorEq, Int.reduceEq, Int.reduceLT]
        refine scall_pure (c17 [p, t] (by simp only [szs]; omega)) ?_
        rw [most_gts (by simp [treesB, hp, ht])]
        simp (contextual := true) (maxSteps := 1000000) only [stepsS, stepsT, stepsN, if_true, forall_const, ne_eq, implies_true, List.nil_append, List.append_nil, List.cons_append, List.length_cons, List.length_nil, Nat.reduceEqDiff, Nat.reduceAdd, Nat.reduceLT, Nat.reduceLeDiff, ↓reduceIte, reduceCtorEq, Int.reduceEq, Int.reduceLT]
        refine ⟨fun _ => ret0 rfl rfl, fun hg => ?_⟩
        have hg2 := (gts_lt 201 (by omega) [p, t]).1 (by omega)
        simp only [fvs, List.append_nil, List.mem_append] at hg2
        have hgp : gts [p] < 201 := (gts1 p 201 (by omega)).2 fun v hv => hg2 v (.inl hv)
        have hgt : gts [t] < 201 := (gts1 t 201 (by omega)).2 fun v hv => hg2 v (.inr hv)
        refine scall_to (c30_ok hp ht (by omega)) ?_
        rintro r H' (⟨hm, rfl, rfl⟩ | ⟨hm, rfl, h2⟩)
        · have hms := mtR_sound hp ht hm
          have hml := mtR_len p t
          have hg0 := gts_ge [p]
          have hmem : ∀ j, j < (mtR p t).2.length → ((mtR p t).2.getD j default).k = 0 ∨ ((mtR p t).2.getD j default).tree = true := by
            intro j hj
            rcases mtc_mem (P := fun y => y.tree = true) (fun y hy => tree_kids hy) p t _ ht _ (mem_getD hj) with h2 | h2
            · left
              change ((mtc p t (List.replicate (gts [p] + 1).toNat T0)).2.getD j default).k = 0
              rw [List.eq_of_mem_replicate h2]; rfl
            · exact .inr h2
          have hk1 : ∀ v ∈ p.fv, ((mtR p t).2.getD v.toNat default).k ≠ 0 := fun v hv => by
            have := shaped_k ((T.tree_iff _).1 (hms.2 v hv)).2.2
            omega
          have hR : ∀ {E : List AObj} {env : Env}, get env 2 = .lst 0 (avs l) → get env 3 = .iptr p.av → get env 4 = .iptr t.av → get env 8 = .bool true → swp Try.prog H.length rest7 env (H ++ E) (Q7 H) :=
            fun h2 h3 h4 h8 => rest7_ok hp ht (by omega) (by omega) h2 h3 h4 (by rw [hm]; exact h8)
          generalize (mtR p t).2 = m at *
          simp (contextual := true) (maxSteps := 1000000) only [un_arr', stepsS, stepsT, stepsN, if_true, forall_const, ne_eq, implies_true, List.nil_append, List.append_nil, List.cons_append, List.length_cons, List.length_nil, Nat.reduceEqDiff, Nat.reduceAdd, Nat.reduceLT, Nat.reduceLeDiff, ↓reduceIte, reduceCtorEq, Int.reduceEq, Int.reduceLT]
          refine swp_loop_st m.length (fun i (s : List T) => s.length = m.length ∧ keeps m s ∧ (∀ j, j < i → (s.getD j default).tree = true) ∧ ∀ j, i ≤ j → s.getD j default = m.getD j default)
            (fun i s => [(2, .lst 0 (avs l)), (3, .iptr p.av), (4, .iptr t.av), (7, .arr H.length 0 m.length m.length), (8, .bool true), (63, .int .i64 m.length), (64, .int .i64 i)])
            (fun i s => H ++ [objL s]) m ⟨⟨rfl, keeps.refl _, fun j hj => by omega, fun j _ => rfl⟩, sle_refl _ _ _⟩ fun i s hi hI => ?_
          obtain ⟨k1, k2, k3, k4⟩ := hI
          simp (contextual := true) (maxSteps := 1000000) only [un_arr', stepsS, stepsT, stepsN, if_true, forall_const, ne_eq, implies_true, List.nil_append, List.append_nil, List.cons_append, List.length_cons, List.length_nil, Nat.reduceEqDiff, Nat.reduceAdd, Nat.reduceLT, Nat.reduceLeDiff, ↓reduceIte, reduceCtorEq, Int.reduceEq, Int.reduceLT]
          refine ⟨fun hlt => ?_, fun hge => ?_⟩
          · have hlt := len_lt hlt
            have hls : i < s.length := by omega
            simp (contextual := true) (maxSteps := 1000000) only [un_arr', idx_arr, loadL0 hls, hlt, Nat.add_zero, stepsS, stepsT, stepsN, if_true, forall_const, ne_eq, implies_true, List.nil_append, List.append_nil, List.cons_append, List.length_cons, List.length_nil, Nat.reduceEqDiff, Nat.reduceAdd, Nat.reduceLT, Nat.reduceLeDiff, ↓reduceIte, reduceCtorEq, Int.reduceEq, Int.reduceLT]
            refine ⟨fun hk0 => scall_pure (c21 _) ?_, fun hk0 => ?_⟩
            · simp (contextual := true) (maxSteps := 1000000) only [un_arr', idx_arr, storeL hls, hlt, stepsS, stepsT, stepsN, if_true, forall_const, ne_eq, implies_true, List.nil_append, List.append_nil, List.cons_append, List.length_cons, List.length_nil, Nat.reduceEqDiff, Nat.reduceAdd, Nat.reduceLT, Nat.reduceLeDiff, ↓reduceIte, reduceCtorEq, Int.reduceEq, Int.reduceLT]
              have h0 : (m.getD i default).k = 0 := by rw [← k4 i (Nat.le_refl _)]; exact hk0
              refine ⟨i + 1, s.set i (.mk 1 0 []), ⟨hlt, by simpa using k1, ?_, ?_, ?_⟩, by omega, sle_eq (by rw [wrap_nat i (by omega)]) rfl⟩
              · exact k2.trans (keeps_set hls hk0)
              · intro j hj
                rw [getD_set hls]
                split
                · rfl
                · exact k3 j (by omega)
              · intro j hj
                rw [getD_set hls, if_neg (by omega)]
                exact k4 j (by omega)
            · refine ⟨i + 1, s, ⟨hlt, k1, k2, ?_, fun j hj => k4 j (by omega)⟩, by omega, sle_eq (by rw [wrap_nat i (by omega)]) rfl⟩
              intro j hj
              by_cases hji : j = i
              · subst hji
                rw [k4 j (Nat.le_refl _)] at hk0 ⊢
                exact (hmem j hlt).resolve_left hk0
              · exact k3 j (by omega)
          · have hge := len_nlt hge
            have hi2 : i = m.length := by omega
            subst hi2
            have hts : treesB s = true := by
              unfold treesB
              rw [List.all_eq_true]
              intro x hx
              obtain ⟨j, hj, rfl⟩ := List.getElem_of_mem hx
              have := k3 j (by omega)
              simpa [hj] using this
            have hsub : sub s p = t := by rw [sub_keeps k2 hk1]; exact hms.1
            have hss : substS p s = (t, 0) := by rw [substS, if_pos ⟨hp, hts⟩, if_pos (by omega), hsub, if_pos ht]
            rw [← k1]
            simp (contextual := true) (maxSteps := 1000000) only [freezeL (id := H.length) (l := s), stepsS, stepsT, stepsN, if_true, forall_const, ne_eq, implies_true, List.nil_append, List.append_nil, List.cons_append, List.length_cons, List.length_nil, Nat.reduceEqDiff, Nat.reduceAdd, Nat.reduceLT, Nat.reduceLeDiff, ↓reduceIte, reduceCtorEq, Int.reduceEq, Int.reduceLT]
            refine scall_pure (c19 p s (by omega)) ?_
            rw [hss]
            have hst : t.same t = true := (T.same_iff _ _).2 rfl
            simp (contextual := true) (maxSteps := 1000000) only [stepsS, stepsT, stepsN, if_true, forall_const, ne_eq, implies_true, List.nil_append, List.append_nil, List.cons_append, List.length_cons, List.length_nil, Nat.reduceEqDiff, Nat.reduceAdd, Nat.reduceLT, Nat.reduceLeDiff, ↓reduceIte, reduceCtorEq, Int.reduceEq, Int.reduceLT]
            refine scall_pure (c20 _ _) ?_
            simp (contextual := true) (maxSteps := 1000000) only [hst, stepsS, stepsT, stepsN, if_true, forall_const, ne_eq, implies_true, List.nil_append, List.append_nil, List.cons_append, List.length_cons, List.length_nil, Nat.reduceEqDiff, Nat.reduceAdd, Nat.reduceLT, Nat.reduceLeDiff, ↓reduceIte, reduceCtorEq, Int.reduceEq, Int.reduceLT]
            exact hR (by simp only [gt_cons, ↓reduceIte, Nat.reduceEqDiff]) (by simp only [gt_cons, ↓reduceIte, Nat.reduceEqDiff]) (by simp only [gt_cons, ↓reduceIte, Nat.reduceEqDiff]) (by simp only [gt_cons, ↓reduceIte, Nat.reduceEqDiff])
        · obtain rfl : H = H' := h2.symm
          simp (contextual := true) (maxSteps := 1000000) only [un_arr', stepsS, stepsT, stepsN, if_true, forall_const, ne_eq, implies_true, List.nil_append, List.append_nil, List.cons_append, List.length_cons, List.length_nil, Nat.reduceEqDiff, Nat.reduceAdd, Nat.reduceLT, Nat.reduceLeDiff, ↓reduceIte, reduceCtorEq, Int.reduceEq, Int.reduceLT]
          have := rest7_ok (l := l) (env := [(2, AV.lst 0 (avs l)), (3, p.av.iptr), (4, t.av.iptr), (7, AV.nils), (8, AV.bool false), (61, AV.bool false)]) (E := []) hp ht (by omega) (by omega) (H := H)
            (by simp only [gt_cons, ↓reduceIte, Nat.reduceEqDiff]) (by simp only [gt_cons, ↓reduceIte, Nat.reduceEqDiff]) (by simp only [gt_cons, ↓reduceIte, Nat.reduceEqDiff]) (by rw [hm]; simp only [gt_cons, ↓reduceIte, Nat.reduceEqDiff])
          rw [List.append_nil] at this
          exact this
end Go.Abs
