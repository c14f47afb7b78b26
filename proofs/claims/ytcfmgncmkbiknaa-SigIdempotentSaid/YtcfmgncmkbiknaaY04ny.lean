/- Unify, in the program. -/
import Derived.Test.YtcfmgncmkbiknaaY04nx
set_option maxRecDepth 100000
set_option linter.unusedSimpArgs false
set_option linter.unusedVariables false
namespace Go.Abs
open Go Go.Proofs
def unN (a b : T) : Nat := (gts [a, b] + 1).toNat
def unP (a b : T) : Bool × U := prF (unN a b) 20001 a b (List.replicate (unN a b) T0, 0, false)
def wvAll (l : List T) (N : Nat) : Bool := (List.range N).all fun v => (whF l 200 (.mk 1 (v : Int) []) 2000).1.isSome
def wvs (l : List T) (N : Nat) : List T := (List.range N).map fun (v : Nat) => wv l v
def uniS (a b : T) : List T × Bool × Int :=
  if a.tree = true ∧ b.tree = true then
    if gts [a, b] ≤ 4000 then
      if (unP a b).1 = true then (if wvAll (unP a b).2.1 (unN a b) = true then (wvs (unP a b).2.1 (unN a b), true, 0) else ([], false, 2))
      else ([], false, if (unP a b).2.2.2 = true then 2 else 0)
    else ([], false, 1)
  else ([], false, 4)
theorem wf_zero (N : Nat) : Wf (List.replicate N T0) N := by
  have h : ∀ i, ((List.replicate N T0).getD i default).k = 0 := fun i => by
    by_cases hi : i < N
    · simp [hi]; rfl
    · rw [List.getD_eq_getElem?_getD, List.getElem?_eq_none (by simpa using hi)]; rfl
  exact ⟨by simp, fun i hi => absurd (h i) hi, fun i hi => absurd (h i) hi, fun i hi => by rw [h i] at hi; cases hi⟩
theorem fine_of {N : Nat} {t : T} (ht : t.tree = true) (h : gts [t] < N) : fine N t := by
  have hg := gts_ge [t]
  refine ⟨((T.tree_iff t).1 ht).2.2, fun v hv => ?_⟩
  have := (gts1 t (gts [t] + 1) (by omega)).1 (by omega) v hv
  omega
theorem gts2 (a b : T) : gts [a] ≤ gts [a, b] ∧ gts [b] ≤ gts [a, b] ∧ (gts [a, b] = gts [a] ∨ gts [a, b] = gts [b]) := by
  simp only [gts]; omega
theorem uF1 (H : List AObj) (N : Nat) : UF (fun l c o => H ++ [objL l, uO H.length N c o]) (H.length + 1) H.length N (H.length + 2) :=
  ⟨fun l c o => by rw [ga]; rfl, fun l c o c' o' => by rw [sa]; rfl, fun l c o => by rw [ga0]; rfl, fun l c o l' => by rw [sa0]; rfl, fun l c o => by simp⟩
theorem wF1 (H : List AObj) (x y : AObj) : Fam (fun s => H ++ [x, y, intO s]) (H.length + 2) intO (H.length + 3) :=
  ⟨fun s => by rw [ga]; rfl, fun s s' => by rw [sa]; rfl, fun s => by simp⟩
theorem wvs_succ (l : List T) (i : Nat) : wvs l (i + 1) = wvs l i ++ [wv l i] := by simp [wvs, List.range_succ]
theorem wvs_len (l : List T) (i : Nat) : (wvs l i).length = i := by simp [wvs]
theorem bdU (i o n m : Nat) (φ : AV → Prop) : abuild [.nils, .int .i64 0, .bool false] [(0, 1, .arr i o n m)] φ = φ (.agg [.arr i o n m, .int .i64 0, .bool false]) := by
  simp only [abuild, afill, eq_iff_iff]
  constructor
  · rintro ⟨h1, h2, h3, h7⟩; exact h7
  · intro h; exact ⟨rfl, rfl, by decide, h⟩
theorem c18 (a b : T) : Pure Try.prog 18 [a.av, b.av] (.tuple [.lst 0 (avs (uniS a b).1), .bool (uniS a b).2.1, .int .i64 (uniS a b).2.2]) := by
  refine fun H => ok18.calls (by simp [fi18]) ?_
  simp only [fi18, ir18]
  simp (contextual := true) (maxSteps := 1000000) only [stepsS, stepsT, stepsN, if_true, forall_const, ne_eq, implies_true, List.nil_append, List.append_nil, List.cons_append, List.length_cons, List.length_nil, Nat.reduceEqDiff, Nat.reduceAdd, Nat.reduceLT, Nat.reduceLeDiff, ↓reduceIte, reduceCtorEq, Int.reduceEq, Int.reduceLT]
  refine scall_pure (c53 [a, b]) ?_
  have etb : treesB [a, b] = (a.tree && b.tree) := by simp [treesB]
  rw [etb]
  by_cases htt : a.tree = true ∧ b.tree = true
  · rw [htt.1, htt.2]
    simp (contextual := true) (maxSteps := 1000000) only [stepsS, stepsT, stepsN, if_true, forall_const, ne_eq, implies_true, List.nil_append, List.append_nil, List.cons_append, List.length_cons, List.length_nil, Nat.reduceEqDiff, Nat.reduceAdd, Nat.reduceLT, Nat.reduceLeDiff, ↓reduceIte, reduceCtorEq, Int.reduceEq, Int.reduceLT]
    refine scall_pure (c54 [a, b]) ?_
    have hg := gts_ge [a, b]
    have hg2 := gts2 a b
    simp (contextual := true) (maxSteps := 1000000) only [stepsS, stepsT, stepsN, if_true, forall_const, ne_eq, implies_true, List.nil_append, List.append_nil, List.cons_append, List.length_cons, List.length_nil, Nat.reduceEqDiff, Nat.reduceAdd, Nat.reduceLT, Nat.reduceLeDiff, ↓reduceIte, reduceCtorEq, Int.reduceEq, Int.reduceLT]
    refine ⟨fun hb => ?_, fun hb => ?_⟩
    · refine ret3w (G := H) (x := .lst 0 (avs [])) (by decide) (by simp) ⟨rfl, rfl, rfl⟩ (.inr (.inr (.inr (.inl ⟨rfl, 0, rfl⟩)))) (.inl rfl) (.inl rfl) ?_
      rw [uniS, if_pos htt, if_neg (by omega)]
      exact ⟨rfl, rfl⟩
    · have hu : uniS a b = if (unP a b).1 = true then (if wvAll (unP a b).2.1 (unN a b) = true then (wvs (unP a b).2.1 (unN a b), true, 0) else ([], false, 2))
          else ([], false, if (unP a b).2.2.2 = true then 2 else 0) := by rw [uniS, if_pos htt, if_pos hb]
      rw [hu]
      have hN : gts [a, b] + 1 = ((unN a b : Nat) : Int) := by unfold unN; omega
      have w1 : IntKind.i64.wrap (gts [a, b] + 1) = ((unN a b : Nat) : Int) := by rw [wrap_in _ (by omega)]; omega
      have fa : fine (unN a b) a := fine_of htt.1 (by omega)
      have fb : fine (unN a b) b := fine_of htt.2 (by omega)
      have eP : prF (unN a b) 20001 a b (List.replicate (unN a b) T0, 0, false) = unP a b := rfl
      have hgood := prF_good (N := unN a b) 20001 a b (List.replicate (unN a b) T0, 0, false) (wf_zero _) (by simp) fa fb
      rw [eP] at hgood
      have hNb : unN a b ≤ 4001 := by omega
      rw [w1, mkL _ _ _ (by omega)]
      simp (contextual := true) (maxSteps := 1000000) only [un_arr', bdU, stepsS, stepsT, stepsN, if_true, forall_const, ne_eq, implies_true, List.nil_append, List.append_nil, List.cons_append, List.length_cons, List.length_nil, Nat.reduceEqDiff, Nat.reduceAdd, Nat.reduceLT, Nat.reduceLeDiff, ↓reduceIte, reduceCtorEq, Int.reduceEq, Int.reduceLT]
      have F := uF1 H (unN a b)
      have hcall := c55 20001 (H.length + 2) _ F a b (List.replicate (unN a b) T0) 0 false (wf_zero _) (by omega) (by omega) (by omega) fa fb
      rw [eP] at hcall
      refine ⟨by simp; omega, scall_to hcall ?_⟩
      rintro r H' ⟨rfl, rfl⟩
      clear hcall
      generalize unP a b = R at *
      generalize unN a b = N at *
      obtain ⟨r, l, c, o⟩ := R
      simp only at hgood ⊢
      obtain ⟨w, _, hc⟩ := hgood
      simp only at w hc
      cases r with
      | false =>
        simp (contextual := true) (maxSteps := 1000000) only [Bool.false_eq_true, uO, stepsS, stepsT, stepsN, if_true, forall_const, ne_eq, implies_true, List.nil_append, List.append_nil, List.cons_append, List.length_cons, List.length_nil, Nat.reduceEqDiff, Nat.reduceAdd, Nat.reduceLT, Nat.reduceLeDiff, ↓reduceIte, reduceCtorEq, Int.reduceEq, Int.reduceLT]
        cases o <;> simp (contextual := true) (maxSteps := 1000000) only [Bool.false_eq_true, stepsS, stepsT, stepsN, if_true, forall_const, ne_eq, implies_true, List.nil_append, List.append_nil, List.cons_append, List.length_cons, List.length_nil, Nat.reduceEqDiff, Nat.reduceAdd, Nat.reduceLT, Nat.reduceLeDiff, ↓reduceIte, reduceCtorEq, Int.reduceEq, Int.reduceLT]
        · exact ret3w (G := H) (x := .lst 0 (avs [])) (by decide) (by simp) ⟨rfl, rfl, rfl⟩ (.inr (.inr (.inr (.inl ⟨rfl, 0, rfl⟩)))) (.inl rfl) (.inl rfl) ⟨rfl, rfl⟩
        · exact ret3w (G := H) (x := .lst 0 (avs [])) (by decide) (by simp) ⟨rfl, rfl, rfl⟩ (.inr (.inr (.inr (.inl ⟨rfl, 0, rfl⟩)))) (.inl rfl) (.inl rfl) ⟨rfl, rfl⟩
      | true =>
        simp (contextual := true) (maxSteps := 1000000) only [Bool.false_eq_true, w1, stepsS, stepsT, stepsN, if_true, forall_const, ne_eq, implies_true, List.nil_append, List.append_nil, List.cons_append, List.length_cons, List.length_nil, Nat.reduceEqDiff, Nat.reduceAdd, Nat.reduceLT, Nat.reduceLeDiff, ↓reduceIte, reduceCtorEq, Int.reduceEq, Int.reduceLT]
        refine swp_loop_nat N (fun i => ∀ v : Nat, v < i → (whF l 200 (.mk 1 (v : Int) []) 2000).1.isSome = true)
          (fun i => [(8, .ptr (H.length + 1) 0), (9, outT (wvs l i)), (40, .int .i64 N), (41, .int .i64 i)]) (fun i => H ++ [objL l, uO H.length N c o]) ⟨fun v hv => by omega, sle_refl _ _ _⟩ fun i hi hI => ?_
        simp (contextual := true) (maxSteps := 1000000) only [outT_one, outT_blw, outT_drop, stepsS, stepsT, stepsN, if_true, forall_const, ne_eq, implies_true, List.nil_append, List.append_nil, List.cons_append, List.length_cons, List.length_nil, Nat.reduceEqDiff, Nat.reduceAdd, Nat.reduceLT, Nat.reduceLeDiff, ↓reduceIte, reduceCtorEq, Int.reduceEq, Int.reduceLT]
        refine ⟨fun hlt => ?_, fun hge => ?_⟩
        · have hlt := len_lt hlt
          have hx : fine N (.mk 1 (i : Int) []) := by
            refine ⟨by simp only [T.shaped]; simp [shapeds], fun u hu => ?_⟩
            simp only [T.fv, if_true, fvs, List.mem_singleton] at hu
            omega
          have hcall := c56 (pl := H.length + 2) (pu := H.length + 1) (idf := H.length) (N := N) (l := l) (c := c) (o := o) (by omega) w 200 (wF1 H (objL l) (uO H.length N c o)) (fun s => by rw [ga]; rfl) (fun s => by rw [ga0]; rfl) (.mk 1 (i : Int) []) 2000 (by omega) hx (by omega) (by omega)
          refine scall_of hcall ⟨le_refl _, .inr (.inr (.inr (.inr ⟨_, rfl, rfl⟩))), le_refl _, le_refl _, trivial⟩ ?_
          have ewv : wv l i = ((whF l 200 (.mk 1 (i : Int) []) 2000).1).getD T0 := rfl
          have eall : (whF l 200 (.mk 1 (i : Int) []) 2000).1 = none → wvAll l N = false := fun h => by
            rw [Bool.eq_false_iff]
            intro hc
            have := List.all_eq_true.1 hc i (by simpa using hlt)
            rw [h] at this
            cases this
          have hsome0 : ∀ y, (whF l 200 (.mk 1 (i : Int) []) 2000).1 = some y → (whF l 200 (.mk 1 (i : Int) []) 2000).1.isSome = true := fun y h => by rw [h]; rfl
          generalize hr : whF l 200 (.mk 1 (i : Int) []) 2000 = r at hcall ewv eall ⊢
          obtain ⟨r1, r2⟩ := r
          rintro r H' (⟨y, h1, rfl, rfl⟩ | ⟨h1, rfl, rfl⟩)
          · simp only at h1
            subst h1
            have ey : y = wv l i := by rw [ewv]; rfl
            have hsome := hsome0 y (by rw [hr])
            simp (contextual := true) (maxSteps := 1000000) only [ap_outT, outT_snoc, outT_one, outT_blw, stepsS, stepsT, stepsN, if_true, forall_const, ne_eq, implies_true, List.nil_append, List.append_nil, List.cons_append, List.length_cons, List.length_nil, Nat.reduceEqDiff, Nat.reduceAdd, Nat.reduceLT, Nat.reduceLeDiff, ↓reduceIte, reduceCtorEq, Int.reduceEq, Int.reduceLT]
            refine ⟨by rw [wvs_len]; omega, i + 1, ⟨hlt, fun v hv => ?_⟩, by omega, sle_drop (by rw [wrap_nat i (by omega), wvs_succ, ey]) (by simp) ?_ [intO r2] (by rw [List.append_assoc]; rfl)⟩
            · by_cases e : v = i
              · subst e; exact hsome
              · exact hI v (by omega)
            · simp only [eb_cons, eb_nil, bw_ptr, bw_int, outT_blw]; simp
          · simp only at h1
            subst h1
            have := eall rfl
            rw [this]
            simp (contextual := true) (maxSteps := 1000000) only [Bool.false_eq_true, stepsS, stepsT, stepsN, if_true, forall_const, ne_eq, implies_true, List.nil_append, List.append_nil, List.cons_append, List.length_cons, List.length_nil, Nat.reduceEqDiff, Nat.reduceAdd, Nat.reduceLT, Nat.reduceLeDiff, ↓reduceIte, reduceCtorEq, Int.reduceEq, Int.reduceLT]
            exact ret3w (G := H) (x := .lst 0 (avs [])) (by decide) (by simp) ⟨rfl, rfl, rfl⟩ (.inr (.inr (.inr (.inl ⟨rfl, 0, rfl⟩)))) (.inl rfl) (.inl rfl) ⟨rfl, rfl⟩
        · have hge := len_nlt hge
          have hiN : i = N := by omega
          subst hiN
          have hall : wvAll l i = true := by
            rw [wvAll, List.all_eq_true]
            exact fun v hv => hI v (by simpa using hv)
          rw [hall]
          simp only [if_true]
          refine ret3w (G := H) (x := .lst 0 (avs (wvs l i))) (by decide) (by simp) ⟨by simp only [bw_lst, avs_blw], rfl, rfl⟩ ?_ (.inl rfl) (.inl rfl) ⟨rfl, rfl⟩
          cases wvs l i with
          | nil => exact .inr (.inr (.inr (.inl ⟨rfl, 0, rfl⟩)))
          | cons x r => exact .inl rfl
  · have e : (a.tree && b.tree) = false := by
      cases h1 : a.tree <;> cases h2 : b.tree <;> simp_all
    rw [e]
    simp (contextual := true) (maxSteps := 1000000) only [Bool.false_eq_true, stepsS, stepsT, stepsN, if_true, forall_const, ne_eq, implies_true, List.nil_append, List.append_nil, List.cons_append, List.length_cons, List.length_nil, Nat.reduceEqDiff, Nat.reduceAdd, Nat.reduceLT, Nat.reduceLeDiff, ↓reduceIte, reduceCtorEq, Int.reduceEq, Int.reduceLT]
    refine ret3w (G := H) (x := .lst 0 (avs [])) (by decide) (by simp) ⟨rfl, rfl, rfl⟩ (.inr (.inr (.inr (.inl ⟨rfl, 0, rfl⟩)))) (.inl rfl) (.inl rfl) ?_
    rw [uniS, if_neg htt]
    exact ⟨rfl, rfl⟩
end Go.Abs
