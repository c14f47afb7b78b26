/- Sizes; the variables of trees. -/
import Derived.Test.YtcfmgncmkbiknaaY04e
set_option maxRecDepth 100000
set_option linter.unusedSimpArgs false
namespace Go.Abs
open Go Go.Proofs

mutual
def T.sz : T → Int
  | .mk _ _ l => 1 + szs l
def szs : List T → Int
  | [] => 0
  | x :: r => x.sz + szs r
end
mutual
def T.dp : T → Int
  | .mk _ _ l => 1 + dps l
def dps : List T → Int
  | [] => 0
  | x :: r => max x.dp (dps r)
end
mutual
theorem T.sz_pos : ∀ x : T, 1 ≤ x.sz
  | .mk k n l => by simp only [T.sz]; have := szs_pos l; omega
theorem szs_pos : ∀ l : List T, 0 ≤ szs l
  | [] => by simp [szs]
  | x :: r => by simp only [szs]; have := T.sz_pos x; have := szs_pos r; omega
end
mutual
theorem T.dp_pos : ∀ x : T, 1 ≤ x.dp
  | .mk k n l => by simp only [T.dp]; have := dps_pos l; omega
theorem dps_pos : ∀ l : List T, 0 ≤ dps l
  | [] => by simp [dps]
  | x :: r => by simp only [dps]; have := T.dp_pos x; have := dps_pos r; omega
end
def over (s : Int × Int) : Prop := 2000 < s.1 ∨ 200 < s.2
mutual
theorem cntT_spec : ∀ (x : T) (d : Int) (s : Int × Int), cntOk d s → (¬ over (cntT x d s) ↔ s.1 + x.sz ≤ 2000 ∧ d + x.dp - 1 ≤ 200) ∧ (¬ over (cntT x d s) → (cntT x d s).1 = s.1 + x.sz ∧ (cntT x d s).2 = max s.2 (d + x.dp - 1))
  | .mk k n l, d, s, h => by
    obtain ⟨h1, h2, h3, h4, h5, h6⟩ := h
    simp only [cntT, T.sz, T.dp]
    have hp := dps_pos l
    have ih := cnts_spec l (d + 1) (s.1 + 1, max s.2 d) (by unfold cntOut; simp only; omega) (by omega) (by simp only; omega)
    simp only at ih
    refine ⟨ih.1.trans ⟨fun k => ⟨by omega, by omega⟩, fun k => ⟨by omega, by omega, by omega⟩⟩, fun k => ?_⟩
    have k1 := ih.2 k
    have k2 := ih.1.1 k
    exact ⟨by omega, by omega⟩
theorem cnts_spec : ∀ (l : List T) (d : Int) (s : Int × Int), cntOut s → 0 ≤ d → d ≤ s.2 + 1 → (¬ over (cnts l d s) ↔ s.1 + szs l ≤ 2000 ∧ s.2 ≤ 200 ∧ d + dps l - 1 ≤ 200) ∧ (¬ over (cnts l d s) → (cnts l d s).1 = s.1 + szs l ∧ (cnts l d s).2 = max s.2 (d + dps l - 1))
  | [], d, s, h, h5, h6 => by
    simp only [cnts, szs, dps, over]
    exact ⟨⟨fun k => ⟨by omega, by omega, by omega⟩, fun k => by omega⟩, fun k => ⟨by omega, by omega⟩⟩
  | x :: r, d, s, h, h5, h6 => by
    obtain ⟨h1, h2, h3, h4⟩ := h
    simp only [cnts]
    have hx0 := x.sz_pos
    have hd0 := x.dp_pos
    have hr0 := szs_pos r
    have he0 := dps_pos r
    simp only [szs, dps]
    by_cases ho : 2000 < s.1 ∨ 200 < s.2
    · rw [if_pos ho]
      refine ⟨⟨fun k => absurd ho k, fun k => ?_⟩, fun k => absurd ho k⟩
      omega
    · rw [if_neg ho]
      have hok : cntOk d s := ⟨h1, by omega, h3, by omega, h5, by omega⟩
      have hx := cntT_spec x d s hok
      have ho2 := cntT_out x d s hok
      have hmn := cntT_mono x d s
      have ih := cnts_spec r d (cntT x d s) ho2.1 h5 (by omega)
      generalize cntT x d s = t at *
      by_cases hot : over t
      · have hn : over (cnts r d t) := by
          refine Classical.byContradiction fun hc => ?_
          have := ih.1.1 hc
          unfold over at hot
          omega
        refine ⟨⟨fun k => absurd hn k, fun k => ?_⟩, fun k => absurd hn k⟩
        have := hx.1.2 (by omega)
        exact absurd hot this
      · have k1 := hx.2 hot
        have k2 := hx.1.1 hot
        refine ⟨ih.1.trans ⟨fun k => ⟨by omega, by omega, by omega⟩, fun k => ⟨by omega, by omega, by omega⟩⟩, fun k => ?_⟩
        have k3 := ih.2 k
        exact ⟨by omega, by omega⟩
end
theorem overB_iff (s : Int × Int) : overB s = true ↔ over s := by simp [overB, over]
mutual
theorem ctdT_spec : ∀ (x : T) (left d : Int), 0 ≤ left → d ≤ 201 → ((ctdT x left d).2 = true ↔ x.sz ≤ left ∧ d + x.dp - 1 ≤ 200) ∧ ((ctdT x left d).2 = true → (ctdT x left d).1 = left - x.sz)
  | .mk k n l, left, d, h0, hd => by
    simp only [ctdT, T.sz, T.dp]
    have hp := dps_pos l
    have hs := szs_pos l
    by_cases ho : left - 1 < 0 ∨ 200 < d
    · rw [if_pos ho]
      refine ⟨⟨fun k => (by cases k), fun k => ?_⟩, fun k => (by cases k)⟩
      omega
    · rw [if_neg ho]
      have ih := ctds_spec l (left - 1) (d + 1) (by omega) (by omega)
      exact ⟨ih.1.trans ⟨fun k => ⟨by omega, by omega⟩, fun k => ⟨by omega, by omega⟩⟩, fun k => by have := ih.2 k; omega⟩
theorem ctds_spec : ∀ (l : List T) (left d : Int), 0 ≤ left → d ≤ 201 → ((ctds l left d).2 = true ↔ szs l ≤ left ∧ d + dps l - 1 ≤ 200) ∧ ((ctds l left d).2 = true → (ctds l left d).1 = left - szs l)
  | [], left, d, h0, hd => by simp only [ctds, szs, dps]; exact ⟨⟨fun _ => ⟨by omega, by omega⟩, fun _ => trivial⟩, fun _ => by omega⟩
  | x :: r, left, d, h0, hd => by
    simp only [ctds, szs, dps]
    have hx0 := x.sz_pos
    have hd0 := x.dp_pos
    have hr0 := szs_pos r
    have he0 := dps_pos r
    have hx := ctdT_spec x left d h0 hd
    have hle := ctdT_le x left d
    cases hb : (ctdT x left d).2 with
    | false =>
      rw [if_neg (by simp)]
      refine ⟨⟨fun k => (by cases k), fun k => ?_⟩, fun k => (by cases k)⟩
      have := hx.1.2 (by omega)
      rw [hb] at this; cases this
    | true =>
      rw [if_pos rfl]
      have k1 := hx.2 hb
      have k2 := hx.1.1 hb
      have ih := ctds_spec r (ctdT x left d).1 d ((hle.2 h0).2 hb) hd
      exact ⟨ih.1.trans ⟨fun k => ⟨by omega, by omega⟩, fun k => ⟨by omega, by omega⟩⟩, fun k => by have := ih.2 k; omega⟩
end
theorem T.tree_iff (x : T) : x.tree = true ↔ x.sz ≤ 2000 ∧ x.dp ≤ 200 ∧ x.shaped = true := by
  have h := (cntT_spec x 1 (0, 0) (by unfold cntOk; simp)).1
  unfold T.tree
  rw [Bool.and_eq_true, Bool.not_eq_true', ← Bool.not_eq_true, overB_iff]
  constructor
  · rintro ⟨h1, h2⟩
    have := h.1 h1
    simp only at this
    exact ⟨by omega, by omega, h2⟩
  · rintro ⟨h1, h2, h3⟩
    exact ⟨h.2 (by simp only; omega), h3⟩
theorem ref_is (x : T) : ((ctdT x 2000 1).2 && x.shaped) = x.tree := by
  have h := (ctdT_spec x 2000 1 (by omega) (by omega)).1
  rw [Bool.eq_iff_iff, Bool.and_eq_true, h, T.tree_iff]
  constructor
  · rintro ⟨⟨h1, h2⟩, h3⟩; exact ⟨h1, by omega, h3⟩
  · rintro ⟨h1, h2, h3⟩; exact ⟨⟨h1, by omega⟩, h3⟩
theorem c15' (x : T) : Pure Try.prog 15 [x.av] (.bool x.tree) := by rw [← ref_is]; exact c15 x
theorem all_drop {p : T → Bool} {l : List T} {i : Nat} (h : i < l.length) : (l.drop i).all p = (p (l.getD i default) && (l.drop (i + 1)).all p) := by
  rw [List.drop_eq_getElem_cons h, List.all_cons]
  simp [h]
theorem c16 (l : List T) : Pure Try.prog 16 [.lst 0 (avs l)] (.bool (treesB l)) := by
  refine fun H => ok16.calls (by simp [fi16]) ?_
  simp only [fi16, ir16]
  simp (contextual := true) (maxSteps := 1000000) only [stepsS, stepsT, stepsN, if_true, forall_const, ne_eq, implies_true, List.nil_append, List.append_nil, List.cons_append, List.length_cons, List.length_nil, Nat.reduceEqDiff, Nat.reduceAdd, Nat.reduceLT, Nat.reduceLeDiff, ↓reduceIte, reduceCtorEq, Int.reduceEq, Int.reduceLT]
  refine swp_loop_nat l.length (fun i => (l.drop i).all T.tree = treesB l) (fun i => [(0, .lst 0 (avs l)), (3, .int .i64 i)]) (fun i => H) ⟨rfl, sle_refl _ _ _⟩ fun i hi hI => ?_
  simp (contextual := true) (maxSteps := 1000000) only [stepsS, stepsT, stepsN, if_true, forall_const, ne_eq, implies_true, List.nil_append, List.append_nil, List.cons_append, List.length_cons, List.length_nil, Nat.reduceEqDiff, Nat.reduceAdd, Nat.reduceLT, Nat.reduceLeDiff, ↓reduceIte, reduceCtorEq, Int.reduceEq, Int.reduceLT]
  intro _
  refine ⟨fun hlt => ⟨len_lt hlt, ?_⟩, fun hge => ?_⟩
  · have hlt := len_lt hlt
    rw [all_drop hlt] at hI
    refine scall_pure (c15' _) ?_
    simp (contextual := true) (maxSteps := 1000000) only [stepsS, stepsT, stepsN, if_true, forall_const, ne_eq, implies_true, List.nil_append, List.append_nil, List.cons_append, List.length_cons, List.length_nil, Nat.reduceEqDiff, Nat.reduceAdd, Nat.reduceLT, Nat.reduceLeDiff, ↓reduceIte, reduceCtorEq, Int.reduceEq, Int.reduceLT]
    refine scond_b (fun hb => ?_) (fun hb => ?_) <;> simp (contextual := true) (maxSteps := 1000000) only [stepsS, stepsT, stepsN, if_true, forall_const, ne_eq, implies_true, List.nil_append, List.append_nil, List.cons_append, List.length_cons, List.length_nil, Nat.reduceEqDiff, Nat.reduceAdd, Nat.reduceLT, Nat.reduceLeDiff, ↓reduceIte, reduceCtorEq, Int.reduceEq, Int.reduceLT]
    · exact ⟨i + 1, ⟨hlt, by rw [hb] at hI; simpa using hI⟩, by omega, sle_eq (by rw [wrap_nat i (by omega)]) rfl⟩
    · exact ret0 rfl (by rw [← hI, hb]; rfl)
  · rw [List.drop_of_length_le (len_nlt hge)] at hI
    exact ret0 rfl (by rw [← hI]; rfl)

/-! ### vars -/
def ents (vs : List Int) : List (AV × AV) := vs.map fun v => (.int .i64 v, .bool true)
theorem afind_ents (n : Int) : ∀ (vs : List Int) (i : Nat), (n ∈ vs → ∃ j, afind 0 (.int .i64 n) (ents vs) i = some (some (j, .bool true))) ∧ (n ∉ vs → afind 0 (.int .i64 n) (ents vs) i = some none)
  | [], i => ⟨fun h => (by cases h), fun _ => rfl⟩
  | v :: r, i => by
    have ih := afind_ents n r (i + 1)
    simp only [ents, List.map_cons, afind, keyEq, if_true]
    by_cases hv : n = v
    · subst hv
      simp
    · simp only [decide_eq_false hv, List.mem_cons, hv, false_or]
      exact ih
theorem lk_ents (n : Int) (vs : List Int) (φ : AV → Prop) : lookupC (some (.map (ents vs))) 0 (.bool false) (.int .i64 n) false φ = φ (.bool (decide (n ∈ vs))) := by
  have h := afind_ents n vs 0
  unfold lookupC
  by_cases hn : n ∈ vs
  · obtain ⟨j, hj⟩ := h.1 hn
    simp [hj, hn, dr_bool]
  · simp [h.2 hn, hn, keyEq, canon, abslice.canon, dr_bool]
theorem ms_ents {n : Int} {vs : List Int} (hn : n ∉ vs) (id : Nat) (H : List AObj) (K : List AObj → Prop) : mapsetC (some (.map (ents vs))) 0 id (.int .i64 n) (.bool true) H K = K (H.set id (.map (ents (vs ++ [n])))) := by
  have h := (afind_ents n vs 0).2 hn
  unfold mapsetC
  simp only [h]
  simp [keyEq, bw_int, bw_bool, va_bool, ents, canon, abslice.canon, dr_bool]
def outC : List Int → AV
  | [] => .nils
  | v :: r => .lst 1 (ints (v :: r))
theorem outC_snoc (vs : List Int) (n : Int) : AV.lst 1 (ints (vs ++ [n])) = outC (vs ++ [n]) := by
  cases vs <;> rfl
theorem outC_one (vs : List Int) : (outC vs).one = true := by cases vs <;> rfl
theorem outC_blw (k : Nat) (vs : List Int) : (outC vs).blw k = true := by
  cases vs with
  | nil => rfl
  | cons v r => simp only [outC, bw_lst, ints_blw]
theorem ap_out (vs : List Int) (n : Int) (o : Nat) (ψ : List AV → Prop) : aappend 1 8 (outC vs) (.lst o [.int .i64 n]) ψ = ((vs.length + 1) * 8 ≤ 140737488355328 ∧ ψ (ints (vs ++ [n]))) := by
  cases vs with
  | nil => simp [outC, ap_nils, ok_int, ints]
  | cons v r =>
    show aappend 1 8 (.lst 1 (ints (v :: r))) _ ψ = _
    rw [ap_lst, ok_int, ints_len, ints_snoc]
    simp
def varObjs (vs : List Int) : List AObj := [.cells [outC vs], .map (ents vs)]
def addV (vs : List Int) (x : T) : List Int := if x.k = 1 ∧ x.n ∉ vs then vs ++ [x.n] else vs
theorem c102 (H : List AObj) (x : T) (vs : List Int) (hl : vs.length ≤ 1000000) :
    ACalls Try.prog 102 [x.av, .iptr (.map (H.length + 1)), .ptr H.length 0] (H ++ varObjs vs) fun r H' => r = .tuple [] ∧ H' = H ++ varObjs (addV vs x) := by
  refine ok102.calls (by simp [fi102]) ?_
  simp only [fi102, ir102]
  simp (contextual := true) (maxSteps := 1000000) only [varObjs, lk_ents, stepsS, stepsT, stepsN, if_true, forall_const, ne_eq, implies_true, List.nil_append, List.append_nil, List.cons_append, List.length_cons, List.length_nil, Nat.reduceEqDiff, Nat.reduceAdd, Nat.reduceLT, Nat.reduceLeDiff, ↓reduceIte, reduceCtorEq, Int.reduceEq, Int.reduceLT]
  refine ⟨fun hk => ⟨fun hn => ?_, fun hn => ?_⟩, fun hk => ?_⟩
  · exact ret_none (by simp [varObjs]) (by simp [addV, hk, hn, varObjs])
  · rw [ms_ents hn]
    simp (contextual := true) (maxSteps := 1000000) only [ap_out, outC_snoc, outC_one, outC_blw, stepsS, stepsT, stepsN, if_true, forall_const, ne_eq, implies_true, List.nil_append, List.append_nil, List.cons_append, List.length_cons, List.length_nil, Nat.reduceEqDiff, Nat.reduceAdd, Nat.reduceLT, Nat.reduceLeDiff, ↓reduceIte, reduceCtorEq, Int.reduceEq, Int.reduceLT]
    refine ⟨by omega, ?_⟩
    exact ret_none (by simp [varObjs]) (by simp [addV, hk, hn, varObjs])
  · exact ret_none (by simp [varObjs]) (by simp [addV, hk, varObjs])
mutual
def walkV : T → List Int → List Int
  | .mk k n l, vs => walkVs l (if k = 1 ∧ n ∉ vs then vs ++ [n] else vs)
def walkVs : List T → List Int → List Int
  | [], vs => vs
  | x :: r, vs => walkVs r (walkV x vs)
end
mutual
theorem walkV_len : ∀ (x : T) (vs : List Int), ((walkV x vs).length : Int) ≤ vs.length + x.sz
  | .mk k n l, vs => by
    simp only [walkV, T.sz]
    have := walkVs_len l (if k = 1 ∧ n ∉ vs then vs ++ [n] else vs)
    split at this
    · rename_i h; rw [if_pos h]; simp only [List.length_append, List.length_cons, List.length_nil] at this; omega
    · rename_i h; rw [if_neg h]; omega
theorem walkVs_len : ∀ (l : List T) (vs : List Int), ((walkVs l vs).length : Int) ≤ vs.length + szs l
  | [], vs => by simp [walkVs, szs]
  | x :: r, vs => by
    simp only [walkVs, szs]
    have h1 := walkV_len x vs
    have h2 := walkVs_len r (walkV x vs)
    omega
end
theorem walkVs_drop {l : List T} {i : Nat} {vs : List Int} (h : i < l.length) : walkVs (l.drop i) vs = walkVs (l.drop (i + 1)) (walkV (l.getD i default) vs) := by
  rw [List.drop_eq_getElem_cons h]
  simp [walkVs, h]
theorem szs_drop {l : List T} {i : Nat} (h : i < l.length) : szs (l.drop i) = (l.getD i default).sz + szs (l.drop (i + 1)) := by
  rw [List.drop_eq_getElem_cons h]
  simp [szs, h]
theorem c101 (H : List AObj) (x : T) (vs : List Int) (hl : vs.length + x.sz ≤ 1000000) :
    ACalls Try.prog 101 [x.av, .fn (.func 102) [] [.iptr (.map (H.length + 1)), .ptr H.length 0]] (H ++ varObjs vs) fun r H' => r = .tuple [] ∧ H' = H ++ varObjs (walkV x vs) := by
  have ih : ∀ y ∈ x.l, ∀ (vs : List Int), vs.length + y.sz ≤ 1000000 → ACalls Try.prog 101 [y.av, .fn (.func 102) [] [.iptr (.map (H.length + 1)), .ptr H.length 0]] (H ++ varObjs vs) fun r H' => r = .tuple [] ∧ H' = H ++ varObjs (walkV y vs) :=
    fun y hy vs h => c101 H y vs h
  have e : walkV x vs = walkVs x.l (addV vs x) := by cases x; simp only [walkV, addV, T.k, T.n, T.l]; rfl
  have es : x.sz = 1 + szs x.l := by cases x; simp only [T.sz, T.l]
  have hs0 := szs_pos x.l
  have ha : ((addV vs x).length : Int) ≤ vs.length + 1 := by
    unfold addV; split
    · simp only [List.length_append, List.length_cons, List.length_nil]; omega
    · omega
  refine ok101.calls (by simp [fi101]) ?_
  simp only [fi101, ir101]
  simp (contextual := true) (maxSteps := 1000000) only [varObjs, stepsS, stepsT, stepsN, if_true, forall_const, ne_eq, implies_true, List.nil_append, List.append_nil, List.cons_append, List.length_cons, List.length_nil, Nat.reduceEqDiff, Nat.reduceAdd, Nat.reduceLT, Nat.reduceLeDiff, ↓reduceIte, reduceCtorEq, Int.reduceEq, Int.reduceLT]
  refine scall_to (c102 H x vs (by omega)) ?_
  rintro r H' ⟨rfl, rfl⟩
  simp (contextual := true) (maxSteps := 1000000) only [varObjs, stepsS, stepsT, stepsN, if_true, forall_const, ne_eq, implies_true, List.nil_append, List.append_nil, List.cons_append, List.length_cons, List.length_nil, Nat.reduceEqDiff, Nat.reduceAdd, Nat.reduceLT, Nat.reduceLeDiff, ↓reduceIte, reduceCtorEq, Int.reduceEq, Int.reduceLT]
  intro hxl
  refine swp_loop_st x.l.length (fun i (s : List Int) => (s.length : Int) + szs (x.l.drop i) ≤ 1000000 ∧ walkVs (x.l.drop i) s = walkV x vs)
      (fun i s => [(1, .fn (.func 102) [] [.iptr (.map (H.length + 1)), .ptr H.length 0]), (10, .lst 0 (avs x.l)), (11, .int .i64 x.l.length), (12, .int .i64 i)]) (fun i s => H ++ varObjs s) (addV vs x) ⟨⟨by rw [List.drop_zero]; omega, by rw [e]; rfl⟩, sle_refl _ _ _⟩ fun i s hi hI => ?_
  obtain ⟨k1, hI⟩ := hI
  simp (contextual := true) (maxSteps := 1000000) only [varObjs, stepsS, stepsT, stepsN, if_true, forall_const, ne_eq, implies_true, List.nil_append, List.append_nil, List.cons_append, List.length_cons, List.length_nil, Nat.reduceEqDiff, Nat.reduceAdd, Nat.reduceLT, Nat.reduceLeDiff, ↓reduceIte, reduceCtorEq, Int.reduceEq, Int.reduceLT]
  refine ⟨fun hlt => ⟨len_lt hlt, ?_⟩, fun hge => ?_⟩
  · have hlt := len_lt hlt
    rw [walkVs_drop hlt] at hI
    rw [szs_drop hlt] at k1
    have hp := szs_pos (x.l.drop (i + 1))
    refine scall_to (ih _ (mem_getD hlt) s (by omega)) ?_
    rintro r H' ⟨rfl, rfl⟩
    simp (contextual := true) (maxSteps := 1000000) only [varObjs, stepsS, stepsT, stepsN, if_true, forall_const, ne_eq, implies_true, List.nil_append, List.append_nil, List.cons_append, List.length_cons, List.length_nil, Nat.reduceEqDiff, Nat.reduceAdd, Nat.reduceLT, Nat.reduceLeDiff, ↓reduceIte, reduceCtorEq, Int.reduceEq, Int.reduceLT]
    have := walkV_len (x.l.getD i default) s
    exact ⟨i + 1, _, ⟨hlt, by omega, hI⟩, by omega, sle_eq (by rw [wrap_nat i (by omega)]) rfl⟩
  · rw [List.drop_of_length_le (len_nlt hge)] at hI
    rw [← hI]
    exact ret_none (by simp [varObjs]) rfl
termination_by SizeOf.sizeOf x
decreasing_by exact T.lt hy
theorem outC_un_le (vs : List Int) : (outC vs).unown.le (.lst 0 (ints vs)) := by
  cases vs with
  | nil => exact .inr (.inr (.inr (.inl ⟨rfl, 0, rfl⟩)))
  | cons v r => exact le_refl _
theorem c76 (l : List T) (hl : szs l ≤ 1000000) : Pure Try.prog 76 [.lst 0 (avs l)] (.lst 0 (ints (walkVs l []))) := by
  refine fun H => ok76.calls (by simp [fi76]) ?_
  simp only [fi76, ir76]
  simp (contextual := true) (maxSteps := 1000000) only [stepsS, stepsT, stepsN, if_true, forall_const, ne_eq, implies_true, List.nil_append, List.append_nil, List.cons_append, List.length_cons, List.length_nil, Nat.reduceEqDiff, Nat.reduceAdd, Nat.reduceLT, Nat.reduceLeDiff, ↓reduceIte, reduceCtorEq, Int.reduceEq, Int.reduceLT]
  intro hxl
  refine swp_loop_st l.length (fun i (s : List Int) => (s.length : Int) + szs (l.drop i) ≤ 1000000 ∧ walkVs (l.drop i) s = walkVs l [])
      (fun i s => [(3, .ptr H.length 0), (4, .iptr (.map (H.length + 1))), (8, .lst 0 (avs l)), (9, .int .i64 l.length), (10, .int .i64 i)]) (fun i s => H ++ varObjs s) [] ⟨⟨by rw [List.drop_zero, List.length_nil]; omega, rfl⟩, sle_refl _ _ _⟩ fun i s hi hI => ?_
  obtain ⟨k1, hI⟩ := hI
  simp (contextual := true) (maxSteps := 1000000) only [varObjs, stepsS, stepsT, stepsN, if_true, forall_const, ne_eq, implies_true, List.nil_append, List.append_nil, List.cons_append, List.length_cons, List.length_nil, Nat.reduceEqDiff, Nat.reduceAdd, Nat.reduceLT, Nat.reduceLeDiff, ↓reduceIte, reduceCtorEq, Int.reduceEq, Int.reduceLT]
  refine ⟨fun hlt => ⟨len_lt hlt, ?_⟩, fun hge => ?_⟩
  · have hlt := len_lt hlt
    rw [walkVs_drop hlt] at hI
    rw [szs_drop hlt] at k1
    have hp := szs_pos (l.drop (i + 1))
    refine scall_to (c101 H (l.getD i default) s (by omega)) ?_
    rintro r H' ⟨rfl, rfl⟩
    simp (contextual := true) (maxSteps := 1000000) only [varObjs, stepsS, stepsT, stepsN, if_true, forall_const, ne_eq, implies_true, List.nil_append, List.append_nil, List.cons_append, List.length_cons, List.length_nil, Nat.reduceEqDiff, Nat.reduceAdd, Nat.reduceLT, Nat.reduceLeDiff, ↓reduceIte, reduceCtorEq, Int.reduceEq, Int.reduceLT]
    have := walkV_len (l.getD i default) s
    exact ⟨i + 1, _, ⟨hlt, by omega, hI⟩, by omega, sle_eq (by rw [wrap_nat i (by omega)]) rfl⟩
  · rw [List.drop_of_length_le (len_nlt hge)] at hI
    have : s = walkVs l [] := hI
    subst this
    refine ret1l ?_ (by simp only [bw_lst, ints_blw])
    have e : (outC (walkVs l [])).unown.unown = (outC (walkVs l [])).unown := by cases (walkVs l []) <;> rfl
    rw [e]
    exact outC_un_le _

/-! ### The document's way -/
theorem c28 (l : List Int) (n : Int) (o : Nat) : Pure Try.prog 28 [.lst o (ints l), .int .i64 n] (.bool (decide (n ∈ l))) := by
  refine fun H => ok28.calls (by simp [fi28]) ?_
  simp only [fi28, ir28]
  simp (contextual := true) (maxSteps := 1000000) only [stepsS, stepsT, stepsN, if_true, forall_const, ne_eq, implies_true, List.nil_append, List.append_nil, List.cons_append, List.length_cons, List.length_nil, Nat.reduceEqDiff, Nat.reduceAdd, Nat.reduceLT, Nat.reduceLeDiff, ↓reduceIte, reduceCtorEq, Int.reduceEq, Int.reduceLT]
  refine swp_loop_nat l.length (fun i => decide (n ∈ l.drop i) = decide (n ∈ l)) (fun i => [(0, .lst o (ints l)), (1, .int .i64 n), (5, .int .i64 i)]) (fun i => H) ⟨rfl, sle_refl _ _ _⟩ fun i hi hI => ?_
  simp (contextual := true) (maxSteps := 1000000) only [stepsS, stepsT, stepsN, if_true, forall_const, ne_eq, implies_true, List.nil_append, List.append_nil, List.cons_append, List.length_cons, List.length_nil, Nat.reduceEqDiff, Nat.reduceAdd, Nat.reduceLT, Nat.reduceLeDiff, ↓reduceIte, reduceCtorEq, Int.reduceEq, Int.reduceLT]
  intro _
  refine ⟨fun hlt => ⟨len_lt hlt, ?_⟩, fun hge => ?_⟩
  · have hlt := len_lt hlt
    rw [List.drop_eq_getElem_cons hlt] at hI
    have eg : l.getD i 0 = l[i] := by simp [hlt]
    rw [eg]
    refine ⟨fun he => ret0 rfl (by rw [← hI, ← he, decide_eq_true (List.mem_cons_self)]), fun he => ⟨i + 1, ⟨hlt, ?_⟩, by omega, sle_eq (by rw [wrap_nat i (by omega)]) rfl⟩⟩
    rw [← hI]
    have : ¬ n = l[i] := fun h => he h.symm
    exact decide_eq_decide.2 (by rw [List.mem_cons]; exact ⟨.inr, fun h => h.resolve_left this⟩)
  · rw [List.drop_of_length_le (len_nlt hge)] at hI
    exact ret0 rfl (by rw [← hI]; simp)
mutual
def rvT : T → List Int → List Int
  | .mk k n l, vs => if k = 1 then (if n ∈ vs then vs else vs ++ [n]) else rvs l vs
def rvs : List T → List Int → List Int
  | [], vs => vs
  | x :: r, vs => rvs r (rvT x vs)
end
mutual
theorem rvT_len : ∀ (x : T) (vs : List Int), ((rvT x vs).length : Int) ≤ vs.length + x.sz
  | .mk k n l, vs => by
    simp only [rvT, T.sz]
    have := rvs_len l vs
    have := szs_pos l
    split
    · split
      · omega
      · simp only [List.length_append, List.length_cons, List.length_nil]; omega
    · omega
theorem rvs_len : ∀ (l : List T) (vs : List Int), ((rvs l vs).length : Int) ≤ vs.length + szs l
  | [], vs => by simp [rvs, szs]
  | x :: r, vs => by
    simp only [rvs, szs]
    have h1 := rvT_len x vs
    have h2 := rvs_len r (rvT x vs)
    omega
end
mutual
theorem walk_rv : ∀ (x : T) (vs : List Int), x.shaped = true → walkV x vs = rvT x vs
  | .mk k n l, vs, h => by
    have h' := h
    rw [T.shaped_eq] at h
    simp only [T.k, T.n, T.l, Bool.and_eq_true, Bool.not_eq_true', Bool.or_eq_false_iff, decide_eq_false_iff_not, Bool.and_eq_false_iff] at h
    obtain ⟨⟨⟨⟨h1, h2⟩, h3⟩, h4⟩, h5⟩ := h
    simp only [walkV, rvT]
    by_cases hk : k = 1
    · have hl : l = [] := by
        rcases h2 with h2 | h2
        · simp [hk] at h2
        · cases l with
          | nil => rfl
          | cons x r => simp at h2
      subst hl
      simp only [walkVs, hk, true_and, if_true]
      by_cases hn : n ∈ vs <;> simp [hn]
    · simp only [hk, false_and, if_false]
      exact walks_rv l vs h5
theorem walks_rv : ∀ (l : List T) (vs : List Int), shapeds l = true → walkVs l vs = rvs l vs
  | [], vs, _ => rfl
  | x :: r, vs, h => by
    simp only [shapeds, Bool.and_eq_true] at h
    simp only [walkVs, rvs, walk_rv x vs h.1]
    exact walks_rv r _ h.2
end
theorem rvs_drop {l : List T} {i : Nat} {vs : List Int} (h : i < l.length) : rvs (l.drop i) vs = rvs (l.drop (i + 1)) (rvT (l.getD i default) vs) := by
  rw [List.drop_eq_getElem_cons h]
  simp [rvs, h]
theorem c73 (H : List AObj) (x : T) (vs : List Int) (hl : vs.length + x.sz ≤ 1000000) :
    ACalls Try.prog 73 [x.av, .lst 1 (ints vs)] H fun r H' => r = .lst 1 (ints (rvT x vs)) ∧ H' = H := by
  have ih : ∀ y ∈ x.l, ∀ (vs : List Int), vs.length + y.sz ≤ 1000000 → ACalls Try.prog 73 [y.av, .lst 1 (ints vs)] H fun r H' => r = .lst 1 (ints (rvT y vs)) ∧ H' = H :=
    fun y hy vs h => c73 H y vs h
  have e : rvT x vs = if x.k = 1 then (if x.n ∈ vs then vs else vs ++ [x.n]) else rvs x.l vs := by cases x; simp only [rvT, T.k, T.n, T.l]; rfl
  have es : x.sz = 1 + szs x.l := by cases x; simp only [T.sz, T.l]
  have hs0 := szs_pos x.l
  refine ok73.calls (by simp [fi73]) ?_
  simp only [fi73, ir73]
  simp (contextual := true) (maxSteps := 1000000) only [stepsS, stepsT, stepsN, if_true, forall_const, ne_eq, implies_true, List.nil_append, List.append_nil, List.cons_append, List.length_cons, List.length_nil, Nat.reduceEqDiff, Nat.reduceAdd, Nat.reduceLT, Nat.reduceLeDiff, ↓reduceIte, reduceCtorEq, Int.reduceEq, Int.reduceLT]
  refine ⟨fun hk => ?_, fun hk => ?_⟩
  · refine scall_pure (c28 vs x.n 0) ?_
    by_cases hn : x.n ∈ vs
    · rw [decide_eq_true hn]
      simp (contextual := true) (maxSteps := 1000000) only [stepsS, stepsT, stepsN, if_true, forall_const, ne_eq, implies_true, List.nil_append, List.append_nil, List.cons_append, List.length_cons, List.length_nil, Nat.reduceEqDiff, Nat.reduceAdd, Nat.reduceLT, Nat.reduceLeDiff, ↓reduceIte, reduceCtorEq, Int.reduceEq, Int.reduceLT]
      exact ret0 (by simp only [bw_lst, ints_blw]) (by rw [e, if_pos hk, if_pos hn])
    · rw [decide_eq_false hn]
      simp (contextual := true) (maxSteps := 1000000) only [stepsS, stepsT, stepsN, if_true, forall_const, ne_eq, implies_true, List.nil_append, List.append_nil, List.cons_append, List.length_cons, List.length_nil, Nat.reduceEqDiff, Nat.reduceAdd, Nat.reduceLT, Nat.reduceLeDiff, ↓reduceIte, reduceCtorEq, Int.reduceEq, Int.reduceLT]
      refine ⟨by omega, ?_⟩
      exact ret0 (by simp only [bw_lst, ints_blw]) (by rw [e, if_pos hk, if_neg hn])
  · refine swp_loop_st x.l.length (fun i (s : List Int) => (s.length : Int) + szs (x.l.drop i) ≤ 1000000 ∧ rvs (x.l.drop i) s = rvT x vs)
      (fun i s => [(1, .lst 1 (ints s)), (2, x.av.iptr), (5, .int .i64 i)]) (fun i s => H) vs ⟨⟨by rw [List.drop_zero]; omega, by rw [e, if_neg hk]; rfl⟩, sle_refl _ _ _⟩ fun i s hi hI => ?_
    obtain ⟨k1, hI⟩ := hI
    simp (contextual := true) (maxSteps := 1000000) only [stepsS, stepsT, stepsN, if_true, forall_const, ne_eq, implies_true, List.nil_append, List.append_nil, List.cons_append, List.length_cons, List.length_nil, Nat.reduceEqDiff, Nat.reduceAdd, Nat.reduceLT, Nat.reduceLeDiff, ↓reduceIte, reduceCtorEq, Int.reduceEq, Int.reduceLT]
    intro _
    refine ⟨fun hlt => ⟨len_lt hlt, ?_⟩, fun hge => ?_⟩
    · have hlt := len_lt hlt
      rw [rvs_drop hlt] at hI
      rw [szs_drop hlt] at k1
      have hp := szs_pos (x.l.drop (i + 1))
      refine scall_to (ih _ (mem_getD hlt) s (by omega)) ?_
      rintro r H' ⟨rfl, rfl⟩
      simp (contextual := true) (maxSteps := 1000000) only [stepsS, stepsT, stepsN, if_true, forall_const, ne_eq, implies_true, List.nil_append, List.append_nil, List.cons_append, List.length_cons, List.length_nil, Nat.reduceEqDiff, Nat.reduceAdd, Nat.reduceLT, Nat.reduceLeDiff, ↓reduceIte, reduceCtorEq, Int.reduceEq, Int.reduceLT]
      have := rvT_len (x.l.getD i default) s
      exact ⟨i + 1, _, ⟨hlt, by omega, hI⟩, by omega, sle_eq (by rw [wrap_nat i (by omega)]) rfl⟩
    · rw [List.drop_of_length_le (len_nlt hge)] at hI
      exact ret0 (by simp only [bw_lst, ints_blw]) (by rw [← hI]; rfl)
termination_by SizeOf.sizeOf x
decreasing_by exact T.lt hy
/-- The variables of trees that are all right. -/
def varsL (l : List T) : List Int := if treesB l = true then rvs l [] else []
theorem c29 (l : List T) (hl : szs l ≤ 1000000) : Pure Try.prog 29 [.lst 0 (avs l)] (.lst 0 (ints (varsL l))) := by
  refine fun H => ok29.calls (by simp [fi29]) ?_
  simp only [fi29, ir29]
  simp (contextual := true) (maxSteps := 1000000) only [stepsS, stepsT, stepsN, if_true, forall_const, ne_eq, implies_true, List.nil_append, List.append_nil, List.cons_append, List.length_cons, List.length_nil, Nat.reduceEqDiff, Nat.reduceAdd, Nat.reduceLT, Nat.reduceLeDiff, ↓reduceIte, reduceCtorEq, Int.reduceEq, Int.reduceLT]
  refine scall_pure (c16 l) ?_
  cases hb : treesB l with
  | false =>
    simp (contextual := true) (maxSteps := 1000000) only [stepsS, stepsT, stepsN, if_true, forall_const, ne_eq, implies_true, List.nil_append, List.append_nil, List.cons_append, List.length_cons, List.length_nil, Nat.reduceEqDiff, Nat.reduceAdd, Nat.reduceLT, Nat.reduceLeDiff, ↓reduceIte, reduceCtorEq, Int.reduceEq, Int.reduceLT]
    exact ret0 rfl (by simp [varsL, hb, ints])
  | true =>
    simp (contextual := true) (maxSteps := 1000000) only [stepsS, stepsT, stepsN, if_true, forall_const, ne_eq, implies_true, List.nil_append, List.append_nil, List.cons_append, List.length_cons, List.length_nil, Nat.reduceEqDiff, Nat.reduceAdd, Nat.reduceLT, Nat.reduceLeDiff, ↓reduceIte, reduceCtorEq, Int.reduceEq, Int.reduceLT]
    refine swp_loop_st l.length (fun i (s : List Int) => (s.length : Int) + szs (l.drop i) ≤ 1000000 ∧ rvs (l.drop i) s = varsL l)
      (fun i s => [(0, .lst 0 (avs l)), (3, .lst 1 (ints s)), (4, .int .i64 i)]) (fun i s => H) [] ⟨⟨by rw [List.drop_zero, List.length_nil]; omega, by rw [varsL, if_pos hb]; rfl⟩, sle_refl _ _ _⟩ fun i s hi hI => ?_
    obtain ⟨k1, hI⟩ := hI
    simp (contextual := true) (maxSteps := 1000000) only [stepsS, stepsT, stepsN, if_true, forall_const, ne_eq, implies_true, List.nil_append, List.append_nil, List.cons_append, List.length_cons, List.length_nil, Nat.reduceEqDiff, Nat.reduceAdd, Nat.reduceLT, Nat.reduceLeDiff, ↓reduceIte, reduceCtorEq, Int.reduceEq, Int.reduceLT]
    intro _
    refine ⟨fun hlt => ⟨len_lt hlt, ?_⟩, fun hge => ?_⟩
    · have hlt := len_lt hlt
      rw [rvs_drop hlt] at hI
      rw [szs_drop hlt] at k1
      have hp := szs_pos (l.drop (i + 1))
      refine scall_to (c73 H (l.getD i default) s (by omega)) ?_
      rintro r H' ⟨rfl, rfl⟩
      simp (contextual := true) (maxSteps := 1000000) only [stepsS, stepsT, stepsN, if_true, forall_const, ne_eq, implies_true, List.nil_append, List.append_nil, List.cons_append, List.length_cons, List.length_nil, Nat.reduceEqDiff, Nat.reduceAdd, Nat.reduceLT, Nat.reduceLeDiff, ↓reduceIte, reduceCtorEq, Int.reduceEq, Int.reduceLT]
      have := rvT_len (l.getD i default) s
      exact ⟨i + 1, _, ⟨hlt, by omega, hI⟩, by omega, sle_eq (by rw [wrap_nat i (by omega)]) rfl⟩
    · rw [List.drop_of_length_le (len_nlt hge)] at hI
      exact ret0 (by simp only [bw_lst, ints_blw]) (by rw [← hI]; rfl)
def mostL : List Int → Int → Int
  | [], m => m
  | x :: r, m => mostL r (max m x)
theorem mostL_drop {l : List Int} {i : Nat} {m : Int} (h : i < l.length) : mostL (l.drop i) m = mostL (l.drop (i + 1)) (max m (l.getD i 0)) := by
  rw [List.drop_eq_getElem_cons h]
  simp [mostL, h]
theorem c52 (l : List Int) (o : Nat) : Pure Try.prog 52 [.lst o (ints l)] (.int .i64 (mostL l (-1))) := by
  refine fun H => ok52.calls (by simp [fi52]) ?_
  simp only [fi52, ir52]
  simp (contextual := true) (maxSteps := 1000000) only [stepsS, stepsT, stepsN, if_true, forall_const, ne_eq, implies_true, List.nil_append, List.append_nil, List.cons_append, List.length_cons, List.length_nil, Nat.reduceEqDiff, Nat.reduceAdd, Nat.reduceLT, Nat.reduceLeDiff, ↓reduceIte, reduceCtorEq, Int.reduceEq, Int.reduceLT]
  refine swp_loop_st l.length (fun i (s : Int) => mostL (l.drop i) s = mostL l (-1))
      (fun i s => [(0, .lst o (ints l)), (3, .int .i64 s), (4, .int .i64 i)]) (fun i s => H) (-1) ⟨rfl, sle_refl _ _ _⟩ fun i s hi hI => ?_
  simp (contextual := true) (maxSteps := 1000000) only [stepsS, stepsT, stepsN, if_true, forall_const, ne_eq, implies_true, List.nil_append, List.append_nil, List.cons_append, List.length_cons, List.length_nil, Nat.reduceEqDiff, Nat.reduceAdd, Nat.reduceLT, Nat.reduceLeDiff, ↓reduceIte, reduceCtorEq, Int.reduceEq, Int.reduceLT]
  intro _
  refine ⟨fun hlt => ⟨len_lt hlt, ?_⟩, fun hge => ?_⟩
  · have hlt := len_lt hlt
    rw [mostL_drop hlt] at hI
    exact ⟨i + 1, _, ⟨hlt, hI⟩, by omega, sle_eq (by rw [wrap_nat i (by omega)]) rfl⟩
  · rw [List.drop_of_length_le (len_nlt hge)] at hI
    exact ret0 rfl (by rw [← hI]; rfl)
theorem c17 (l : List T) (hl : szs l ≤ 1000000) : Pure Try.prog 17 [.lst 0 (avs l)] (.int .i64 (mostL (varsL l) (-1))) := by
  refine fun H => ok17.calls (by simp [fi17]) ?_
  simp only [fi17, ir17]
  simp (contextual := true) (maxSteps := 1000000) only [stepsS, stepsT, stepsN, if_true, forall_const, ne_eq, implies_true, List.nil_append, List.append_nil, List.cons_append, List.length_cons, List.length_nil, Nat.reduceEqDiff, Nat.reduceAdd, Nat.reduceLT, Nat.reduceLeDiff, ↓reduceIte, reduceCtorEq, Int.reduceEq, Int.reduceLT]
  refine scall_pure (c29 l hl) ?_
  simp (contextual := true) (maxSteps := 1000000) only [stepsS, stepsT, stepsN, if_true, forall_const, ne_eq, implies_true, List.nil_append, List.append_nil, List.cons_append, List.length_cons, List.length_nil, Nat.reduceEqDiff, Nat.reduceAdd, Nat.reduceLT, Nat.reduceLeDiff, ↓reduceIte, reduceCtorEq, Int.reduceEq, Int.reduceLT]
  refine scall_pure (c52 _ 0) ?_
  simp (contextual := true) (maxSteps := 1000000) only [stepsS, stepsT, stepsN, if_true, forall_const, ne_eq, implies_true, List.nil_append, List.append_nil, List.cons_append, List.length_cons, List.length_nil, Nat.reduceEqDiff, Nat.reduceAdd, Nat.reduceLT, Nat.reduceLeDiff, ↓reduceIte, reduceCtorEq, Int.reduceEq, Int.reduceLT]
  exact ret0 rfl rfl
/-! ### Same -/
theorem c20 (a b : T) : Pure Try.prog 20 [a.av, b.av] (.bool (a.same b)) := by
  have ih : ∀ x ∈ a.l, ∀ y, Pure Try.prog 20 [x.av, y.av] (.bool (x.same y)) := fun x hx y => c20 x y
  have e : a.same b = (decide (a.k = b.k) && decide (a.n = b.n) && sames a.l b.l) := by
    cases a; cases b; simp only [T.same, T.k, T.n, T.l]; rfl
  refine fun H => ok20.calls (by simp [fi20]) ?_
  simp only [fi20, ir20]
  simp (contextual := true) (maxSteps := 1000000) only [stepsS, stepsT, stepsN, if_true, forall_const, ne_eq, implies_true, List.nil_append, List.append_nil, List.cons_append, List.length_cons, List.length_nil, Nat.reduceEqDiff, Nat.reduceAdd, Nat.reduceLT, Nat.reduceLeDiff, ↓reduceIte, reduceCtorEq, Int.reduceEq, Int.reduceLT]
  have fin : ∀ (H' : List AObj), H' = H → (a.k = b.k → a.n = b.n → a.l.length = b.l.length → False) → aret H.length [RX.t 4] [(4, AV.bool false)] H' fun r H' => r = AV.bool (a.same b) ∧ H' = H := by
    rintro H' rfl hh
    refine ret0 rfl ?_
    cases hs : a.same b with
    | false => rfl
    | true =>
      rw [e] at hs
      simp only [Bool.and_eq_true, decide_eq_true_eq] at hs
      exact (hh hs.1.1 hs.1.2 (sames_len hs.2)).elim
  refine ⟨fun hk => ⟨fun hn _ _ => ⟨fun hl => fin _ rfl (by omega), fun hl => ?_⟩, fun hn => fin _ rfl (by omega)⟩, fun hk => fin _ rfl (by omega)⟩
  have hl : a.l.length = b.l.length := by omega
  refine swp_loop_nat a.l.length (fun i => sames (a.l.drop i) (b.l.drop i) = a.same b) (fun i => [(2, .iptr a.av), (3, .iptr b.av), (5, .int .i64 i)]) (fun i => H) ⟨by rw [e, decide_eq_true hk, decide_eq_true hn]; rfl, sle_refl _ _ _⟩ fun i hi hI => ?_
  simp (contextual := true) (maxSteps := 1000000) only [stepsS, stepsT, stepsN, if_true, forall_const, ne_eq, implies_true, List.nil_append, List.append_nil, List.cons_append, List.length_cons, List.length_nil, Nat.reduceEqDiff, Nat.reduceAdd, Nat.reduceLT, Nat.reduceLeDiff, ↓reduceIte, reduceCtorEq, Int.reduceEq, Int.reduceLT]
  intro _
  refine ⟨fun hlt => ⟨len_lt hlt, ?_⟩, fun hge => ?_⟩
  · have hlt := len_lt hlt
    have hlt2 : i < b.l.length := by omega
    rw [sames_drop hlt hlt2] at hI
    refine ⟨hlt2, dcall_pure (ih _ (mem_getD hlt) _) ?_⟩
    simp (contextual := true) (maxSteps := 1000000) only [stepsS, stepsT, stepsN, if_true, forall_const, ne_eq, implies_true, List.nil_append, List.append_nil, List.cons_append, List.length_cons, List.length_nil, Nat.reduceEqDiff, Nat.reduceAdd, Nat.reduceLT, Nat.reduceLeDiff, ↓reduceIte, reduceCtorEq, Int.reduceEq, Int.reduceLT]
    refine scond_b (fun hb => ?_) (fun hb => ?_) <;> simp (contextual := true) (maxSteps := 1000000) only [stepsS, stepsT, stepsN, if_true, forall_const, ne_eq, implies_true, List.nil_append, List.append_nil, List.cons_append, List.length_cons, List.length_nil, Nat.reduceEqDiff, Nat.reduceAdd, Nat.reduceLT, Nat.reduceLeDiff, ↓reduceIte, reduceCtorEq, Int.reduceEq, Int.reduceLT]
    · exact ⟨i + 1, ⟨hlt, by rw [hb] at hI; simpa using hI⟩, by omega, sle_eq (by rw [wrap_nat i (by omega)]) rfl⟩
    · exact ret0 rfl (by rw [← hI, hb]; rfl)
  · have hge := len_nlt hge
    rw [List.drop_of_length_le hge, List.drop_of_length_le (by omega)] at hI
    exact ret0 rfl (by rw [← hI]; rfl)
termination_by SizeOf.sizeOf a
decreasing_by exact T.lt hx
end Go.Abs
