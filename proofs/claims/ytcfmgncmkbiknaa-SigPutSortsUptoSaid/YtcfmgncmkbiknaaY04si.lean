/- Signatures: what is brief; sorts and terms put in. -/
import Derived.Test.YtcfmgncmkbiknaaY04sh
set_option maxRecDepth 100000
set_option linter.unusedSimpArgs false
set_option linter.unusedVariables false
namespace Go.Abs
open Go Go.Proofs
def brO (l : List Opn) (n : Int) : Int := l.foldl (fun n o => IntKind.i64.wrap (n + IntKind.i64.wrap ((o.name.size : Int) + (o.args.length : Int)))) n
def brS (l : List ByteArray) (n : Int) : Int := l.foldl (fun n o => IntKind.i64.wrap (n + (o.size : Int))) n
def briefB (s : Sg) : Bool := decide (s.sorts.length ≤ 100) && decide (s.ops.length ≤ 300) && decide (brS s.sorts (brO s.ops 0) ≤ 20000)
theorem brO_drop {l : List Opn} {i : Nat} (h : i < l.length) (n : Int) : brO (l.drop i) n = brO (l.drop (i + 1)) (IntKind.i64.wrap (n + IntKind.i64.wrap (((l.getD i default).name.size : Int) + ((l.getD i default).args.length : Int)))) := by
  rw [List.drop_eq_getElem_cons h, brO, List.foldl_cons, brO]
  have e2 : l.getD i default = l[i] := by simp [h]
  rw [e2]
theorem brS_drop {l : List ByteArray} {i : Nat} (h : i < l.length) (n : Int) : brS (l.drop i) n = brS (l.drop (i + 1)) (IntKind.i64.wrap (n + ((l.getD i default).size : Int))) := by
  rw [List.drop_eq_getElem_cons h, brS, List.foldl_cons, brS]
  have e2 : l.getD i default = l[i] := by simp [h]
  rw [e2]
theorem c25 (s : Sg) : Pure Try.prog 25 [s.av] (.bool (briefB s)) := by
  refine fun H => ok25.calls (by simp [fi25]) ?_
  simp only [fi25, ir25]
  simp (contextual := true) (maxSteps := 1000000) only [stepsO, stepsS, stepsT, stepsN, if_true, forall_const, ne_eq, implies_true, List.nil_append, List.append_nil, List.cons_append, List.length_cons, List.length_nil, Nat.reduceEqDiff, Nat.reduceAdd, Nat.reduceLT, Nat.reduceLeDiff, ↓reduceIte, reduceCtorEq, Int.reduceEq, Int.reduceLT]
  intro _
  refine swp_loop_st s.ops.length (fun i (n : Int) => brO (s.ops.drop i) n = brO s.ops 0)
    (fun i n => [(1, .iptr s.av), (3, .int .i64 n), (9, .lst 0 (opas s.ops)), (10, .int .i64 s.ops.length), (11, .int .i64 i)]) (fun i n => H) 0 ⟨rfl, sle_refl _ _ _⟩ fun i n hi hI => ?_
  simp (contextual := true) (maxSteps := 1000000) only [stepsO, stepsS, stepsT, stepsN, if_true, forall_const, ne_eq, implies_true, List.nil_append, List.append_nil, List.cons_append, List.length_cons, List.length_nil, Nat.reduceEqDiff, Nat.reduceAdd, Nat.reduceLT, Nat.reduceLeDiff, ↓reduceIte, reduceCtorEq, Int.reduceEq, Int.reduceLT]
  refine ⟨fun hlt => ?_, fun hge => ?_⟩
  · have hlt := len_lt hlt
    rw [brO_drop hlt] at hI
    refine ⟨hlt, ?_⟩
    intro _
    exact ⟨i + 1, _, ⟨hlt, hI⟩, by omega, sle_eq (by rw [wrap_nat i (by omega)]) rfl⟩
  · rw [List.drop_of_length_le (len_nlt hge)] at hI
    have hI : n = brO s.ops 0 := hI
    subst hI
    simp (contextual := true) (maxSteps := 1000000) only [stepsO, stepsS, stepsT, stepsN, if_true, forall_const, ne_eq, implies_true, List.nil_append, List.append_nil, List.cons_append, List.length_cons, List.length_nil, Nat.reduceEqDiff, Nat.reduceAdd, Nat.reduceLT, Nat.reduceLeDiff, ↓reduceIte, reduceCtorEq, Int.reduceEq, Int.reduceLT]
    intro _
    refine swp_loop_st s.sorts.length (fun i (n : Int) => brS (s.sorts.drop i) n = brS s.sorts (brO s.ops 0))
      (fun i n => [(1, .iptr s.av), (3, .int .i64 n), (26, .lst 0 (strs s.sorts)), (27, .int .i64 s.sorts.length), (28, .int .i64 i)]) (fun i n => H) (brO s.ops 0) ⟨rfl, sle_refl _ _ _⟩ fun i n hi hI => ?_
    simp (contextual := true) (maxSteps := 1000000) only [stepsO, stepsS, stepsT, stepsN, if_true, forall_const, ne_eq, implies_true, List.nil_append, List.append_nil, List.cons_append, List.length_cons, List.length_nil, Nat.reduceEqDiff, Nat.reduceAdd, Nat.reduceLT, Nat.reduceLeDiff, ↓reduceIte, reduceCtorEq, Int.reduceEq, Int.reduceLT]
    refine ⟨fun hlt => ?_, fun hge => ?_⟩
    · have hlt := len_lt hlt
      rw [brS_drop hlt] at hI
      refine ⟨hlt, ?_⟩
      exact ⟨i + 1, _, ⟨hlt, hI⟩, by omega, sle_eq (by rw [wrap_nat i (by omega)]) rfl⟩
    · rw [List.drop_of_length_le (len_nlt hge)] at hI
      have hI : n = brS s.sorts (brO s.ops 0) := hI
      have eb : briefB s = (decide (s.sorts.length ≤ 100) && decide (s.ops.length ≤ 300) && decide (n ≤ 20000)) := by rw [hI]; rfl
      rw [eb]
      simp (contextual := true) (maxSteps := 1000000) only [stepsO, stepsS, stepsT, stepsN, if_true, forall_const, ne_eq, implies_true, List.nil_append, List.append_nil, List.cons_append, List.length_cons, List.length_nil, Nat.reduceEqDiff, Nat.reduceAdd, Nat.reduceLT, Nat.reduceLeDiff, ↓reduceIte, reduceCtorEq, Int.reduceEq, Int.reduceLT]
      intro _
      refine ⟨fun h1 _ => ⟨fun h2 => ?_, fun h2 => ?_⟩, fun h1 => ?_⟩
      · exact ret0 rfl (by rw [decide_eq_true (show s.sorts.length ≤ 100 by omega), decide_eq_true (show s.ops.length ≤ 300 by omega)]; simp)
      · exact ret0 rfl (by rw [decide_eq_false (show ¬ s.ops.length ≤ 300 by omega)]; simp)
      · exact ret0 rfl (by rw [decide_eq_false (show ¬ s.sorts.length ≤ 100 by omega)]; simp)
theorem shaped1 {n : Int} {l : List T} (h : (T.mk 1 n l).shaped = true) : l = [] := by
  rw [T.shaped_eq] at h
  simp only [T.k, T.n, T.l, Bool.and_eq_true, Bool.not_eq_true', Bool.or_eq_false_iff, decide_eq_false_iff_not, Bool.and_eq_false_iff] at h
  have : ¬ 0 < l.length := by
    have := h.1.1.1.2
    rcases this with h | h
    · simp at h
    · exact of_decide_eq_false h
  exact List.length_eq_zero_iff.1 (by omega)
theorem ty1 {σ : Type} (ops : List Opn) (of : Int → Int → σ → Bool × σ) (n : Int) (l : List T) (k : Int) (st : σ) : tyT ops of (.mk 1 n l) k st = of n k st := by rw [tyT, if_pos rfl]
theorem ty2 {σ : Type} (ops : List Opn) (of : Int → Int → σ → Bool × σ) {j n : Int} {l : List T} {k : Int} {st : σ} (hj : ¬ j = 1) (h : (tyT ops of (.mk j n l) k st).1 = true) :
    ¬ ((ops.length : Int) ≤ n ∨ (ops.getD n.toNat default).res ≠ k ∨ (ops.getD n.toNat default).args.length ≠ l.length) ∧ (tyTs ops of l (ops.getD n.toNat default).args st).1 = true := by
  rw [tyT, if_neg hj] at h
  split at h
  · cases h
  · rename_i h2; exact ⟨h2, h⟩
theorem ty3 {σ : Type} (ops : List Opn) (of : Int → Int → σ → Bool × σ) {j n : Int} {l : List T} {k : Int} {st : σ} (hj : ¬ j = 1) (h : ¬ ((ops.length : Int) ≤ n ∨ (ops.getD n.toNat default).res ≠ k ∨ (ops.getD n.toNat default).args.length ≠ l.length)) :
    tyT ops of (.mk j n l) k st = tyTs ops of l (ops.getD n.toNat default).args st := by rw [tyT, if_neg hj, if_neg h]
theorem ty_cons {σ : Type} {ops : List Opn} {of : Int → Int → σ → Bool × σ} {t : T} {ts : List T} {a : Int} {bs : List Int} {st : σ} (h : (tyTs ops of (t :: ts) (a :: bs) st).1 = true) :
    (tyT ops of t a st).1 = true ∧ (tyTs ops of ts bs (tyT ops of t a st).2).1 = true := by
  rw [tyTs] at h
  simp only at h
  split at h
  · rename_i h2; exact ⟨h2, h⟩
  · cases h
/-- What Infer knows so far agrees with the sorts that are given. -/
def agr (vars : List Int) {N : Nat} (st : NL N) : Prop := ∀ i, i < N → st.l.getD i 0 = -1 ∨ st.l.getD i 0 = vars.getD i 0
mutual
theorem typ_inf {ops : List Opn} {vars : List Int} {N : Nat} : ∀ (t : T) (k : Int) (st : NL N), t.shaped = true → (∀ v ∈ t.fv, v < (N : Int)) → (∀ a ∈ vars, (0 : Int) ≤ a) → (tyT ops (hasV vars) t k ()).1 = true → agr vars st →
    ∃ st', tyT ops infV t k st = (true, st') ∧ agr vars st' ∧ (∀ i, i < N → st'.l.getD i 0 = if (i : Int) ∈ t.fv then vars.getD i 0 else st.l.getD i 0) ∧ ∀ v ∈ t.fv, v < vars.length
  | .mk j n l, k, st, hs, hv, h0, ht, ha => by
    by_cases hj : j = 1
    · subst hj
      have hl := shaped1 hs
      subst hl
      have hf : (T.mk 1 n []).fv = [n] := by simp [T.fv, fvs]
      have hn0 := fv_shaped _ hs n (by rw [hf]; simp)
      have hnN := hv n (by rw [hf]; simp)
      rw [hf]
      rw [ty1] at ht
      unfold hasV at ht
      simp only [Bool.and_eq_true, decide_eq_true_eq] at ht
      rw [ty1]
      obtain ⟨m, rfl⟩ := Int.eq_ofNat_of_zero_le hn0
      rw [Int.toNat_natCast] at ht
      have hm : m < N := by omega
      have hml : m < st.l.length := by rw [st.h]; exact hm
      have hmv : m < vars.length := by omega
      have hk0 : 0 ≤ k := by
        rw [← ht.2]
        have : vars.getD m 0 = vars[m] := by simp [hmv]
        rw [this]
        exact h0 _ (List.getElem_mem hmv)
      unfold infV
      rw [Int.toNat_natCast]
      rcases ha m hm with h | h
      · rw [if_pos (by omega)]
        have hg : ∀ i, i < N → (st.put m k).l.getD i 0 = if (i : Int) ∈ [(m : Int)] then vars.getD i 0 else st.l.getD i 0 := by
          intro i hi
          have hil : i < st.l.length := by rw [st.h]; exact hi
          by_cases e : i = m
          · subst e
            rw [if_pos (by simp)]
            simp [NL.put, hil, ← ht.2]
          · rw [if_neg (by simp; omega)]
            simp [NL.put, List.getElem?_set_ne (Ne.symm e)]
        refine ⟨_, rfl, fun i hi => ?_, hg, by simp; omega⟩
        rw [hg i hi]
        split
        · exact .inr rfl
        · exact ha i hi
      · rw [h, ht.2, if_neg (by omega)]
        refine ⟨_, by rw [decide_eq_true rfl], ha, fun i hi => ?_, by simp; omega⟩
        split
        · rename_i e
          have e : i = m := by
            have : (i : Int) = (m : Int) := by simpa using e
            omega
          subst e
          exact h
        · rfl
    · have hk := ty2 _ _ hj ht
      rw [ty3 _ _ hj hk.1]
      have hf : (T.mk j n l).fv = fvs l := by simp [T.fv, hj]
      rw [hf] at hv ⊢
      refine typs_inf l _ st (fun x hx => (shaped_kids hs).2 x hx) hv h0 ?_ hk.2 ha
      have := hk.1
      omega
theorem typs_inf {ops : List Opn} {vars : List Int} {N : Nat} : ∀ (ts : List T) (ks : List Int) (st : NL N), (∀ t ∈ ts, t.shaped = true) → (∀ v ∈ fvs ts, v < (N : Int)) → (∀ a ∈ vars, (0 : Int) ≤ a) → ks.length = ts.length → (tyTs ops (hasV vars) ts ks ()).1 = true → agr vars st →
    ∃ st', tyTs ops infV ts ks st = (true, st') ∧ agr vars st' ∧ (∀ i, i < N → st'.l.getD i 0 = if (i : Int) ∈ fvs ts then vars.getD i 0 else st.l.getD i 0) ∧ ∀ v ∈ fvs ts, v < vars.length
  | [], _, st, _, _, _, _, _, ha => ⟨st, by rw [tyTs], ha, by simp [fvs], by simp [fvs]⟩
  | t :: ts, [], _, _, _, _, hl, _, _ => by simp at hl
  | t :: ts, k :: ks, st, hs, hv, h0, hl, ht, ha => by
    have hc := ty_cons ht
    obtain ⟨s1, e1, a1, g1, v1⟩ := typ_inf t k st (hs t (by simp)) (fun v h => hv v (by simp [fvs, h])) h0 hc.1 ha
    obtain ⟨s2, e2, a2, g2, v2⟩ := typs_inf ts ks s1 (fun x hx => hs x (by simp [hx])) (fun v h => hv v (by simp [fvs, h])) h0 (by simpa using hl) hc.2 a1
    refine ⟨s2, ?_, a2, fun i hi => ?_, fun v h => ?_⟩
    · rw [tyTs, e1]; simp only [if_true]; exact e2
    · rw [g2 i hi, g1 i hi]
      simp only [fvs, List.mem_append]
      by_cases h1 : (i : Int) ∈ fvs ts
      · rw [if_pos h1, if_pos (.inr h1)]
      · rw [if_neg h1]
        by_cases h2 : (i : Int) ∈ t.fv
        · rw [if_pos h2, if_pos (.inl h2)]
        · rw [if_neg h2, if_neg (by simp [h1, h2])]
    · simp only [fvs, List.mem_append] at h
      rcases h with h | h
      · exact v1 v h
      · exact v2 v h
end
mutual
theorem typ_sub {ops : List Opn} {vars : List Int} {l : List T} : ∀ (t : T) (k : Int), t.shaped = true → (tyT ops (hasV vars) t k ()).1 = true → (∀ v ∈ t.fv, (tyT ops (hasV vars) (l.getD v.toNat default) (vars.getD v.toNat 0) ()).1 = true) → (tyT ops (hasV vars) (sub l t) k ()).1 = true
  | .mk j n ts, k, hs, ht, hv => by
    by_cases hj : j = 1
    · subst hj
      have h := hv n (by simp [T.fv])
      rw [ty1] at ht
      unfold hasV at ht
      simp only [Bool.and_eq_true, decide_eq_true_eq] at ht
      rw [sub_var]
      rw [ht.2] at h
      exact h
    · have hk := ty2 _ _ hj ht
      have hf : (T.mk j n ts).fv = fvs ts := by simp [T.fv, hj]
      rw [hf] at hv
      rw [sub_mk hj, ty3 _ _ hj (by
        have e : (subs l ts).length = ts.length := by unfold subs; rw [mapTs_map, List.length_map]
        rw [e]; exact hk.1)]
      exact typs_sub ts _ (fun x hx => (shaped_kids hs).2 x hx) hk.2 hv
theorem typs_sub {ops : List Opn} {vars : List Int} {l : List T} : ∀ (ts : List T) (ks : List Int), (∀ t ∈ ts, t.shaped = true) → (tyTs ops (hasV vars) ts ks ()).1 = true → (∀ v ∈ fvs ts, (tyT ops (hasV vars) (l.getD v.toNat default) (vars.getD v.toNat 0) ()).1 = true) → (tyTs ops (hasV vars) (subs l ts) ks ()).1 = true
  | [], _, _, _, _ => by unfold subs; rw [mapTs, tyTs]
  | t :: ts, [], _, h, _ => by rw [tyTs] at h; cases h
  | t :: ts, k :: ks, hs, ht, hv => by
    have hc := ty_cons ht
    have h1 := typ_sub t k (hs t (by simp)) hc.1 (fun v h => hv v (by simp [fvs, h]))
    have h2 := typs_sub ts ks (fun x hx => hs x (by simp [hx])) hc.2 (fun v h => hv v (by simp [fvs, h]))
    show (tyTs ops (hasV vars) (sub l t :: subs l ts) (k :: ks) ()).1 = true
    rw [tyTs]
    simp only [h1, if_true]
    exact h2
end
end Go.Abs
