/- Part 10 of 11 of the proof. -/
import Derived.Test.YtcfmgncmkbiknaaGreatPai
import Derived.Test.YtcfmgncmkbiknaaGreatProg
import Derived.KernelRfl
import Derived.Test.YtcfmgncmkbiknaaGreatPae
import Derived.Test.YtcfmgncmkbiknaaGreatPah
section
/- The document's answers: Normal, Paths. -/
set_option maxRecDepth 100000
set_option linter.unusedSimpArgs false
set_option linter.unusedVariables false
namespace Go.Abs
open Go Go.Proofs
theorem pos_drop {l : List Int} {i : Nat} (h : i < l.length) (n : Int) : pos i (l.drop i) n = if n = l.getD i 0 then (i : Int) else pos ((i : Int) + 1) (l.drop (i + 1)) n := by
  rw [List.drop_eq_getElem_cons h, pos]
  simp [h]
theorem c119 (l : List Int) (n : Int) (hn : n ∈ l) : Pure Tryz.prog 119 [.lst 0 (ints l), .int .i64 n] (.int .i64 (pos 0 l n)) := by
  refine fun H => ok119.calls (by simp [fi119]) ?_
  simp only [fi119, ir119]
  simp (contextual := true) (maxSteps := 1000000) only [stepsS, stepsT, stepsN, if_true, forall_const, ne_eq, implies_true, List.nil_append, List.append_nil, List.cons_append, List.length_cons, List.length_nil, Nat.reduceEqDiff, Nat.reduceAdd, Nat.reduceLT, Nat.reduceLeDiff, ↓reduceIte, reduceCtorEq, Int.reduceEq, Int.reduceLT]
  refine swp_loop_nat l.length (fun i => pos i (l.drop i) n = pos 0 l n ∧ n ∈ l.drop i) (fun i => [(0, .lst 0 (ints l)), (1, .int .i64 n), (5, .int .i64 i)]) (fun _ => H) ⟨⟨rfl, by simpa using hn⟩, sle_refl _ _ _⟩ fun i hi hI => ?_
  obtain ⟨hI, hm⟩ := hI
  simp (contextual := true) (maxSteps := 1000000) only [ints_len, stepsS, stepsT, stepsN, if_true, forall_const, ne_eq, implies_true, List.nil_append, List.append_nil, List.cons_append, List.length_cons, List.length_nil, Nat.reduceEqDiff, Nat.reduceAdd, Nat.reduceLT, Nat.reduceLeDiff, ↓reduceIte, reduceCtorEq, Int.reduceEq, Int.reduceLT]
  intro _
  refine ⟨fun hlt => ?_, fun hge => ?_⟩
  · have hlt := len_lt hlt
    rw [pos_drop hlt] at hI
    refine ⟨hlt, fun he => ?_, fun he => ?_⟩
    · rw [if_pos he.symm] at hI
      exact ret0 rfl (by rw [hI])
    · rw [if_neg (fun h => he h.symm)] at hI
      refine ⟨i + 1, ⟨hlt, by rw [← hI]; rfl, ?_⟩, by omega, sle_eq (by rw [wrap_nat i (by omega)]) rfl⟩
      rw [List.drop_eq_getElem_cons hlt] at hm
      rcases List.mem_cons.1 hm with h | h
      · exact absurd (by rw [h]; simp [hlt]) he
      · exact h
  · rw [List.drop_of_length_le (len_nlt hge)] at hm
    cases hm
def rest86 : IR := ir86.tl.tl.tl
theorem ir86_eq : ir86 = .seq ir86.hd (.seq ir86.tl.hd (.seq ir86.tl.tl.hd rest86)) := rfl
def Q86 (H : List AObj) (x : T) : Exit → Env → List AObj → Prop := fun e env H' => (e = Exit.normal ∨ e = Exit.ret) ∧ aret H.length [RX.c 4 (some 3)] env H' fun r H' => r = x.av ∧ H' = H
theorem rest86_ok {H : List AObj} {env : Env} {t : T} {vs : List Int} {n' : Int} (ht : t.shaped = true) (ih : ∀ y ∈ t.l, Pure Tryz.prog 86 [y.av, .lst 0 (ints vs)] (posT vs y).av)
    (h1 : get env 1 = .lst 0 (ints vs)) (h2 : get env 2 = .iptr t.av) (h4 : get env 4 = .ptr H.length 0) (h5 : get env 5 = .ptr (H.length + 1) 0) :
    swp Tryz.prog H.length rest86 env (H ++ [.cells [.int .i64 0, .int .i64 0, .nils], .cells [.int .i64 t.k, .int .i64 n', .nils]]) (Q86 H (.mk t.k n' (mapTs (fun n => .mk 1 (pos 0 vs n) []) t.l))) := by
  have hl8 := (shaped_kids ht).1
  unfold Q86
  simp only [rest86, IR.tl, ir86]
  simp (contextual := true) (maxSteps := 1000000) only [h1, h2, h4, h5, stepsS, stepsT, stepsN, if_true, forall_const, ne_eq, implies_true, List.nil_append, List.append_nil, List.cons_append, List.length_cons, List.length_nil, Nat.reduceEqDiff, Nat.reduceAdd, Nat.reduceLT, Nat.reduceLeDiff, ↓reduceIte, reduceCtorEq, Int.reduceEq, Int.reduceLT]
  refine swp_loop_nat t.l.length (fun _ => True) (fun i => [(1, .lst 0 (ints vs)), (2, .iptr t.av), (4, .ptr H.length 0), (5, .ptr (H.length + 1) 0), (6, .int .i64 i)])
    (fun i => H ++ [.cells [.int .i64 0, .int .i64 0, .nils], .cells [.int .i64 t.k, .int .i64 n', outT (mapTs (fun n => .mk 1 (pos 0 vs n) []) (t.l.take i))]]) ⟨trivial, sle_refl _ _ _⟩ fun i hi hI => ?_
  simp (contextual := true) (maxSteps := 1000000) only [outT_one, outT_blw, outT_drop, stepsS, stepsT, stepsN, if_true, forall_const, ne_eq, implies_true, List.nil_append, List.append_nil, List.cons_append, List.length_cons, List.length_nil, Nat.reduceEqDiff, Nat.reduceAdd, Nat.reduceLT, Nat.reduceLeDiff, ↓reduceIte, reduceCtorEq, Int.reduceEq, Int.reduceLT]
  intro _
  refine ⟨fun hlt => ?_, fun hge => ?_⟩
  · have hlt := len_lt hlt
    refine ⟨hlt, dcall_pure (ih _ (mem_getD hlt)) ?_⟩
    simp (contextual := true) (maxSteps := 1000000) only [ap_outT, outT_snoc, outT_one, outT_blw, stepsS, stepsT, stepsN, if_true, forall_const, ne_eq, implies_true, List.nil_append, List.append_nil, List.cons_append, List.length_cons, List.length_nil, Nat.reduceEqDiff, Nat.reduceAdd, Nat.reduceLT, Nat.reduceLeDiff, ↓reduceIte, reduceCtorEq, Int.reduceEq, Int.reduceLT]
    have et : mapTs (fun n => .mk 1 (pos 0 vs n) []) (t.l.take (i + 1)) = mapTs (fun n => .mk 1 (pos 0 vs n) []) (t.l.take i) ++ [posT vs (t.l.getD i default)] := mapTs_take _ hlt
    refine ⟨by rw [mapTs_map]; simp; omega, i + 1, hlt, by omega, sle_eq (by rw [wrap_nat i (by omega)]) (by rw [et])⟩
  · rw [List.take_of_length_le (len_nlt hge)]
    exact ret1v (T.av_blw _ (.mk t.k n' (mapTs (fun n => .mk 1 (pos 0 vs n) []) t.l))) rfl
theorem c86 (vs : List Int) (t : T) (ht : t.shaped = true) (hv : ∀ v ∈ t.fv, v ∈ vs) : Pure Tryz.prog 86 [t.av, .lst 0 (ints vs)] (posT vs t).av := by
  have hkids := shaped_kids ht
  have ih : t.k ≠ 1 → ∀ y ∈ t.l, Pure Tryz.prog 86 [y.av, .lst 0 (ints vs)] (posT vs y).av := fun hk y hy => c86 vs y (hkids.2 y hy) (fun v hv' => by
    obtain ⟨i, hi, rfl⟩ := List.mem_iff_getElem.1 hy
    refine hv v (fvs_mem hk hi ?_)
    have : t.l.getD i default = t.l[i] := by simp [hi]
    rw [this]; exact hv')
  refine fun H => ok86.calls (by simp [fi86]) ?_
  simp only [fi86]
  rw [ir86_eq]
  simp only [IR.hd, IR.tl, ir86]
  have eR : posT vs t = .mk t.k (hdN (pos 0 vs) t) (mapTs (fun n => .mk 1 (pos 0 vs n) []) t.l) := by rw [← ren_hd _ ht]; rfl
  by_cases hk : t.k = 1
  · have hn : t.n ∈ vs := hv _ (by cases t; simp only [T.k] at hk; simp [T.fv, T.n, hk])
    have hl := shaped1' ht hk
    have hR := @rest86_ok H [(1, .lst 0 (ints vs)), (2, .iptr t.av), (4, .ptr H.length 0), (5, .ptr (H.length + 1) 0)] t vs (pos 0 vs t.n) ht (fun y hy => by rw [hl] at hy; cases hy) rfl rfl rfl rfl
    have e2 : hdN (pos 0 vs) t = pos 0 vs t.n := by rw [hdN, if_pos hk]
    rw [← e2, ← eR, e2, hk] at hR
    simp (contextual := true) (maxSteps := 1000000) only [hk, stepsS, stepsT, stepsN, if_true, forall_const, ne_eq, implies_true, List.nil_append, List.append_nil, List.cons_append, List.length_cons, List.length_nil, Nat.reduceEqDiff, Nat.reduceAdd, Nat.reduceLT, Nat.reduceLeDiff, ↓reduceIte, reduceCtorEq, Int.reduceEq, Int.reduceLT]
    refine scall_pure (c119 vs t.n hn) ?_
    simp (contextual := true) (maxSteps := 1000000) only [hk, stepsS, stepsT, stepsN, if_true, forall_const, ne_eq, implies_true, List.nil_append, List.append_nil, List.cons_append, List.length_cons, List.length_nil, Nat.reduceEqDiff, Nat.reduceAdd, Nat.reduceLT, Nat.reduceLeDiff, ↓reduceIte, reduceCtorEq, Int.reduceEq, Int.reduceLT]
    exact hR
  · have hR := @rest86_ok H [(1, .lst 0 (ints vs)), (2, .iptr t.av), (4, .ptr H.length 0), (5, .ptr (H.length + 1) 0), (14, .bool false)] t vs t.n ht (ih hk) rfl rfl rfl rfl
    have e2 : hdN (pos 0 vs) t = t.n := by rw [hdN, if_neg hk]
    rw [← e2, ← eR, e2] at hR
    simp (contextual := true) (maxSteps := 1000000) only [hk, Bool.false_eq_true, stepsS, stepsT, stepsN, if_true, forall_const, ne_eq, implies_true, List.nil_append, List.append_nil, List.cons_append, List.length_cons, List.length_nil, Nat.reduceEqDiff, Nat.reduceAdd, Nat.reduceLT, Nat.reduceLeDiff, ↓reduceIte, reduceCtorEq, Int.reduceEq, Int.reduceLT]
    exact hR
termination_by SizeOf.sizeOf t
decreasing_by exact T.lt hy
theorem c35 (l : List T) (hl : szs l ≤ 1000000) (hlen : l.length * 40 ≤ 140737488355328) : Pure Tryz.prog 35 [.lst 0 (avs l)] (.tuple [.lst 0 (avs (nrmS l).1), .lst 0 (ints (nrmS l).2.1), .int .i64 (nrmS l).2.2]) := by
  refine fun H => ok35.calls (by simp [fi35]) ?_
  simp only [fi35, ir35]
  simp (contextual := true) (maxSteps := 1000000) only [stepsS, stepsT, stepsN, if_true, forall_const, ne_eq, implies_true, List.nil_append, List.append_nil, List.cons_append, List.length_cons, List.length_nil, Nat.reduceEqDiff, Nat.reduceAdd, Nat.reduceLT, Nat.reduceLeDiff, ↓reduceIte, reduceCtorEq, Int.reduceEq, Int.reduceLT]
  refine scall_pure (c50 l) ?_
  cases hb : treesB l with
  | false =>
    simp (contextual := true) (maxSteps := 1000000) only [Bool.false_eq_true, stepsS, stepsT, stepsN, if_true, forall_const, ne_eq, implies_true, List.nil_append, List.append_nil, List.cons_append, List.length_cons, List.length_nil, Nat.reduceEqDiff, Nat.reduceAdd, Nat.reduceLT, Nat.reduceLeDiff, ↓reduceIte, reduceCtorEq, Int.reduceEq, Int.reduceLT]
    have e : nrmS l = ([], [], 4) := by rw [nrmS, if_neg (by rw [hb]; simp)]
    rw [e]
    exact ret3w (by decide) (by simp) ⟨rfl, rfl, rfl⟩ (.inr (.inr (.inr (.inl ⟨rfl, 0, rfl⟩)))) (.inr (.inr (.inr (.inl ⟨rfl, 0, rfl⟩)))) (.inl rfl) ⟨rfl, rfl⟩
  | true =>
    have e : nrmS l = (l.map (posT (walkVs l [])), walkVs l [], 0) := by rw [nrmS, if_pos hb]
    rw [e]
    simp (contextual := true) (maxSteps := 1000000) only [stepsS, stepsT, stepsN, if_true, forall_const, ne_eq, implies_true, List.nil_append, List.append_nil, List.cons_append, List.length_cons, List.length_nil, Nat.reduceEqDiff, Nat.reduceAdd, Nat.reduceLT, Nat.reduceLeDiff, ↓reduceIte, reduceCtorEq, Int.reduceEq, Int.reduceLT]
    refine scall_pure (c52 l hl) ?_
    have ev : varsL l = walkVs l [] := by rw [varsW, if_pos hb]
    rw [ev]
    have hin : ∀ y ∈ l, y.shaped = true ∧ ∀ v ∈ y.fv, v ∈ walkVs l [] := fun y hy => by
      have h1 := List.all_eq_true.1 (show l.all T.tree = true from hb) y hy
      refine ⟨((T.tree_iff y).1 h1).2.2, fun v hv => (mem_walk0 l v).2 ?_⟩
      have : ∀ (l : List T), y ∈ l → v ∈ fvs l := by
        intro l
        induction l with
        | nil => intro h; cases h
        | cons x r ih =>
          intro h
          simp only [fvs, List.mem_append]
          rcases List.mem_cons.1 h with rfl | h
          · exact .inl hv
          · exact .inr (ih h)
      exact this l hy
    generalize walkVs l [] = vs at *
    simp (contextual := true) (maxSteps := 1000000) only [stepsS, stepsT, stepsN, if_true, forall_const, ne_eq, implies_true, List.nil_append, List.append_nil, List.cons_append, List.length_cons, List.length_nil, Nat.reduceEqDiff, Nat.reduceAdd, Nat.reduceLT, Nat.reduceLeDiff, ↓reduceIte, reduceCtorEq, Int.reduceEq, Int.reduceLT]
    refine swp_loop_nat l.length (fun _ => True) (fun i => [(0, .lst 0 (avs l)), (5, .lst 0 (ints vs)), (6, .lst 3 (avs ((l.take i).map (posT vs)))), (7, .int .i64 i)]) (fun _ => H) ⟨trivial, sle_refl _ _ _⟩ fun i hi hI => ?_
    simp (contextual := true) (maxSteps := 1000000) only [stepsS, stepsT, stepsN, if_true, forall_const, ne_eq, implies_true, List.nil_append, List.append_nil, List.cons_append, List.length_cons, List.length_nil, Nat.reduceEqDiff, Nat.reduceAdd, Nat.reduceLT, Nat.reduceLeDiff, ↓reduceIte, reduceCtorEq, Int.reduceEq, Int.reduceLT]
    intro _
    refine ⟨fun hlt => ?_, fun hge => ?_⟩
    · have hlt := len_lt hlt
      obtain ⟨y1, y2⟩ := hin _ (mem_getD hlt)
      refine ⟨hlt, scall_pure (c86 vs _ y1 y2) ?_⟩
      simp (contextual := true) (maxSteps := 1000000) only [stepsS, stepsT, stepsN, if_true, forall_const, ne_eq, implies_true, List.nil_append, List.append_nil, List.cons_append, List.length_cons, List.length_nil, Nat.reduceEqDiff, Nat.reduceAdd, Nat.reduceLT, Nat.reduceLeDiff, ↓reduceIte, reduceCtorEq, Int.reduceEq, Int.reduceLT]
      refine ⟨by simp; omega, i + 1, hlt, by omega, sle_eq ?_ rfl⟩
      rw [wrap_nat i (by omega), avs_snoc, take_snoc hlt, List.map_append]
      rfl
    · rw [List.take_of_length_le (len_nlt hge)]
      simp (contextual := true) (maxSteps := 1000000) only [stepsS, stepsT, stepsN, if_true, forall_const, ne_eq, implies_true, List.nil_append, List.append_nil, List.cons_append, List.length_cons, List.length_nil, Nat.reduceEqDiff, Nat.reduceAdd, Nat.reduceLT, Nat.reduceLeDiff, ↓reduceIte, reduceCtorEq, Int.reduceEq, Int.reduceLT]
      exact ret3w (by decide) (by simp) ⟨by show AV.blw _ (.lst 0 (avs _)) = true; rw [bw_lst]; exact avs_blw _ _, by show AV.blw _ (.lst 0 (ints _)) = true; rw [bw_lst]; exact ints_blw _ _, rfl⟩ (.inl rfl) (.inl rfl) (.inl rfl) ⟨rfl, rfl⟩
/-! ### Paths -/
theorem c120 (p : List Int) (n : Int) (hp : p.length ≤ 100000) : Pure Tryz.prog 120 [.lst 0 (ints p), .int .i64 n] (.lst 0 (ints (p ++ [n]))) := by
  refine fun H => ok120.calls (by simp [fi120]) ?_
  simp only [fi120, ir120]
  simp (contextual := true) (maxSteps := 1000000) only [stepsS, stepsT, stepsN, if_true, forall_const, ne_eq, implies_true, List.nil_append, List.append_nil, List.cons_append, List.length_cons, List.length_nil, Nat.reduceEqDiff, Nat.reduceAdd, Nat.reduceLT, Nat.reduceLeDiff, ↓reduceIte, reduceCtorEq, Int.reduceEq, Int.reduceLT]
  have e0 : AV.lst 1 [] = .lst 1 (ints []) := rfl
  refine swp_loop_nat p.length (fun _ => True) (fun i => [(0, .lst 0 (ints p)), (1, .int .i64 n), (5, .lst 1 (ints (p.take i))), (6, .int .i64 i)]) (fun _ => H) ⟨trivial, sle_refl _ _ _⟩ fun i hi hI => ?_
  simp (contextual := true) (maxSteps := 1000000) only [ints_len, stepsS, stepsT, stepsN, if_true, forall_const, ne_eq, implies_true, List.nil_append, List.append_nil, List.cons_append, List.length_cons, List.length_nil, Nat.reduceEqDiff, Nat.reduceAdd, Nat.reduceLT, Nat.reduceLeDiff, ↓reduceIte, reduceCtorEq, Int.reduceEq, Int.reduceLT]
  intro _
  refine ⟨fun hlt => ?_, fun hge => ?_⟩
  · have hlt := len_lt hlt
    have et : p.take (i + 1) = p.take i ++ [p.getD i 0] := by rw [List.take_add_one]; simp [hlt]
    refine ⟨hlt, by simp; omega, i + 1, hlt, by omega, sle_eq (by rw [wrap_nat i (by omega), et]) rfl⟩
  · rw [List.take_of_length_le (len_nlt hge)]
    simp (contextual := true) (maxSteps := 1000000) only [ints_len, stepsS, stepsT, stepsN, if_true, forall_const, ne_eq, implies_true, List.nil_append, List.append_nil, List.cons_append, List.length_cons, List.length_nil, Nat.reduceEqDiff, Nat.reduceAdd, Nat.reduceLT, Nat.reduceLeDiff, ↓reduceIte, reduceCtorEq, Int.reduceEq, Int.reduceLT]
    exact ⟨by omega, ret0 (by rw [bw_lst]; exact ints_blw _ _) rfl⟩
theorem c89 (H : List AObj) : ∀ (t : T) (p : List Int) (ps : List (List Int)), t.shaped = true → (p.length : Int) + t.dp ≤ 1000 → (ps.length : Int) + t.sz ≤ 1000000 →
    ACalls Tryz.prog 89 [t.av, .lst 0 (ints p), pasC ps] H fun r H' => r = pasC (ps ++ pathsT t p) ∧ H' = H := by
  intro t p ps ht hp hps
  have ih : ∀ y ∈ t.l, ∀ (p : List Int) (ps : List (List Int)), (p.length : Int) + y.dp ≤ 1000 → (ps.length : Int) + y.sz ≤ 1000000 →
    ACalls Tryz.prog 89 [y.av, .lst 0 (ints p), pasC ps] H fun r H' => r = pasC (ps ++ pathsT y p) ∧ H' = H := fun y hy p ps h1 h2 => c89 H y p ps ((shaped_kids ht).2 y hy) h1 h2
  have hz := t.sz_pos
  have hdp := t.dp_pos
  have hlen := (shaped_kids ht).1
  refine ok89.calls (by simp [fi89]) ?_
  simp only [fi89, ir89]
  have cno : ∀ xs, canon (.lst 0 xs) = .lst 0 xs := fun xs => rfl
  simp (contextual := true) (maxSteps := 1000000) only [ap_pasC, pasC_one, pasC_blw, pasC_snoc, cno, stepsS, stepsT, stepsN, if_true, forall_const, ne_eq, implies_true, List.nil_append, List.append_nil, List.cons_append, List.length_cons, List.length_nil, Nat.reduceEqDiff, Nat.reduceAdd, Nat.reduceLT, Nat.reduceLeDiff, ↓reduceIte, reduceCtorEq, Int.reduceEq, Int.reduceLT]
  refine ⟨by omega, ?_⟩
  refine swp_loop_st t.l.length (fun i (q : List (List Int)) => q ++ pathsL (t.l.drop i) i p = ps ++ pathsT t p)
    (fun i q => [(1, .lst 0 (ints p)), (2, pasC q), (3, .iptr t.av), (7, .int .i64 i)]) (fun i q => H) (ps ++ [p]) ⟨by rw [pathsT_eq, List.drop_zero, List.append_assoc]; rfl, sle_refl _ _ _⟩ fun i q hi hI => ?_
  simp (contextual := true) (maxSteps := 1000000) only [stepsS, stepsT, stepsN, if_true, forall_const, ne_eq, implies_true, List.nil_append, List.append_nil, List.cons_append, List.length_cons, List.length_nil, Nat.reduceEqDiff, Nat.reduceAdd, Nat.reduceLT, Nat.reduceLeDiff, ↓reduceIte, reduceCtorEq, Int.reduceEq, Int.reduceLT]
  intro _
  refine ⟨fun hlt => ?_, fun hge => ?_⟩
  · have hlt := len_lt hlt
    rw [pathsL_drop hlt, ← List.append_assoc] at hI
    have hy := mem_getD hlt
    have h1 := dps_mem hy
    have h2 := t.dp_eq
    have h3 := congrArg List.length hI
    have h4 := paths_len (t.l.getD i default) (p ++ [(i : Int)])
    have h5 := paths_len t p
    have h6 := pathsL_len (t.l.drop (i + 1)) (i + 1) p
    have h7 := szs_pos (t.l.drop (i + 1))
    simp only [List.length_append] at h3
    refine dcall_pure (c120 p i (by omega)) ?_
    simp (contextual := true) (maxSteps := 1000000) only [stepsS, stepsT, stepsN, if_true, forall_const, ne_eq, implies_true, List.nil_append, List.append_nil, List.cons_append, List.length_cons, List.length_nil, Nat.reduceEqDiff, Nat.reduceAdd, Nat.reduceLT, Nat.reduceLeDiff, ↓reduceIte, reduceCtorEq, Int.reduceEq, Int.reduceLT]
    refine ⟨hlt, scall_to (ih _ hy (p ++ [(i : Int)]) q (by rw [List.length_append]; simp only [List.length_cons, List.length_nil]; omega) (by omega)) ?_⟩
    rintro r H' ⟨rfl, rfl⟩
    simp (contextual := true) (maxSteps := 1000000) only [stepsS, stepsT, stepsN, if_true, forall_const, ne_eq, implies_true, List.nil_append, List.append_nil, List.cons_append, List.length_cons, List.length_nil, Nat.reduceEqDiff, Nat.reduceAdd, Nat.reduceLT, Nat.reduceLeDiff, ↓reduceIte, reduceCtorEq, Int.reduceEq, Int.reduceLT]
    exact ⟨i + 1, q ++ pathsT (t.l.getD i default) (p ++ [(i : Int)]), ⟨hlt, hI⟩, by omega, sle_eq (by rw [wrap_nat i (by omega)]) rfl⟩
  · rw [List.drop_of_length_le (len_nlt hge), pathsL, List.append_nil] at hI
    subst hI
    simp (contextual := true) (maxSteps := 1000000) only [stepsS, stepsT, stepsN, if_true, forall_const, ne_eq, implies_true, List.nil_append, List.append_nil, List.cons_append, List.length_cons, List.length_nil, Nat.reduceEqDiff, Nat.reduceAdd, Nat.reduceLT, Nat.reduceLeDiff, ↓reduceIte, reduceCtorEq, Int.reduceEq, Int.reduceLT]
    exact ret0 (pasC_blw _ _) rfl
termination_by t => SizeOf.sizeOf t
decreasing_by exact T.lt hy
theorem c37 (t : T) : Pure Tryz.prog 37 [t.av] (.tuple [pathsV t, .int .i64 (if t.tree = true then 0 else 4)]) := by
  refine fun H => ok37.calls (by simp [fi37]) ?_
  simp only [fi37, ir37]
  unfold pathsV
  simp (contextual := true) (maxSteps := 1000000) only [stepsS, stepsT, stepsN, if_true, forall_const, ne_eq, implies_true, List.nil_append, List.append_nil, List.cons_append, List.length_cons, List.length_nil, Nat.reduceEqDiff, Nat.reduceAdd, Nat.reduceLT, Nat.reduceLeDiff, ↓reduceIte, reduceCtorEq, Int.reduceEq, Int.reduceLT]
  refine scall_pure (c49' t) ?_
  cases ht : t.tree with
  | false =>
    simp (contextual := true) (maxSteps := 1000000) only [Bool.false_eq_true, stepsS, stepsT, stepsN, if_true, forall_const, ne_eq, implies_true, List.nil_append, List.append_nil, List.cons_append, List.length_cons, List.length_nil, Nat.reduceEqDiff, Nat.reduceAdd, Nat.reduceLT, Nat.reduceLeDiff, ↓reduceIte, reduceCtorEq, Int.reduceEq, Int.reduceLT]
    exact ret20 (by decide) rfl rfl rfl rfl
  | true =>
    have hti := (T.tree_iff t).1 ht
    have hc := c89 H t [] [] hti.2.2 (by simp; omega) (by simp; omega)
    have e1 : pasC (pathsT t []) = .lst 1 (pas (pathsT t [])) := by rw [pathsT_eq]; rfl
    rw [List.nil_append, e1] at hc
    simp (contextual := true) (maxSteps := 1000000) only [stepsS, stepsT, stepsN, if_true, forall_const, ne_eq, implies_true, List.nil_append, List.append_nil, List.cons_append, List.length_cons, List.length_nil, Nat.reduceEqDiff, Nat.reduceAdd, Nat.reduceLT, Nat.reduceLeDiff, ↓reduceIte, reduceCtorEq, Int.reduceEq, Int.reduceLT]
    refine scall_to hc ?_
    rintro r H' ⟨rfl, rfl⟩
    simp (contextual := true) (maxSteps := 1000000) only [stepsS, stepsT, stepsN, if_true, forall_const, ne_eq, implies_true, List.nil_append, List.append_nil, List.cons_append, List.length_cons, List.length_nil, Nat.reduceEqDiff, Nat.reduceAdd, Nat.reduceLT, Nat.reduceLeDiff, ↓reduceIte, reduceCtorEq, Int.reduceEq, Int.reduceLT]
    exact ret20 (by decide) (by show AV.blw _ (.lst 0 (pas _)) = true; rw [bw_lst]; exact pas_blw _ _) rfl rfl rfl
end Go.Abs
end
section
/- A law's code, as the memory-free layer reads it. -/
set_option maxRecDepth 100000
namespace Go.Abs
open Go Go.Proofs
/-- madrigal/madrigallaw04.SigPlaces -/
def ir5 : IR := (.seq (.region [⟨none,some 5,(.boxi (.t 0))⟩,⟨none,some 6,(.boxi (.t 1))⟩,⟨none,some 10,(.set (.c (.bool false)) false)⟩] (.some [2,3,4,5,6])) (.seq (.seq (.region [⟨none,some 34,(.call (.c (.fn (.func 6) [] [])) [] .none)⟩,⟨none,some 35,(.un .not (.t 34))⟩] (.some [2,3,4,5,6,35])) (.cond (.t 35) (.seq (.region [⟨none,some 10,(.set (.c (.bool false)) false)⟩] (.some [10])) .ret) .skip)) (.seq (.seq (.region [⟨none,some 36,(.load (.some 3) (.t 5))⟩,⟨none,some 37,(.load (.some 3) (.t 6))⟩,⟨none,some 38,(.buildSlice 0 3 (.agg [(.int .i64 0),(.int .i64 0),.nils]) 2 [(0,(.t 36)),(1,(.t 37))])⟩,⟨none,some 39,(.call (.c (.fn (.func 7) [] [])) [(.t 38)] .none)⟩,⟨none,some 40,(.un .not (.t 39))⟩,⟨none,some 41,(.set (.t 40) false)⟩,⟨some (41,false),some 42,(.set (.t 2) false)⟩,⟨some (41,false),some 43,(.len 1 (.t 42))⟩,⟨some (41,false),some 44,(.bin .gtr (.t 43) (.c (.int .i64 1000)))⟩,⟨none,some 45,(.pick (.t 41) (.c (.bool true)) (.t 44))⟩] (.some [2,3,4,5,6,45])) (.cond (.t 45) (.seq (.region [⟨none,some 10,(.set (.c (.bool true)) false)⟩] (.some [10])) .ret) .skip)) (.seq (.region [⟨none,some 47,(.load (.some 3) (.t 5))⟩,⟨none,some 48,(.set (.t 2) false)⟩,⟨none,some 49,(.call (.c (.fn (.func 28) [] [])) [(.t 47),(.t 48)] .none)⟩,⟨none,some 46,(.set (.t 49) false)⟩,⟨none,some 50,(.extract (.t 46) 0)⟩,⟨none,some 51,(.extract (.t 46) 1)⟩,⟨none,some 11,(.boxs 3 (.t 50))⟩,⟨none,some 12,(.set (.t 51) false)⟩] (.some [2,3,4,5,6,11,12])) (.seq (.region [⟨none,some 53,(.load (.some 3) (.t 5))⟩,⟨none,some 54,(.set (.t 2) false)⟩,⟨none,some 55,(.call (.c (.fn (.func 29) [] [])) [(.t 53),(.t 54)] .none)⟩,⟨none,some 52,(.set (.t 55) false)⟩,⟨none,some 56,(.extract (.t 52) 0)⟩,⟨none,some 57,(.extract (.t 52) 1)⟩,⟨none,some 13,(.boxs 3 (.t 56))⟩,⟨none,some 14,(.set (.t 57) false)⟩] (.some [2,3,4,5,6,11,12,13,14])) (.seq (.region [⟨none,some 59,(.load (.some 3) (.t 5))⟩,⟨none,some 60,(.set (.t 2) false)⟩,⟨none,some 61,(.load (.some 3) (.t 6))⟩,⟨none,some 62,(.call (.c (.fn (.func 30) [] [])) [(.t 59),(.t 60),(.t 61)] .none)⟩,⟨none,some 58,(.set (.t 62) false)⟩,⟨none,some 63,(.extract (.t 58) 0)⟩,⟨none,some 64,(.extract (.t 58) 1)⟩,⟨none,some 15,(.boxs 3 (.t 63))⟩,⟨none,some 16,(.set (.t 64) false)⟩] (.some [2,3,4,5,6,11,12,13,14,15,16])) (.seq (.region [⟨none,some 66,(.load (.some 3) (.t 5))⟩,⟨none,some 67,(.set (.t 2) false)⟩,⟨none,some 68,(.load (.some 3) (.t 6))⟩,⟨none,some 69,(.call (.c (.fn (.func 31) [] [])) [(.t 66),(.t 67),(.t 68)] .none)⟩,⟨none,some 65,(.set (.t 69) false)⟩,⟨none,some 70,(.extract (.t 65) 0)⟩,⟨none,some 71,(.extract (.t 65) 1)⟩,⟨none,some 17,(.boxs 3 (.t 70))⟩,⟨none,some 18,(.set (.t 71) false)⟩] (.some [3,4,5,6,11,12,13,14,15,16,17,18])) (.seq (.region [⟨none,some 73,(.load (.some 3) (.t 5))⟩,⟨none,some 74,(.set (.t 3) false)⟩,⟨none,some 75,(.set (.t 4) false)⟩,⟨none,some 76,(.call (.c (.fn (.func 32) [] [])) [(.t 73),(.t 74),(.t 75)] .none)⟩,⟨none,some 72,(.set (.t 76) false)⟩,⟨none,some 77,(.extract (.t 72) 0)⟩,⟨none,some 78,(.extract (.t 72) 1)⟩,⟨none,some 19,(.boxs 3 (.t 77))⟩,⟨none,some 20,(.set (.t 78) false)⟩] (.some [3,4,5,6,11,12,13,14,15,16,17,18,19,20])) (.seq (.region [⟨none,some 80,(.load (.some 3) (.t 5))⟩,⟨none,some 81,(.set (.t 3) false)⟩,⟨none,some 82,(.set (.t 4) false)⟩,⟨none,some 83,(.call (.c (.fn (.func 33) [] [])) [(.t 80),(.t 81),(.t 82)] .none)⟩,⟨none,some 79,(.set (.t 83) false)⟩,⟨none,some 84,(.extract (.t 79) 0)⟩,⟨none,some 85,(.extract (.t 79) 1)⟩,⟨none,some 21,(.boxs 3 (.t 84))⟩,⟨none,some 22,(.set (.t 85) false)⟩] (.some [5,6,11,12,13,14,15,16,17,18,19,20,21,22])) (.seq (.seq (.region [⟨none,some 86,(.load (.some 3) (.t 11))⟩,⟨none,some 87,(.load (.some 3) (.t 13))⟩,⟨none,some 88,(.call (.c (.fn (.func 14) [] [])) [(.t 86),(.t 87)] .none)⟩,⟨none,some 89,(.un .not (.t 88))⟩,⟨none,some 90,(.set (.t 89) false)⟩,⟨some (90,false),some 91,(.set (.t 12) false)⟩,⟨some (90,false),some 92,(.set (.t 14) false)⟩,⟨some (90,false),some 93,(.bin .neq (.t 91) (.t 92))⟩,⟨none,some 94,(.pick (.t 90) (.c (.bool true)) (.t 93))⟩,⟨none,some 95,(.set (.t 94) false)⟩,⟨some (95,false),some 96,(.load (.some 3) (.t 15))⟩,⟨some (95,false),some 97,(.load (.some 3) (.t 17))⟩,⟨some (95,false),some 98,(.call (.c (.fn (.func 14) [] [])) [(.t 96),(.t 97)] .none)⟩,⟨some (95,false),some 99,(.un .not (.t 98))⟩,⟨none,some 100,(.pick (.t 95) (.c (.bool true)) (.t 99))⟩,⟨none,some 101,(.set (.t 100) false)⟩,⟨some (101,false),some 102,(.set (.t 16) false)⟩,⟨some (101,false),some 103,(.set (.t 18) false)⟩,⟨some (101,false),some 104,(.bin .neq (.t 102) (.t 103))⟩,⟨none,some 105,(.pick (.t 101) (.c (.bool true)) (.t 104))⟩,⟨none,some 106,(.set (.t 105) false)⟩,⟨some (106,false),some 107,(.load (.some 3) (.t 19))⟩,⟨some (106,false),some 108,(.load (.some 3) (.t 21))⟩,⟨some (106,false),some 109,(.call (.c (.fn (.func 14) [] [])) [(.t 107),(.t 108)] .none)⟩,⟨some (106,false),some 110,(.un .not (.t 109))⟩,⟨none,some 111,(.pick (.t 106) (.c (.bool true)) (.t 110))⟩,⟨none,some 112,(.set (.t 111) false)⟩,⟨some (112,false),some 113,(.set (.t 20) false)⟩,⟨some (112,false),some 114,(.set (.t 22) false)⟩,⟨some (112,false),some 115,(.bin .neq (.t 113) (.t 114))⟩,⟨none,some 116,(.pick (.t 112) (.c (.bool true)) (.t 115))⟩] (.some [5,6,116])) (.cond (.t 116) (.seq (.region [⟨none,some 10,(.set (.c (.bool false)) false)⟩] (.some [10])) .ret) .skip)) (.seq (.region [⟨none,some 118,(.load (.some 3) (.t 5))⟩,⟨none,some 119,(.load (.some 3) (.t 6))⟩,⟨none,some 120,(.buildSlice 0 3 (.agg [(.int .i64 0),(.int .i64 0),.nils]) 2 [(0,(.t 118)),(1,(.t 119))])⟩,⟨none,some 121,(.call (.c (.fn (.func 34) [] [])) [(.t 120)] .none)⟩,⟨none,some 117,(.set (.t 121) false)⟩,⟨none,some 122,(.extract (.t 117) 0)⟩,⟨none,some 123,(.extract (.t 117) 1)⟩,⟨none,some 124,(.extract (.t 117) 2)⟩,⟨none,some 23,(.set (.t 122) false)⟩,⟨none,some 24,(.set (.t 123) false)⟩,⟨none,some 25,(.set (.t 124) false)⟩] (.some [5,6,23,24,25])) (.seq (.region [⟨none,some 126,(.load (.some 3) (.t 5))⟩,⟨none,some 127,(.load (.some 3) (.t 6))⟩,⟨none,some 128,(.buildSlice 0 3 (.agg [(.int .i64 0),(.int .i64 0),.nils]) 2 [(0,(.t 126)),(1,(.t 127))])⟩,⟨none,some 129,(.call (.c (.fn (.func 35) [] [])) [(.t 128)] .none)⟩,⟨none,some 125,(.set (.t 129) false)⟩,⟨none,some 130,(.extract (.t 125) 0)⟩,⟨none,some 131,(.extract (.t 125) 1)⟩,⟨none,some 132,(.extract (.t 125) 2)⟩,⟨none,some 26,(.set (.t 130) false)⟩,⟨none,some 27,(.set (.t 131) false)⟩,⟨none,some 28,(.set (.t 132) false)⟩] (.some [5,23,24,25,26,27,28])) (.seq (.region [⟨none,some 134,(.load (.some 3) (.t 5))⟩,⟨none,some 135,(.call (.c (.fn (.func 36) [] [])) [(.t 134)] .none)⟩,⟨none,some 133,(.set (.t 135) false)⟩,⟨none,some 136,(.extract (.t 133) 0)⟩,⟨none,some 137,(.extract (.t 133) 1)⟩,⟨none,some 29,(.set (.t 136) false)⟩,⟨none,some 30,(.set (.t 137) false)⟩] (.some [5,23,24,25,26,27,28,29,30])) (.seq (.region [⟨none,some 139,(.load (.some 3) (.t 5))⟩,⟨none,some 140,(.call (.c (.fn (.func 37) [] [])) [(.t 139)] .none)⟩,⟨none,some 138,(.set (.t 140) false)⟩,⟨none,some 141,(.extract (.t 138) 0)⟩,⟨none,some 142,(.extract (.t 138) 1)⟩,⟨none,some 31,(.set (.t 141) false)⟩,⟨none,some 32,(.set (.t 142) false)⟩] (.some [23,24,25,26,27,28,29,30,31,32])) (.seq (.seq (.region [⟨none,some 143,(.set (.t 23) false)⟩,⟨none,some 144,(.set (.t 26) false)⟩,⟨none,some 145,(.call (.c (.fn (.func 15) [] [])) [(.t 143),(.t 144)] .none)⟩,⟨none,some 146,(.un .not (.t 145))⟩,⟨none,some 147,(.set (.t 146) false)⟩,⟨some (147,false),some 148,(.set (.t 24) false)⟩,⟨some (147,false),some 149,(.set (.t 27) false)⟩,⟨some (147,false),some 150,(.call (.c (.fn (.func 19) [] [])) [(.t 148),(.t 149)] .none)⟩,⟨some (147,false),some 151,(.un .not (.t 150))⟩,⟨none,some 152,(.pick (.t 147) (.c (.bool true)) (.t 151))⟩,⟨none,some 153,(.set (.t 152) false)⟩,⟨some (153,false),some 154,(.set (.t 25) false)⟩,⟨some (153,false),some 155,(.set (.t 28) false)⟩,⟨some (153,false),some 156,(.bin .neq (.t 154) (.t 155))⟩,⟨none,some 157,(.pick (.t 153) (.c (.bool true)) (.t 156))⟩,⟨none,some 158,(.set (.t 157) false)⟩,⟨some (158,false),some 159,(.set (.t 30) false)⟩,⟨some (158,false),some 160,(.set (.t 32) false)⟩,⟨some (158,false),some 161,(.bin .neq (.t 159) (.t 160))⟩,⟨none,some 162,(.pick (.t 158) (.c (.bool true)) (.t 161))⟩,⟨none,some 163,(.set (.t 162) false)⟩,⟨some (163,false),some 164,(.set (.t 29) false)⟩,⟨some (163,false),some 165,(.len 1 (.t 164))⟩,⟨some (163,false),some 166,(.set (.t 31) false)⟩,⟨some (163,false),some 167,(.len 1 (.t 166))⟩,⟨some (163,false),some 168,(.bin .neq (.t 165) (.t 167))⟩,⟨none,some 169,(.pick (.t 163) (.c (.bool true)) (.t 168))⟩] (.some [29,31,169])) (.cond (.t 169) (.seq (.region [⟨none,some 10,(.set (.c (.bool false)) false)⟩] (.some [10])) .ret) .skip)) (.seq (.seq (.region [⟨none,some 170,(.set (.t 29) false)⟩,⟨none,some 171,(.len 1 (.t 170))⟩,⟨none,some 172,(.set (.c (.int .i64 0)) false)⟩] (.some [29,31,171,172])) (.block 0 (.loop (.seq (.region [⟨none,some 173,(.bin .lss (.t 172) (.t 171))⟩] (.some [29,31,171,172,173])) (.seq (.cond (.t 173) .skip (.exit 0)) (.seq (.block 1 (.seq (.region [⟨none,some 174,(.set (.t 172) false)⟩,⟨none,some 33,(.set (.t 174) false)⟩] (.some [29,31,33,171,172])) (.seq (.draw (.take .true ⟨none,some 175,(.set (.t 29) false)⟩ (.take .true ⟨none,some 176,(.set (.t 33) false)⟩ (.take .true ⟨none,some 177,(.indexAddr 1 (.t 175) (.t 176))⟩ (.take .true ⟨none,some 178,(.load .none (.t 177))⟩ (.take .true ⟨none,some 179,(.set (.t 31) false)⟩ (.take .true ⟨none,some 180,(.set (.t 33) false)⟩ (.take .true ⟨none,some 181,(.indexAddr 1 (.t 179) (.t 180))⟩ (.take .true ⟨none,some 182,(.load .none (.t 181))⟩ (.take .true ⟨none,some 183,(.call (.c (.fn (.func 19) [] [])) [(.t 178),(.t 182)] .none)⟩ (.take .true ⟨none,some 184,(.un .not (.t 183))⟩ .done)))))))))) (.some [29,31,171,172,184])) (.cond (.t 184) (.seq (.region [⟨none,some 10,(.set (.c (.bool false)) false)⟩] (.some [10])) .ret) .skip)))) (.region [⟨none,some 185,(.bin .add (.t 172) (.c (.int .i64 1)))⟩,⟨none,some 172,(.set (.t 185) false)⟩] (.some [29,31,171,172])))))))) (.seq (.region [⟨none,some 10,(.set (.c (.bool true)) false)⟩] (.some [10])) .ret)))))))))))))))))
def fi5 : FunI := ⟨186,ir5,[(.t 10)]⟩
theorem ok5 : FunOk Tryz.prog 5 fi5 := ⟨Tryz.call5,Tryz.f5,_,[(0,0,1),(0,1,1),(5,6,1000),(6,6,1000),(7,7,1000),(8,7,1000),(9,7,1000),(10,7,1000)],[(0,[2,3,4,5,6]),(1,[2,3,4,5,6,35]),(2,[10]),(3,[2,3,4,5,6,45]),(4,[10]),(5,[2,3,4,5,6,11,12]),(6,[2,3,4,5,6,11,12,13,14]),(7,[2,3,4,5,6,11,12,13,14,15,16]),(8,[3,4,5,6,11,12,13,14,15,16,17,18]),(9,[3,4,5,6,11,12,13,14,15,16,17,18,19,20]),(10,[5,6,11,12,13,14,15,16,17,18,19,20,21,22]),(11,[5,6,116]),(12,[10]),(13,[5,6,23,24,25]),(14,[5,23,24,25,26,27,28]),(15,[5,23,24,25,26,27,28,29,30]),(16,[23,24,25,26,27,28,29,30,31,32]),(17,[29,31,169]),(18,[10]),(19,[29,31,171,172]),(20,[29,31,171,172,173]),(21,[29,31,33,171,172]),(22,[29,31,171,172,184]),(23,[10]),(24,[29,31,171,172]),(25,[10])],[(22,(.take 0 true (.take 1 true (.take 2 true (.take 3 true (.take 4 true (.take 5 true (.take 6 true (.take 7 true (.take 8 true (.take 9 true .done)))))))))))],Tryz.func5,rfl,Tryz.ntmps5,by kernel_rfl,by kernel_rfl⟩
end Go.Abs
end
section
/- SigPlaces' walk. -/
set_option maxRecDepth 100000
set_option linter.unusedSimpArgs false
set_option linter.unusedVariables false
set_option maxHeartbeats 1000000
namespace Go.Abs
open Go Go.Proofs
theorem pas_len (l : List (List Int)) : (pas l).length = l.length := by simp [pas]
theorem lens_pas (o : Nat) (l : List (List Int)) : (∀ (own : Nat) (xs : List AV), AV.lst o (pas l) = AV.lst own xs → ∀ z ∈ xs, z.cells.length = 1) = True := by
  simp only [eq_iff_iff, iff_true]
  intro own xs e z hz
  cases e
  obtain ⟨y, _, rfl⟩ := List.mem_map.1 hz
  rfl
theorem idx_pas (e o : Nat) (l : List (List Int)) (k : IntKind) (i : Nat) (φ : AV → Prop) : aindexAddr e (.lst o (pas l)) (.int k (i : Int)) φ = (i < l.length ∧ φ (.iptr (.lst 0 (ints (l.getD i []))))) := by
  simp only [aindexAddr, pas_len, Int.toNat_natCast, eq_iff_iff]
  constructor
  · rintro ⟨_, h, h2⟩; refine ⟨h, ?_⟩; simpa [pas, h] using h2
  · rintro ⟨h, h2⟩; refine ⟨by omega, h, ?_⟩; simpa [pas, h] using h2
theorem sames_self : ∀ l : List T, sames l l = true
  | [] => rfl
  | x :: r => by simp only [sames, (T.same_iff x x).2 rfl, sames_self r, Bool.and_self]
theorem c5 (t u : T) (p : List Int) (a b : Int) (hw : t.wf) (ha : -9223372036854775808 ≤ a ∧ a ≤ 9223372036854775807) (hb : -9223372036854775808 ≤ b ∧ b ≤ 9223372036854775807) :
    Pure Tryz.prog 5 [t.av, u.av, .lst 0 (ints p), .int .i64 a, .int .i64 b] (.bool true) := by
  have hv := fv_wf t hw
  have hs : ∀ x : T, x.same x = true := fun x => (T.same_iff x x).2 rfl
  refine fun H => ok5.calls (by simp [fi5]) ?_
  simp only [fi5, ir5]
  simp (contextual := true) (maxSteps := 1000000) only [stepsS, stepsT, stepsN, if_true, forall_const, ne_eq, implies_true, List.nil_append, List.append_nil, List.cons_append, List.length_cons, List.length_nil, Nat.reduceEqDiff, Nat.reduceAdd, Nat.reduceLT, Nat.reduceLeDiff, ↓reduceIte, reduceCtorEq, Int.reduceEq, Int.reduceLT]
  refine scall_pure c6 ?_
  simp (contextual := true) (maxSteps := 1000000) only [stepsS, stepsT, stepsN, if_true, forall_const, ne_eq, implies_true, List.nil_append, List.append_nil, List.cons_append, List.length_cons, List.length_nil, Nat.reduceEqDiff, Nat.reduceAdd, Nat.reduceLT, Nat.reduceLeDiff, ↓reduceIte, reduceCtorEq, Int.reduceEq, Int.reduceLT]
  refine scall_pure (c7 [t, u]) ?_
  cases hf : fewL [t, u] with
  | false =>
    simp (contextual := true) (maxSteps := 1000000) only [Bool.false_eq_true, stepsS, stepsT, stepsN, if_true, forall_const, ne_eq, implies_true, List.nil_append, List.append_nil, List.cons_append, List.length_cons, List.length_nil, Nat.reduceEqDiff, Nat.reduceAdd, Nat.reduceLT, Nat.reduceLeDiff, ↓reduceIte, reduceCtorEq, Int.reduceEq, Int.reduceLT]
    exact ret0 rfl rfl
  | true =>
    have hsz := few_sz hf
    simp (contextual := true) (maxSteps := 1000000) only [ints_len, stepsS, stepsT, stepsN, if_true, forall_const, ne_eq, implies_true, List.nil_append, List.append_nil, List.cons_append, List.length_cons, List.length_nil, Nat.reduceEqDiff, Nat.reduceAdd, Nat.reduceLT, Nat.reduceLeDiff, ↓reduceIte, reduceCtorEq, Int.reduceEq, Int.reduceLT]
    refine fun _ => ⟨fun _ => ret0 rfl rfl, fun _ => ?_⟩
    refine scall_pure (c28 t p) ?_
    simp (contextual := true) (maxSteps := 1000000) only [stepsS, stepsT, stepsN, if_true, forall_const, ne_eq, implies_true, List.nil_append, List.append_nil, List.cons_append, List.length_cons, List.length_nil, Nat.reduceEqDiff, Nat.reduceAdd, Nat.reduceLT, Nat.reduceLeDiff, ↓reduceIte, reduceCtorEq, Int.reduceEq, Int.reduceLT]
    refine scall_pure (c29 t p) ?_
    simp (contextual := true) (maxSteps := 1000000) only [stepsS, stepsT, stepsN, if_true, forall_const, ne_eq, implies_true, List.nil_append, List.append_nil, List.cons_append, List.length_cons, List.length_nil, Nat.reduceEqDiff, Nat.reduceAdd, Nat.reduceLT, Nat.reduceLeDiff, ↓reduceIte, reduceCtorEq, Int.reduceEq, Int.reduceLT]
    refine scall_pure (c30 t p u) ?_
    simp (contextual := true) (maxSteps := 1000000) only [stepsS, stepsT, stepsN, if_true, forall_const, ne_eq, implies_true, List.nil_append, List.append_nil, List.cons_append, List.length_cons, List.length_nil, Nat.reduceEqDiff, Nat.reduceAdd, Nat.reduceLT, Nat.reduceLeDiff, ↓reduceIte, reduceCtorEq, Int.reduceEq, Int.reduceLT]
    refine scall_pure (c31 t p u) ?_
    simp (contextual := true) (maxSteps := 1000000) only [stepsS, stepsT, stepsN, if_true, forall_const, ne_eq, implies_true, List.nil_append, List.append_nil, List.cons_append, List.length_cons, List.length_nil, Nat.reduceEqDiff, Nat.reduceAdd, Nat.reduceLT, Nat.reduceLeDiff, ↓reduceIte, reduceCtorEq, Int.reduceEq, Int.reduceLT]
    refine scall_pure (c32' t a b ha.2 hb.1 hb.2 fun _ => hv) ?_
    simp (contextual := true) (maxSteps := 1000000) only [stepsS, stepsT, stepsN, if_true, forall_const, ne_eq, implies_true, List.nil_append, List.append_nil, List.cons_append, List.length_cons, List.length_nil, Nat.reduceEqDiff, Nat.reduceAdd, Nat.reduceLT, Nat.reduceLeDiff, ↓reduceIte, reduceCtorEq, Int.reduceEq, Int.reduceLT]
    refine scall_pure (c33 t a b ha.2 hb.1 hb.2 fun ht v hv' => ⟨fv_shaped t ((T.tree_iff t).1 ht).2.2 v ((mem_vars t v).1 hv'), hv v ((mem_vars t v).1 hv')⟩) ?_
    simp (contextual := true) (maxSteps := 1000000) only [stepsS, stepsT, stepsN, if_true, forall_const, ne_eq, implies_true, List.nil_append, List.append_nil, List.cons_append, List.length_cons, List.length_nil, Nat.reduceEqDiff, Nat.reduceAdd, Nat.reduceLT, Nat.reduceLeDiff, ↓reduceIte, reduceCtorEq, Int.reduceEq, Int.reduceLT]
    refine scall_pure (c14 _ _) ?_
    rw [hs]
    simp (contextual := true) (maxSteps := 1000000) only [stepsS, stepsT, stepsN, if_true, forall_const, ne_eq, implies_true, List.nil_append, List.append_nil, List.cons_append, List.length_cons, List.length_nil, Nat.reduceEqDiff, Nat.reduceAdd, Nat.reduceLT, Nat.reduceLeDiff, ↓reduceIte, reduceCtorEq, Int.reduceEq, Int.reduceLT]
    refine scall_pure (c14 _ _) ?_
    rw [hs]
    simp (contextual := true) (maxSteps := 1000000) only [stepsS, stepsT, stepsN, if_true, forall_const, ne_eq, implies_true, List.nil_append, List.append_nil, List.cons_append, List.length_cons, List.length_nil, Nat.reduceEqDiff, Nat.reduceAdd, Nat.reduceLT, Nat.reduceLeDiff, ↓reduceIte, reduceCtorEq, Int.reduceEq, Int.reduceLT]
    refine scall_pure (c14 _ _) ?_
    rw [hs]
    simp (contextual := true) (maxSteps := 1000000) only [stepsS, stepsT, stepsN, if_true, forall_const, ne_eq, implies_true, List.nil_append, List.append_nil, List.cons_append, List.length_cons, List.length_nil, Nat.reduceEqDiff, Nat.reduceAdd, Nat.reduceLT, Nat.reduceLeDiff, ↓reduceIte, reduceCtorEq, Int.reduceEq, Int.reduceLT]
    refine scall_pure (c34 [t, u] (by omega) (by simp)) ?_
    simp (contextual := true) (maxSteps := 1000000) only [stepsS, stepsT, stepsN, if_true, forall_const, ne_eq, implies_true, List.nil_append, List.append_nil, List.cons_append, List.length_cons, List.length_nil, Nat.reduceEqDiff, Nat.reduceAdd, Nat.reduceLT, Nat.reduceLeDiff, ↓reduceIte, reduceCtorEq, Int.reduceEq, Int.reduceLT]
    refine scall_pure (c35 [t, u] (by omega) (by simp)) ?_
    simp (contextual := true) (maxSteps := 1000000) only [stepsS, stepsT, stepsN, if_true, forall_const, ne_eq, implies_true, List.nil_append, List.append_nil, List.cons_append, List.length_cons, List.length_nil, Nat.reduceEqDiff, Nat.reduceAdd, Nat.reduceLT, Nat.reduceLeDiff, ↓reduceIte, reduceCtorEq, Int.reduceEq, Int.reduceLT]
    refine scall_pure (c36 t) ?_
    simp (contextual := true) (maxSteps := 1000000) only [stepsS, stepsT, stepsN, if_true, forall_const, ne_eq, implies_true, List.nil_append, List.append_nil, List.cons_append, List.length_cons, List.length_nil, Nat.reduceEqDiff, Nat.reduceAdd, Nat.reduceLT, Nat.reduceLeDiff, ↓reduceIte, reduceCtorEq, Int.reduceEq, Int.reduceLT]
    refine scall_pure (c37 t) ?_
    simp (contextual := true) (maxSteps := 1000000) only [stepsS, stepsT, stepsN, if_true, forall_const, ne_eq, implies_true, List.nil_append, List.append_nil, List.cons_append, List.length_cons, List.length_nil, Nat.reduceEqDiff, Nat.reduceAdd, Nat.reduceLT, Nat.reduceLeDiff, ↓reduceIte, reduceCtorEq, Int.reduceEq, Int.reduceLT]
    refine scall_pure (c15 _ _ 0 0) ?_
    rw [sames_self]
    simp (contextual := true) (maxSteps := 1000000) only [stepsS, stepsT, stepsN, if_true, forall_const, ne_eq, implies_true, List.nil_append, List.append_nil, List.cons_append, List.length_cons, List.length_nil, Nat.reduceEqDiff, Nat.reduceAdd, Nat.reduceLT, Nat.reduceLeDiff, ↓reduceIte, reduceCtorEq, Int.reduceEq, Int.reduceLT]
    refine scall_pure (c19 _ _ 0 0) ?_
    rw [decide_eq_true rfl]
    simp (contextual := true) (maxSteps := 1000000) only [stepsS, stepsT, stepsN, if_true, forall_const, ne_eq, implies_true, List.nil_append, List.append_nil, List.cons_append, List.length_cons, List.length_nil, Nat.reduceEqDiff, Nat.reduceAdd, Nat.reduceLT, Nat.reduceLeDiff, ↓reduceIte, reduceCtorEq, Int.reduceEq, Int.reduceLT]
    unfold pathsV
    cases ht : t.tree with
    | false =>
      simp (contextual := true) (maxSteps := 1000000) only [Bool.false_eq_true, stepsS, stepsT, stepsN, if_true, forall_const, ne_eq, implies_true, List.nil_append, List.append_nil, List.cons_append, List.length_cons, List.length_nil, Nat.reduceEqDiff, Nat.reduceAdd, Nat.reduceLT, Nat.reduceLeDiff, ↓reduceIte, reduceCtorEq, Int.reduceEq, Int.reduceLT]
      refine swp_loop_nat 0 (fun i => True) (fun i => [(29, .nils), (31, .nils), (171, .int .i64 0), (172, .int .i64 0)]) (fun i => H) ⟨trivial, sle_refl _ _ _⟩ fun i hi hI => ?_
      simp (contextual := true) (maxSteps := 1000000) only [Int.lt_irrefl, Bool.false_eq_true, stepsS, stepsT, stepsN, if_true, forall_const, ne_eq, implies_true, List.nil_append, List.append_nil, List.cons_append, List.length_cons, List.length_nil, Nat.reduceEqDiff, Nat.reduceAdd, Nat.reduceLT, Nat.reduceLeDiff, ↓reduceIte, reduceCtorEq, Int.reduceEq, Int.reduceLT]
      exact ret0 rfl rfl
    | true =>
      generalize pathsT t [] = ps
      simp (contextual := true) (maxSteps := 1000000) only [pas_len, lens_pas, idx_pas, stepsS, stepsT, stepsN, if_true, forall_const, ne_eq, implies_true, List.nil_append, List.append_nil, List.cons_append, List.length_cons, List.length_nil, Nat.reduceEqDiff, Nat.reduceAdd, Nat.reduceLT, Nat.reduceLeDiff, ↓reduceIte, reduceCtorEq, Int.reduceEq, Int.reduceLT]
      intro _
      refine swp_loop_nat ps.length (fun i => True) (fun i => [(29, .lst 0 (pas ps)), (31, .lst 0 (pas ps)), (171, .int .i64 ps.length), (172, .int .i64 i)]) (fun i => H) ⟨trivial, sle_refl _ _ _⟩ fun i hi hI => ?_
      simp (contextual := true) (maxSteps := 1000000) only [pas_len, lens_pas, idx_pas, stepsS, stepsT, stepsN, if_true, forall_const, ne_eq, implies_true, List.nil_append, List.append_nil, List.cons_append, List.length_cons, List.length_nil, Nat.reduceEqDiff, Nat.reduceAdd, Nat.reduceLT, Nat.reduceLeDiff, ↓reduceIte, reduceCtorEq, Int.reduceEq, Int.reduceLT]
      refine ⟨fun hlt => ?_, fun hge => ret0 rfl rfl⟩
      have hlt := len_lt hlt
      refine ⟨hlt, hlt, dcall_pure (c19 _ _ 0 0) ?_⟩
      rw [decide_eq_true rfl]
      simp (contextual := true) (maxSteps := 1000000) only [stepsS, stepsT, stepsN, if_true, forall_const, ne_eq, implies_true, List.nil_append, List.append_nil, List.cons_append, List.length_cons, List.length_nil, Nat.reduceEqDiff, Nat.reduceAdd, Nat.reduceLT, Nat.reduceLeDiff, ↓reduceIte, reduceCtorEq, Int.reduceEq, Int.reduceLT]
      exact ⟨i + 1, hlt, by omega, sle_eq (by rw [wrap_nat i (by omega)]) rfl⟩
end Go.Abs
end
section
/- The reading of a list of numbers. -/
set_option maxRecDepth 100000
set_option linter.unusedSimpArgs false
namespace Go.Abs
open Go Go.RowKit
section
variable {H : Type} {enc : TypeId × Value → H} {P : Program} {w : World} {base : Nat} {sp : Nat → Bool} {held : Bool}
/-- What is read at a type is told by a function. -/
def Rd {H : Type} (enc : TypeId × Value → H) (P : Program) (w : World) (base : Nat) (sp : Nat → Bool) (held : Bool) {α : Type} (t : TypeId) (g : α → AV) (R : DataW H → α → Prop) : Prop :=
  ∀ (fuel : Nat) (cs : List Value) (x : DataW H × List MemPlace), DataW.trod enc P w base sp held fuel t cs = some x → ∃ a, RepL (memOf w) [] cs (g a).cells ∧ R x.1 a
theorem rd_int {ti : TypeId} (h : P.underlying ti = some (.int .i64)) : Rd enc P w base sp held ti (fun n : Int => .int .i64 n) (fun _ _ => True) := by
  intro fuel cs x hx
  obtain ⟨k, rfl, _, _⟩ := DataW.trod_int h hx
  exact ⟨k, .cons _ _ _ _ (.int _ _) .nil, trivial⟩
/-- How many there are, in the reading. -/
def slLen {α : Type} (d : DataW H) (l : List α) : Prop := match d with | .slice es _ => l.length = es.length | _ => l = []
theorem rd_slice {α : Type} [Inhabited α] {te tl : TypeId} {g : α → AV} {R : DataW H → α → Prop} {e : Nat} (hl : P.underlying tl = some (.slice te)) (hc : P.cellsOf te = e) (he : 0 < e) (h : Rd enc P w base sp held te g R) :
    Rd enc P w base sp held tl (fun l : List α => .lst 0 (l.map g)) slLen := by
  intro fuel cs x hx
  rcases DataW.trod_slice hl hx with ⟨rfl, rfl⟩ | ⟨a, len, cap, elems, rest, m, hm, rfl, rfl, hb, hle, hcap, hel, hget, _, _⟩
  · exact ⟨[], .cons _ _ _ _ Rep.nils.drop .nil, rfl⟩
  · rw [hc] at hget
    have hex : ∀ i, i < len → ∃ t : α, ∃ cs', w.cells? base (a.add (i * e)) e = some cs' ∧ RepL (memOf w) [] cs' (g t).cells := by
      intro i hi
      have := hget i hi
      rw [List.getElem?_eq_getElem (by omega)] at this
      obtain ⟨cs', k1, k2⟩ := Option.bind_eq_some_iff.1 this
      obtain ⟨t, ht, _⟩ := h _ _ _ k2
      exact ⟨t, cs', k1, ht⟩
    have hf : ∃ f : Nat → α, ∀ i, i < len → ∃ cs', w.cells? base (a.add (i * e)) e = some cs' ∧ RepL (memOf w) [] cs' (g (f i)).cells := by
      refine ⟨fun i => if hi : i < len then Classical.choose (hex i hi) else default, fun i hi => ?_⟩
      simp only [dif_pos hi]
      exact Classical.choose_spec (hex i hi)
    obtain ⟨f, hf⟩ := hf
    refine ⟨(List.range len).map f, .cons _ _ _ _ ?_ .nil, by simp [slLen, hel]⟩
    show Rep (memOf w) [] _ (.lst 0 (((List.range len).map f).map g))
    rw [List.map_map]
    refine rep_slice (e := e) (base := base) he hle hcap (fun i => if hi : i < len then Classical.choose (hf i hi) else []) _ fun i hi => ?_
    simp only [dif_pos hi]
    exact Classical.choose_spec (hf i hi)
theorem open_ints {ti tl : TypeId} (hi : P.underlying ti = some (.int .i64)) (hl : P.underlying tl = some (.slice ti)) (hc : P.cellsOf ti = 1) {r : Reach} {b0 : Nat} {v : Value} {d : DataW H} {ps : List MemPlace} (hval : Value.okWide P w r b0 tl v) (hd : DataW.Trod enc P w base sp held tl v d ps) :
    ∃ l : List Int, Rep (memOf w) [] v (.lst 0 (ints l)) := by
  obtain ⟨a, len, cap, rfl⟩ := WideShapes.okWide_slice hl hval
  obtain ⟨fuel, hf⟩ := hd
  obtain ⟨l, hr, _⟩ := rd_slice (g := fun n : Int => .int .i64 n) hl hc (by decide) (rd_int hi) _ _ _ hf
  refine ⟨l, ?_⟩
  simp only [Value.cells] at hr
  cases hr with
  | cons v x vs xs h t => exact h
end
end Go.Abs
end
