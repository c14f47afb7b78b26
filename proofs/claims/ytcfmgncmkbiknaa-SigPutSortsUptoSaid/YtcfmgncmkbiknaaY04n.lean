/- Normal. -/
import Derived.Test.YtcfmgncmkbiknaaY04m
set_option maxRecDepth 100000
set_option linter.unusedSimpArgs false
set_option linter.unusedVariables false
namespace Go.Abs
open Go Go.Proofs
/-- With a closure that reads objects. -/
theorem c77g {I : List AObj → Prop} (hI : ∀ H e, I H → I (H ++ e)) (g : Nat) (cap : List AV) (f : Int → T) (x : T) (hcap : cap.map AV.unown = cap) (hf : ∀ n H, I H → ACalls Try.prog g ([.int .i64 n] ++ cap) H fun r H' => r = (f n).av ∧ H' = H) (hs : x.shaped = true) :
    ∀ H, I H → ACalls Try.prog 77 [x.av, .fn (.func g) [] cap] H fun r H' => r = (mapT f x).av ∧ H' = H := by
  have ih : ∀ y ∈ x.l, ∀ H, I H → ACalls Try.prog 77 [y.av, .fn (.func g) [] cap] H fun r H' => r = (mapT f y).av ∧ H' = H := fun y hy => c77g hI g cap f y hcap hf ((shaped_kids hs).2 y hy)
  refine fun H hH => ok77.calls (by simp [fi77]) ?_
  simp only [fi77, ir77]
  have hl8 := (shaped_kids hs).1
  simp (contextual := true) (maxSteps := 1000000) only [hcap, stepsS, stepsT, stepsN, if_true, forall_const, ne_eq, implies_true, List.nil_append, List.append_nil, List.cons_append, List.length_cons, List.length_nil, Nat.reduceEqDiff, Nat.reduceAdd, Nat.reduceLT, Nat.reduceLeDiff, ↓reduceIte, reduceCtorEq, Int.reduceEq, Int.reduceLT]
  refine ⟨fun hk => scall_to (hf x.n _ (hI _ _ hH)) ?_, fun hk _ => ?_⟩
  · rintro r H' ⟨rfl, rfl⟩
    simp (contextual := true) (maxSteps := 1000000) only [stepsS, stepsT, stepsN, if_true, forall_const, ne_eq, implies_true, List.nil_append, List.append_nil, List.cons_append, List.length_cons, List.length_nil, Nat.reduceEqDiff, Nat.reduceAdd, Nat.reduceLT, Nat.reduceLeDiff, ↓reduceIte, reduceCtorEq, Int.reduceEq, Int.reduceLT]
    exact ret1v (T.av_blw _ _) (by rw [mapT_eq, if_pos hk])
  · refine swp_loop_nat x.l.length (fun _ => True) (fun i => [(1, .fn (.func g) [] cap), (4, .ptr H.length 0), (5, .ptr (H.length + 1) 0), (21, .lst 0 (avs x.l)), (22, .int .i64 x.l.length), (23, .int .i64 i)])
      (fun i => H ++ [.cells [.int .i64 0, .int .i64 0, .nils], .cells [.int .i64 x.k, .int .i64 x.n, outT (mapTs f (x.l.take i))]]) ⟨trivial, sle_refl _ _ _⟩ fun i hi hI' => ?_
    simp (contextual := true) (maxSteps := 1000000) only [outT_one, outT_blw, outT_drop, stepsS, stepsT, stepsN, if_true, forall_const, ne_eq, implies_true, List.nil_append, List.append_nil, List.cons_append, List.length_cons, List.length_nil, Nat.reduceEqDiff, Nat.reduceAdd, Nat.reduceLT, Nat.reduceLeDiff, ↓reduceIte, reduceCtorEq, Int.reduceEq, Int.reduceLT]
    refine ⟨fun hlt => ⟨len_lt hlt, ?_, ?_⟩, fun hge => ?_⟩
    · have hlt := len_lt hlt
      refine scall_to (ih _ (mem_getD hlt) _ (hI _ _ hH)) ?_
      rintro r H' ⟨rfl, rfl⟩
      simp (contextual := true) (maxSteps := 1000000) only [ap_outT, outT_snoc, outT_one, outT_blw, stepsS, stepsT, stepsN, if_true, forall_const, ne_eq, implies_true, List.nil_append, List.append_nil, List.cons_append, List.length_cons, List.length_nil, Nat.reduceEqDiff, Nat.reduceAdd, Nat.reduceLT, Nat.reduceLeDiff, ↓reduceIte, reduceCtorEq, Int.reduceEq, Int.reduceLT]
      refine ⟨by rw [mapTs_map]; simp; omega, i + 1, hlt, by omega, sle_eq (by rw [wrap_nat i (by omega)]) ?_⟩
      rw [mapTs_take f hlt]
    · have hlt := len_lt hlt
      refine scall_to (ih _ (mem_getD hlt) _ (hI _ _ hH)) ?_
      rintro r H' ⟨rfl, rfl⟩
      simp (contextual := true) (maxSteps := 1000000) only [ap_outT, outT_snoc, outT_one, outT_blw, stepsS, stepsT, stepsN, if_true, forall_const, ne_eq, implies_true, List.nil_append, List.append_nil, List.cons_append, List.length_cons, List.length_nil, Nat.reduceEqDiff, Nat.reduceAdd, Nat.reduceLT, Nat.reduceLeDiff, ↓reduceIte, reduceCtorEq, Int.reduceEq, Int.reduceLT]
      refine ⟨by rw [mapTs_map]; simp; omega, i + 1, hlt, by omega, sle_eq (by rw [wrap_nat i (by omega)]) ?_⟩
      rw [mapTs_take f hlt]
    · rw [List.take_of_length_le (len_nlt hge)]
      refine ret1v (by simp only [bw_agg, bl_cons, bw_int, bw_lst, avs_blw, bl_nil, Bool.and_self]) ?_
      rw [mapT_eq, if_neg hk]; rfl
termination_by SizeOf.sizeOf x
decreasing_by exact T.lt hy
/-- Numbers and where they stand. -/
def nums : Int → List Int → List (AV × AV)
  | _, [] => []
  | k, v :: r => (.int .i64 v, .int .i64 k) :: nums (k + 1) r
def pos : Int → List Int → Int → Int
  | _, [], _ => 0
  | k, v :: r, n => if n = v then k else pos (k + 1) r n
theorem afind_nums (n : Int) : ∀ (vs : List Int) (k : Int) (i : Nat), (n ∈ vs → ∃ j, afind 0 (.int .i64 n) (nums k vs) i = some (some (j, .int .i64 (pos k vs n)))) ∧ (n ∉ vs → afind 0 (.int .i64 n) (nums k vs) i = some none ∧ pos k vs n = 0)
  | [], k, i => ⟨fun h => (by cases h), fun _ => ⟨rfl, rfl⟩⟩
  | v :: r, k, i => by
    have ih := afind_nums n r (k + 1) (i + 1)
    simp only [nums, afind, keyEq, if_true]
    by_cases hv : n = v
    · subst hv
      simp [pos]
    · simp only [decide_eq_false hv, List.mem_cons, hv, false_or, pos, if_false]
      exact ih
theorem lk_nums (n : Int) (vs : List Int) (φ : AV → Prop) : lookupC (some (.map (nums 0 vs))) 0 (.int .i64 0) (.int .i64 n) false φ = φ (.int .i64 (pos 0 vs n)) := by
  have h := afind_nums n vs 0 0
  unfold lookupC
  by_cases hn : n ∈ vs
  · obtain ⟨j, hj⟩ := h.1 hn
    simp [hj, dr_int]
  · simp [(h.2 hn).1, (h.2 hn).2, keyEq, canon, abslice.canon, dr_int]
theorem nums_app (x : Int) : ∀ (vs : List Int) (k : Int), nums k (vs ++ [x]) = nums k vs ++ [(.int .i64 x, .int .i64 (k + vs.length))]
  | [], k => by simp [nums]
  | v :: r, k => by
    rw [List.cons_append, nums, nums, nums_app x r (k + 1), List.cons_append, List.length_cons]
    rw [show k + 1 + (r.length : Int) = k + ((r.length + 1 : Nat) : Int) by omega]
theorem ms_nums {n i : Int} {vs : List Int} (hn : n ∉ vs) (hi : i = vs.length) (id : Nat) (H : List AObj) (K : List AObj → Prop) : mapsetC (some (.map (nums 0 vs))) 0 id (.int .i64 n) (.int .i64 i) H K = K (H.set id (.map (nums 0 (vs ++ [n])))) := by
  have h := ((afind_nums n vs 0 0).2 hn).1
  unfold mapsetC
  simp only [h]
  simp [keyEq, bw_int, va_int, nums_app, canon, abslice.canon, dr_int, hi]
theorem c78 (vs : List Int) (id : Nat) (n : Int) (H : List AObj) (hH : H[id]? = some (.map (nums 0 vs))) :
    ACalls Try.prog 78 [.int .i64 n, .iptr (.map id)] H fun r H' => r = (T.mk 1 (pos 0 vs n) []).av ∧ H' = H := by
  have hid : id < H.length := (List.getElem?_eq_some_iff.1 hH).1
  have hH' : ∀ e, (H ++ e)[id]? = some (.map (nums 0 vs)) := fun e => by rw [List.getElem?_append_left hid, hH]
  refine ok78.calls (by simp [fi78]) ?_
  simp only [fi78, ir78]
  simp (contextual := true) (maxSteps := 1000000) only [hH', lk_nums, stepsS, stepsT, stepsN, if_true, forall_const, ne_eq, implies_true, List.nil_append, List.append_nil, List.cons_append, List.length_cons, List.length_nil, Nat.reduceEqDiff, Nat.reduceAdd, Nat.reduceLT, Nat.reduceLeDiff, ↓reduceIte, reduceCtorEq, Int.reduceEq, Int.reduceLT]
  exact ret1v (T.av_blw _ (.mk 1 (pos 0 vs n) [])) rfl
theorem c32 (a b : List T) (o o' : Nat) : Pure Try.prog 32 [.lst o (avs a), .lst o' (avs b)] (.bool (sames a b)) := by
  refine fun H => ok32.calls (by simp [fi32]) ?_
  simp only [fi32, ir32]
  simp (contextual := true) (maxSteps := 1000000) only [stepsS, stepsT, stepsN, if_true, forall_const, ne_eq, implies_true, List.nil_append, List.append_nil, List.cons_append, List.length_cons, List.length_nil, Nat.reduceEqDiff, Nat.reduceAdd, Nat.reduceLT, Nat.reduceLeDiff, ↓reduceIte, reduceCtorEq, Int.reduceEq, Int.reduceLT]
  refine fun _ _ => ⟨fun hne => ret0 rfl ?_, fun hl => ?_⟩
  · congr 1
    symm
    rw [Bool.eq_false_iff]
    intro h; rw [sames_iff] at h; subst h; exact hne rfl
  have hl : a.length = b.length := by omega
  refine swp_loop_nat a.length (fun i => sames (a.drop i) (b.drop i) = sames a b) (fun i => [(0, .lst o (avs a)), (1, .lst o' (avs b)), (5, .int .i64 i)]) (fun i => H) ⟨rfl, sle_refl _ _ _⟩ fun i hi hI => ?_
  simp (contextual := true) (maxSteps := 1000000) only [stepsS, stepsT, stepsN, if_true, forall_const, ne_eq, implies_true, List.nil_append, List.append_nil, List.cons_append, List.length_cons, List.length_nil, Nat.reduceEqDiff, Nat.reduceAdd, Nat.reduceLT, Nat.reduceLeDiff, ↓reduceIte, reduceCtorEq, Int.reduceEq, Int.reduceLT]
  intro _
  refine ⟨fun hlt => ⟨len_lt hlt, ?_⟩, fun hge => ?_⟩
  · have hlt := len_lt hlt
    have hlt2 : i < b.length := by omega
    rw [List.drop_eq_getElem_cons hlt, List.drop_eq_getElem_cons hlt2] at hI
    have e1 : a.getD i default = a[i] := by simp [hlt]
    have e2 : b.getD i default = b[i] := by simp [hlt2]
    rw [e1, e2]
    simp only [sames] at hI
    refine ⟨hlt2, dcall_pure (c20 _ _) ?_⟩
    cases hc : (a[i]).same (b[i]) with
    | false =>
      rw [hc, Bool.false_and] at hI
      simp (contextual := true) (maxSteps := 1000000) only [Bool.false_eq_true, stepsS, stepsT, stepsN, if_true, forall_const, ne_eq, implies_true, List.nil_append, List.append_nil, List.cons_append, List.length_cons, List.length_nil, Nat.reduceEqDiff, Nat.reduceAdd, Nat.reduceLT, Nat.reduceLeDiff, ↓reduceIte, reduceCtorEq, Int.reduceEq, Int.reduceLT]
      exact ret0 rfl (by rw [hI])
    | true =>
      rw [hc, Bool.true_and] at hI
      simp (contextual := true) (maxSteps := 1000000) only [stepsS, stepsT, stepsN, if_true, forall_const, ne_eq, implies_true, List.nil_append, List.append_nil, List.cons_append, List.length_cons, List.length_nil, Nat.reduceEqDiff, Nat.reduceAdd, Nat.reduceLT, Nat.reduceLeDiff, ↓reduceIte, reduceCtorEq, Int.reduceEq, Int.reduceLT]
      exact ⟨i + 1, ⟨hlt, hI⟩, by omega, sle_eq (by rw [wrap_nat i (by omega)]) rfl⟩
  · have hge := len_nlt hge
    rw [List.drop_of_length_le hge, List.drop_of_length_le (by omega)] at hI
    exact ret0 rfl (by rw [← hI]; rfl)
def posT (vs : List Int) (t : T) : T := ren (pos 0 vs) t
def nrmS (l : List T) : List T × List Int × Int := if treesB l = true then (l.map (posT (walkVs l [])), walkVs l [], 0) else ([], [], 4)
theorem walk_nodup_aux (n k : Int) (vs : List Int) (h : vs.Nodup) : (if k = 1 ∧ n ∉ vs then vs ++ [n] else vs).Nodup := by
  split
  · rename_i hc
    rw [List.nodup_append]
    refine ⟨h, by simp, fun a ha b hb => ?_⟩
    simp only [List.mem_cons, List.not_mem_nil, or_false] at hb
    subst hb
    intro e; subst e; exact hc.2 ha
  · exact h
mutual
theorem walkV_nodup : ∀ (x : T) (vs : List Int), vs.Nodup → (walkV x vs).Nodup
  | .mk k n l, vs, h => by
    simp only [walkV]
    exact walkVs_nodup l _ (walk_nodup_aux n k vs h)
theorem walkVs_nodup : ∀ (l : List T) (vs : List Int), vs.Nodup → (walkVs l vs).Nodup
  | [], vs, h => h
  | x :: r, vs, h => by simp only [walkVs]; exact walkVs_nodup r _ (walkV_nodup x vs h)
end
theorem nodup_take {vs : List Int} (h : vs.Nodup) {i : Nat} (hi : i < vs.length) : vs.getD i 0 ∉ vs.take i := by
  have h' : (vs.take i ++ (vs[i] :: vs.drop (i+1))).Nodup := by rw [← List.drop_eq_getElem_cons hi, List.take_append_drop]; exact h
  rw [List.nodup_append] at h'
  have e : vs.getD i 0 = vs[i] := by simp [hi]
  rw [e]
  intro hm
  exact h'.2.2 _ hm _ List.mem_cons_self rfl
theorem outT_un_le (l : List T) : (outT l).unown.le (.lst 0 (avs l)) := by
  cases l with
  | nil => exact .inr (.inr (.inr (.inl ⟨rfl, 0, rfl⟩)))
  | cons x r => exact .inl rfl
theorem ret3w {Hs G : List AObj} {n0 a b c : Nat} {u v w x y z : AV} {R : AV → List AObj → Prop} (hab : b ≠ a ∧ c ≠ a ∧ c ≠ b) (hH : Hs.take n0 = G) (hb : x.blw n0 = true ∧ y.blw n0 = true ∧ z.blw n0 = true)
    (hx : u.unown.le x) (hy : v.unown.le y) (hz : w.unown.le z) (hR : R (.tuple [x, y, z]) G) : aret n0 [.t a, .t b, .t c] [(a, u), (b, v), (c, w)] Hs R := by
  subst hH
  refine ⟨n0, Nat.le_refl _, [x, y, z], ?_, by simp only [belowL, hb.1, hb.2.1, hb.2.2, Bool.and_self], hR⟩
  simp only [gt_cons, if_neg hab.1, if_neg hab.2.1, if_neg hab.2.2, if_true, List.map]
  exact ⟨hx, hy, hz, trivial⟩
theorem c31 (l : List T) (hl : szs l ≤ 1000000) (hlen : l.length * 40 ≤ 140737488355328) : Pure Try.prog 31 [.lst 0 (avs l)] (.tuple [.lst 0 (avs (nrmS l).1), .lst 0 (ints (nrmS l).2.1), .int .i64 (nrmS l).2.2]) := by
  refine fun H => ok31.calls (by simp [fi31]) ?_
  simp only [fi31, ir31]
  simp (contextual := true) (maxSteps := 1000000) only [stepsS, stepsT, stepsN, if_true, forall_const, ne_eq, implies_true, List.nil_append, List.append_nil, List.cons_append, List.length_cons, List.length_nil, Nat.reduceEqDiff, Nat.reduceAdd, Nat.reduceLT, Nat.reduceLeDiff, ↓reduceIte, reduceCtorEq, Int.reduceEq, Int.reduceLT]
  refine scall_pure (c53 l) ?_
  cases hb : treesB l with
  | false =>
    simp (contextual := true) (maxSteps := 1000000) only [Bool.false_eq_true, stepsS, stepsT, stepsN, if_true, forall_const, ne_eq, implies_true, List.nil_append, List.append_nil, List.cons_append, List.length_cons, List.length_nil, Nat.reduceEqDiff, Nat.reduceAdd, Nat.reduceLT, Nat.reduceLeDiff, ↓reduceIte, reduceCtorEq, Int.reduceEq, Int.reduceLT]
    have e : nrmS l = ([], [], 4) := by rw [nrmS, if_neg (by rw [hb]; simp)]
    rw [e]
    exact ret3w (by decide) (by simp) ⟨rfl, rfl, rfl⟩ (.inr (.inr (.inr (.inl ⟨rfl, 0, rfl⟩)))) (.inr (.inr (.inr (.inl ⟨rfl, 0, rfl⟩)))) (.inl rfl) ⟨rfl, rfl⟩
  | true =>
    have e : nrmS l = (l.map (posT (walkVs l [])), walkVs l [], 0) := by rw [nrmS, if_pos hb]
    rw [e]
    have hwl := walkVs_len l []
    have hnd := walkVs_nodup l [] List.nodup_nil
    simp (contextual := true) (maxSteps := 1000000) only [stepsS, stepsT, stepsN, if_true, forall_const, ne_eq, implies_true, List.nil_append, List.append_nil, List.cons_append, List.length_cons, List.length_nil, Nat.reduceEqDiff, Nat.reduceAdd, Nat.reduceLT, Nat.reduceLeDiff, ↓reduceIte, reduceCtorEq, Int.reduceEq, Int.reduceLT]
    refine scall_pure (c76 l hl) ?_
    generalize walkVs l [] = vs at *
    simp only [List.length_nil] at hwl
    simp (contextual := true) (maxSteps := 1000000) only [stepsS, stepsT, stepsN, if_true, forall_const, ne_eq, implies_true, List.nil_append, List.append_nil, List.cons_append, List.length_cons, List.length_nil, Nat.reduceEqDiff, Nat.reduceAdd, Nat.reduceLT, Nat.reduceLeDiff, ↓reduceIte, reduceCtorEq, Int.reduceEq, Int.reduceLT]
    intro _
    refine swp_loop_nat vs.length (fun i => True)
      (fun i => [(0, .lst 0 (avs l)), (5, .lst 0 (ints vs)), (6, .iptr (.map H.length)), (18, .lst 0 (ints vs)), (19, .int .i64 vs.length), (20, .int .i64 i)])
      (fun i => H ++ [.map (nums 0 (vs.take i))]) ⟨trivial, sle_refl _ _ _⟩ fun i hi hI => ?_
    simp (contextual := true) (maxSteps := 1000000) only [stepsS, stepsT, stepsN, if_true, forall_const, ne_eq, implies_true, List.nil_append, List.append_nil, List.cons_append, List.length_cons, List.length_nil, Nat.reduceEqDiff, Nat.reduceAdd, Nat.reduceLT, Nat.reduceLeDiff, ↓reduceIte, reduceCtorEq, Int.reduceEq, Int.reduceLT]
    refine ⟨fun hlt => ⟨len_lt hlt, ?_⟩, fun hge => ?_⟩
    · have hlt := len_lt hlt
      rw [ms_nums (nodup_take hnd hlt) (by simp; omega)]
      simp (contextual := true) (maxSteps := 1000000) only [stepsS, stepsT, stepsN, if_true, forall_const, ne_eq, implies_true, List.nil_append, List.append_nil, List.cons_append, List.length_cons, List.length_nil, Nat.reduceEqDiff, Nat.reduceAdd, Nat.reduceLT, Nat.reduceLeDiff, ↓reduceIte, reduceCtorEq, Int.reduceEq, Int.reduceLT]
      refine ⟨i + 1, hlt, by omega, sle_eq (by rw [wrap_nat i (by omega)]) ?_⟩
      rw [List.take_add_one]; simp [hlt]
    rw [List.take_of_length_le (len_nlt hge)]
    simp (contextual := true) (maxSteps := 1000000) only [stepsS, stepsT, stepsN, if_true, forall_const, ne_eq, implies_true, List.nil_append, List.append_nil, List.cons_append, List.length_cons, List.length_nil, Nat.reduceEqDiff, Nat.reduceAdd, Nat.reduceLT, Nat.reduceLeDiff, ↓reduceIte, reduceCtorEq, Int.reduceEq, Int.reduceLT]
    intro _
    refine swp_loop_nat l.length (fun i => True)
      (fun i => [(5, .lst 0 (ints vs)), (6, .iptr (.map H.length)), (9, outT ((l.take i).map (posT vs))), (29, .lst 0 (avs l)), (30, .int .i64 l.length), (31, .int .i64 i)])
      (fun i => H ++ [.map (nums 0 vs)]) ⟨trivial, sle_refl _ _ _⟩ fun i hi hI => ?_
    simp (contextual := true) (maxSteps := 1000000) only [stepsS, stepsT, stepsN, if_true, forall_const, ne_eq, implies_true, List.nil_append, List.append_nil, List.cons_append, List.length_cons, List.length_nil, Nat.reduceEqDiff, Nat.reduceAdd, Nat.reduceLT, Nat.reduceLeDiff, ↓reduceIte, reduceCtorEq, Int.reduceEq, Int.reduceLT]
    refine ⟨fun hlt => ⟨len_lt hlt, ?_⟩, fun hge => ?_⟩
    · have hlt := len_lt hlt
      have hsh : (l.getD i default).shaped = true := ((T.tree_iff _).1 (List.all_eq_true.1 hb _ (mem_getD hlt))).2.2
      refine scall_to (c77g (I := fun G => G[H.length]? = some (.map (nums 0 vs))) (fun G e hG => by rw [List.getElem?_append_left (List.getElem?_eq_some_iff.1 hG).1]; exact hG) 78 [.iptr (.map H.length)] (fun n => .mk 1 (pos 0 vs n) []) _ rfl
        (fun n G hG => c78 vs H.length n G hG) hsh _ (by simp)) ?_
      rintro r H' ⟨rfl, rfl⟩
      simp (contextual := true) (maxSteps := 1000000) only [ap_outT, outT_snoc, outT_one, outT_blw, stepsS, stepsT, stepsN, if_true, forall_const, ne_eq, implies_true, List.nil_append, List.append_nil, List.cons_append, List.length_cons, List.length_nil, Nat.reduceEqDiff, Nat.reduceAdd, Nat.reduceLT, Nat.reduceLeDiff, ↓reduceIte, reduceCtorEq, Int.reduceEq, Int.reduceLT]
      refine ⟨by simp; omega, i + 1, hlt, by omega, sle_eq ?_ rfl⟩
      rw [wrap_nat i (by omega), List.take_add_one, List.map_append]
      simp [hlt, posT, ren]
    · rw [List.take_of_length_le (len_nlt hge)]
      simp (contextual := true) (maxSteps := 1000000) only [stepsS, stepsT, stepsN, if_true, forall_const, ne_eq, implies_true, List.nil_append, List.append_nil, List.cons_append, List.length_cons, List.length_nil, Nat.reduceEqDiff, Nat.reduceAdd, Nat.reduceLT, Nat.reduceLeDiff, ↓reduceIte, reduceCtorEq, Int.reduceEq, Int.reduceLT]
      have eu : (outT (l.map (posT vs))).unown.unown = (outT (l.map (posT vs))).unown := by cases (l.map (posT vs)) <;> rfl
      refine ret3w (x := .lst 0 (avs (l.map (posT vs)))) (y := .lst 0 (ints vs)) (z := .int .i64 0) (by decide) (by simp) ⟨by simp only [bw_lst, avs_blw], by simp only [bw_lst, ints_blw], rfl⟩ ?_ (.inl rfl) (.inl rfl) ⟨rfl, rfl⟩
      rw [eu, eu]
      exact outT_un_le _
end Go.Abs
