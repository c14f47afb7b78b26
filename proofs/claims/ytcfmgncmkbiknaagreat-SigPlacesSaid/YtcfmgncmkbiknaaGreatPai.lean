/- Part 9 of 11 of the proof. -/
import Derived.Test.YtcfmgncmkbiknaaGreatPah
import Derived.Test.YtcfmgncmkbiknaaGreatPae
import Derived.KernelRfl
section
/- Subst. -/
set_option maxRecDepth 100000
set_option linter.unusedSimpArgs false
set_option linter.unusedVariables false
namespace Go.Abs
open Go Go.Proofs
theorem c102 (n : Int) : Pure Tryz.prog 102 [.int .i64 n] (T.mk 1 n []).av := by
  refine fun H => ok102.calls (by simp [fi102]) ?_
  simp only [fi102, ir102]
  simp (contextual := true) (maxSteps := 1000000) only [stepsS, stepsT, stepsN, if_true, forall_const, ne_eq, implies_true, List.nil_append, List.append_nil, List.cons_append, List.length_cons, List.length_nil, Nat.reduceEqDiff, Nat.reduceAdd, Nat.reduceLT, Nat.reduceLeDiff, ↓reduceIte, reduceCtorEq, Int.reduceEq, Int.reduceLT]
  exact ret1v (T.av_blw _ (.mk 1 n [])) rfl
theorem c56 (t : T) (h : t.shaped = true) : Pure Tryz.prog 56 [t.av] t.av := by
  refine fun H => ok56.calls (by simp [fi56]) ?_
  simp only [fi56, ir56]
  simp (contextual := true) (maxSteps := 1000000) only [stepsS, stepsT, stepsN, if_true, forall_const, ne_eq, implies_true, List.nil_append, List.append_nil, List.cons_append, List.length_cons, List.length_nil, Nat.reduceEqDiff, Nat.reduceAdd, Nat.reduceLT, Nat.reduceLeDiff, ↓reduceIte, reduceCtorEq, Int.reduceEq, Int.reduceLT]
  refine scall_pure (c82 102 [] (fun n => .mk 1 n []) t rfl rfl (fun n => c102 n) h) ?_
  have e : mapT (fun n => .mk 1 n []) t = t := ren_id t h
  rw [e]
  simp (contextual := true) (maxSteps := 1000000) only [stepsS, stepsT, stepsN, if_true, forall_const, ne_eq, implies_true, List.nil_append, List.append_nil, List.cons_append, List.length_cons, List.length_nil, Nat.reduceEqDiff, Nat.reduceAdd, Nat.reduceLT, Nat.reduceLeDiff, ↓reduceIte, reduceCtorEq, Int.reduceEq, Int.reduceLT]
  exact ret1v (T.av_blw _ t) rfl
def boundS (t : T) : T × Int := if t.tree = true then (t, 0) else (T0, 2)
theorem c48 (t : T) : Pure Tryz.prog 48 [t.av] (.tuple [(boundS t).1.av, .int .i64 (boundS t).2]) := by
  refine fun H => ok48.calls (by simp [fi48]) ?_
  simp only [fi48, ir48]
  simp (contextual := true) (maxSteps := 1000000) only [stepsS, stepsT, stepsN, if_true, forall_const, ne_eq, implies_true, List.nil_append, List.append_nil, List.cons_append, List.length_cons, List.length_nil, Nat.reduceEqDiff, Nat.reduceAdd, Nat.reduceLT, Nat.reduceLeDiff, ↓reduceIte, reduceCtorEq, Int.reduceEq, Int.reduceLT]
  refine scall_pure (c43 t) ?_
  cases h : t.tree with
  | true =>
    simp (contextual := true) (maxSteps := 1000000) only [stepsS, stepsT, stepsN, if_true, forall_const, ne_eq, implies_true, List.nil_append, List.append_nil, List.cons_append, List.length_cons, List.length_nil, Nat.reduceEqDiff, Nat.reduceAdd, Nat.reduceLT, Nat.reduceLeDiff, ↓reduceIte, reduceCtorEq, Int.reduceEq, Int.reduceLT]
    exact ret2v (T.av_blw _ _) rfl (by rw [boundS, if_pos h]; exact t.av_unown) (by rw [boundS, if_pos h]; rfl)
  | false =>
    simp (contextual := true) (maxSteps := 1000000) only [stepsS, stepsT, stepsN, if_true, forall_const, ne_eq, implies_true, List.nil_append, List.append_nil, List.cons_append, List.length_cons, List.length_nil, Nat.reduceEqDiff, Nat.reduceAdd, Nat.reduceLT, Nat.reduceLeDiff, ↓reduceIte, reduceCtorEq, Int.reduceEq, Int.reduceLT]
    exact ret2v (T.av_blw _ _) rfl (by rw [boundS, if_neg (by rw [h]; simp)]; rfl) (by rw [boundS, if_neg (by rw [h]; simp)]; rfl)
def sub (l : List T) (t : T) : T := mapT (fun n => l.getD n.toNat default) t
theorem fvs_mem {t : T} {i : Nat} {v : Int} (hk : ¬ t.k = 1) (h : i < t.l.length) (hv : v ∈ (t.l.getD i default).fv) : v ∈ t.fv := by
  have e : t.fv = fvs t.l := by cases t; simp only [T.k] at hk; simp only [T.fv, if_neg hk, T.l]
  rw [e]
  have : ∀ (l : List T) (i : Nat), i < l.length → v ∈ (l.getD i default).fv → v ∈ fvs l := by
    intro l
    induction l with
    | nil => intro i h; cases h
    | cons x r ih =>
      intro i h hv
      simp only [fvs, List.mem_append]
      cases i with
      | zero => exact .inl (by simpa using hv)
      | succ j => exact .inr (ih j (by simpa using h) (by simpa using hv))
  exact this _ _ h hv
end Go.Abs
end
section
/- Subst; what is behind what. -/
set_option maxRecDepth 100000
set_option linter.unusedSimpArgs false
set_option linter.unusedVariables false
namespace Go.Abs
open Go Go.Proofs
end Go.Abs
end
section
/- SigBehind's walk. -/
set_option maxRecDepth 100000
set_option linter.unusedSimpArgs false
set_option linter.unusedVariables false
namespace Go.Abs
open Go Go.Proofs
mutual
theorem map_map {f g : Int → T} : ∀ (x : T), mapT f (mapT g x) = mapT (fun n => mapT f (g n)) x
  | .mk k n l => by
    simp only [mapT]
    by_cases hk : k = 1
    · rw [if_pos hk, if_pos hk]
    · rw [if_neg hk, if_neg hk]; simp only [mapT, if_neg hk]
      rw [maps_maps l]
theorem maps_maps {f g : Int → T} : ∀ (l : List T), mapTs f (mapTs g l) = mapTs (fun n => mapT f (g n)) l
  | [] => rfl
  | x :: r => by simp only [mapTs]; rw [map_map x, maps_maps r]
end
theorem tree_fv {t : T} (h : t.tree = true) : ∀ v ∈ t.fv, 0 ≤ v := fv_shaped t ((T.tree_iff t).1 h).2.2
theorem sub_sub {t : T} {l m : List T} (ht : t.tree = true) (hv : ∀ v ∈ t.fv, v < (l.length : Int)) : sub m (sub l t) = sub (l.map (sub m)) t := by
  unfold sub
  rw [map_map]
  refine map_ext t fun v h => ?_
  have h0 := tree_fv ht v h
  have h1 := hv v h
  have h2 : v.toNat < l.length := by omega
  simp [h2]
theorem sp_TT (x y : T) : asplice x.av.cells 0 y.av.cells = y.av.cells := by
  cases x; cases y; simp [T.av, AV.cells, asplice]
end Go.Abs
end
section
/- Normal. -/
set_option maxRecDepth 100000
set_option linter.unusedSimpArgs false
set_option linter.unusedVariables false
namespace Go.Abs
open Go Go.Proofs
/-- With a closure that reads objects. -/
theorem c82g {I : List AObj → Prop} (hI : ∀ H e, I H → I (H ++ e)) (g : Nat) (cap : List AV) (f : Int → T) (x : T) (hcap : cap.map AV.unown = cap) (hf : ∀ n H, I H → ACalls Tryz.prog g ([.int .i64 n] ++ cap) H fun r H' => r = (f n).av ∧ H' = H) (hs : x.shaped = true) :
    ∀ H, I H → ACalls Tryz.prog 82 [x.av, .fn (.func g) [] cap] H fun r H' => r = (mapT f x).av ∧ H' = H := by
  have ih : ∀ y ∈ x.l, ∀ H, I H → ACalls Tryz.prog 82 [y.av, .fn (.func g) [] cap] H fun r H' => r = (mapT f y).av ∧ H' = H := fun y hy => c82g hI g cap f y hcap hf ((shaped_kids hs).2 y hy)
  refine fun H hH => ok82.calls (by simp [fi82]) ?_
  simp only [fi82, ir82]
  have hl8 := (shaped_kids hs).1
  simp (contextual := true) (maxSteps := 1000000) only [hcap, stepsS, stepsT, stepsN, if_true, forall_const, ne_eq, implies_true, List.nil_append, List.append_nil, List.cons_append, List.length_cons, List.length_nil, Nat.reduceEqDiff, Nat.reduceAdd, Nat.reduceLT, Nat.reduceLeDiff, ↓reduceIte, reduceCtorEq, Int.reduceEq, Int.reduceLT]
  refine ⟨fun hk => scall_to (hf x.n _ (hI _ _ hH)) ?_, fun hk _ => ?_⟩
  · rintro r H' ⟨rfl, rfl⟩
    simp (contextual := true) (maxSteps := 1000000) only [stepsS, stepsT, stepsN, if_true, forall_const, ne_eq, implies_true, List.nil_append, List.append_nil, List.cons_append, List.length_cons, List.length_nil, Nat.reduceEqDiff, Nat.reduceAdd, Nat.reduceLT, Nat.reduceLeDiff, ↓reduceIte, reduceCtorEq, Int.reduceEq, Int.reduceLT]
    exact ret1v (T.av_blw _ _) (by rw [mapT_eq, if_pos hk])
  · refine swp_loop_nat x.l.length (fun _ => True) (fun i => [(1, .fn (.func g) [] cap), (4, .ptr H.length 0), (5, .ptr (H.length + 1) 0), (21, .lst 0 (avs x.l)), (22, .int .i64 x.l.length), (23, .int .i64 i)])
      (fun i => H ++ [.cells [.int .i64 0, .int .i64 0, .nils], .cells [.int .i64 x.k, .int .i64 x.n, outT (mapTs f (x.l.take i))]]) ⟨trivial, sle_refl _ _ _⟩ fun i hi hI' => ?_
    simp (contextual := true) (maxSteps := 1000000) only [outT_one, outT_blw, outT_drop, stepsS, stepsT, stepsN, if_true, forall_const, ne_eq, implies_true, List.nil_append, List.append_nil, List.cons_append, List.length_cons, List.length_nil, Nat.reduceEqDiff, Nat.reduceAdd, Nat.reduceLT, Nat.reduceLeDiff, ↓reduceIte, reduceCtorEq, Int.reduceEq, Int.reduceLT]
    refine ⟨fun hlt => ⟨len_lt hlt, ?_, ?_⟩, fun hge => ?_⟩
    · have hlt := len_lt hlt
      refine scall_to (ih _ (mem_getD hlt) _ (hI _ _ hH)) ?_
      rintro r H' ⟨rfl, rfl⟩
      simp (contextual := true) (maxSteps := 1000000) only [ap_outT, outT_snoc, outT_one, outT_blw, stepsS, stepsT, stepsN, if_true, forall_const, ne_eq, implies_true, List.nil_append, List.append_nil, List.cons_append, List.length_cons, List.length_nil, Nat.reduceEqDiff, Nat.reduceAdd, Nat.reduceLT, Nat.reduceLeDiff, ↓reduceIte, reduceCtorEq, Int.reduceEq, Int.reduceLT]
      refine ⟨by rw [mapTs_map]; simp; omega, i + 1, hlt, by omega, sle_eq (by rw [wrap_nat i (by omega)]) ?_⟩
      rw [mapTs_take f hlt]
    · have hlt := len_lt hlt
      refine scall_to (ih _ (mem_getD hlt) _ (hI _ _ hH)) ?_
      rintro r H' ⟨rfl, rfl⟩
      simp (contextual := true) (maxSteps := 1000000) only [ap_outT, outT_snoc, outT_one, outT_blw, stepsS, stepsT, stepsN, if_true, forall_const, ne_eq, implies_true, List.nil_append, List.append_nil, List.cons_append, List.length_cons, List.length_nil, Nat.reduceEqDiff, Nat.reduceAdd, Nat.reduceLT, Nat.reduceLeDiff, ↓reduceIte, reduceCtorEq, Int.reduceEq, Int.reduceLT]
      refine ⟨by rw [mapTs_map]; simp; omega, i + 1, hlt, by omega, sle_eq (by rw [wrap_nat i (by omega)]) ?_⟩
      rw [mapTs_take f hlt]
    · rw [List.take_of_length_le (len_nlt hge)]
      refine ret1v (by simp only [bw_agg, bl_cons, bw_int, bw_lst, avs_blw, bl_nil, Bool.and_self]) ?_
      rw [mapT_eq, if_neg hk]; rfl
termination_by SizeOf.sizeOf x
decreasing_by exact T.lt hy
/-- Numbers and where they stand. -/
def nums : Int → List Int → List (AV × AV)
  | _, [] => []
  | k, v :: r => (.int .i64 v, .int .i64 k) :: nums (k + 1) r
def pos : Int → List Int → Int → Int
  | _, [], _ => 0
  | k, v :: r, n => if n = v then k else pos (k + 1) r n
theorem afind_nums (n : Int) : ∀ (vs : List Int) (k : Int) (i : Nat), (n ∈ vs → ∃ j, afind 0 (.int .i64 n) (nums k vs) i = some (some (j, .int .i64 (pos k vs n)))) ∧ (n ∉ vs → afind 0 (.int .i64 n) (nums k vs) i = some none ∧ pos k vs n = 0)
  | [], k, i => ⟨fun h => (by cases h), fun _ => ⟨rfl, rfl⟩⟩
  | v :: r, k, i => by
    have ih := afind_nums n r (k + 1) (i + 1)
    simp only [nums, afind, keyEq, if_true]
    by_cases hv : n = v
    · subst hv
      simp [pos]
    · simp only [decide_eq_false hv, List.mem_cons, hv, false_or, pos, if_false]
      exact ih
theorem lk_nums (n : Int) (vs : List Int) (φ : AV → Prop) : lookupC (some (.map (nums 0 vs))) 0 (.int .i64 0) (.int .i64 n) false φ = φ (.int .i64 (pos 0 vs n)) := by
  have h := afind_nums n vs 0 0
  unfold lookupC
  by_cases hn : n ∈ vs
  · obtain ⟨j, hj⟩ := h.1 hn
    simp [hj, dr_int]
  · simp [(h.2 hn).1, (h.2 hn).2, keyEq, canon, abslice.canon, dr_int]
theorem nums_app (x : Int) : ∀ (vs : List Int) (k : Int), nums k (vs ++ [x]) = nums k vs ++ [(.int .i64 x, .int .i64 (k + vs.length))]
  | [], k => by simp [nums]
  | v :: r, k => by
    rw [List.cons_append, nums, nums, nums_app x r (k + 1), List.cons_append, List.length_cons]
    rw [show k + 1 + (r.length : Int) = k + ((r.length + 1 : Nat) : Int) by omega]
theorem ms_nums {n i : Int} {vs : List Int} (hn : n ∉ vs) (hi : i = vs.length) (id : Nat) (H : List AObj) (K : List AObj → Prop) : mapsetC (some (.map (nums 0 vs))) 0 id (.int .i64 n) (.int .i64 i) H K = K (H.set id (.map (nums 0 (vs ++ [n])))) := by
  have h := ((afind_nums n vs 0 0).2 hn).1
  unfold mapsetC
  simp only [h]
  simp [keyEq, bw_int, va_int, nums_app, canon, abslice.canon, dr_int, hi]
theorem c85 (vs : List Int) (id : Nat) (n : Int) (H : List AObj) (hH : H[id]? = some (.map (nums 0 vs))) :
    ACalls Tryz.prog 85 [.int .i64 n, .iptr (.map id)] H fun r H' => r = (T.mk 1 (pos 0 vs n) []).av ∧ H' = H := by
  have hid : id < H.length := (List.getElem?_eq_some_iff.1 hH).1
  have hH' : ∀ e, (H ++ e)[id]? = some (.map (nums 0 vs)) := fun e => by rw [List.getElem?_append_left hid, hH]
  refine ok85.calls (by simp [fi85]) ?_
  simp only [fi85, ir85]
  simp (contextual := true) (maxSteps := 1000000) only [hH', lk_nums, stepsS, stepsT, stepsN, if_true, forall_const, ne_eq, implies_true, List.nil_append, List.append_nil, List.cons_append, List.length_cons, List.length_nil, Nat.reduceEqDiff, Nat.reduceAdd, Nat.reduceLT, Nat.reduceLeDiff, ↓reduceIte, reduceCtorEq, Int.reduceEq, Int.reduceLT]
  exact ret1v (T.av_blw _ (.mk 1 (pos 0 vs n) [])) rfl
theorem c15 (a b : List T) (o o' : Nat) : Pure Tryz.prog 15 [.lst o (avs a), .lst o' (avs b)] (.bool (sames a b)) := by
  refine fun H => ok15.calls (by simp [fi15]) ?_
  simp only [fi15, ir15]
  simp (contextual := true) (maxSteps := 1000000) only [stepsS, stepsT, stepsN, if_true, forall_const, ne_eq, implies_true, List.nil_append, List.append_nil, List.cons_append, List.length_cons, List.length_nil, Nat.reduceEqDiff, Nat.reduceAdd, Nat.reduceLT, Nat.reduceLeDiff, ↓reduceIte, reduceCtorEq, Int.reduceEq, Int.reduceLT]
  refine fun _ _ => ⟨fun hne => ret0 rfl ?_, fun hl => ?_⟩
  · congr 1
    symm
    rw [Bool.eq_false_iff]
    intro h; rw [sames_iff] at h; subst h; exact hne rfl
  have hl : a.length = b.length := by omega
  refine swp_loop_nat a.length (fun i => sames (a.drop i) (b.drop i) = sames a b) (fun i => [(0, .lst o (avs a)), (1, .lst o' (avs b)), (5, .int .i64 i)]) (fun i => H) ⟨rfl, sle_refl _ _ _⟩ fun i hi hI => ?_
  simp (contextual := true) (maxSteps := 1000000) only [stepsS, stepsT, stepsN, if_true, forall_const, ne_eq, implies_true, List.nil_append, List.append_nil, List.cons_append, List.length_cons, List.length_nil, Nat.reduceEqDiff, Nat.reduceAdd, Nat.reduceLT, Nat.reduceLeDiff, ↓reduceIte, reduceCtorEq, Int.reduceEq, Int.reduceLT]
  intro _
  refine ⟨fun hlt => ⟨len_lt hlt, ?_⟩, fun hge => ?_⟩
  · have hlt := len_lt hlt
    have hlt2 : i < b.length := by omega
    rw [List.drop_eq_getElem_cons hlt, List.drop_eq_getElem_cons hlt2] at hI
    have e1 : a.getD i default = a[i] := by simp [hlt]
    have e2 : b.getD i default = b[i] := by simp [hlt2]
    rw [e1, e2]
    simp only [sames] at hI
    refine ⟨hlt2, dcall_pure (c14 _ _) ?_⟩
    cases hc : (a[i]).same (b[i]) with
    | false =>
      rw [hc, Bool.false_and] at hI
      simp (contextual := true) (maxSteps := 1000000) only [Bool.false_eq_true, stepsS, stepsT, stepsN, if_true, forall_const, ne_eq, implies_true, List.nil_append, List.append_nil, List.cons_append, List.length_cons, List.length_nil, Nat.reduceEqDiff, Nat.reduceAdd, Nat.reduceLT, Nat.reduceLeDiff, ↓reduceIte, reduceCtorEq, Int.reduceEq, Int.reduceLT]
      exact ret0 rfl (by rw [hI])
    | true =>
      rw [hc, Bool.true_and] at hI
      simp (contextual := true) (maxSteps := 1000000) only [stepsS, stepsT, stepsN, if_true, forall_const, ne_eq, implies_true, List.nil_append, List.append_nil, List.cons_append, List.length_cons, List.length_nil, Nat.reduceEqDiff, Nat.reduceAdd, Nat.reduceLT, Nat.reduceLeDiff, ↓reduceIte, reduceCtorEq, Int.reduceEq, Int.reduceLT]
      exact ⟨i + 1, ⟨hlt, hI⟩, by omega, sle_eq (by rw [wrap_nat i (by omega)]) rfl⟩
  · have hge := len_nlt hge
    rw [List.drop_of_length_le hge, List.drop_of_length_le (by omega)] at hI
    exact ret0 rfl (by rw [← hI]; rfl)
def posT (vs : List Int) (t : T) : T := ren (pos 0 vs) t
def nrmS (l : List T) : List T × List Int × Int := if treesB l = true then (l.map (posT (walkVs l [])), walkVs l [], 0) else ([], [], 4)
theorem walk_nodup_aux (n k : Int) (vs : List Int) (h : vs.Nodup) : (if k = 1 ∧ n ∉ vs then vs ++ [n] else vs).Nodup := by
  split
  · rename_i hc
    rw [List.nodup_append]
    refine ⟨h, by simp, fun a ha b hb => ?_⟩
    simp only [List.mem_cons, List.not_mem_nil, or_false] at hb
    subst hb
    intro e; subst e; exact hc.2 ha
  · exact h
mutual
theorem walkV_nodup : ∀ (x : T) (vs : List Int), vs.Nodup → (walkV x vs).Nodup
  | .mk k n l, vs, h => by
    simp only [walkV]
    exact walkVs_nodup l _ (walk_nodup_aux n k vs h)
theorem walkVs_nodup : ∀ (l : List T) (vs : List Int), vs.Nodup → (walkVs l vs).Nodup
  | [], vs, h => h
  | x :: r, vs, h => by simp only [walkVs]; exact walkVs_nodup r _ (walkV_nodup x vs h)
end
theorem nodup_take {vs : List Int} (h : vs.Nodup) {i : Nat} (hi : i < vs.length) : vs.getD i 0 ∉ vs.take i := by
  have h' : (vs.take i ++ (vs[i] :: vs.drop (i+1))).Nodup := by rw [← List.drop_eq_getElem_cons hi, List.take_append_drop]; exact h
  rw [List.nodup_append] at h'
  have e : vs.getD i 0 = vs[i] := by simp [hi]
  rw [e]
  intro hm
  exact h'.2.2 _ hm _ List.mem_cons_self rfl
theorem outT_un_le (l : List T) : (outT l).unown.le (.lst 0 (avs l)) := by
  cases l with
  | nil => exact .inr (.inr (.inr (.inl ⟨rfl, 0, rfl⟩)))
  | cons x r => exact .inl rfl
theorem ret3w {Hs G : List AObj} {n0 a b c : Nat} {u v w x y z : AV} {R : AV → List AObj → Prop} (hab : b ≠ a ∧ c ≠ a ∧ c ≠ b) (hH : Hs.take n0 = G) (hb : x.blw n0 = true ∧ y.blw n0 = true ∧ z.blw n0 = true)
    (hx : u.unown.le x) (hy : v.unown.le y) (hz : w.unown.le z) (hR : R (.tuple [x, y, z]) G) : aret n0 [.t a, .t b, .t c] [(a, u), (b, v), (c, w)] Hs R := by
  subst hH
  refine ⟨n0, Nat.le_refl _, [x, y, z], ?_, by simp only [belowL, hb.1, hb.2.1, hb.2.2, Bool.and_self], hR⟩
  simp only [gt_cons, if_neg hab.1, if_neg hab.2.1, if_neg hab.2.2, if_true, List.map]
  exact ⟨hx, hy, hz, trivial⟩
theorem c34 (l : List T) (hl : szs l ≤ 1000000) (hlen : l.length * 40 ≤ 140737488355328) : Pure Tryz.prog 34 [.lst 0 (avs l)] (.tuple [.lst 0 (avs (nrmS l).1), .lst 0 (ints (nrmS l).2.1), .int .i64 (nrmS l).2.2]) := by
  refine fun H => ok34.calls (by simp [fi34]) ?_
  simp only [fi34, ir34]
  simp (contextual := true) (maxSteps := 1000000) only [stepsS, stepsT, stepsN, if_true, forall_const, ne_eq, implies_true, List.nil_append, List.append_nil, List.cons_append, List.length_cons, List.length_nil, Nat.reduceEqDiff, Nat.reduceAdd, Nat.reduceLT, Nat.reduceLeDiff, ↓reduceIte, reduceCtorEq, Int.reduceEq, Int.reduceLT]
  refine scall_pure (c44 l) ?_
  cases hb : treesB l with
  | false =>
    simp (contextual := true) (maxSteps := 1000000) only [Bool.false_eq_true, stepsS, stepsT, stepsN, if_true, forall_const, ne_eq, implies_true, List.nil_append, List.append_nil, List.cons_append, List.length_cons, List.length_nil, Nat.reduceEqDiff, Nat.reduceAdd, Nat.reduceLT, Nat.reduceLeDiff, ↓reduceIte, reduceCtorEq, Int.reduceEq, Int.reduceLT]
    have e : nrmS l = ([], [], 4) := by rw [nrmS, if_neg (by rw [hb]; simp)]
    rw [e]
    exact ret3w (by decide) (by simp) ⟨rfl, rfl, rfl⟩ (.inr (.inr (.inr (.inl ⟨rfl, 0, rfl⟩)))) (.inr (.inr (.inr (.inl ⟨rfl, 0, rfl⟩)))) (.inl rfl) ⟨rfl, rfl⟩
  | true =>
    have e : nrmS l = (l.map (posT (walkVs l [])), walkVs l [], 0) := by rw [nrmS, if_pos hb]
    rw [e]
    have hwl := walkVs_len l []
    have hnd := walkVs_nodup l [] List.nodup_nil
    simp (contextual := true) (maxSteps := 1000000) only [stepsS, stepsT, stepsN, if_true, forall_const, ne_eq, implies_true, List.nil_append, List.append_nil, List.cons_append, List.length_cons, List.length_nil, Nat.reduceEqDiff, Nat.reduceAdd, Nat.reduceLT, Nat.reduceLeDiff, ↓reduceIte, reduceCtorEq, Int.reduceEq, Int.reduceLT]
    refine scall_pure (c81 l hl) ?_
    generalize walkVs l [] = vs at *
    simp only [List.length_nil] at hwl
    simp (contextual := true) (maxSteps := 1000000) only [stepsS, stepsT, stepsN, if_true, forall_const, ne_eq, implies_true, List.nil_append, List.append_nil, List.cons_append, List.length_cons, List.length_nil, Nat.reduceEqDiff, Nat.reduceAdd, Nat.reduceLT, Nat.reduceLeDiff, ↓reduceIte, reduceCtorEq, Int.reduceEq, Int.reduceLT]
    intro _
    refine swp_loop_nat vs.length (fun i => True)
      (fun i => [(0, .lst 0 (avs l)), (5, .lst 0 (ints vs)), (6, .iptr (.map H.length)), (18, .lst 0 (ints vs)), (19, .int .i64 vs.length), (20, .int .i64 i)])
      (fun i => H ++ [.map (nums 0 (vs.take i))]) ⟨trivial, sle_refl _ _ _⟩ fun i hi hI => ?_
    simp (contextual := true) (maxSteps := 1000000) only [stepsS, stepsT, stepsN, if_true, forall_const, ne_eq, implies_true, List.nil_append, List.append_nil, List.cons_append, List.length_cons, List.length_nil, Nat.reduceEqDiff, Nat.reduceAdd, Nat.reduceLT, Nat.reduceLeDiff, ↓reduceIte, reduceCtorEq, Int.reduceEq, Int.reduceLT]
    refine ⟨fun hlt => ⟨len_lt hlt, ?_⟩, fun hge => ?_⟩
    · have hlt := len_lt hlt
      rw [ms_nums (nodup_take hnd hlt) (by simp; omega)]
      simp (contextual := true) (maxSteps := 1000000) only [stepsS, stepsT, stepsN, if_true, forall_const, ne_eq, implies_true, List.nil_append, List.append_nil, List.cons_append, List.length_cons, List.length_nil, Nat.reduceEqDiff, Nat.reduceAdd, Nat.reduceLT, Nat.reduceLeDiff, ↓reduceIte, reduceCtorEq, Int.reduceEq, Int.reduceLT]
      refine ⟨i + 1, hlt, by omega, sle_eq (by rw [wrap_nat i (by omega)]) ?_⟩
      rw [List.take_add_one]; simp [hlt]
    rw [List.take_of_length_le (len_nlt hge)]
    simp (contextual := true) (maxSteps := 1000000) only [stepsS, stepsT, stepsN, if_true, forall_const, ne_eq, implies_true, List.nil_append, List.append_nil, List.cons_append, List.length_cons, List.length_nil, Nat.reduceEqDiff, Nat.reduceAdd, Nat.reduceLT, Nat.reduceLeDiff, ↓reduceIte, reduceCtorEq, Int.reduceEq, Int.reduceLT]
    intro _
    refine swp_loop_nat l.length (fun i => True)
      (fun i => [(5, .lst 0 (ints vs)), (6, .iptr (.map H.length)), (9, outT ((l.take i).map (posT vs))), (29, .lst 0 (avs l)), (30, .int .i64 l.length), (31, .int .i64 i)])
      (fun i => H ++ [.map (nums 0 vs)]) ⟨trivial, sle_refl _ _ _⟩ fun i hi hI => ?_
    simp (contextual := true) (maxSteps := 1000000) only [stepsS, stepsT, stepsN, if_true, forall_const, ne_eq, implies_true, List.nil_append, List.append_nil, List.cons_append, List.length_cons, List.length_nil, Nat.reduceEqDiff, Nat.reduceAdd, Nat.reduceLT, Nat.reduceLeDiff, ↓reduceIte, reduceCtorEq, Int.reduceEq, Int.reduceLT]
    refine ⟨fun hlt => ⟨len_lt hlt, ?_⟩, fun hge => ?_⟩
    · have hlt := len_lt hlt
      have hsh : (l.getD i default).shaped = true := ((T.tree_iff _).1 (List.all_eq_true.1 hb _ (mem_getD hlt))).2.2
      refine scall_to (c82g (I := fun G => G[H.length]? = some (.map (nums 0 vs))) (fun G e hG => by rw [List.getElem?_append_left (List.getElem?_eq_some_iff.1 hG).1]; exact hG) (g := 85) (cap := [.iptr (.map H.length)]) (fun n => .mk 1 (pos 0 vs n) []) _ rfl
        (fun n G hG => c85 vs H.length n G hG) hsh _ (by simp)) ?_
      rintro r H' ⟨rfl, rfl⟩
      simp (contextual := true) (maxSteps := 1000000) only [ap_outT, outT_snoc, outT_one, outT_blw, stepsS, stepsT, stepsN, if_true, forall_const, ne_eq, implies_true, List.nil_append, List.append_nil, List.cons_append, List.length_cons, List.length_nil, Nat.reduceEqDiff, Nat.reduceAdd, Nat.reduceLT, Nat.reduceLeDiff, ↓reduceIte, reduceCtorEq, Int.reduceEq, Int.reduceLT]
      refine ⟨by simp; omega, i + 1, hlt, by omega, sle_eq ?_ rfl⟩
      rw [wrap_nat i (by omega), List.take_add_one, List.map_append]
      simp [hlt, posT, ren]
    · rw [List.take_of_length_le (len_nlt hge)]
      simp (contextual := true) (maxSteps := 1000000) only [stepsS, stepsT, stepsN, if_true, forall_const, ne_eq, implies_true, List.nil_append, List.append_nil, List.cons_append, List.length_cons, List.length_nil, Nat.reduceEqDiff, Nat.reduceAdd, Nat.reduceLT, Nat.reduceLeDiff, ↓reduceIte, reduceCtorEq, Int.reduceEq, Int.reduceLT]
      have eu : (outT (l.map (posT vs))).unown.unown = (outT (l.map (posT vs))).unown := by cases (l.map (posT vs)) <;> rfl
      refine ret3w (x := .lst 0 (avs (l.map (posT vs)))) (y := .lst 0 (ints vs)) (z := .int .i64 0) (by decide) (by simp) ⟨by simp only [bw_lst, avs_blw], by simp only [bw_lst, ints_blw], rfl⟩ ?_ (.inl rfl) (.inl rfl) ⟨rfl, rfl⟩
      rw [eu, eu]
      exact outT_un_le _
end Go.Abs
end
section
/- Normal, in one's head. -/
set_option maxRecDepth 100000
set_option linter.unusedSimpArgs false
set_option linter.unusedVariables false
set_option linter.unusedSectionVars false
namespace Go.Abs
open Go Go.Proofs
theorem mem_walk0 (l : List T) (v : Int) : v ∈ walkVs l [] ↔ v ∈ fvs l := by rw [mem_walkVs]; simp
/-! ### Where a number stands -/
/-! ### Normal -/
section
variable {l : List T} (hb : treesB l = true)
include hb
end
end Go.Abs
end
section
/- Lists of trees that are written, and match. -/
set_option maxRecDepth 100000
set_option linter.unusedSimpArgs false
set_option linter.unusedVariables false
namespace Go.Abs
open Go Go.Proofs
/-- An object that holds trees, one behind the other. -/
def objL (l : List T) : AObj := .cells (flat (avs l))
theorem flat_cons (x : T) (l : List T) : flat (avs (x :: l)) = x.av.cells ++ flat (avs l) := rfl
theorem flat_len : ∀ l : List T, (flat (avs l)).length = l.length * 3
  | [] => rfl
  | x :: r => by rw [flat_cons, List.length_append, T.av_clen, flat_len r, List.length_cons]; omega
theorem flat_splice (x : T) : ∀ (l : List T) (i : Nat), i < l.length → asplice (flat (avs l)) (i * 3) x.av.cells = flat (avs (l.set i x))
  | [], i, h => by simp at h
  | y :: r, 0, _ => by
    unfold asplice
    simp only [List.set_cons_zero, flat_cons, Nat.zero_mul, List.take_zero, List.nil_append, Nat.zero_add]
    rw [show x.av.cells.length = y.av.cells.length by rw [T.av_clen, T.av_clen], List.drop_left]
  | y :: r, i + 1, h => by
    have ih := flat_splice x r i (by simpa using h)
    unfold asplice at ih ⊢
    rw [List.set_cons_succ, flat_cons, flat_cons, ← ih]
    rw [show (i + 1) * 3 = y.av.cells.length + i * 3 by rw [T.av_clen]; omega, List.take_append, List.drop_append]
    simp only [T.av_clen]
    rw [List.append_assoc]
    congr 1
    · rw [List.take_of_length_le (by rw [T.av_clen]; omega)]
    · rw [show 3 + i * 3 - 3 = i * 3 by omega, List.drop_of_length_le (by rw [T.av_clen]; omega), List.nil_append, show 3 + i * 3 + 3 - 3 = i * 3 + 3 by omega]
theorem storeL {l : List T} {i : Nat} (h : i < l.length) (x : T) (id : Nat) (H : List AObj) (K : List AObj → Prop) : storeC (some (objL l)) 3 id (i * 3) x.av H K = K (H.set id (objL (l.set i x))) := by
  simp only [objL, storeC, T.av_val, T.av_clen, flat_len, T.av_one, T.cells_unown, flat_splice x l i h, bl_T, true_and, eq_iff_iff]
  constructor
  · exact fun h => h.2
  · exact fun h2 => ⟨by omega, h2⟩
theorem idx_arr (id N c i : Nat) (k : IntKind) (φ : AV → Prop) : aindexAddr 3 (.arr id 0 N c) (.int k (i : Int)) φ = (i < N ∧ φ (.ptr id (i * 3))) := by
  simp only [aindexAddr, Int.toNat_natCast, Nat.zero_add, eq_iff_iff]
  constructor
  · rintro ⟨_, h⟩; exact h
  · exact fun h => ⟨by omega, h⟩
theorem un_arr' (id N c o : Nat) : (AV.arr id o N c).unown = .arr id o N c := rfl
theorem rep_flat (n : Nat) : flat (List.replicate n (zcanon (.agg [.int .i64 0, .int .i64 0, .nils]))) = flat (avs (List.replicate n T0)) := by
  induction n with
  | zero => rfl
  | succ n ih => rw [List.replicate_succ, List.replicate_succ, flat_cons, ← ih]; rfl
end Go.Abs
end
section
/- The functions' code, read another way. -/
set_option maxRecDepth 100000
namespace Go.Abs
open Go Go.Proofs
end Go.Abs
end
section
/- Match. -/
set_option maxRecDepth 100000
set_option linter.unusedSimpArgs false
set_option linter.unusedVariables false
namespace Go.Abs
open Go Go.Proofs
theorem gd_T2 (x : T) : x.av.cells.getD 2 .any = .lst 0 (avs x.l) := by cases x; rfl
end Go.Abs
end
section
/- ref.Subst. -/
set_option maxRecDepth 100000
set_option linter.unusedSimpArgs false
set_option linter.unusedVariables false
namespace Go.Abs
open Go Go.Proofs
theorem c53 (t : T) : Pure Tryz.prog 53 [t.av] (.tuple [(boundS t).1.av, .int .i64 (boundS t).2]) := by
  refine fun H => ok53.calls (by simp [fi53]) ?_
  simp only [fi53, ir53]
  simp (contextual := true) (maxSteps := 1000000) only [stepsS, stepsT, stepsN, if_true, forall_const, ne_eq, implies_true, List.nil_append, List.append_nil, List.cons_append, List.length_cons, List.length_nil, Nat.reduceEqDiff, Nat.reduceAdd, Nat.reduceLT, Nat.reduceLeDiff, ↓reduceIte, reduceCtorEq, Int.reduceEq, Int.reduceLT]
  refine scall_pure (c49' t) ?_
  cases h : t.tree with
  | true =>
    simp (contextual := true) (maxSteps := 1000000) only [stepsS, stepsT, stepsN, if_true, forall_const, ne_eq, implies_true, List.nil_append, List.append_nil, List.cons_append, List.length_cons, List.length_nil, Nat.reduceEqDiff, Nat.reduceAdd, Nat.reduceLT, Nat.reduceLeDiff, ↓reduceIte, reduceCtorEq, Int.reduceEq, Int.reduceLT]
    exact ret2v (T.av_blw _ _) rfl (by rw [boundS, if_pos h]; exact t.av_unown) (by rw [boundS, if_pos h]; rfl)
  | false =>
    simp (contextual := true) (maxSteps := 1000000) only [stepsS, stepsT, stepsN, if_true, forall_const, ne_eq, implies_true, List.nil_append, List.append_nil, List.cons_append, List.length_cons, List.length_nil, Nat.reduceEqDiff, Nat.reduceAdd, Nat.reduceLT, Nat.reduceLeDiff, ↓reduceIte, reduceCtorEq, Int.reduceEq, Int.reduceLT]
    exact ret2v (T.av_blw _ _) rfl (by rw [boundS, if_neg (by rw [h]; simp)]; rfl) (by rw [boundS, if_neg (by rw [h]; simp)]; rfl)
end Go.Abs
end
section
/- Match, in one's head. -/
set_option maxRecDepth 100000
set_option linter.unusedSimpArgs false
set_option linter.unusedVariables false
namespace Go.Abs
open Go Go.Proofs
/-- What is there stays. -/
def keeps (l l' : List T) : Prop := ∀ i, (l.getD i default).k ≠ 0 → l'.getD i default = l.getD i default
theorem keeps.refl (l : List T) : keeps l l := fun i _ => rfl
theorem keeps.trans {a b c : List T} (h1 : keeps a b) (h2 : keeps b c) : keeps a c := fun i h => by
  rw [h2 i (by rw [h1 i h]; exact h), h1 i h]
end Go.Abs
end
section
/- SigInstances' walk. -/
set_option maxRecDepth 100000
set_option linter.unusedSimpArgs false
set_option linter.unusedVariables false
namespace Go.Abs
open Go Go.Proofs
theorem flatL_one : ∀ (l : List T), (flat (avs l)).all AV.one = true
  | [] => rfl
  | x :: r => by rw [flat_cons, List.all_append, T.av_one, flatL_one r]; rfl
def IR.hd : IR → IR | .seq a _ => a | x => x
def IR.tl : IR → IR | .seq _ b => b | x => x
end Go.Abs
end
section
/- At: what stands at a place. -/
set_option maxRecDepth 100000
set_option linter.unusedSimpArgs false
set_option linter.unusedVariables false
namespace Go.Abs
open Go Go.Proofs
/-- What stands at a place. -/
def atT : T → List Int → Option T
  | t, [] => some t
  | t, i :: r => if i < 0 ∨ (t.l.length : Int) ≤ i then none else atT (t.l.getD i.toNat default) r
theorem atT_drop {t : T} {p : List Int} {i : Nat} (h : i < p.length) : atT t (p.drop i) = if p.getD i 0 < 0 ∨ (t.l.length : Int) ≤ p.getD i 0 then none else atT (t.l.getD (p.getD i 0).toNat default) (p.drop (i + 1)) := by
  rw [List.drop_eq_getElem_cons h, atT]
  have e : p.getD i 0 = p[i] := by simp [h]
  rw [e]
theorem c77 (t : T) (p : List Int) : Pure Tryz.prog 77 [t.av, .lst 0 (ints p)] (.tuple [((atT t p).getD T0).av, .bool (atT t p).isSome]) := by
  refine fun H => ok77.calls (by simp [fi77]) ?_
  simp only [fi77, ir77]
  simp (contextual := true) (maxSteps := 1000000) only [stepsS, stepsT, stepsN, if_true, forall_const, ne_eq, implies_true, List.nil_append, List.append_nil, List.cons_append, List.length_cons, List.length_nil, Nat.reduceEqDiff, Nat.reduceAdd, Nat.reduceLT, Nat.reduceLeDiff, ↓reduceIte, reduceCtorEq, Int.reduceEq, Int.reduceLT]
  intro hp
  refine swp_loop_st p.length (fun i (s : T) => atT s (p.drop i) = atT t p)
    (fun i s => [(2, .ptr H.length 0), (4, .ptr (H.length + 1) 0), (8, .lst 0 (ints p)), (9, .int .i64 p.length), (10, .int .i64 i)]) (fun i s => H ++ [.cells s.av.cells, .cells [.int .i64 0, .int .i64 0, .nils]]) t ⟨rfl, sle_refl _ _ _⟩ fun i s hi hI => ?_
  simp (contextual := true) (maxSteps := 1000000) only [gd_T2, stepsS, stepsT, stepsN, if_true, forall_const, ne_eq, implies_true, List.nil_append, List.append_nil, List.cons_append, List.length_cons, List.length_nil, Nat.reduceEqDiff, Nat.reduceAdd, Nat.reduceLT, Nat.reduceLeDiff, ↓reduceIte, reduceCtorEq, Int.reduceEq, Int.reduceLT]
  refine ⟨fun hlt => ⟨len_lt hlt, fun hk0 _ => ⟨fun hk1 => ?_, fun hk1 => ?_⟩, fun hk0 => ?_⟩, fun hge => ?_⟩
  · have hlt := len_lt hlt
    rw [atT_drop hlt, if_pos (.inr hk1)] at hI
    rw [← hI]
    exact ret2w (G := H) (by simp) (T.av_blw _ T0) rfl rfl rfl ⟨rfl, rfl⟩
  · have hlt := len_lt hlt
    rw [atT_drop hlt, if_neg (by omega)] at hI
    generalize p.getD i 0 = k at *
    obtain ⟨m, rfl⟩ := Int.eq_ofNat_of_zero_le hk0
    have hm : m < s.l.length := by omega
    rw [Int.toNat_natCast] at hI
    simp (contextual := true) (maxSteps := 1000000) only [gd_T2, sp_TT, stepsS, stepsT, stepsN, if_true, forall_const, ne_eq, implies_true, List.nil_append, List.append_nil, List.cons_append, List.length_cons, List.length_nil, Nat.reduceEqDiff, Nat.reduceAdd, Nat.reduceLT, Nat.reduceLeDiff, ↓reduceIte, reduceCtorEq, Int.reduceEq, Int.reduceLT]
    refine ⟨hm, i + 1, s.l.getD m default, ⟨hlt, hI⟩, by omega, sle_eq (by rw [wrap_nat i (by omega)]) rfl⟩
  · have hlt := len_lt hlt
    rw [atT_drop hlt, if_pos (.inl (by omega))] at hI
    rw [← hI]
    exact ret2w (G := H) (by simp) (T.av_blw _ T0) rfl rfl rfl ⟨rfl, rfl⟩
  · rw [List.drop_of_length_le (len_nlt hge)] at hI
    simp only [atT] at hI
    rw [← hI]
    exact ret2w (G := H) (by simp) (T.av_blw _ s) rfl (T.av_unown _) rfl ⟨rfl, rfl⟩
def AtS (t : T) (p : List Int) : T × Int := if t.tree = true then (match atT t p with | some x => (x, 0) | none => (T0, 41)) else (T0, 4)
theorem atT_shaped : ∀ (p : List Int) {t x : T}, t.shaped = true → atT t p = some x → x.shaped = true
  | [], t, x, h, e => by simp only [atT] at e; cases e; exact h
  | i :: r, t, x, h, e => by
    simp only [atT] at e
    split at e
    · cases e
    · exact atT_shaped r ((shaped_kids h).2 _ (mem_getD (by omega))) e
theorem c28 (t : T) (p : List Int) : Pure Tryz.prog 28 [t.av, .lst 0 (ints p)] (.tuple [(AtS t p).1.av, .int .i64 (AtS t p).2]) := by
  refine fun H => ok28.calls (by simp [fi28]) ?_
  simp only [fi28, ir28]
  simp (contextual := true) (maxSteps := 1000000) only [stepsS, stepsT, stepsN, if_true, forall_const, ne_eq, implies_true, List.nil_append, List.append_nil, List.cons_append, List.length_cons, List.length_nil, Nat.reduceEqDiff, Nat.reduceAdd, Nat.reduceLT, Nat.reduceLeDiff, ↓reduceIte, reduceCtorEq, Int.reduceEq, Int.reduceLT]
  refine scall_pure (c43 t) ?_
  cases ht : t.tree with
  | false =>
    have e : AtS t p = (T0, 4) := by rw [AtS, if_neg (by rw [ht]; simp)]
    rw [e]
    simp (contextual := true) (maxSteps := 1000000) only [Bool.false_eq_true, stepsS, stepsT, stepsN, if_true, forall_const, ne_eq, implies_true, List.nil_append, List.append_nil, List.cons_append, List.length_cons, List.length_nil, Nat.reduceEqDiff, Nat.reduceAdd, Nat.reduceLT, Nat.reduceLeDiff, ↓reduceIte, reduceCtorEq, Int.reduceEq, Int.reduceLT]
    exact ret2w (G := H) (by simp) (T.av_blw _ T0) rfl rfl rfl ⟨rfl, rfl⟩
  | true =>
    have hs := ((T.tree_iff t).1 ht).2.2
    simp (contextual := true) (maxSteps := 1000000) only [stepsS, stepsT, stepsN, if_true, forall_const, ne_eq, implies_true, List.nil_append, List.append_nil, List.cons_append, List.length_cons, List.length_nil, Nat.reduceEqDiff, Nat.reduceAdd, Nat.reduceLT, Nat.reduceLeDiff, ↓reduceIte, reduceCtorEq, Int.reduceEq, Int.reduceLT]
    refine scall_pure (c77 t p) ?_
    have e : AtS t p = (match atT t p with | some x => (x, 0) | none => (T0, 41)) := by rw [AtS, if_pos ht]
    have hx := fun x => @atT_shaped p t x hs
    cases ha : atT t p with
    | none =>
      rw [ha] at e
      rw [e]
      simp (contextual := true) (maxSteps := 1000000) only [Bool.false_eq_true, Option.isSome, Option.getD, stepsS, stepsT, stepsN, if_true, forall_const, ne_eq, implies_true, List.nil_append, List.append_nil, List.cons_append, List.length_cons, List.length_nil, Nat.reduceEqDiff, Nat.reduceAdd, Nat.reduceLT, Nat.reduceLeDiff, ↓reduceIte, reduceCtorEq, Int.reduceEq, Int.reduceLT]
      exact ret2w (G := H) (by simp) (T.av_blw _ T0) rfl rfl rfl ⟨rfl, rfl⟩
    | some x =>
      rw [ha] at e
      rw [e]
      simp (contextual := true) (maxSteps := 1000000) only [Option.isSome, Option.getD, stepsS, stepsT, stepsN, if_true, forall_const, ne_eq, implies_true, List.nil_append, List.append_nil, List.cons_append, List.length_cons, List.length_nil, Nat.reduceEqDiff, Nat.reduceAdd, Nat.reduceLT, Nat.reduceLeDiff, ↓reduceIte, reduceCtorEq, Int.reduceEq, Int.reduceLT]
      refine scall_pure (c56 x (hx x ha)) ?_
      simp (contextual := true) (maxSteps := 1000000) only [sp_TT, stepsS, stepsT, stepsN, if_true, forall_const, ne_eq, implies_true, List.nil_append, List.append_nil, List.cons_append, List.length_cons, List.length_nil, Nat.reduceEqDiff, Nat.reduceAdd, Nat.reduceLT, Nat.reduceLeDiff, ↓reduceIte, reduceCtorEq, Int.reduceEq, Int.reduceLT]
      exact ret2w (G := H) (by simp) (T.av_blw _ x) rfl (T.av_unown _) rfl ⟨rfl, rfl⟩
end Go.Abs
end
section
/- Lists of trees that stay objects: appended to. -/
set_option maxRecDepth 100000
set_option linter.unusedSimpArgs false
set_option linter.unusedVariables false
namespace Go.Abs
open Go Go.Proofs
theorem flat_avs_app (a b : List T) : flat (avs (a ++ b)) = flat (avs a) ++ flat (avs b) := by
  induction a with
  | nil => rfl
  | cons x r ih => rw [List.cons_append, flat_cons, flat_cons, ih, List.append_assoc]
theorem flat_avs_unown : ∀ (l : List T), (flat (avs l)).map AV.unown = flat (avs l)
  | [] => rfl
  | x :: r => by rw [flat_cons, List.map_append, T.cells_unown, flat_avs_unown r]
theorem flat_avs_blw (n : Nat) : ∀ (l : List T), belowL n (flat (avs l)) = true
  | [] => rfl
  | x :: r => by rw [flat_cons, belowL_append, bl_T, flat_avs_blw n r]; exact ⟨rfl, rfl⟩
theorem flat_avs_take : ∀ (l : List T) (n : Nat), (flat (avs l)).take (n * 3) = flat (avs (l.take n))
  | [], n => by simp [flat, avs]
  | x :: r, 0 => by simp [flat, avs]
  | x :: r, n + 1 => by
    rw [List.take_succ_cons, flat_cons, flat_cons, ← flat_avs_take r n, show (n + 1) * 3 = x.av.cells.length + n * 3 by rw [T.av_clen]; omega, List.take_length_add_append]
theorem flat_avs_drop : ∀ (l : List T) (n : Nat), (flat (avs l)).drop (n * 3) = flat (avs (l.drop n))
  | [], n => by simp [flat, avs]
  | x :: r, 0 => by simp
  | x :: r, n + 1 => by
    rw [List.drop_succ_cons, flat_cons, ← flat_avs_drop r n, show (n + 1) * 3 = x.av.cells.length + n * 3 by rw [T.av_clen]; omega, List.drop_length_add_append]
/-- A value that stands for a list of trees that is an object (at base or behind it), or for none. -/
def RL (base : Nat) (v : AV) (l : List T) (G : List AObj) : Prop :=
  (l = [] ∧ v = .nils) ∨ ∃ id l', base ≤ id ∧ v = .arr id 0 l.length l'.length ∧ G[id]? = some (objL l') ∧ l.length ≤ l'.length ∧ l'.take l.length = l
theorem RL.one {base : Nat} {v : AV} {l : List T} {G : List AObj} (h : RL base v l G) : v.one = true ∧ v.val = true ∧ v.unown = v ∧ v.cells = [v] := by
  rcases h with ⟨_, rfl⟩ | ⟨id, l', _, rfl, _⟩ <;> exact ⟨rfl, rfl, rfl, rfl⟩
theorem RL.blw {base : Nat} {v : AV} {l : List T} {G : List AObj} (h : RL base v l G) {n : Nat} (hn : G.length ≤ n) : v.blw n = true := by
  rcases h with ⟨_, rfl⟩ | ⟨id, l', _, rfl, c, _⟩
  · rfl
  · have := (List.getElem?_eq_some_iff.1 c).1
    rw [bw_arr]; simp; omega
theorem apad_T (n : Nat) : apad (.agg [.int .i64 0, .int .i64 0, .nils]) n = flat (avs (List.replicate n T0)) := rep_flat n
/-- To append. -/
theorem appendRL {base : Nat} {v : AV} {l : List T} {G : List AObj} (h : RL base v l G) (o : Nat) (ys : List T) (hy : ys ≠ []) (hb : (l.length + ys.length) * 40 ≤ 140737488355328) (hG : base ≤ G.length) {K : AV → List AObj → Prop}
    (hK : ∀ v' G', RL base v' (l ++ ys) G' → (∀ j, j < base → G'[j]? = G[j]?) → G'.take base = G.take base → G.length ≤ G'.length → K v' G') : aappendA 3 40 (.agg [.int .i64 0, .int .i64 0, .nils]) v (.lst o (avs ys)) G K := by
  have hok : okE 3 (avs ys) := of_eq_true (ok_avs ys)
  have hlen : (avs ys).length = ys.length := avs_len ys
  unfold aappendA
  simp only [rlist]
  refine ⟨hok, ?_⟩
  rcases h with ⟨rfl, rfl⟩ | ⟨id, l', hid, rfl, hg, hle, htk⟩
  · simp only [hlen]
    refine ⟨by simpa using hb, fun e => ?_, fun _ cap hc _ => ⟨?_, hK _ _ (.inr ⟨G.length, ys ++ List.replicate (cap - ys.length) T0, hG, ?_, ?_, by simp, by simp⟩) ?_ ?_ (by simp)⟩⟩
    · exfalso
      apply hy
      cases ys with
      | nil => rfl
      | cons a b => simp [avs] at e
    · rw [flat_avs_unown, apad_T, belowL_append, flat_avs_blw, flat_avs_blw]; exact ⟨rfl, rfl⟩
    · simp; omega
    · rw [flat_avs_unown, apad_T, ← flat_avs_app]; simp [objL]
    · intro j hj
      rw [List.getElem?_append_left (by omega)]
    · rw [List.take_append_of_le_length hG]
  · simp only [hg, objL, hlen, flat_len, Nat.zero_add, List.drop_zero]
    have hgl := (List.getElem?_eq_some_iff.1 hg).1
    refine ⟨hb, hle, Nat.le_refl _, fun hroom => ⟨?_, ?_⟩, fun hno cap' hc _ => ⟨?_, ?_⟩⟩
    · rw [flat_avs_unown, flat_avs_blw]
    · have e1 : asplice (flat (avs l')) (l.length * 3) ((flat (avs ys)).map AV.unown) = flat (avs (l'.take l.length ++ ys ++ l'.drop (l.length + ys.length))) := by
        rw [flat_avs_unown, asplice, flat_avs_take, flat_len, show l.length * 3 + ys.length * 3 = (l.length + ys.length) * 3 by omega, flat_avs_drop, flat_avs_app, flat_avs_app, List.append_assoc]
      rw [e1]
      have el : (l'.take l.length ++ ys ++ l'.drop (l.length + ys.length)).length = l'.length := by simp; omega
      refine hK _ _ (.inr ⟨id, _, hid, ?_, by rw [List.getElem?_set_self hgl]; rfl, ?_, ?_⟩) ?_ ?_ (by simp)
      · rw [el]; simp
      · rw [el]; simp; omega
      · rw [htk, List.take_append_of_le_length (by simp)]; exact List.take_of_length_le (by simp)
      · intro j hj
        rw [List.getElem?_set_ne (by omega)]
      · rw [List.take_set_of_le (by omega)]
    · rw [flat_avs_unown, apad_T, flat_avs_take, htk, flat_avs_unown, belowL_append, belowL_append, flat_avs_blw, flat_avs_blw, flat_avs_blw]; exact ⟨⟨rfl, rfl⟩, rfl⟩
    · refine hK _ _ (.inr ⟨G.length, l ++ ys ++ List.replicate (cap' - (l.length + ys.length)) T0, hG, ?_, ?_, by simp, by rw [List.take_append_of_le_length (by simp)]; exact List.take_of_length_le (by simp)⟩) ?_ ?_ (by simp)
      · simp; omega
      · rw [flat_avs_unown, apad_T, flat_avs_take, htk, flat_avs_unown, ← flat_avs_app, ← flat_avs_app]; simp [objL]
      · intro j hj
        rw [List.getElem?_append_left (by omega)]
      · rw [List.take_append_of_le_length hG]
end Go.Abs
end
section
/- The functions' code, read another way. -/
set_option maxRecDepth 100000
namespace Go.Abs
open Go Go.Proofs
/-- madrigal/sig.copied -/
def ir56w : IR := (.seq (.region [⟨none,some 1,(.boxi (.t 0))⟩,⟨none,some 2,(.alloc (.agg [(.int .i64 0),(.int .i64 0),.nils]))⟩] (.some [1,2])) (.seq (.region [⟨none,some 3,(.load (.some 3) (.t 1))⟩,⟨none,some 4,(.call (.c (.fn (.func 82) [] [])) [(.t 3),(.c (.fn (.func 102) [] []))] .none)⟩,⟨none,none,(.storeW 3 (.t 2) (.t 4))⟩] (.some [2])) .ret))
def fi56w : FunI := ⟨5,ir56w,[(.c 2 (.some 3))]⟩
theorem ok56w : FunOk Tryz.prog 56 fi56w := ⟨Tryz.call56,Tryz.f56,_,[(0,0,1),(1,2,2)],[(0,[1,2]),(1,[2])],[],Tryz.func56,rfl,Tryz.ntmps56,by kernel_rfl,by kernel_rfl⟩
/-- madrigal/sig.put -/
def ir79w : IR := (.seq (.region [⟨none,some 3,(.boxi (.t 0))⟩,⟨none,some 5,(.boxi (.t 2))⟩,⟨none,some 6,(.alloc (.agg [(.int .i64 0),(.int .i64 0),.nils]))⟩] (.some [1,3,5,6])) (.seq (.seq (.region [⟨none,some 8,(.set (.t 1) false)⟩,⟨none,some 9,(.len 1 (.t 8))⟩,⟨none,some 10,(.bin .eql (.t 9) (.c (.int .i64 0)))⟩] (.some [1,3,5,6,10])) (.cond (.t 10) (.seq (.region [⟨none,some 11,(.load (.some 3) (.t 5))⟩,⟨none,some 12,(.call (.c (.fn (.func 56) [] [])) [(.t 11)] .none)⟩,⟨none,none,(.store 3 (.t 6) (.t 12))⟩] (.some [6])) .ret) .skip)) (.seq (.region [⟨none,some 13,(.load (.some 3) (.t 3))⟩,⟨none,some 14,(.call (.c (.fn (.func 56) [] [])) [(.t 13)] .none)⟩,⟨none,some 7,(.boxs 3 (.t 14))⟩] (.some [1,3,5,6,7])) (.seq (.draw (.take .true ⟨none,some 20,(.fieldAddr 2 .none (.t 3))⟩ (.take .true ⟨none,some 21,(.load .none (.t 20))⟩ (.take .true ⟨none,some 22,(.set (.t 1) false)⟩ (.take .true ⟨none,some 23,(.indexAddr 1 (.t 22) (.c (.int .i64 0)))⟩ (.take .true ⟨none,some 24,(.load .none (.t 23))⟩ (.take .true ⟨none,some 25,(.indexAddr 3 (.t 21) (.t 24))⟩ (.take .true ⟨none,some 26,(.load (.some 3) (.t 25))⟩ (.take .true ⟨none,some 27,(.set (.t 1) false)⟩ (.take .true ⟨none,some 28,(.slice 1 (.t 27) (.some (.c (.int .i64 1))) .none .none)⟩ (.take .true ⟨none,some 29,(.load (.some 3) (.t 5))⟩ (.take .true ⟨none,some 30,(.call (.c (.fn (.func 79) [] [])) [(.t 26),(.t 28),(.t 29)] .none)⟩ (.take .true ⟨none,some 15,(.fieldAddr 2 .none (.t 7))⟩ (.take .true ⟨none,some 16,(.load .none (.t 15))⟩ (.take .true ⟨none,some 17,(.set (.t 1) false)⟩ (.take .true ⟨none,some 18,(.indexAddr 1 (.t 17) (.c (.int .i64 0)))⟩ (.take .true ⟨none,some 19,(.load .none (.t 18))⟩ (.take .true ⟨none,some 31,(.indexAddr 3 (.t 16) (.t 19))⟩ (.br ⟨none,none,(.store 3 (.t 31) (.t 30))⟩ .done .nil)))))))))))))))))) (.some [6,7])) (.seq (.region [⟨none,some 32,(.loadf (.some 3) 3 (.t 7))⟩,⟨none,none,(.store 3 (.t 6) (.t 32))⟩] (.some [6])) .ret)))))
def fi79w : FunI := ⟨33,ir79w,[(.c 6 (.some 3))]⟩
theorem ok79w : FunOk Tryz.prog 79 fi79w := ⟨Tryz.call79,Tryz.f79,_,[(0,0,1),(0,1,1),(3,2,1000),(5,0,3003)],[(0,[1,3,5,6]),(1,[1,3,5,6,10]),(2,[6]),(3,[1,3,5,6,7]),(4,[6,7]),(5,[6])],[(4,(.take 5 true (.take 6 true (.take 7 true (.take 8 true (.take 9 true (.take 10 true (.take 11 true (.take 12 true (.take 13 true (.take 14 true (.take 15 true (.take 0 true (.take 1 true (.take 2 true (.take 3 true (.take 4 true (.take 16 true (.br 17 .done .nil)))))))))))))))))))],Tryz.func79,rfl,Tryz.ntmps79,by kernel_rfl,by kernel_rfl⟩
/-- madrigal/sig.mapped -/
def ir82w : IR := (.seq (.region [⟨none,some 2,(.boxi (.t 0))⟩,⟨none,some 4,(.alloc (.agg [(.int .i64 0),(.int .i64 0),.nils]))⟩] (.some [1,2,4])) (.seq (.seq (.region [⟨none,some 8,(.fieldAddr 0 .none (.t 2))⟩,⟨none,some 9,(.load .none (.t 8))⟩,⟨none,some 10,(.bin .eql (.t 9) (.c (.int .i64 1)))⟩] (.some [1,2,4,10])) (.cond (.t 10) (.seq (.region [⟨none,some 11,(.set (.t 1) false)⟩,⟨none,some 12,(.fieldAddr 1 .none (.t 2))⟩,⟨none,some 13,(.load .none (.t 12))⟩,⟨none,some 14,(.call (.t 11) [(.t 13)] (.some 1999))⟩,⟨none,none,(.store 3 (.t 4) (.t 14))⟩] (.some [4])) .ret) .skip)) (.seq (.region [⟨none,some 15,(.fieldAddr 0 .none (.t 2))⟩,⟨none,some 16,(.load .none (.t 15))⟩,⟨none,some 17,(.fieldAddr 1 .none (.t 2))⟩,⟨none,some 18,(.load .none (.t 17))⟩,⟨none,some 19,(.build (.agg [(.int .i64 0),(.int .i64 0),.nils]) [(0,(1,(.t 16))),(1,(1,(.t 18)))])⟩,⟨none,some 5,(.alloc (.agg [(.int .i64 0),(.int .i64 0),.nils]))⟩,⟨none,none,(.store 3 (.t 5) (.t 19))⟩] (.some [1,2,4,5])) (.seq (.seq (.region [⟨none,some 20,(.fieldAddr 2 .none (.t 2))⟩,⟨none,some 21,(.load .none (.t 20))⟩,⟨none,some 22,(.len 1 (.t 21))⟩,⟨none,some 23,(.set (.c (.int .i64 0)) false)⟩] (.some [1,4,5,21,22,23])) (.block 0 (.loop (.seq (.region [⟨none,some 24,(.bin .lss (.t 23) (.t 22))⟩] (.some [1,4,5,21,22,23,24])) (.seq (.cond (.t 24) .skip (.exit 0)) (.seq (.block 1 (.seq (.region [⟨none,some 25,(.indexAddr 3 (.t 21) (.t 23))⟩,⟨none,some 26,(.load (.some 3) (.t 25))⟩,⟨none,some 7,(.boxs 3 (.t 26))⟩] (.some [1,4,5,7,21,22,23])) (.draw (.take .true ⟨none,some 29,(.load (.some 3) (.t 7))⟩ (.take .true ⟨none,some 30,(.set (.t 1) false)⟩ (.take .false ⟨none,some 27,(.fieldAddr 2 .none (.t 5))⟩ (.br ⟨none,some 28,(.load .none (.t 27))⟩ (.br ⟨none,some 31,(.call (.c (.fn (.func 82) [] [])) [(.t 29),(.t 30)] (.some 1999))⟩ (.take .true ⟨none,some 32,(.buildSlice 0 3 (.agg [(.int .i64 0),(.int .i64 0),.nils]) 1 [(0,(.t 31))])⟩ (.br ⟨none,some 33,(.appendA 3 40 (.agg [(.int .i64 0),(.int .i64 0),.nils]) (.t 28) (.t 32))⟩ (.take .true ⟨none,some 34,(.fieldAddr 2 .none (.t 5))⟩ (.br ⟨none,none,(.storeW 1 (.t 34) (.t 33))⟩ .done .nil)) .nil)) .nil) (.br ⟨none,some 31,(.call (.c (.fn (.func 82) [] [])) [(.t 29),(.t 30)] (.some 1999))⟩ (.take .true ⟨none,some 28,(.load .none (.t 27))⟩ (.take .true ⟨none,some 32,(.buildSlice 0 3 (.agg [(.int .i64 0),(.int .i64 0),.nils]) 1 [(0,(.t 31))])⟩ (.br ⟨none,some 33,(.appendA 3 40 (.agg [(.int .i64 0),(.int .i64 0),.nils]) (.t 28) (.t 32))⟩ (.take .true ⟨none,some 34,(.fieldAddr 2 .none (.t 5))⟩ (.br ⟨none,none,(.storeW 1 (.t 34) (.t 33))⟩ .done .nil)) .nil))) .nil))))) (.some [1,4,5,21,22,23])))) (.region [⟨none,some 35,(.bin .add (.t 23) (.c (.int .i64 1)))⟩,⟨none,some 23,(.set (.t 35) false)⟩] (.some [1,4,5,21,22,23])))))))) (.seq (.region [⟨none,some 36,(.load (.some 3) (.t 5))⟩,⟨none,none,(.storeW 3 (.t 4) (.t 36))⟩] (.some [4])) .ret)))))
def fi82w : FunI := ⟨37,ir82w,[(.c 4 (.some 3))]⟩
theorem ok82w : FunOk Tryz.prog 82 fi82w := ⟨Tryz.call82,Tryz.f82,_,[(0,0,1),(2,3,2000),(6,2,1000),(7,4,2000),(7,6,2),(7,8,2),(9,1,2)],[(0,[1,2,4]),(1,[1,2,4,10]),(2,[4]),(3,[1,2,4,5]),(4,[1,4,5,21,22,23]),(5,[1,4,5,21,22,23,24]),(6,[1,4,5,7,21,22,23]),(7,[1,4,5,21,22,23]),(8,[1,4,5,21,22,23]),(9,[4])],[(7,(.take 2 true (.take 3 true (.take 0 false (.br 1 (.br 4 (.take 5 true (.br 6 (.take 7 true (.br 8 .done .nil)) .nil)) .nil) (.br 4 (.take 1 true (.take 5 true (.br 6 (.take 7 true (.br 8 .done .nil)) .nil))) .nil))))))],Tryz.func82,rfl,Tryz.ntmps82,by kernel_rfl,by kernel_rfl⟩
end Go.Abs
end
section
/- Put: a tree is written within another one. -/
set_option maxRecDepth 100000
set_option linter.unusedSimpArgs false
set_option linter.unusedVariables false
namespace Go.Abs
open Go Go.Proofs
/-- A list of trees as it is handed back: an object, or none. -/
def RD (base : Nat) (v : AV) (l : List T) (G : List AObj) : Prop :=
  (l = [] ∧ v = .lst 0 []) ∨ ∃ id l', base ≤ id ∧ v = .arr id 0 l.length l'.length ∧ G[id]? = some (objL l') ∧ l.length ≤ l'.length ∧ l'.take l.length = l
theorem RL.drop {base : Nat} {v : AV} {l : List T} {G : List AObj} (h : RL base v l G) : RD base v.drop l G := by
  rcases h with ⟨h, rfl⟩ | ⟨id, l', a, rfl, c⟩
  · exact .inl ⟨h, rfl⟩
  · exact .inr ⟨id, l', a, rfl, c⟩
theorem RD.one {base : Nat} {v : AV} {l : List T} {G : List AObj} (h : RD base v l G) : v.one = true ∧ v.unown = v ∧ v.drop = v ∧ v.val = true := by
  rcases h with ⟨_, rfl⟩ | ⟨id, l', _, rfl, _⟩ <;> exact ⟨rfl, rfl, rfl, rfl⟩
theorem RD.blw {base : Nat} {v : AV} {l : List T} {G : List AObj} (h : RD base v l G) {n : Nat} (hn : G.length ≤ n) : v.blw n = true := by
  rcases h with ⟨_, rfl⟩ | ⟨id, l', _, rfl, c, _⟩
  · rfl
  · have := (List.getElem?_eq_some_iff.1 c).1
    rw [bw_arr]; simp; omega
theorem RD.set {base : Nat} {v : AV} {l : List T} {G : List AObj} (h : RD base v l G) {j : Nat} (hj : j < base) (o : AObj) : RD base v l (G.set j o) := by
  rcases h with h | ⟨id, l', a, b, c, d⟩
  · exact .inl h
  · exact .inr ⟨id, l', a, b, by rw [List.getElem?_set_ne (by omega)]; exact c, d⟩
theorem RL.set {base : Nat} {v : AV} {l : List T} {G : List AObj} (h : RL base v l G) {j : Nat} (hj : j < base) (o : AObj) : RL base v l (G.set j o) := by
  rcases h with h | ⟨id, l', a, b, c, d⟩
  · exact .inl h
  · exact .inr ⟨id, l', a, b, by rw [List.getElem?_set_ne (by omega)]; exact c, d⟩
theorem RL.drop_one {base : Nat} {v : AV} {l : List T} {G : List AObj} (h : RL base v l G) : v.drop.one = true ∧ v.drop.unown = v.drop ∧ v.drop.drop = v.drop ∧ v.drop.val = true := h.drop.one
theorem objL_blw (l : List T) : (objL l).blw 0 = true := by simp [objL, AObj.blw, flat_avs_blw]
/-- What is handed back, its list written no more, or still to be written. -/
def madeR (H : List AObj) (k n : Int) (l : List T) (r : AV) (H' : List AObj) : Prop :=
  ∃ v, r = .agg [.int .i64 k, .int .i64 n, v] ∧ RD H.length v l H' ∧ H'.take H.length = H
/-- To hand it back from a loose frame. -/
theorem made_ret {H G : List AObj} {k n : Int} {l : List T} {v : AV} (h : RD H.length v l G) (hG : G.take H.length = H) : aretC1 (sealS H.length) H.length (.agg [.int .i64 k, .int .i64 n, v]) G (madeR H k n l) := by
  rcases h with ⟨rfl, rfl⟩ | ⟨id, l', a, rfl, c, d⟩
  · exact ⟨H.length, H, Nat.le_refl _, sealS_low hG rfl, _, le_refl _, by simp [bw_agg, bl_cons, bl_nil, bw_int, bw_lst], _, rfl, .inl ⟨rfl, rfl⟩, List.take_length⟩
  · have hl := (List.getElem?_eq_some_iff.1 c).1
    refine ⟨G.length, only H.length id G, by omega, sealS_only c (objL_blw l'), _, le_refl _, ?_, _, rfl, .inr ⟨id, l', a, rfl, by rw [only_self]; exact c, d⟩, by rw [only_take (Nat.le_refl _)]; exact hG⟩
    simp only [bw_agg, bl_cons, bl_nil, bw_int, bw_arr]
    simp [hl]
theorem c82w (g : Nat) (cap : List AV) (f : Int → T) (x : T) (hcap : cap.map AV.unown = cap) (hb : belowL 0 cap = true) (hf : ∀ n, Pure Tryz.prog g ([.int .i64 n] ++ cap) (f n).av) (hs : x.shaped = true) (hk : x.k ≠ 1) (H : List AObj) :
    ACalls Tryz.prog 82 [x.av, .fn (.func g) [] cap] H (madeR H x.k x.n (mapTs f x.l)) := by
  refine ok82w.callsS (by simp [fi82w]) ?_
  simp only [fi82w, ir82w]
  have hl8 := (shaped_kids hs).1
  simp (contextual := true) (maxSteps := 1000000) only [stepsX, hcap, hk, stepsS, stepsT, stepsN, if_true, forall_const, ne_eq, implies_true, List.nil_append, List.append_nil, List.cons_append, List.length_cons, List.length_nil, Nat.reduceEqDiff, Nat.reduceAdd, Nat.reduceLT, Nat.reduceLeDiff, ↓reduceIte, reduceCtorEq, Int.reduceEq, Int.reduceLT]
  intro _
  refine swp_loop_stL x.l.length (fun i (p : AV × List AObj) => RL (H.length + 2) p.1 (mapTs f (x.l.take i)) p.2 ∧ p.2[H.length]? = some (.cells [.int .i64 0, .int .i64 0, .nils]) ∧ p.2[H.length + 1]? = some (.cells [.int .i64 x.k, .int .i64 x.n, p.1]) ∧ p.2.take H.length = H)
      (fun i p => [(1, .fn (.func g) [] cap), (4, .ptr H.length 0), (5, .ptr (H.length + 1) 0), (21, .lst 0 (avs x.l)), (22, .int .i64 x.l.length), (23, .int .i64 i)])
      (fun i p => p.2) (.nils, H ++ [.cells [.int .i64 0, .int .i64 0, .nils], .cells [.int .i64 x.k, .int .i64 x.n, .nils]]) ⟨⟨.inl ⟨rfl, rfl⟩, by simp, by simp, by simp⟩, sleL_refl _ _ _⟩ fun i p hi hI => ?_
  obtain ⟨v, G⟩ := p
  obtain ⟨hR, g0, g1, hG⟩ := hI
  simp only at hR g0 g1 hG
  have hlG := (List.getElem?_eq_some_iff.1 g1).1
  have ho := hR.one
  have hd := hR.drop_one
  simp (contextual := true) (maxSteps := 1000000) only [stepsX, g0, g1, ho.1, ho.2.1, ho.2.2.1, ho.2.2.2, hd.1, hd.2.1, hd.2.2.1, hd.2.2.2, stepsS, stepsT, stepsN, if_true, forall_const, ne_eq, implies_true, List.nil_append, List.append_nil, List.cons_append, List.length_cons, List.length_nil, Nat.reduceEqDiff, Nat.reduceAdd, Nat.reduceLT, Nat.reduceLeDiff, ↓reduceIte, reduceCtorEq, Int.reduceEq, Int.reduceLT]
  have hlen : (mapTs f (x.l.take i)).length = i := by rw [mapTs_map]; simp; omega
  have step : ∀ (hlt : i < x.l.length) {K : AV → List AObj → Prop}, (∀ v' G', RL (H.length + 2) v' (mapTs f (x.l.take (i + 1))) G' → G'[H.length]? = some (.cells [.int .i64 0, .int .i64 0, .nils]) → G'[H.length + 1]? = some (.cells [.int .i64 x.k, .int .i64 x.n, v]) → G'.take H.length = H →
      v'.one = true → v'.val = true → v'.unown = v' → v'.cells = [v'] → v'.blw G'.length = true → K v' G') → aappendA 3 40 (.agg [.int .i64 0, .int .i64 0, .nils]) v (.lst 0 [(mapT f (x.l.getD i default)).av]) G K := by
    intro hlt K hK
    have ea : [(mapT f (x.l.getD i default)).av] = avs [mapT f (x.l.getD i default)] := rfl
    rw [ea]
    refine appendRL hR 0 [mapT f (x.l.getD i default)] (by simp) (by rw [hlen]; simp; omega) (by omega) fun v' G' hR' hj ht hl => ?_
    rw [← mapTs_take f hlt] at hR'
    have ho' := hR'.one
    refine hK v' G' hR' ((hj _ (by omega)).trans g0) ((hj _ (by omega)).trans g1) ?_ ho'.1 ho'.2.1 ho'.2.2.1 ho'.2.2.2 (hR'.blw (Nat.le_refl _))
    have e : G'.take H.length = (G'.take (H.length + 2)).take H.length := by rw [List.take_take]; congr 1; omega
    rw [e, ht, List.take_take, Nat.min_eq_left (by omega), hG]
  have fin : ∀ (hlt : i < x.l.length) {v' : AV} {G' : List AObj}, RL (H.length + 2) v' (mapTs f (x.l.take (i + 1))) G' → G'[H.length]? = some (.cells [.int .i64 0, .int .i64 0, .nils]) → G'[H.length + 1]? = some (.cells [.int .i64 x.k, .int .i64 x.n, v]) → G'.take H.length = H →
      RL (H.length + 2) v' (mapTs f (x.l.take (i + 1))) (G'.set (H.length + 1) (.cells [.int .i64 x.k, .int .i64 x.n, v'])) ∧ (G'.set (H.length + 1) (.cells [.int .i64 x.k, .int .i64 x.n, v']))[H.length]? = some (.cells [.int .i64 0, .int .i64 0, .nils]) ∧
      (G'.set (H.length + 1) (.cells [.int .i64 x.k, .int .i64 x.n, v']))[H.length + 1]? = some (.cells [.int .i64 x.k, .int .i64 x.n, v']) ∧ (G'.set (H.length + 1) (.cells [.int .i64 x.k, .int .i64 x.n, v'])).take H.length = H := by
    intro hlt v' G' hR' h0 h1 hG'
    have hl' := (List.getElem?_eq_some_iff.1 h1).1
    refine ⟨hR'.set (by omega) _, ?_, ?_, ?_⟩
    · rw [List.getElem?_set_ne (by omega)]; exact h0
    · rw [List.getElem?_set_self hl']
    · rw [List.take_set_of_le (by omega)]; exact hG'
  refine ⟨fun hlt => ⟨len_lt hlt, ?_, ?_⟩, fun hge => ?_⟩
  · have hlt := len_lt hlt
    refine scall_pure (c82 g cap f _ hcap hb hf ((shaped_kids hs).2 _ (mem_getD hlt))) ?_
    simp (contextual := true) (maxSteps := 1000000) only [stepsX, stepsS, stepsT, stepsN, if_true, forall_const, ne_eq, implies_true, List.nil_append, List.append_nil, List.cons_append, List.length_cons, List.length_nil, Nat.reduceEqDiff, Nat.reduceAdd, Nat.reduceLT, Nat.reduceLeDiff, ↓reduceIte, reduceCtorEq, Int.reduceEq, Int.reduceLT]
    refine step hlt fun v' G' hR' g0' g1' hG' o1 o2 o3 o4 hb' => ?_
    simp (contextual := true) (maxSteps := 1000000) only [stepsX, g0', g1', o1, o2, o3, o4, stepsS, stepsT, stepsN, if_true, forall_const, ne_eq, implies_true, List.nil_append, List.append_nil, List.cons_append, List.length_cons, List.length_nil, Nat.reduceEqDiff, Nat.reduceAdd, Nat.reduceLT, Nat.reduceLeDiff, ↓reduceIte, reduceCtorEq, Int.reduceEq, Int.reduceLT]
    exact ⟨by omega, hb', i + 1, (v', _), ⟨hlt, fin hlt hR' g0' g1' hG'⟩, by omega, sleL_eq (by rw [wrap_nat i (by omega)]) rfl⟩
  · have hlt := len_lt hlt
    refine scall_pure (c82 g cap f _ hcap hb hf ((shaped_kids hs).2 _ (mem_getD hlt))) ?_
    simp (contextual := true) (maxSteps := 1000000) only [stepsX, g0, g1, ho.1, ho.2.1, ho.2.2.1, ho.2.2.2, stepsS, stepsT, stepsN, if_true, forall_const, ne_eq, implies_true, List.nil_append, List.append_nil, List.cons_append, List.length_cons, List.length_nil, Nat.reduceEqDiff, Nat.reduceAdd, Nat.reduceLT, Nat.reduceLeDiff, ↓reduceIte, reduceCtorEq, Int.reduceEq, Int.reduceLT]
    refine step hlt fun v' G' hR' g0' g1' hG' o1 o2 o3 o4 hb' => ?_
    simp (contextual := true) (maxSteps := 1000000) only [stepsX, g0', g1', o1, o2, o3, o4, stepsS, stepsT, stepsN, if_true, forall_const, ne_eq, implies_true, List.nil_append, List.append_nil, List.cons_append, List.length_cons, List.length_nil, Nat.reduceEqDiff, Nat.reduceAdd, Nat.reduceLT, Nat.reduceLeDiff, ↓reduceIte, reduceCtorEq, Int.reduceEq, Int.reduceLT]
    exact ⟨by omega, hb', i + 1, (v', _), ⟨hlt, fin hlt hR' g0' g1' hG'⟩, by omega, sleL_eq (by rw [wrap_nat i (by omega)]) rfl⟩
  · have hi' : i = x.l.length := by have := len_nlt hge; omega
    rw [hi', List.take_length] at hR
    have hl0 := (List.getElem?_eq_some_iff.1 g0).1
    refine ⟨hR.drop.blw (Nat.le_refl _), ?_⟩
    rw [List.getElem?_set_self hl0]
    simp (contextual := true) (maxSteps := 1000000) only [stepsX, hd.2.2.1, stepsS, stepsT, stepsN, if_true, forall_const, ne_eq, implies_true, List.nil_append, List.append_nil, List.cons_append, List.length_cons, List.length_nil, Nat.reduceEqDiff, Nat.reduceAdd, Nat.reduceLT, Nat.reduceLeDiff, ↓reduceIte, reduceCtorEq, Int.reduceEq, Int.reduceLT]
    refine made_ret ?_ (by rw [List.take_set_of_le (Nat.le_refl _)]; exact hG)
    have h2 := hR.drop.set (j := H.length) (by omega) (.cells [.int .i64 x.k, .int .i64 x.n, v.drop])
    rcases h2 with h2 | ⟨id, l', a, h2⟩
    · exact .inl h2
    · exact .inr ⟨id, l', by omega, h2⟩
theorem c56w (x : T) (hs : x.shaped = true) (hk : x.k ≠ 1) (H : List AObj) : ACalls Tryz.prog 56 [x.av] H (madeR H x.k x.n x.l) := by
  refine ok56w.callsS (by simp [fi56w]) ?_
  simp only [fi56w, ir56w]
  have hc := c82w 102 [] (fun n => .mk 1 n []) x rfl rfl (fun n => c102 n) hs hk (H ++ [.cells [.int .i64 0, .int .i64 0, .nils]])
  have e : mapTs (fun n => .mk 1 n []) x.l = x.l := by
    have : mapT (fun n => .mk 1 n []) x = x := ren_id x hs
    rw [mapT_eq, if_neg hk] at this
    cases x with
    | mk k n l =>
      simp at this
      exact this.2.2
  rw [e] at hc
  simp (contextual := true) (maxSteps := 1000000) only [stepsX, stepsS, stepsT, stepsN, if_true, forall_const, ne_eq, implies_true, List.nil_append, List.append_nil, List.cons_append, List.length_cons, List.length_nil, Nat.reduceEqDiff, Nat.reduceAdd, Nat.reduceLT, Nat.reduceLeDiff, ↓reduceIte, reduceCtorEq, Int.reduceEq, Int.reduceLT]
  refine scall_to hc ?_
  rintro r G ⟨v, rfl, hR, hG⟩
  have ho := hR.one
  have hb := hR.blw (Nat.le_refl _)
  have hGl : (H ++ [AObj.cells [.int .i64 0, .int .i64 0, .nils]]).length = H.length + 1 := by simp
  rw [hGl] at hR hG
  have hl0 : H.length + 1 ≤ G.length := by
    have := congrArg List.length hG
    simp at this
    omega
  have g0 : G[H.length]? = some (.cells [.int .i64 0, .int .i64 0, .nils]) := by
    have : (G.take (H.length + 1))[H.length]? = G[H.length]? := by rw [List.getElem?_take, if_pos (by omega)]
    rw [← this, hG]; simp
  have hG' : G.take H.length = H := by
    have : G.take H.length = (G.take (H.length + 1)).take H.length := by rw [List.take_take]; congr 1; omega
    rw [this, hG]; simp
  simp (contextual := true) (maxSteps := 1000000) only [stepsX, g0, ho.1, ho.2.1, ho.2.2.1, ho.2.2.2, stepsS, stepsT, stepsN, if_true, forall_const, ne_eq, implies_true, List.nil_append, List.append_nil, List.cons_append, List.length_cons, List.length_nil, Nat.reduceEqDiff, Nat.reduceAdd, Nat.reduceLT, Nat.reduceLeDiff, ↓reduceIte, reduceCtorEq, Int.reduceEq, Int.reduceLT]
  refine ⟨hb, ?_⟩
  rw [List.getElem?_set_self (by omega)]
  simp (contextual := true) (maxSteps := 1000000) only [stepsX, ho.2.2.1, stepsS, stepsT, stepsN, if_true, forall_const, ne_eq, implies_true, List.nil_append, List.append_nil, List.cons_append, List.length_cons, List.length_nil, Nat.reduceEqDiff, Nat.reduceAdd, Nat.reduceLT, Nat.reduceLeDiff, ↓reduceIte, reduceCtorEq, Int.reduceEq, Int.reduceLT]
  refine made_ret ?_ (by rw [List.take_set_of_le (Nat.le_refl _)]; exact hG')
  rcases hR.set (j := H.length) (by omega) (.cells [.int .i64 x.k, .int .i64 x.n, v]) with h2 | ⟨id, l', a, h2⟩
  · exact .inl h2
  · exact .inr ⟨id, l', by omega, h2⟩
theorem shaped1' {t : T} (h : t.shaped = true) (hk : t.k = 1) : t.l = [] := by
  rw [T.shaped_eq] at h
  simp only [Bool.and_eq_true, Bool.not_eq_true', Bool.or_eq_false_iff, decide_eq_false_iff_not, Bool.and_eq_false_iff] at h
  have : ¬ 0 < t.l.length := by
    have := h.1.1.1.2
    rcases this with h | h
    · exact absurd hk h
    · exact h
  exact List.length_eq_zero_iff.1 (by omega)
theorem idxi0 (e o : Nat) (l : List Int) (k : IntKind) (φ : AV → Prop) : aindexAddr e (.lst o (ints l)) (.int k 0) φ = (0 < l.length ∧ φ (.iptr (.int .i64 (l.getD 0 0)))) := idx_ints e o l k 0 φ
theorem tail1 (x : Int) (r : List Int) (φ : AV → Prop) : asliceX 1 (.lst 0 (ints (x :: r))) (some (.int .i64 1)) none none φ = φ (.lst 0 (ints r)) := by
  have er : rlist (AV.lst 0 (ints (x :: r))) = some (ints (x :: r)) := rfl
  have e1 : (1 : Int).toNat = 1 := rfl
  have e2 : ((ints (x :: r)).take (ints (x :: r)).length).drop 1 = ints r := by rw [List.take_length]; rfl
  simp only [asliceX, aslice, er, aidx, e1, e2, eq_iff_iff]
  constructor
  · intro h; exact h.2.2.2.2
  · intro h
    refine ⟨fun own xs he z hz => ?_, by omega, by simp [ints_len], Nat.le_refl _, h⟩
    cases he
    obtain ⟨y, _, rfl⟩ := List.mem_map.1 hz
    rfl
theorem li_arr' (id N c o : Nat) (H : List AObj) (φ : AV → Prop) : aload none (.iptr (.arr id o N c)) H φ = φ (.arr id o N c) := by simp [aload, AV.one, AV.unown]
theorem on_arr' (id N c o : Nat) : (AV.arr id o N c).one = true := rfl
theorem dr_arr' (id N c o : Nat) : (AV.arr id o N c).drop = .arr id o N c := rfl
theorem fagg2 (k n : Int) (id c N o : Nat) (φ : AV → Prop) : afieldAddr 2 none (.iptr (.agg [.int .i64 k, .int .i64 n, .arr id o N c])) φ = φ (.iptr (.arr id o N c)) := by simp [afieldAddr, apart, AV.cells, AV.one]
theorem lagg3 (a b c : AV) (H : List AObj) (φ : AV → Prop) : aload (some 3) (.iptr (.agg [a, b, c])) H φ = φ (.agg [a, b, c]) := by simp [aload, AV.cells, AV.drop]
/-- A tree with another one written at a place. -/
def putT : T → List Int → T → T
  | _, [], u => u
  | t, i :: r, u => .mk t.k t.n (t.l.set i.toNat (putT (t.l.getD i.toNat default) r u))
theorem freezeRL {id : Nat} {l l' : List T} {H : List AObj} (h : H[id]? = some (objL l')) (hl : l.length ≤ l'.length) (hl2 : l'.take l.length = l) (K : AV → List AObj → Prop) : asetf1 3 (.arr id 0 l.length l'.length) H K = K (.lst 0 (avs l)) (H.set id .dead) := by
  have hc : ∀ (n : Nat) (l' : List T), n ≤ l'.length → chunks 3 n (flat (avs l')) = avs (l'.take n) := by
    intro n
    induction n with
    | zero => intro l' _; rfl
    | succ n ih =>
      intro l' h
      cases l' with
      | nil => simp at h
      | cons x r =>
        rw [flat_cons, chunks, if_neg (by decide), List.take_succ_cons, avs]
        rw [show List.take 3 (x.av.cells ++ flat (avs r)) = x.av.cells by rw [List.take_append_of_le_length (by rw [T.av_clen]; omega), List.take_of_length_le (by rw [T.av_clen]; omega)]]
        rw [show List.drop 3 (x.av.cells ++ flat (avs r)) = flat (avs r) by
          have := List.drop_left (l₁ := x.av.cells) (l₂ := flat (avs r)); rwa [T.av_clen] at this]
        rw [T.cells_unown, T.agg_cells, ih r (by simpa using h)]
  simp only [asetf1, h, objL, List.drop_zero, hc _ _ hl, hl2, flat_len, flatL_one, eq_iff_iff]
  constructor
  · exact fun k => k.2.2.2.2
  · exact fun k => ⟨by omega, hl, by omega, trivial, k⟩
theorem c79 : ∀ (p : List Int) (t u : T), t.shaped = true → u.shaped = true → (atT t p).isSome = true → Pure Tryz.prog 79 [t.av, .lst 0 (ints p), u.av] (putT t p u).av := by
  intro p
  induction p with
  | nil =>
    intro t u ht hu ha H
    refine ok79w.calls (by simp [fi79w]) ?_
    simp only [fi79w, ir79w]
    simp (contextual := true) (maxSteps := 1000000) only [stepsX, ints_len, stepsS, stepsT, stepsN, if_true, forall_const, ne_eq, implies_true, List.nil_append, List.append_nil, List.cons_append, List.length_cons, List.length_nil, Nat.reduceEqDiff, Nat.reduceAdd, Nat.reduceLT, Nat.reduceLeDiff, ↓reduceIte, reduceCtorEq, Int.reduceEq, Int.reduceLT]
    refine ⟨fun _ => scall_pure (c56 u hu) ?_, fun h => absurd rfl h⟩
    simp (contextual := true) (maxSteps := 1000000) only [stepsX, stepsS, stepsT, stepsN, if_true, forall_const, ne_eq, implies_true, List.nil_append, List.append_nil, List.cons_append, List.length_cons, List.length_nil, Nat.reduceEqDiff, Nat.reduceAdd, Nat.reduceLT, Nat.reduceLeDiff, ↓reduceIte, reduceCtorEq, Int.reduceEq, Int.reduceLT]
    exact ret1v (T.av_blw _ _) rfl
  | cons i r ih =>
    intro t u ht hu ha H
    refine ok79w.calls (by simp [fi79w]) ?_
    simp only [fi79w, ir79w]
    simp only [atT] at ha
    split at ha
    · cases ha
    · rename_i hi
      obtain ⟨m, rfl⟩ := Int.eq_ofNat_of_zero_le (show 0 ≤ i by omega)
      have hm : m < t.l.length := by omega
      have hk : t.k ≠ 1 := fun h => by rw [shaped1' ht h] at hm; simp at hm
      rw [Int.toNat_natCast] at ha
      have hsub := (shaped_kids ht).2 _ (mem_getD hm)
      simp (contextual := true) (maxSteps := 1000000) only [stepsX, ints_len, stepsS, stepsT, stepsN, if_true, forall_const, ne_eq, implies_true, List.nil_append, List.append_nil, List.cons_append, List.length_cons, List.length_nil, Nat.reduceEqDiff, Nat.reduceAdd, Nat.reduceLT, Nat.reduceLeDiff, ↓reduceIte, reduceCtorEq, Int.reduceEq, Int.reduceLT]
      refine fun _ => ⟨fun h => absurd h (by simp; omega), fun _ => ?_⟩
      refine scall_to (c56w t ht hk _) ?_
      rintro q G ⟨v, rfl, hR, hG⟩
      have hGl : (H ++ [AObj.cells [.int .i64 0, .int .i64 0, .nils]]).length = H.length + 1 := by simp
      rw [hGl] at hR hG
      rcases hR with ⟨h0, _⟩ | ⟨id, l', hid, rfl, hg, hle, htk⟩
      · rw [h0] at hm; simp at hm
      simp (contextual := true) (maxSteps := 1000000) only [stepsX, idxi0, tail1, li_arr', on_arr', dr_arr', Option.map_some, Option.map_none, stepsS, stepsT, stepsN, if_true, forall_const, ne_eq, implies_true, List.nil_append, List.append_nil, List.cons_append, List.length_cons, List.length_nil, Nat.reduceEqDiff, Nat.reduceAdd, Nat.reduceLT, Nat.reduceLeDiff, ↓reduceIte, reduceCtorEq, Int.reduceEq, Int.reduceLT]
      refine ⟨by omega, hm, ?_⟩
      refine dcall_pure (ih _ u hsub hu ha) ?_
      have hml : m < l'.length := by omega
      have fz : ∀ K, asetf1 3 (.arr id 0 t.l.length l'.length) (G.set id (objL (l'.set m (putT (t.l.getD m default) r u)))) K = K (.lst 0 (avs (t.l.set m (putT (t.l.getD m default) r u)))) ((G.set id (objL (l'.set m (putT (t.l.getD m default) r u)))).set id .dead) := by
        intro K
        have hgl := (List.getElem?_eq_some_iff.1 hg).1
        have := freezeRL (id := id) (l := t.l.set m (putT (t.l.getD m default) r u)) (l' := l'.set m (putT (t.l.getD m default) r u)) (H := G.set id (objL (l'.set m (putT (t.l.getD m default) r u)))) (by rw [List.getElem?_set_self hgl]) (by simpa using hle) (by
          rw [List.length_set, List.take_set, htk]) K
        rw [List.length_set, List.length_set] at this
        exact this
      have g0 : (((G.set id (objL (l'.set m (putT (t.l.getD m default) r u)))).set id .dead))[H.length]? = some (.cells [.int .i64 0, .int .i64 0, .nils]) := by
        rw [List.getElem?_set_ne (by omega), List.getElem?_set_ne (by omega)]
        have : (G.take (H.length + 1))[H.length]? = G[H.length]? := by rw [List.getElem?_take, if_pos (by omega)]
        rw [← this, hG]; simp
      simp (contextual := true) (maxSteps := 1000000) only [stepsX, idxi0, tail1, li_arr', on_arr', dr_arr', un_arr', fagg2, lagg3, idx_arr, hm, hg, storeL hml, fz, g0, stepsS, stepsT, stepsN, if_true, forall_const, ne_eq, implies_true, List.nil_append, List.append_nil, List.cons_append, List.length_cons, List.length_nil, Nat.reduceEqDiff, Nat.reduceAdd, Nat.reduceLT, Nat.reduceLeDiff, ↓reduceIte, reduceCtorEq, Int.reduceEq, Int.reduceLT]
      refine ⟨by omega, ?_⟩
      have hl0 := (List.getElem?_eq_some_iff.1 g0).1
      rw [List.getElem?_set_self hl0]
      simp (contextual := true) (maxSteps := 1000000) only [stepsX, stepsS, stepsT, stepsN, if_true, forall_const, ne_eq, implies_true, List.nil_append, List.append_nil, List.cons_append, List.length_cons, List.length_nil, Nat.reduceEqDiff, Nat.reduceAdd, Nat.reduceLT, Nat.reduceLeDiff, ↓reduceIte, reduceCtorEq, Int.reduceEq, Int.reduceLT]
      have ep : putT t (↑m :: r) u = .mk t.k t.n (t.l.set m (putT (t.l.getD m default) r u)) := by rw [putT, Int.toNat_natCast]
      have hG' : G.take H.length = H := by
        have : G.take H.length = (G.take (H.length + 1)).take H.length := by rw [List.take_take]; congr 1; omega
        rw [this, hG]; simp
      rw [ep]
      refine ⟨H.length, Nat.le_refl _, _, le_refl _, T.av_blw _ (.mk t.k t.n (t.l.set m (putT (t.l.getD m default) r u))), rfl, ?_⟩
      rw [List.take_set_of_le (Nat.le_refl _), List.take_set_of_le (by omega), List.take_set_of_le (by omega), hG']
end Go.Abs
end
section
/- Put, Paths: their contracts. -/
set_option maxRecDepth 100000
set_option linter.unusedSimpArgs false
set_option linter.unusedVariables false
namespace Go.Abs
open Go Go.Proofs
def PutS (t : T) (p : List Int) (u : T) : T × Int := if t.tree = true ∧ u.tree = true then (if (atT t p).isSome = true then boundS (putT t p u) else (T0, 41)) else (T0, 4)
theorem c30 (t : T) (p : List Int) (u : T) : Pure Tryz.prog 30 [t.av, .lst 0 (ints p), u.av] (.tuple [(PutS t p u).1.av, .int .i64 (PutS t p u).2]) := by
  refine fun H => ok30.calls (by simp [fi30]) ?_
  simp only [fi30, ir30]
  simp (contextual := true) (maxSteps := 1000000) only [stepsS, stepsT, stepsN, if_true, forall_const, ne_eq, implies_true, List.nil_append, List.append_nil, List.cons_append, List.length_cons, List.length_nil, Nat.reduceEqDiff, Nat.reduceAdd, Nat.reduceLT, Nat.reduceLeDiff, ↓reduceIte, reduceCtorEq, Int.reduceEq, Int.reduceLT]
  refine scall_pure (c44 [t, u]) ?_
  have etb : treesB [t, u] = (t.tree && u.tree) := by simp [treesB]
  rw [etb]
  by_cases htu : t.tree = true ∧ u.tree = true
  · have hts := ((T.tree_iff t).1 htu.1).2.2
    have hus := ((T.tree_iff u).1 htu.2).2.2
    have e : PutS t p u = if (atT t p).isSome = true then boundS (putT t p u) else (T0, 41) := by rw [PutS, if_pos htu]
    rw [htu.1, htu.2]
    simp (contextual := true) (maxSteps := 1000000) only [stepsS, stepsT, stepsN, if_true, forall_const, ne_eq, implies_true, List.nil_append, List.append_nil, List.cons_append, List.length_cons, List.length_nil, Nat.reduceEqDiff, Nat.reduceAdd, Nat.reduceLT, Nat.reduceLeDiff, ↓reduceIte, reduceCtorEq, Int.reduceEq, Int.reduceLT]
    refine scall_pure (c77 t p) ?_
    cases ha : (atT t p).isSome with
    | false =>
      have e : PutS t p u = (T0, 41) := by rw [e, if_neg (by rw [ha]; simp)]
      rw [e]
      simp (contextual := true) (maxSteps := 1000000) only [Bool.false_eq_true, stepsS, stepsT, stepsN, if_true, forall_const, ne_eq, implies_true, List.nil_append, List.append_nil, List.cons_append, List.length_cons, List.length_nil, Nat.reduceEqDiff, Nat.reduceAdd, Nat.reduceLT, Nat.reduceLeDiff, ↓reduceIte, reduceCtorEq, Int.reduceEq, Int.reduceLT]
      exact ret2w (G := H) (by simp) (T.av_blw _ T0) rfl rfl rfl ⟨rfl, rfl⟩
    | true =>
      have e : PutS t p u = boundS (putT t p u) := by rw [e, if_pos ha]
      rw [e]
      simp (contextual := true) (maxSteps := 1000000) only [stepsS, stepsT, stepsN, if_true, forall_const, ne_eq, implies_true, List.nil_append, List.append_nil, List.cons_append, List.length_cons, List.length_nil, Nat.reduceEqDiff, Nat.reduceAdd, Nat.reduceLT, Nat.reduceLeDiff, ↓reduceIte, reduceCtorEq, Int.reduceEq, Int.reduceLT]
      refine scall_pure (c79 p t u hts hus ha) ?_
      simp (contextual := true) (maxSteps := 1000000) only [stepsS, stepsT, stepsN, if_true, forall_const, ne_eq, implies_true, List.nil_append, List.append_nil, List.cons_append, List.length_cons, List.length_nil, Nat.reduceEqDiff, Nat.reduceAdd, Nat.reduceLT, Nat.reduceLeDiff, ↓reduceIte, reduceCtorEq, Int.reduceEq, Int.reduceLT]
      refine scall_pure (c48 _) ?_
      simp (contextual := true) (maxSteps := 1000000) only [sp_TT, stepsS, stepsT, stepsN, if_true, forall_const, ne_eq, implies_true, List.nil_append, List.append_nil, List.cons_append, List.length_cons, List.length_nil, Nat.reduceEqDiff, Nat.reduceAdd, Nat.reduceLT, Nat.reduceLeDiff, ↓reduceIte, reduceCtorEq, Int.reduceEq, Int.reduceLT]
      exact ret2w (G := H) (by simp) (T.av_blw _ _) rfl (T.av_unown _) rfl ⟨rfl, rfl⟩
  · have e : (t.tree && u.tree) = false := by
      cases h1 : t.tree <;> cases h2 : u.tree <;> simp_all
    have e2 : PutS t p u = (T0, 4) := by rw [PutS, if_neg htu]
    rw [e, e2]
    simp (contextual := true) (maxSteps := 1000000) only [Bool.false_eq_true, stepsS, stepsT, stepsN, if_true, forall_const, ne_eq, implies_true, List.nil_append, List.append_nil, List.cons_append, List.length_cons, List.length_nil, Nat.reduceEqDiff, Nat.reduceAdd, Nat.reduceLT, Nat.reduceLeDiff, ↓reduceIte, reduceCtorEq, Int.reduceEq, Int.reduceLT]
    exact ret2w (G := H) (by simp) (T.av_blw _ T0) rfl rfl rfl ⟨rfl, rfl⟩
/-! ### Paths -/
mutual
def pathsT : T → List Int → List (List Int)
  | .mk _ _ l, p => p :: pathsL l 0 p
def pathsL : List T → Nat → List Int → List (List Int)
  | [], _, _ => []
  | x :: r, i, p => pathsT x (p ++ [(i : Int)]) ++ pathsL r (i + 1) p
end
/-- Lists of numbers, in a list. -/
def pas (l : List (List Int)) : List AV := l.map fun p => .lst 0 (ints p)
def pasC : List (List Int) → AV
  | [] => .nils
  | p :: r => .lst 1 (pas (p :: r))
def againF (o a : Nat) : AV := .fn (.func 87) [] [.ptr o 0, .ptr a 0]
theorem pathsL_drop {l : List T} {i : Nat} (h : i < l.length) (p : List Int) : pathsL (l.drop i) i p = pathsT (l.getD i default) (p ++ [(i : Int)]) ++ pathsL (l.drop (i + 1)) (i + 1) p := by
  rw [List.drop_eq_getElem_cons h, pathsL]
  have e : l.getD i default = l[i] := by simp [h]
  rw [e]
theorem c88p (l : List Int) (hl : l.length * 8 ≤ 140737488355328) : Pure Tryz.prog 88 [.lst 0 (ints l)] (.lst 1 (ints l)) := fun H =>
  clone88 0 (ints l) H (of_eq_true (ok_ints l)) (by rw [ints_len]; exact hl) (ints_blw _ _)
theorem pasC_one (l : List (List Int)) : (pasC l).one = true := by cases l <;> rfl
theorem pas_blw (n : Nat) (l : List (List Int)) : belowL n (pas l) = true := by
  rw [belowL_iff]; intro x hx; obtain ⟨y, _, rfl⟩ := List.mem_map.1 hx; simp [AV.blw, ints_blw]
theorem pasC_blw (n : Nat) (l : List (List Int)) : (pasC l).blw n = true := by
  cases l with
  | nil => rfl
  | cons x r => show AV.blw n (.lst 1 (pas (x :: r))) = true; rw [bw_lst]; exact pas_blw n _
theorem ap_pasC (b : Nat) (l : List (List Int)) (p : List Int) (o : Nat) (ψ : List AV → Prop) : aappend 1 b (pasC l) (.lst o [.lst 0 (ints p)]) ψ = ((l.length + 1) * b ≤ 140737488355328 ∧ ψ (pas (l ++ [p]))) := by
  have hok : okE 1 [AV.lst 0 (ints p)] := by intro y hy; simp at hy; subst hy; exact ⟨rfl, rfl⟩
  cases l with
  | nil => simp [pasC, ap_nils, hok, pas]
  | cons v r =>
    show aappend 1 b (.lst 1 (pas (v :: r))) _ ψ = _
    rw [ap_lst]
    have e1 : (pas (v :: r)).length = (v :: r).length := by simp [pas]
    have e2 : pas (v :: r) ++ [AV.lst 0 (ints p)] = pas ((v :: r) ++ [p]) := by simp [pas]
    rw [e1, e2]
    simp [hok]
theorem pasC_snoc (l : List (List Int)) (p : List Int) : AV.lst 1 (pas (l ++ [p])) = pasC (l ++ [p]) := by cases l <;> rfl
mutual
theorem paths_len : ∀ (t : T) (p : List Int), ((pathsT t p).length : Int) = t.sz
  | .mk k n l, p => by simp only [pathsT, List.length_cons, T.sz]; have := pathsL_len l 0 p; omega
theorem pathsL_len : ∀ (l : List T) (i : Nat) (p : List Int), ((pathsL l i p).length : Int) = szs l
  | [], _, _ => by simp [pathsL, szs]
  | x :: r, i, p => by
    simp only [pathsL, List.length_append, szs]
    have h1 := paths_len x (p ++ [(i : Int)])
    have h2 := pathsL_len r (i + 1) p
    omega
end
theorem dps_mem : ∀ {l : List T} {y : T}, y ∈ l → y.dp ≤ dps l
  | x :: r, y, h => by
    simp only [dps]
    rcases List.mem_cons.1 h with rfl | h
    · omega
    · have := dps_mem h; omega
theorem T.dp_eq (t : T) : t.dp = 1 + dps t.l := by cases t; rfl
theorem pathsT_eq (t : T) (p : List Int) : pathsT t p = p :: pathsL t.l 0 p := by cases t; rfl
theorem slfull (p : List Int) (φ : AV → Prop) : asliceX 1 (.lst 0 (ints p)) none (some (.int .i64 p.length)) (some (.int .i64 p.length)) φ = φ (.lst 1 (ints p)) := by
  have er : rlist (AV.lst 0 (ints p)) = some (ints p) := rfl
  have e2 : ((ints p).take p.length).drop 0 = ints p := by rw [List.drop_zero]; exact List.take_of_length_le (by rw [ints_len]; exact Nat.le_refl _)
  have h1 : ∀ z ∈ ints p, z.cells.length = 1 := by
    intro z hz
    obtain ⟨y, _, rfl⟩ := List.mem_map.1 hz
    rfl
  simp only [asliceX, aslice, er, aidx, Int.toNat_natCast, e2, eq_iff_iff]
  constructor
  · intro h; exact h.2.2.2.2.2.2.2.2
  · intro h
    refine ⟨fun own xs he z hz => ?_, by omega, by omega, by rw [ints_len]; exact Nat.le_refl _, rfl, by omega, trivial, h1, h⟩
    cases he
    exact h1 z hz
theorem c87 {S : List (List Int) → List AObj} {o a n : Nat} (F : Fam S o (fun ps => .cells [pasC ps]) n) (hA : ∀ ps, (S ps)[a]? = some (.cells [againF o a])) : ∀ (t : T) (p : List Int) (ps : List (List Int)) (e : List AObj), (p.length : Int) + t.dp ≤ 1000 → (ps.length : Int) + t.sz ≤ 1000000 →
    ACalls Tryz.prog 87 [t.av, .lst 0 (ints p), .ptr o 0, .ptr a 0] (S ps ++ e) fun r H' => r = .tuple [] ∧ H' = S (ps ++ pathsT t p) ++ e := by
  intro t p ps e hp hps
  have ih : ∀ y ∈ t.l, ∀ (p : List Int) (ps : List (List Int)) (e : List AObj), (p.length : Int) + y.dp ≤ 1000 → (ps.length : Int) + y.sz ≤ 1000000 →
    ACalls Tryz.prog 87 [y.av, .lst 0 (ints p), .ptr o 0, .ptr a 0] (S ps ++ e) fun r H' => r = .tuple [] ∧ H' = S (ps ++ pathsT y p) ++ e := fun y hy p ps e h1 h2 => c87 F hA y p ps e h1 h2
  have fg : ∀ s e, (S s ++ e)[o]? = some (.cells [pasC s]) := F.get'
  have fs : ∀ s s' e, (S s ++ e).set o (.cells [pasC s']) = S s' ++ e := F.set'
  have fA : ∀ s e, (S s ++ e)[a]? = some (.cells [againF o a]) := fun s e => by rw [List.getElem?_append_left (List.getElem?_eq_some_iff.1 (hA s)).1]; exact hA s
  have hlen : ∀ s (e : List AObj), (S s ++ e).length = n + e.length := fun s e => by rw [List.length_append, F.len]
  refine ok87.calls (by simp [fi87]) ?_
  rw [hlen]
  simp only [fi87, ir87]
  simp (contextual := true) (maxSteps := 1000000) only [fg, fs, hlen, stepsS, stepsT, stepsN, if_true, forall_const, ne_eq, implies_true, List.nil_append, List.append_nil, List.cons_append, List.length_cons, List.length_nil, Nat.reduceEqDiff, Nat.reduceAdd, Nat.reduceLT, Nat.reduceLeDiff, ↓reduceIte, reduceCtorEq, Int.reduceEq, Int.reduceLT]
  have hdp0 := t.dp_pos
  refine dcall_pure (c88p p (by omega)) ?_
  have hz := t.sz_pos
  have hdp := t.dp_pos
  have fts : ∀ s e (x : AObj), ((S s ++ e).set o x)[o]? = some x := fun s e x => List.getElem?_set_self (List.getElem?_eq_some_iff.1 (fg s e)).1
  have fss : ∀ s s' e (x : AObj), ((S s ++ e).set o x).set o (.cells [pasC s']) = S s' ++ e := fun s s' e x => by rw [List.set_set]; exact fs s s' e
  have cno : ∀ xs, canon (.lst 1 xs) = .lst 0 xs := fun xs => rfl
  simp (contextual := true) (maxSteps := 1000000) only [fg, fs, hlen, fts, fss, cno, List.length_set, ap_pasC, pasC_one, pasC_blw, pasC_snoc, stepsS, stepsT, stepsN, if_true, forall_const, ne_eq, implies_true, List.nil_append, List.append_nil, List.cons_append, List.length_cons, List.length_nil, Nat.reduceEqDiff, Nat.reduceAdd, Nat.reduceLT, Nat.reduceLeDiff, ↓reduceIte, reduceCtorEq, Int.reduceEq, Int.reduceLT]
  have hg0 : ∀ s x, (S s ++ (e ++ [x]))[n + e.length]? = some x := fun s x => by rw [← List.append_assoc, ← hlen s e, List.getElem?_append_right (Nat.le_refl _)]; simp
  have hs0 : ∀ s x y, (S s ++ (e ++ [x])).set (n + e.length) y = S s ++ (e ++ [y]) := fun s x y => by rw [← List.append_assoc, ← hlen s e, List.set_append_right _ _ (Nat.le_refl _)]; simp
  have tk0 : ∀ s, (S s ++ e).take (n + e.length) = S s ++ e := fun s => List.take_of_length_le (by rw [hlen]; exact Nat.le_refl _)
  refine ⟨by omega, fun _ => ?_⟩
  refine swp_loop_st t.l.length (fun i (q : List (List Int)) => q ++ pathsL (t.l.drop i) i p = ps ++ pathsT t p)
    (fun i q => [(1, .lst 0 (ints p)), (3, .ptr a 0), (14, .lst 0 (avs t.l)), (15, .int .i64 t.l.length), (16, .int .i64 i)]) (fun i q => S q ++ e) (ps ++ [p]) ⟨by rw [pathsT_eq, List.drop_zero, List.append_assoc]; rfl, sle_refl _ _ _⟩ fun i q hi hI => ?_
  have fA' : ∀ s e, (S s ++ e)[a]? = some (.cells [.fn (.func 87) [] [.ptr o 0, .ptr a 0]]) := fA
  simp (contextual := true) (maxSteps := 1000000) only [fg, fs, hlen, hg0, hs0, fA', stepsS, stepsT, stepsN, if_true, forall_const, ne_eq, implies_true, List.nil_append, List.append_nil, List.cons_append, List.length_cons, List.length_nil, Nat.reduceEqDiff, Nat.reduceAdd, Nat.reduceLT, Nat.reduceLeDiff, ↓reduceIte, reduceCtorEq, Int.reduceEq, Int.reduceLT]
  refine ⟨fun hlt => ⟨len_lt hlt, ?_⟩, fun hge => ?_⟩
  · have hlt := len_lt hlt
    simp (contextual := true) (maxSteps := 1000000) only [fg, fs, hlen, hg0, hs0, fA', slfull, Option.map_some, Option.map_none, stepsS, stepsT, stepsN, if_true, forall_const, ne_eq, implies_true, List.nil_append, List.append_nil, List.cons_append, List.length_cons, List.length_nil, Nat.reduceEqDiff, Nat.reduceAdd, Nat.reduceLT, Nat.reduceLeDiff, ↓reduceIte, reduceCtorEq, Int.reduceEq, Int.reduceLT]
    rw [pathsL_drop hlt, ← List.append_assoc] at hI
    have hy := mem_getD hlt
    have h1 := dps_mem hy
    have h2 := t.dp_eq
    have h3 := congrArg List.length hI
    have h4 := paths_len (t.l.getD i default) (p ++ [(i : Int)])
    have h5 := paths_len t p
    have h6 := pathsL_len (t.l.drop (i + 1)) (i + 1) p
    have h7 := szs_pos (t.l.drop (i + 1))
    have ha := (List.getElem?_eq_some_iff.1 (hA q)).1
    rw [F.len] at ha
    simp only [List.length_append] at h3
    refine ⟨by omega, scall_to (ih _ hy (p ++ [(i : Int)]) q (e ++ [.cells (t.l.getD i default).av.cells]) (by rw [List.length_append]; simp only [List.length_cons, List.length_nil]; omega) (by omega)) ?_⟩
    rintro r H' ⟨rfl, rfl⟩
    simp (contextual := true) (maxSteps := 1000000) only [fg, fs, hlen, stepsS, stepsT, stepsN, if_true, forall_const, ne_eq, implies_true, List.nil_append, List.append_nil, List.cons_append, List.length_cons, List.length_nil, Nat.reduceEqDiff, Nat.reduceAdd, Nat.reduceLT, Nat.reduceLeDiff, ↓reduceIte, reduceCtorEq, Int.reduceEq, Int.reduceLT]
    exact ⟨i + 1, q ++ pathsT (t.l.getD i default) (p ++ [(i : Int)]), ⟨hlt, hI⟩, by omega, sle_drop (by rw [wrap_nat i (by omega)]) (by rw [hlen]; exact Nat.le_refl _) (by rw [hlen]; simp only [eb_cons, eb_nil, bw_lst, bw_int, ints_blw, avs_blw, bw_ptr]; simp; omega) [.cells (t.l.getD i default).av.cells] (by rw [List.append_assoc])⟩
  · rw [List.drop_of_length_le (len_nlt hge), pathsL, List.append_nil] at hI
    subst hI
    exact ⟨n + e.length, Nat.le_refl _, [], trivial, rfl, rfl, tk0 _⟩
termination_by t => SizeOf.sizeOf t
decreasing_by exact T.lt hy
def pathsV (t : T) : AV := if t.tree = true then .lst 0 (pas (pathsT t [])) else .nils
theorem c36 (t : T) : Pure Tryz.prog 36 [t.av] (.tuple [pathsV t, .int .i64 (if t.tree = true then 0 else 4)]) := by
  refine fun H => ok36.calls (by simp [fi36]) ?_
  simp only [fi36, ir36]
  unfold pathsV
  simp (contextual := true) (maxSteps := 1000000) only [stepsS, stepsT, stepsN, if_true, forall_const, ne_eq, implies_true, List.nil_append, List.append_nil, List.cons_append, List.length_cons, List.length_nil, Nat.reduceEqDiff, Nat.reduceAdd, Nat.reduceLT, Nat.reduceLeDiff, ↓reduceIte, reduceCtorEq, Int.reduceEq, Int.reduceLT]
  refine scall_pure (c43 t) ?_
  cases ht : t.tree with
  | false =>
    simp (contextual := true) (maxSteps := 1000000) only [Bool.false_eq_true, stepsS, stepsT, stepsN, if_true, forall_const, ne_eq, implies_true, List.nil_append, List.append_nil, List.cons_append, List.length_cons, List.length_nil, Nat.reduceEqDiff, Nat.reduceAdd, Nat.reduceLT, Nat.reduceLeDiff, ↓reduceIte, reduceCtorEq, Int.reduceEq, Int.reduceLT]
    exact ret20 (by decide) rfl rfl rfl rfl
  | true =>
    have hti := (T.tree_iff t).1 ht
    let S : List (List Int) → List AObj := fun ps => H ++ [.cells [pasC ps], .cells [againF H.length (H.length + 1)]]
    have F : Fam S H.length (fun ps => .cells [pasC ps]) (H.length + 2) := ⟨fun s => by simp [S], fun s s' => by simp [S], fun s => by simp [S]⟩
    have hA : ∀ ps, (S ps)[H.length + 1]? = some (.cells [againF H.length (H.length + 1)]) := fun ps => by simp [S]
    have hc := c87 F hA t [] [] [] (by simp; omega) (by simp; omega)
    rw [List.append_nil, List.append_nil, List.nil_append] at hc
    simp (contextual := true) (maxSteps := 1000000) only [stepsS, stepsT, stepsN, if_true, forall_const, ne_eq, implies_true, List.nil_append, List.append_nil, List.cons_append, List.length_cons, List.length_nil, Nat.reduceEqDiff, Nat.reduceAdd, Nat.reduceLT, Nat.reduceLeDiff, ↓reduceIte, reduceCtorEq, Int.reduceEq, Int.reduceLT]
    refine ⟨by simp; omega, scall_of hc ⟨le_refl _, .inr (.inr (.inr (.inl ⟨rfl, 0, rfl⟩))), le_refl _, le_refl _, trivial⟩ ?_⟩
    rintro r H' ⟨rfl, rfl⟩
    have e1 : pasC (pathsT t []) = .lst 1 (pas (pathsT t [])) := by rw [pathsT_eq]; rfl
    simp only [S, e1]
    simp (contextual := true) (maxSteps := 1000000) only [stepsS, stepsT, stepsN, if_true, forall_const, ne_eq, implies_true, List.nil_append, List.append_nil, List.cons_append, List.length_cons, List.length_nil, Nat.reduceEqDiff, Nat.reduceAdd, Nat.reduceLT, Nat.reduceLeDiff, ↓reduceIte, reduceCtorEq, Int.reduceEq, Int.reduceLT]
    exact ret22 (by decide) (by show AV.blw _ (.lst 0 (pas _)) = true; rw [bw_lst]; exact pas_blw _ _) rfl rfl rfl
/-! ### What stands at places -/
end Go.Abs
end
section
/- The document's answers: Part, At, With, Put. -/
set_option maxRecDepth 100000
set_option linter.unusedSimpArgs false
set_option linter.unusedVariables false
namespace Go.Abs
open Go Go.Proofs
theorem c78 (t : T) (p : List Int) : Pure Tryz.prog 78 [t.av, .lst 0 (ints p)] (.tuple [((atT t p).getD T0).av, .bool (atT t p).isSome]) := by
  refine fun H => ok78.calls (by simp [fi78]) ?_
  simp only [fi78, ir78]
  simp (contextual := true) (maxSteps := 1000000) only [stepsS, stepsT, stepsN, if_true, forall_const, ne_eq, implies_true, List.nil_append, List.append_nil, List.cons_append, List.length_cons, List.length_nil, Nat.reduceEqDiff, Nat.reduceAdd, Nat.reduceLT, Nat.reduceLeDiff, ↓reduceIte, reduceCtorEq, Int.reduceEq, Int.reduceLT]
  refine swp_loop_st p.length (fun i (s : T) => atT s (p.drop i) = atT t p)
    (fun i s => [(1, .lst 0 (ints p)), (2, .ptr H.length 0), (4, .ptr (H.length + 1) 0), (6, .int .i64 i)]) (fun i s => H ++ [.cells s.av.cells, .cells [.int .i64 0, .int .i64 0, .nils]]) t ⟨rfl, sle_refl _ _ _⟩ fun i s hi hI => ?_
  simp (contextual := true) (maxSteps := 1000000) only [gd_T2, ints_len, stepsS, stepsT, stepsN, if_true, forall_const, ne_eq, implies_true, List.nil_append, List.append_nil, List.cons_append, List.length_cons, List.length_nil, Nat.reduceEqDiff, Nat.reduceAdd, Nat.reduceLT, Nat.reduceLeDiff, ↓reduceIte, reduceCtorEq, Int.reduceEq, Int.reduceLT]
  intro _
  refine ⟨fun hlt => ?_, fun hge => ?_⟩
  · have hlt := len_lt hlt
    by_cases hb : p.getD i 0 < 0 ∨ (s.l.length : Int) ≤ p.getD i 0
    · rw [atT_drop hlt, if_pos hb] at hI
      rw [← hI]
      have fin : aret2 H.length [AV.agg [AV.int IntKind.i64 0, AV.int IntKind.i64 0, AV.lst 0 []], AV.bool false] (H ++ [AObj.cells s.av.cells, AObj.cells [AV.int IntKind.i64 0, AV.int IntKind.i64 0, AV.nils]])
          fun r H' => r = AV.tuple [((none : Option T).getD T0).av, AV.bool (none : Option T).isSome] ∧ H' = H := ret2w (G := H) (by simp) (T.av_blw _ T0) rfl rfl rfl ⟨rfl, rfl⟩
      rcases hb with hb | hb
      · have hb2 : ¬ 0 ≤ p.getD i 0 := by omega
        simp (contextual := true) (maxSteps := 1000000) only [gd_T2, ints_len, hb, hb2, stepsS, stepsT, stepsN, if_true, forall_const, ne_eq, implies_true, List.nil_append, List.append_nil, List.cons_append, List.length_cons, List.length_nil, Nat.reduceEqDiff, Nat.reduceAdd, Nat.reduceLT, Nat.reduceLeDiff, ↓reduceIte, reduceCtorEq, Int.reduceEq, Int.reduceLT]
        exact ⟨hlt, fin⟩
      · have hb3 : ¬ p.getD i 0 < (s.l.length : Int) := by omega
        have hb4 : 0 ≤ p.getD i 0 := by omega
        have hb5 : ¬ p.getD i 0 < 0 := by omega
        simp (contextual := true) (maxSteps := 1000000) only [gd_T2, ints_len, hb, hb3, hb4, hb5, stepsS, stepsT, stepsN, if_true, forall_const, ne_eq, implies_true, List.nil_append, List.append_nil, List.cons_append, List.length_cons, List.length_nil, Nat.reduceEqDiff, Nat.reduceAdd, Nat.reduceLT, Nat.reduceLeDiff, ↓reduceIte, reduceCtorEq, Int.reduceEq, Int.reduceLT]
        exact ⟨hlt, hlt, fin⟩
    · rw [atT_drop hlt, if_neg hb] at hI
      obtain ⟨m, hm⟩ := Int.eq_ofNat_of_zero_le (show 0 ≤ p.getD i 0 by omega)
      rw [hm] at hb hI
      rw [Int.toNat_natCast] at hI
      have h1 : (0 : Int) ≤ ((m : Nat) : Int) := by omega
      have h1' : ¬ ((m : Nat) : Int) < 0 := by omega
      have h2' : ((m : Nat) : Int) < (s.l.length : Int) := by omega
      have h2 : ¬ (s.l.length : Int) ≤ ((m : Nat) : Int) := by omega
      have h3 : m < s.l.length := by omega
      simp (contextual := true) (maxSteps := 1000000) only [gd_T2, ints_len, hm, h1, h1', h2, h2', sp_TT, Bool.false_eq_true, stepsS, stepsT, stepsN, if_true, forall_const, ne_eq, implies_true, List.nil_append, List.append_nil, List.cons_append, List.length_cons, List.length_nil, Nat.reduceEqDiff, Nat.reduceAdd, Nat.reduceLT, Nat.reduceLeDiff, ↓reduceIte, reduceCtorEq, Int.reduceEq, Int.reduceLT]
      exact ⟨hlt, hlt, hlt, h3, i + 1, s.l.getD m default, ⟨hlt, hI⟩, by omega, sle_eq (by rw [wrap_nat i (by omega)]) rfl⟩
  · rw [List.drop_of_length_le (len_nlt hge)] at hI
    simp only [atT] at hI
    rw [← hI]
    exact ret2w (G := H) (by simp) (T.av_blw _ s) rfl (T.av_unown _) rfl ⟨rfl, rfl⟩
theorem c29 (t : T) (p : List Int) : Pure Tryz.prog 29 [t.av, .lst 0 (ints p)] (.tuple [(AtS t p).1.av, .int .i64 (AtS t p).2]) := by
  refine fun H => ok29.calls (by simp [fi29]) ?_
  simp only [fi29, ir29]
  simp (contextual := true) (maxSteps := 1000000) only [stepsS, stepsT, stepsN, if_true, forall_const, ne_eq, implies_true, List.nil_append, List.append_nil, List.cons_append, List.length_cons, List.length_nil, Nat.reduceEqDiff, Nat.reduceAdd, Nat.reduceLT, Nat.reduceLeDiff, ↓reduceIte, reduceCtorEq, Int.reduceEq, Int.reduceLT]
  refine scall_pure (c49' t) ?_
  cases ht : t.tree with
  | false =>
    have e : AtS t p = (T0, 4) := by rw [AtS, if_neg (by rw [ht]; simp)]
    rw [e]
    simp (contextual := true) (maxSteps := 1000000) only [Bool.false_eq_true, stepsS, stepsT, stepsN, if_true, forall_const, ne_eq, implies_true, List.nil_append, List.append_nil, List.cons_append, List.length_cons, List.length_nil, Nat.reduceEqDiff, Nat.reduceAdd, Nat.reduceLT, Nat.reduceLeDiff, ↓reduceIte, reduceCtorEq, Int.reduceEq, Int.reduceLT]
    exact ret2w (G := H) (by simp) (T.av_blw _ T0) rfl rfl rfl ⟨rfl, rfl⟩
  | true =>
    simp (contextual := true) (maxSteps := 1000000) only [stepsS, stepsT, stepsN, if_true, forall_const, ne_eq, implies_true, List.nil_append, List.append_nil, List.cons_append, List.length_cons, List.length_nil, Nat.reduceEqDiff, Nat.reduceAdd, Nat.reduceLT, Nat.reduceLeDiff, ↓reduceIte, reduceCtorEq, Int.reduceEq, Int.reduceLT]
    refine scall_pure (c78 t p) ?_
    have e : AtS t p = (match atT t p with | some x => (x, 0) | none => (T0, 41)) := by rw [AtS, if_pos ht] <;> rfl
    cases ha : atT t p with
    | none =>
      rw [ha] at e
      rw [e]
      simp (contextual := true) (maxSteps := 1000000) only [Bool.false_eq_true, Option.isSome, Option.getD, stepsS, stepsT, stepsN, if_true, forall_const, ne_eq, implies_true, List.nil_append, List.append_nil, List.cons_append, List.length_cons, List.length_nil, Nat.reduceEqDiff, Nat.reduceAdd, Nat.reduceLT, Nat.reduceLeDiff, ↓reduceIte, reduceCtorEq, Int.reduceEq, Int.reduceLT]
      exact ret2w (G := H) (by simp) (T.av_blw _ T0) rfl rfl rfl ⟨rfl, rfl⟩
    | some x =>
      rw [ha] at e
      rw [e]
      simp (contextual := true) (maxSteps := 1000000) only [Option.isSome, Option.getD, sp_TT, stepsS, stepsT, stepsN, if_true, forall_const, ne_eq, implies_true, List.nil_append, List.append_nil, List.cons_append, List.length_cons, List.length_nil, Nat.reduceEqDiff, Nat.reduceAdd, Nat.reduceLT, Nat.reduceLeDiff, ↓reduceIte, reduceCtorEq, Int.reduceEq, Int.reduceLT]
      exact ret2w (G := H) (by simp) (T.av_blw _ x) rfl (T.av_unown _) rfl ⟨rfl, rfl⟩
theorem take_snoc {l : List T} {i : Nat} (h : i < l.length) : l.take (i + 1) = l.take i ++ [l.getD i default] := by
  rw [List.take_add_one]; simp [h]
theorem c80 : ∀ (p : List Int) (t u : T), t.shaped = true → (atT t p).isSome = true → Pure Tryz.prog 80 [t.av, .lst 0 (ints p), u.av] (putT t p u).av := by
  intro p
  induction p with
  | nil =>
    intro t u ht ha H
    refine ok80.calls (by simp [fi80]) ?_
    simp only [fi80, ir80]
    simp (contextual := true) (maxSteps := 1000000) only [ints_len, stepsS, stepsT, stepsN, if_true, forall_const, ne_eq, implies_true, List.nil_append, List.append_nil, List.cons_append, List.length_cons, List.length_nil, Nat.reduceEqDiff, Nat.reduceAdd, Nat.reduceLT, Nat.reduceLeDiff, ↓reduceIte, reduceCtorEq, Int.reduceEq, Int.reduceLT]
    refine ⟨fun _ => ?_, fun h => absurd rfl h⟩
    simp (contextual := true) (maxSteps := 1000000) only [sp_TT, stepsS, stepsT, stepsN, if_true, forall_const, ne_eq, implies_true, List.nil_append, List.append_nil, List.cons_append, List.length_cons, List.length_nil, Nat.reduceEqDiff, Nat.reduceAdd, Nat.reduceLT, Nat.reduceLeDiff, ↓reduceIte, reduceCtorEq, Int.reduceEq, Int.reduceLT]
    exact ret1v (T.av_blw _ _) rfl
  | cons i r ih =>
    intro t u ht ha H
    refine ok80.calls (by simp [fi80]) ?_
    simp only [fi80, ir80]
    simp only [atT] at ha
    split at ha
    · cases ha
    · rename_i hi
      obtain ⟨m, rfl⟩ := Int.eq_ofNat_of_zero_le (show 0 ≤ i by omega)
      have hm : m < t.l.length := by omega
      have hl8 := (shaped_kids ht).1
      rw [Int.toNat_natCast] at ha
      have hsub := (shaped_kids ht).2 _ (mem_getD hm)
      have ep : putT t (↑m :: r) u = .mk t.k t.n (t.l.set m (putT (t.l.getD m default) r u)) := by rw [putT, Int.toNat_natCast]
      have hih := ih (t.l.getD m default) u hsub ha
      have hlen : (t.l.set m (putT (t.l.getD m default) r u)).length = t.l.length := by rw [List.length_set]
      have hget : ∀ i, i < t.l.length → (t.l.set m (putT (t.l.getD m default) r u)).getD i default = if i = m then putT (t.l.getD m default) r u else t.l.getD i default := by
        intro i hi'
        by_cases e : i = m
        · subst e; rw [if_pos rfl, List.getD_eq_getElem?_getD, List.getElem?_set_self hi']; rfl
        · rw [if_neg e, List.getD_eq_getElem?_getD, List.getElem?_set_ne (by omega), ← List.getD_eq_getElem?_getD]
      rw [ep]
      generalize t.l.set m (putT (t.l.getD m default) r u) = L at *
      simp (contextual := true) (maxSteps := 1000000) only [ints_len, stepsS, stepsT, stepsN, if_true, forall_const, ne_eq, implies_true, List.nil_append, List.append_nil, List.cons_append, List.length_cons, List.length_nil, Nat.reduceEqDiff, Nat.reduceAdd, Nat.reduceLT, Nat.reduceLeDiff, ↓reduceIte, reduceCtorEq, Int.reduceEq, Int.reduceLT]
      refine fun _ => ⟨fun h => absurd h (by simp; omega), fun _ => ?_⟩
      refine swp_loop_nat t.l.length (fun _ => True) (fun i => [(1, .lst 0 (ints (↑m :: r))), (3, .iptr t.av), (5, .iptr u.av), (6, .ptr H.length 0), (7, .ptr (H.length + 1) 0), (8, .int .i64 i)])
        (fun i => H ++ [.cells [.int .i64 0, .int .i64 0, .nils], .cells [.int .i64 t.k, .int .i64 t.n, outT (L.take i)]]) ⟨trivial, sle_refl _ _ _⟩ fun i hi hI => ?_
      simp (contextual := true) (maxSteps := 1000000) only [outT_one, outT_blw, outT_drop, idxi0, stepsS, stepsT, stepsN, if_true, forall_const, ne_eq, implies_true, List.nil_append, List.append_nil, List.cons_append, List.length_cons, List.length_nil, Nat.reduceEqDiff, Nat.reduceAdd, Nat.reduceLT, Nat.reduceLeDiff, ↓reduceIte, reduceCtorEq, Int.reduceEq, Int.reduceLT]
      intro _
      refine ⟨fun hlt => ?_, fun hge => ?_⟩
      · have hlt := len_lt hlt
        have hlL : i < L.length := by omega
        have et := take_snoc hlL
        have hg := hget i hlt
        refine ⟨by simp, ?_⟩
        by_cases e : i = m
        · subst e
          rw [if_pos rfl] at hg
          simp (contextual := true) (maxSteps := 1000000) only [tail1, Option.map_some, Option.map_none, stepsS, stepsT, stepsN, if_true, forall_const, ne_eq, implies_true, List.nil_append, List.append_nil, List.cons_append, List.length_cons, List.length_nil, Nat.reduceEqDiff, Nat.reduceAdd, Nat.reduceLT, Nat.reduceLeDiff, ↓reduceIte, reduceCtorEq, Int.reduceEq, Int.reduceLT]
          refine ⟨hlt, dcall_pure hih ?_⟩
          simp (contextual := true) (maxSteps := 1000000) only [ap_outT, outT_snoc, outT_one, outT_blw, stepsS, stepsT, stepsN, if_true, forall_const, ne_eq, implies_true, List.nil_append, List.append_nil, List.cons_append, List.length_cons, List.length_nil, Nat.reduceEqDiff, Nat.reduceAdd, Nat.reduceLT, Nat.reduceLeDiff, ↓reduceIte, reduceCtorEq, Int.reduceEq, Int.reduceLT]
          refine ⟨by simp; omega, i + 1, hlt, by omega, sle_eq (by rw [wrap_nat i (by omega)]) (by rw [et, hg])⟩
        · rw [if_neg e] at hg
          have e' : ¬ ((i : Nat) : Int) = ((m : Nat) : Int) := by omega
          simp (contextual := true) (maxSteps := 1000000) only [e', ap_outT, outT_snoc, outT_one, outT_blw, stepsS, stepsT, stepsN, if_true, forall_const, ne_eq, implies_true, List.nil_append, List.append_nil, List.cons_append, List.length_cons, List.length_nil, Nat.reduceEqDiff, Nat.reduceAdd, Nat.reduceLT, Nat.reduceLeDiff, ↓reduceIte, reduceCtorEq, Int.reduceEq, Int.reduceLT]
          refine ⟨hlt, by simp; omega, i + 1, hlt, by omega, sle_eq (by rw [wrap_nat i (by omega)]) (by rw [et, hg])⟩
      · rw [List.take_of_length_le (by have := len_nlt hge; omega)]
        exact ret1v (T.av_blw _ (.mk t.k t.n L)) rfl
theorem c31 (t : T) (p : List Int) (u : T) : Pure Tryz.prog 31 [t.av, .lst 0 (ints p), u.av] (.tuple [(PutS t p u).1.av, .int .i64 (PutS t p u).2]) := by
  refine fun H => ok31.calls (by simp [fi31]) ?_
  simp only [fi31, ir31]
  simp (contextual := true) (maxSteps := 1000000) only [stepsS, stepsT, stepsN, if_true, forall_const, ne_eq, implies_true, List.nil_append, List.append_nil, List.cons_append, List.length_cons, List.length_nil, Nat.reduceEqDiff, Nat.reduceAdd, Nat.reduceLT, Nat.reduceLeDiff, ↓reduceIte, reduceCtorEq, Int.reduceEq, Int.reduceLT]
  refine scall_pure (c49' t) ?_
  by_cases htu : t.tree = true ∧ u.tree = true
  · have hts := ((T.tree_iff t).1 htu.1).2.2
    have e : PutS t p u = if (atT t p).isSome = true then boundS (putT t p u) else (T0, 41) := by rw [PutS, if_pos htu]
    rw [htu.1]
    simp (contextual := true) (maxSteps := 1000000) only [stepsS, stepsT, stepsN, if_true, forall_const, ne_eq, implies_true, List.nil_append, List.append_nil, List.cons_append, List.length_cons, List.length_nil, Nat.reduceEqDiff, Nat.reduceAdd, Nat.reduceLT, Nat.reduceLeDiff, ↓reduceIte, reduceCtorEq, Int.reduceEq, Int.reduceLT]
    refine scall_pure (c49' u) ?_
    rw [htu.2]
    simp (contextual := true) (maxSteps := 1000000) only [stepsS, stepsT, stepsN, if_true, forall_const, ne_eq, implies_true, List.nil_append, List.append_nil, List.cons_append, List.length_cons, List.length_nil, Nat.reduceEqDiff, Nat.reduceAdd, Nat.reduceLT, Nat.reduceLeDiff, ↓reduceIte, reduceCtorEq, Int.reduceEq, Int.reduceLT]
    refine scall_pure (c78 t p) ?_
    cases ha : (atT t p).isSome with
    | false =>
      have e : PutS t p u = (T0, 41) := by rw [e, if_neg (by rw [ha]; simp)]
      rw [e]
      simp (contextual := true) (maxSteps := 1000000) only [Bool.false_eq_true, stepsS, stepsT, stepsN, if_true, forall_const, ne_eq, implies_true, List.nil_append, List.append_nil, List.cons_append, List.length_cons, List.length_nil, Nat.reduceEqDiff, Nat.reduceAdd, Nat.reduceLT, Nat.reduceLeDiff, ↓reduceIte, reduceCtorEq, Int.reduceEq, Int.reduceLT]
      exact ret2w (G := H) (by simp) (T.av_blw _ T0) rfl rfl rfl ⟨rfl, rfl⟩
    | true =>
      have e : PutS t p u = boundS (putT t p u) := by rw [e, if_pos ha]
      rw [e]
      simp (contextual := true) (maxSteps := 1000000) only [stepsS, stepsT, stepsN, if_true, forall_const, ne_eq, implies_true, List.nil_append, List.append_nil, List.cons_append, List.length_cons, List.length_nil, Nat.reduceEqDiff, Nat.reduceAdd, Nat.reduceLT, Nat.reduceLeDiff, ↓reduceIte, reduceCtorEq, Int.reduceEq, Int.reduceLT]
      refine scall_pure (c80 p t u hts ha) ?_
      simp (contextual := true) (maxSteps := 1000000) only [stepsS, stepsT, stepsN, if_true, forall_const, ne_eq, implies_true, List.nil_append, List.append_nil, List.cons_append, List.length_cons, List.length_nil, Nat.reduceEqDiff, Nat.reduceAdd, Nat.reduceLT, Nat.reduceLeDiff, ↓reduceIte, reduceCtorEq, Int.reduceEq, Int.reduceLT]
      refine scall_pure (c53 _) ?_
      simp (contextual := true) (maxSteps := 1000000) only [sp_TT, stepsS, stepsT, stepsN, if_true, forall_const, ne_eq, implies_true, List.nil_append, List.append_nil, List.cons_append, List.length_cons, List.length_nil, Nat.reduceEqDiff, Nat.reduceAdd, Nat.reduceLT, Nat.reduceLeDiff, ↓reduceIte, reduceCtorEq, Int.reduceEq, Int.reduceLT]
      exact ret2w (G := H) (by simp) (T.av_blw _ _) rfl (T.av_unown _) rfl ⟨rfl, rfl⟩
  · have e2 : PutS t p u = (T0, 4) := by rw [PutS, if_neg htu]
    rw [e2]
    cases h1 : t.tree with
    | false =>
      simp (contextual := true) (maxSteps := 1000000) only [Bool.false_eq_true, stepsS, stepsT, stepsN, if_true, forall_const, ne_eq, implies_true, List.nil_append, List.append_nil, List.cons_append, List.length_cons, List.length_nil, Nat.reduceEqDiff, Nat.reduceAdd, Nat.reduceLT, Nat.reduceLeDiff, ↓reduceIte, reduceCtorEq, Int.reduceEq, Int.reduceLT]
      exact ret2w (G := H) (by simp) (T.av_blw _ T0) rfl rfl rfl ⟨rfl, rfl⟩
    | true =>
      have h2 : u.tree = false := by cases h : u.tree with | false => rfl | true => exact absurd ⟨h1, h⟩ htu
      simp (contextual := true) (maxSteps := 1000000) only [stepsS, stepsT, stepsN, if_true, forall_const, ne_eq, implies_true, List.nil_append, List.append_nil, List.cons_append, List.length_cons, List.length_nil, Nat.reduceEqDiff, Nat.reduceAdd, Nat.reduceLT, Nat.reduceLeDiff, ↓reduceIte, reduceCtorEq, Int.reduceEq, Int.reduceLT]
      refine scall_pure (c49' u) ?_
      rw [h2]
      simp (contextual := true) (maxSteps := 1000000) only [Bool.false_eq_true, stepsS, stepsT, stepsN, if_true, forall_const, ne_eq, implies_true, List.nil_append, List.append_nil, List.cons_append, List.length_cons, List.length_nil, Nat.reduceEqDiff, Nat.reduceAdd, Nat.reduceLT, Nat.reduceLeDiff, ↓reduceIte, reduceCtorEq, Int.reduceEq, Int.reduceLT]
      exact ret2w (G := H) (by simp) (T.av_blw _ T0) rfl rfl rfl ⟨rfl, rfl⟩
/-- With its variables told otherwise: one node. -/
def hdN (f : Int → Int) (t : T) : Int := if t.k = 1 then f t.n else t.n
theorem ren_hd (f : Int → Int) {t : T} (h : t.shaped = true) : ren f t = .mk t.k (hdN f t) (mapTs (fun n => .mk 1 (f n) []) t.l) := by
  unfold ren
  rw [mapT_eq, hdN]
  by_cases hk : t.k = 1
  · rw [if_pos hk, if_pos hk, shaped1' h hk, hk]; rfl
  · rw [if_neg hk, if_neg hk]
def rest84 : IR := ir84.tl.tl.tl
theorem ir84_eq : ir84 = .seq ir84.hd (.seq ir84.tl.hd (.seq ir84.tl.tl.hd rest84)) := rfl
def Q84 (H : List AObj) (x : T) : Exit → Env → List AObj → Prop := fun e env H' => (e = Exit.normal ∨ e = Exit.ret) ∧ aret H.length [RX.c 6 (some 3)] env H' fun r H' => r = x.av ∧ H' = H
theorem rest84_ok {H : List AObj} {env : Env} {t : T} {a b n' : Int} (ht : t.shaped = true) (ih : ∀ y ∈ t.l, Pure Tryz.prog 84 [y.av, .int .i64 a, .int .i64 b] (shT a b y).av)
    (h1 : get env 1 = .int .i64 a) (h2 : get env 2 = .int .i64 b) (h3 : get env 3 = .iptr t.av) (h6 : get env 6 = .ptr H.length 0) (h7 : get env 7 = .ptr (H.length + 1) 0) :
    swp Tryz.prog H.length rest84 env (H ++ [.cells [.int .i64 0, .int .i64 0, .nils], .cells [.int .i64 t.k, .int .i64 n', .nils]]) (Q84 H (.mk t.k n' (mapTs (fun n => .mk 1 (shN a b n) []) t.l))) := by
  have hl8 := (shaped_kids ht).1
  unfold Q84
  simp only [rest84, IR.tl, ir84]
  simp (contextual := true) (maxSteps := 1000000) only [h1, h2, h3, h6, h7, stepsS, stepsT, stepsN, if_true, forall_const, ne_eq, implies_true, List.nil_append, List.append_nil, List.cons_append, List.length_cons, List.length_nil, Nat.reduceEqDiff, Nat.reduceAdd, Nat.reduceLT, Nat.reduceLeDiff, ↓reduceIte, reduceCtorEq, Int.reduceEq, Int.reduceLT]
  refine swp_loop_nat t.l.length (fun _ => True) (fun i => [(1, .int .i64 a), (2, .int .i64 b), (3, .iptr t.av), (6, .ptr H.length 0), (7, .ptr (H.length + 1) 0), (8, .int .i64 i)])
    (fun i => H ++ [.cells [.int .i64 0, .int .i64 0, .nils], .cells [.int .i64 t.k, .int .i64 n', outT (mapTs (fun n => .mk 1 (shN a b n) []) (t.l.take i))]]) ⟨trivial, sle_refl _ _ _⟩ fun i hi hI => ?_
  simp (contextual := true) (maxSteps := 1000000) only [outT_one, outT_blw, outT_drop, stepsS, stepsT, stepsN, if_true, forall_const, ne_eq, implies_true, List.nil_append, List.append_nil, List.cons_append, List.length_cons, List.length_nil, Nat.reduceEqDiff, Nat.reduceAdd, Nat.reduceLT, Nat.reduceLeDiff, ↓reduceIte, reduceCtorEq, Int.reduceEq, Int.reduceLT]
  intro _
  refine ⟨fun hlt => ?_, fun hge => ?_⟩
  · have hlt := len_lt hlt
    refine ⟨hlt, dcall_pure (ih _ (mem_getD hlt)) ?_⟩
    simp (contextual := true) (maxSteps := 1000000) only [ap_outT, outT_snoc, outT_one, outT_blw, stepsS, stepsT, stepsN, if_true, forall_const, ne_eq, implies_true, List.nil_append, List.append_nil, List.cons_append, List.length_cons, List.length_nil, Nat.reduceEqDiff, Nat.reduceAdd, Nat.reduceLT, Nat.reduceLeDiff, ↓reduceIte, reduceCtorEq, Int.reduceEq, Int.reduceLT]
    have et : mapTs (fun n => .mk 1 (shN a b n) []) (t.l.take (i + 1)) = mapTs (fun n => .mk 1 (shN a b n) []) (t.l.take i) ++ [shT a b (t.l.getD i default)] := mapTs_take _ hlt
    refine ⟨by rw [mapTs_map]; simp; omega, i + 1, hlt, by omega, sle_eq (by rw [wrap_nat i (by omega)]) (by rw [et])⟩
  · rw [List.take_of_length_le (len_nlt hge)]
    exact ret1v (T.av_blw _ (.mk t.k n' (mapTs (fun n => .mk 1 (shN a b n) []) t.l))) rfl
theorem c84 (t : T) (a b : Int) (ht : t.shaped = true) : Pure Tryz.prog 84 [t.av, .int .i64 a, .int .i64 b] (shT a b t).av := by
  have hkids := shaped_kids ht
  have ih : ∀ y ∈ t.l, Pure Tryz.prog 84 [y.av, .int .i64 a, .int .i64 b] (shT a b y).av := fun y hy => c84 y a b (hkids.2 y hy)
  refine fun H => ok84.calls (by simp [fi84]) ?_
  simp only [fi84]
  rw [ir84_eq]
  simp only [IR.hd, IR.tl, ir84]
  have eR : shT a b t = .mk t.k (hdN (shN a b) t) (mapTs (fun n => .mk 1 (shN a b n) []) t.l) := by rw [← ren_hd _ ht]; rfl
  have hR : ∀ {env : Env} (n' : Int), n' = hdN (shN a b) t → get env 1 = .int .i64 a → get env 2 = .int .i64 b → get env 3 = .iptr t.av → get env 6 = .ptr H.length 0 → get env 7 = .ptr (H.length + 1) 0 →
      swp Tryz.prog H.length rest84 env (H ++ [.cells [.int .i64 0, .int .i64 0, .nils], .cells [.int .i64 t.k, .int .i64 n', .nils]]) (Q84 H (shT a b t)) := by
    intro env n' hn h1 h2 h3 h6 h7
    rw [eR, ← hn]
    exact rest84_ok ht ih h1 h2 h3 h6 h7
  by_cases hk : t.k = 1
  · by_cases hn : a ≤ t.n
    · have hR := @hR [(1, .int .i64 a), (2, .int .i64 b), (3, .iptr t.av), (6, .ptr H.length 0), (7, .ptr (H.length + 1) 0)] (IntKind.i64.wrap (t.n + b)) (by rw [hdN, if_pos hk, shN, if_pos hn]) rfl rfl rfl rfl rfl
      rw [hk] at hR
      simp (contextual := true) (maxSteps := 1000000) only [hk, hn, stepsS, stepsT, stepsN, if_true, forall_const, ne_eq, implies_true, List.nil_append, List.append_nil, List.cons_append, List.length_cons, List.length_nil, Nat.reduceEqDiff, Nat.reduceAdd, Nat.reduceLT, Nat.reduceLeDiff, ↓reduceIte, reduceCtorEq, Int.reduceEq, Int.reduceLT]
      exact hR
    · have hR := @hR [(1, .int .i64 a), (2, .int .i64 b), (3, .iptr t.av), (6, .ptr H.length 0), (7, .ptr (H.length + 1) 0), (22, .bool false)] t.n (by rw [hdN, if_pos hk, shN, if_neg hn]) rfl rfl rfl rfl rfl
      rw [hk] at hR
      simp (contextual := true) (maxSteps := 1000000) only [hk, hn, Bool.false_eq_true, stepsS, stepsT, stepsN, if_true, forall_const, ne_eq, implies_true, List.nil_append, List.append_nil, List.cons_append, List.length_cons, List.length_nil, Nat.reduceEqDiff, Nat.reduceAdd, Nat.reduceLT, Nat.reduceLeDiff, ↓reduceIte, reduceCtorEq, Int.reduceEq, Int.reduceLT]
      exact hR
  · simp (contextual := true) (maxSteps := 1000000) only [hk, Bool.false_eq_true, stepsS, stepsT, stepsN, if_true, forall_const, ne_eq, implies_true, List.nil_append, List.append_nil, List.cons_append, List.length_cons, List.length_nil, Nat.reduceEqDiff, Nat.reduceAdd, Nat.reduceLT, Nat.reduceLeDiff, ↓reduceIte, reduceCtorEq, Int.reduceEq, Int.reduceLT]
    exact hR t.n (by rw [hdN, if_neg hk]) rfl rfl rfl rfl rfl
termination_by SizeOf.sizeOf t
decreasing_by exact T.lt hy
/-! ### Shift -/
theorem c33 (t : T) (a b : Int) (ha1 : a ≤ 9223372036854775807) (hb0 : -9223372036854775808 ≤ b) (hb1 : b ≤ 9223372036854775807)
    (hv : t.tree = true → ∀ v ∈ walkVs [t] [], 0 ≤ v ∧ v ≤ 9223372036854775807) : Pure Tryz.prog 33 [t.av, .int .i64 a, .int .i64 b] (.tuple [(shiftS t a b).1.av, .int .i64 (shiftS t a b).2]) := by
  refine fun H => ok33.calls (by simp [fi33]) ?_
  simp only [fi33, ir33]
  simp (contextual := true) (maxSteps := 1000000) only [stepsS, stepsT, stepsN, if_true, forall_const, ne_eq, implies_true, List.nil_append, List.append_nil, List.cons_append, List.length_cons, List.length_nil, Nat.reduceEqDiff, Nat.reduceAdd, Nat.reduceLT, Nat.reduceLeDiff, ↓reduceIte, reduceCtorEq, Int.reduceEq, Int.reduceLT]
  refine scall_pure (c49' t) ?_
  cases ht : t.tree with
  | false =>
    simp (contextual := true) (maxSteps := 1000000) only [Bool.false_eq_true, stepsS, stepsT, stepsN, if_true, forall_const, ne_eq, implies_true, List.nil_append, List.append_nil, List.cons_append, List.length_cons, List.length_nil, Nat.reduceEqDiff, Nat.reduceAdd, Nat.reduceLT, Nat.reduceLeDiff, ↓reduceIte, reduceCtorEq, Int.reduceEq, Int.reduceLT]
    exact ret2v (T.av_blw _ _) rfl (by rw [shiftS, if_neg (by rw [ht]; simp)]; rfl) (by rw [shiftS, if_neg (by rw [ht]; simp)]; rfl)
  | true =>
    simp (contextual := true) (maxSteps := 1000000) only [stepsS, stepsT, stepsN, if_true, forall_const, ne_eq, implies_true, List.nil_append, List.append_nil, List.cons_append, List.length_cons, List.length_nil, Nat.reduceEqDiff, Nat.reduceAdd, Nat.reduceLT, Nat.reduceLeDiff, ↓reduceIte, reduceCtorEq, Int.reduceEq, Int.reduceLT]
    refine ⟨fun h => ret2v (T.av_blw _ _) rfl (by rw [shiftS, if_pos ht, if_pos h]; rfl) (by rw [shiftS, if_pos ht, if_pos h]; rfl), fun h => ?_⟩
    have hst := (T.tree_iff t).1 ht
    replace hv := hv ht
    refine scall_pure (c52 [t] (by simp only [szs]; omega)) ?_
    have ev : varsL [t] = walkVs [t] [] := by rw [varsW, if_pos (by simp [treesB, ht])]
    have e : shiftS t a b = if (walkVs [t] []).any (badV a b) = true then (T0, 1) else (shT a b t, 0) := by rw [shiftS, if_pos ht, if_neg (by omega)]
    rw [ev]
    generalize hL : walkVs [t] [] = L at *
    generalize shiftS t a b = S at *
    simp (contextual := true) (maxSteps := 1000000) only [stepsS, stepsT, stepsN, if_true, forall_const, ne_eq, implies_true, List.nil_append, List.append_nil, List.cons_append, List.length_cons, List.length_nil, Nat.reduceEqDiff, Nat.reduceAdd, Nat.reduceLT, Nat.reduceLeDiff, ↓reduceIte, reduceCtorEq, Int.reduceEq, Int.reduceLT]
    refine swp_loop_nat L.length (fun i => (L.drop i).any (badV a b) = L.any (badV a b)) (fun i => [(1, .int .i64 a), (2, .int .i64 b), (3, .iptr t.av), (6, .ptr H.length 0), (8, .lst 0 (ints L)), (9, .int .i64 i)])
      (fun i => H ++ [.cells [.int .i64 0, .int .i64 0, .nils]]) ⟨rfl, sle_refl _ _ _⟩ fun i hi hI => ?_
    by_cases hlt : i < L.length
    · rw [any_drop hlt] at hI
      have hmem : L.getD i 0 ∈ L := by simp [hlt]
      have hvr := hv _ hmem
      have hE : badV a b (L.getD i 0) = true → S = (T0, 1) := fun h => by rw [e, if_pos (by rw [← hI, h]; rfl)]
      have hC : badV a b (L.getD i 0) = false → (L.drop (i + 1)).any (badV a b) = L.any (badV a b) := fun h => by rw [← hI, h]; rfl
      have leafE : badV a b (L.getD i 0) = true → aret2 H.length [.agg [.int .i64 0, .int .i64 0, .lst 0 []], .int .i64 1] (H ++ [.cells [.int .i64 0, .int .i64 0, .nils]])
        (fun r H' => r = .tuple [S.1.av, .int .i64 S.2] ∧ H' = H) := fun h => by rw [hE h]; exact ret2v (T.av_blw H.length T0) rfl rfl rfl
      have hlt' : (i : Int) < L.length := by omega
      have w1 : 0 ≤ b → IntKind.i64.wrap (1000000 - b) = 1000000 - b := fun _ => wrap_in _ (by omega)
      have w2 : IntKind.i64.wrap (L.getD i 0 - a) = L.getD i 0 - a := wrap_in _ (by omega)
      have w3 : b < 0 → IntKind.i64.wrap (0 - IntKind.i64.wrap (b + 1)) = - (b + 1) := fun h => by rw [wrap_in (b + 1) (by omega), wrap_in _ (by omega)]; omega
      have w4 : b < 0 → IntKind.i64.wrap (L.getD i 0 + b) = L.getD i 0 + b := fun h => wrap_in _ (by omega)
      simp (contextual := true) (maxSteps := 1000000) only [ints_len, hlt', w2, stepsS, stepsT, stepsN, if_true, forall_const, ne_eq, implies_true, List.nil_append, List.append_nil, List.cons_append, List.length_cons, List.length_nil, Nat.reduceEqDiff, Nat.reduceAdd, Nat.reduceLT, Nat.reduceLeDiff, ↓reduceIte, reduceCtorEq, Int.reduceEq, Int.reduceLT]
      intro hL63
      generalize L.getD i 0 = v at *
      have leafC : badV a b v = false → ∃ j, (j ≤ L.length ∧ (L.drop j).any (badV a b) = L.any (badV a b)) ∧ L.length - j < L.length - i ∧
          sle H.length [(1, AV.int IntKind.i64 a), (2, AV.int IntKind.i64 b), (3, t.av.iptr), (6, AV.ptr H.length 0), (8, AV.lst 0 (ints L)), (9, AV.int IntKind.i64 (IntKind.i64.wrap (i + 1)))]
            (H ++ [AObj.cells [AV.int IntKind.i64 0, AV.int IntKind.i64 0, AV.nils]])
            [(1, AV.int IntKind.i64 a), (2, AV.int IntKind.i64 b), (3, t.av.iptr), (6, AV.ptr H.length 0), (8, AV.lst 0 (ints L)), (9, AV.int IntKind.i64 j)]
            (H ++ [AObj.cells [AV.int IntKind.i64 0, AV.int IntKind.i64 0, AV.nils]]) :=
        fun h => ⟨i + 1, ⟨hlt, hC h⟩, by omega, sle_eq (by rw [wrap_nat i (by omega)]) rfl⟩
      clear hI hE hC e hL hv ht hst ev w2
      repeat' (first | exact hlt | apply And.intro | intro)
      all_goals first
        | exact leafE (by rw [badV, decide_eq_true_eq]; omega)
        | exact leafC (by rw [badV, decide_eq_false_iff_not]; omega)
        | (exfalso; omega)
    · rw [List.drop_of_length_le (by omega)] at hI
      have hlt' : ¬ (i : Int) < L.length := by omega
      simp (contextual := true) (maxSteps := 1000000) only [ints_len, hlt', Bool.false_eq_true, stepsS, stepsT, stepsN, if_true, forall_const, ne_eq, implies_true, List.nil_append, List.append_nil, List.cons_append, List.length_cons, List.length_nil, Nat.reduceEqDiff, Nat.reduceAdd, Nat.reduceLT, Nat.reduceLeDiff, ↓reduceIte, reduceCtorEq, Int.reduceEq, Int.reduceLT]
      refine fun _ => scall_pure (c84 t a b hst.2.2) ?_
      have eS : S = (shT a b t, 0) := by rw [e, if_neg (by rw [← hI]; simp)]
      rw [eS]
      simp (contextual := true) (maxSteps := 1000000) only [sp_TT, stepsS, stepsT, stepsN, if_true, forall_const, ne_eq, implies_true, List.nil_append, List.append_nil, List.cons_append, List.length_cons, List.length_nil, Nat.reduceEqDiff, Nat.reduceAdd, Nat.reduceLT, Nat.reduceLeDiff, ↓reduceIte, reduceCtorEq, Int.reduceEq, Int.reduceLT]
      exact ret2v (T.av_blw H.length (shT a b t)) rfl (T.av_unown _) rfl
end Go.Abs
end
