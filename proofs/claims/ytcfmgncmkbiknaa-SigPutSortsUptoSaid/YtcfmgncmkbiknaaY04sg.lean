/- slices.Repeat, of one number. -/
import Derived.Test.YtcfmgncmkbiknaaY04sf
set_option maxRecDepth 100000
set_option linter.unusedSimpArgs false
set_option linter.unusedVariables false
namespace Go.Abs
open Go Go.Proofs
theorem wrapu (n : Int) (h0 : 0 ≤ n) (h1 : n < 18446744073709551616) : IntKind.u64.wrap n = n := by
  simp only [IntKind.wrap]
  have h2 : IntKind.u64.bits = 64 := rfl
  have h3 : IntKind.u64.signed = false := rfl
  rw [h2, h3]
  simp
  omega
theorem and_u (n : Int) (h0 : 0 ≤ n) (h1 : n ≤ 4294967295) (φ : AV → Prop) : abin .and (.int .u64 n) (.int .u64 4294967295) φ = φ (.int .u64 n) := by
  have e : IntKind.u64.wrap ((BitVec.ofInt IntKind.u64.bits n &&& BitVec.ofInt IntKind.u64.bits 4294967295).toNat : Int) = n := by
    obtain ⟨m, rfl⟩ := Int.eq_ofNat_of_zero_le h0
    have hb : IntKind.u64.bits = 64 := rfl
    rw [hb]
    have h2 : (BitVec.ofInt 64 (m : Int) &&& BitVec.ofInt 64 4294967295).toNat = m := by
      rw [BitVec.toNat_and]
      have h3 : (BitVec.ofInt 64 (m : Int)).toNat = m := by
        rw [BitVec.toNat_ofInt]
        omega
      have h4 : (BitVec.ofInt 64 4294967295).toNat = 2 ^ 32 - 1 := by decide
      rw [h3, h4, Nat.and_two_pow_sub_one_eq_mod]
      omega
    rw [h2]
    exact wrapu _ (by omega) (by omega)
  simp only [abin, e, true_and]
theorem shr_u (n : Int) (h0 : 0 ≤ n) (h1 : n ≤ 4294967295) (φ : AV → Prop) : ashift .shr (.int .u64 n) (.int .u64 32) φ = φ (.int .u64 0) := by
  have e : n.fdiv (2 ^ (min (32 : Int).toNat IntKind.u64.bits)) = 0 := by
    have : (2 : Int) ^ (min (32 : Int).toNat IntKind.u64.bits) = 4294967296 := rfl
    rw [this, Int.fdiv_eq_ediv_of_nonneg _ (by omega)]
    omega
  simp only [ashift, e, eq_iff_iff]
  exact ⟨fun h => h.2, fun h => ⟨by omega, h⟩⟩
theorem mul_u (a b : Int) (φ : AV → Prop) : abin .mul (.int .u64 a) (.int .u64 b) φ = φ (.int .u64 (IntKind.u64.wrap (a * b))) := by simp [abin]
theorem c111 (n : Int) (h0 : 0 ≤ n) (h1 : n ≤ 4000) : Pure Try.prog 111 [.int .u64 1, .int .u64 n] (.tuple [.int .u64 0, .int .u64 n]) := by
  refine fun H => ok111.calls (by simp [fi111]) ?_
  simp only [fi111, ir111]
  have a1 := fun φ => and_u 1 (by omega) (by omega) φ
  have a0 := fun φ => and_u 0 (by omega) (by omega) φ
  have an := fun φ => and_u n h0 (by omega) φ
  have s1 := fun φ => shr_u 1 (by omega) (by omega) φ
  have s0 := fun φ => shr_u 0 (by omega) (by omega) φ
  have sn := fun φ => shr_u n h0 (by omega) φ
  have wn := wrapu n h0 (by omega)
  have w0 := wrapu 0 (by omega) (by omega)
  simp (contextual := true) (maxSteps := 1000000) only [a1, a0, an, s1, s0, sn, wn, w0, mul_u, Int.zero_mul, Int.mul_zero, Int.one_mul, Int.add_zero, Int.zero_add, stepsS, stepsT, stepsN, if_true, forall_const, ne_eq, implies_true, List.nil_append, List.append_nil, List.cons_append, List.length_cons, List.length_nil, Nat.reduceEqDiff, Nat.reduceAdd, Nat.reduceLT, Nat.reduceLeDiff, ↓reduceIte, reduceCtorEq, Int.reduceEq, Int.reduceLT]
  exact ret20 (by decide) rfl rfl rfl rfl
theorem ci_int2 (k k' : IntKind) (n : Int) (φ : AV → Prop) : aconvInt k (.int k' n) φ = φ (.int k (k.wrap n)) := _root_.id rfl
theorem c99 (n : Int) (h0 : 0 ≤ n) (h1 : n ≤ 4000) : Pure Try.prog 99 [.int .u64 1, .int .u64 n] (.tuple [.int .u64 0, .int .u64 n]) := by
  refine fun H => ok99.calls (by simp [fi99]) ?_
  simp only [fi99, ir99]
  simp (contextual := true) (maxSteps := 1000000) only [Bool.false_eq_true, stepsS, stepsT, stepsN, if_true, forall_const, ne_eq, implies_true, List.nil_append, List.append_nil, List.cons_append, List.length_cons, List.length_nil, Nat.reduceEqDiff, Nat.reduceAdd, Nat.reduceLT, Nat.reduceLeDiff, ↓reduceIte, reduceCtorEq, Int.reduceEq, Int.reduceLT]
  refine scall_pure (c111 n h0 h1) ?_
  simp (contextual := true) (maxSteps := 1000000) only [stepsS, stepsT, stepsN, if_true, forall_const, ne_eq, implies_true, List.nil_append, List.append_nil, List.cons_append, List.length_cons, List.length_nil, Nat.reduceEqDiff, Nat.reduceAdd, Nat.reduceLT, Nat.reduceLeDiff, ↓reduceIte, reduceCtorEq, Int.reduceEq, Int.reduceLT]
  exact ret20 (by decide) rfl rfl rfl rfl
def objI (l : List Int) : AObj := .cells (ints l)
theorem flat_ints (l : List Int) : flat (ints l) = ints l := by
  induction l with
  | nil => rfl
  | cons x r ih => simp only [ints, List.map_cons, flat, List.flatMap_cons, AV.cells] at ih ⊢; rw [ih]; rfl
theorem ints_unown (l : List Int) : (ints l).map AV.unown = ints l := by simp [ints, AV.unown]
theorem ints_one (l : List Int) : (ints l).all AV.one = true := by simp [ints, AV.one]
theorem ints_app (a b : List Int) : ints (a ++ b) = ints a ++ ints b := by simp [ints]
theorem ints_take (l : List Int) (n : Nat) : (ints l).take n = ints (l.take n) := by simp [ints]
theorem ints_drop (l : List Int) (n : Nat) : (ints l).drop n = ints (l.drop n) := by simp [ints]
theorem ints_all (l : List Int) : (ints l).all (fun y => y.cells.length == 1) = true := by simp [ints, AV.cells]
theorem mkI (n : Nat) (H : List AObj) (K : AV → List AObj → Prop) (h : n * 8 ≤ 140737488355328) : amkarr 1 8 (.int .i64 0) (.int .i64 (n : Int)) H K = K (.arr H.length 0 n n) (H ++ [objI (List.replicate n 0)]) := by
  have e : flat (List.replicate n (zcanon (.int .i64 0))) = ints (List.replicate n 0) := by
    have : List.replicate n (zcanon (.int .i64 0)) = ints (List.replicate n 0) := by simp [ints, zcanon]
    rw [this, flat_ints]
  simp only [amkarr, Int.toNat_natCast, e, ints_blw, objI, true_and, eq_iff_iff]
  exact ⟨fun k => k.2.2, fun k => ⟨by omega, h, k⟩⟩
/-- To copy numbers into an object of numbers. -/
theorem cpI {id off len c : Nat} {s : AV} {G : List AObj} {l xs : List Int} {n : Nat} (hg : G[id]? = some (objI l)) (hs : csrc 1 s G = some (n, ints xs)) (hle : off + min n len ≤ l.length) (hx : min n len ≤ xs.length) {K : AV → List AObj → Prop}
    (hK : K (.int .i64 (min n len : Nat)) (G.set id (objI (l.take off ++ xs.take (min n len) ++ l.drop (off + min n len))))) : acopy 1 (.arr id off len c) s G K := by
  unfold acopy
  rw [hs]
  simp only [hg, objI, Nat.mul_one, ints_take, ints_one, ints_unown, ints_blw, ints_len, true_and]
  refine ⟨hle, ?_⟩
  have e : asplice (ints l) off (ints (xs.take (min n len))) = ints (l.take off ++ xs.take (min n len) ++ l.drop (off + min n len)) := by
    rw [asplice, ints_len, ints_take, ints_drop, ints_app, ints_app, List.length_take, Nat.min_eq_left hx, List.append_assoc]
  rw [e]
  exact hK
theorem slA (e id off len cap : Nat) (k : IntKind) (l : Nat) (φ : AV → Prop) : asliceX e (.arr id off len cap) (some (.int k (l : Int))) none none φ = (l ≤ len ∧ len ≤ cap ∧ φ (.arr id (if cap = l then off else off + l * e) (len - l) (cap - l))) := by
  simp only [asliceX, aslicea, aidx, Int.toNat_natCast, true_and, eq_iff_iff]
  exact ⟨fun h => h.2, fun h => ⟨by omega, h⟩⟩
theorem slB (e id off len cap : Nat) (k : IntKind) (h : Nat) (φ : AV → Prop) : asliceX e (.arr id off len cap) none (some (.int k (h : Int))) none φ = (h ≤ cap ∧ φ (.arr id (if cap = 0 then off else off + 0 * e) h cap)) := by
  simp only [asliceX, aslicea, aidx, Int.toNat_natCast, true_and, Nat.zero_le, Nat.sub_zero, eq_iff_iff]
  exact ⟨fun h => h.2, fun h => ⟨by omega, h⟩⟩
def repI (n m : Nat) : List Int := List.replicate m (-1) ++ List.replicate (n - m) 0
theorem repI_len {n m : Nat} (h : m ≤ n) : (repI n m).length = n := by simp [repI]; omega
theorem repI_step {n m k : Nat} (hm : m ≤ n) (hk : k ≤ m) (hkn : m + k ≤ n) : (repI n m).take m ++ (repI n m).take k ++ (repI n m).drop (m + k) = repI n (m + k) := by
  unfold repI
  rw [List.take_append_of_le_length (by simp), List.take_append_of_le_length (by simp; omega)]
  rw [List.take_of_length_le (by simp)]
  rw [List.take_replicate, Nat.min_eq_left hk, List.replicate_append_replicate]
  congr 1
  rw [List.drop_append, List.drop_of_length_le (by simp), List.nil_append]
  simp
  omega
theorem c71 (n : Nat) (h1 : n ≤ 4000) (H : List AObj) : ACalls Try.prog 71 [.lst 0 [.int .i64 (-1)], .int .i64 n] H fun r H' => r = .arr H.length 0 n n ∧ H' = H ++ [objI (List.replicate n (-1))] := by
  refine ok71.calls (by simp [fi71]) ?_
  simp only [fi71, ir71]
  have wn := wrapu n (by omega) (by omega)
  have w1 : IntKind.u64.wrap ((1 : Nat) : Int) = 1 := wrapu 1 (by omega) (by omega)
  have hnn : ¬ (n : Int) < 0 := by omega
  simp (contextual := true) (maxSteps := 1000000) only [ci_int2, hnn, wn, w1, stepsS, stepsT, stepsN, if_true, forall_const, ne_eq, implies_true, List.nil_append, List.append_nil, List.cons_append, List.length_cons, List.length_nil, Nat.reduceEqDiff, Nat.reduceAdd, Nat.reduceLT, Nat.reduceLeDiff, ↓reduceIte, reduceCtorEq, Int.reduceEq, Int.reduceLT]
  refine scall_pure (c99 n (by omega) (by omega)) ?_
  have w3 : IntKind.i64.wrap (n : Int) = n := wrap_in _ (by omega)
  have h2 : ¬ (9223372036854775807 : Int) < (n : Int) := by omega
  simp (contextual := true) (maxSteps := 1000000) only [ci_int2, Int.reduceEq, Int.reduceLT, h2, w3, stepsS, stepsT, stepsN, if_true, forall_const, ne_eq, implies_true, List.nil_append, List.append_nil, List.cons_append, List.length_cons, List.length_nil, Nat.reduceEqDiff, Nat.reduceAdd, Nat.reduceLT, Nat.reduceLeDiff, ↓reduceIte, reduceCtorEq, Int.reduceEq, Int.reduceLT]
  rw [mkI n _ _ (by omega)]
  simp (contextual := true) (maxSteps := 1000000) only [un_arr', stepsS, stepsT, stepsN, if_true, forall_const, ne_eq, implies_true, List.nil_append, List.append_nil, List.cons_append, List.length_cons, List.length_nil, Nat.reduceEqDiff, Nat.reduceAdd, Nat.reduceLT, Nat.reduceLeDiff, ↓reduceIte, reduceCtorEq, Int.reduceEq, Int.reduceLT]
  have hg : ∀ l, (H ++ [objI l])[H.length]? = some (objI l) := fun l => by simp
  have hset : ∀ l l', (H ++ [objI l]).set H.length (objI l') = H ++ [objI l'] := fun l l' => by simp
  refine cpI (l := List.replicate n 0) (xs := [-1]) (n := 1) (hg _) (by rfl) (by simp; omega) (by simp; omega) ?_
  rw [hset]
  have e0 : (List.replicate n 0).take 0 ++ [(-1 : Int)].take (min 1 n) ++ (List.replicate n 0).drop (0 + min 1 n) = repI n (min 1 n) := by
    cases n with
    | zero => rfl
    | succ n => simp [repI, Nat.min_eq_left]
  rw [e0]
  simp (contextual := true) (maxSteps := 1000000) only [un_arr', stepsS, stepsT, stepsN, if_true, forall_const, ne_eq, implies_true, List.nil_append, List.append_nil, List.cons_append, List.length_cons, List.length_nil, Nat.reduceEqDiff, Nat.reduceAdd, Nat.reduceLT, Nat.reduceLeDiff, ↓reduceIte, reduceCtorEq, Int.reduceEq, Int.reduceLT]
  refine ⟨Nat, fun m => m ≤ n ∧ min 1 n ≤ m, fun m => [(7, .arr H.length 0 n n), (8, .int .i64 m)], fun m => H ++ [objI (repI n m)], fun m => n - m, ⟨min 1 n, ⟨by omega, by omega⟩, sle_refl _ _ _⟩, fun m hm => ?_⟩
  obtain ⟨h3, h4⟩ := hm
  simp (contextual := true) (maxSteps := 1000000) only [un_arr', slA, slB, Option.map_some, Option.map_none, stepsS, stepsT, stepsN, if_true, forall_const, ne_eq, implies_true, List.nil_append, List.append_nil, List.cons_append, List.length_cons, List.length_nil, Nat.reduceEqDiff, Nat.reduceAdd, Nat.reduceLT, Nat.reduceLeDiff, ↓reduceIte, reduceCtorEq, Int.reduceEq, Int.reduceLT]
  refine ⟨fun hlt => ?_, fun hge => ?_⟩
  · have hlt : m < n := by omega
    refine ⟨by omega, by omega, ?_⟩
    have hnm : ¬ n = m := by omega
    have hn0 : ¬ n = 0 := by omega
    rw [if_neg hnm, if_neg hn0]
    have hl := repI_len h3
    have hmin : min m (n - m) ≤ m := Nat.min_le_left _ _
    have hmin2 : m + min m (n - m) ≤ n := by omega
    refine cpI (l := repI n m) (xs := repI n m) (n := m) (hg _) ?_ (by rw [hl]; omega) (by rw [hl]; omega) ?_
    · simp [csrc, objI, ints_len, hl]; omega
    · rw [hset]
      have e1 : 0 + m * 1 = m := by omega
      rw [e1, repI_step h3 hmin hmin2]
      have wm : IntKind.i64.wrap ((m : Int) + ((min m (n - m) : Nat) : Int)) = ((m + min m (n - m) : Nat) : Int) := by rw [wrap_in _ (by omega)]; omega
      simp (contextual := true) (maxSteps := 1000000) only [un_arr', wm, stepsS, stepsT, stepsN, if_true, forall_const, ne_eq, implies_true, List.nil_append, List.append_nil, List.cons_append, List.length_cons, List.length_nil, Nat.reduceEqDiff, Nat.reduceAdd, Nat.reduceLT, Nat.reduceLeDiff, ↓reduceIte, reduceCtorEq, Int.reduceEq, Int.reduceLT]
      exact ⟨m + min m (n - m), ⟨hmin2, by omega⟩, by omega, sle_refl _ _ _⟩
  · have e1 : m = n := by omega
    have e2 : repI n m = List.replicate n (-1) := by rw [e1]; simp [repI]
    rw [e2]
    refine aret_one (H.length + 1) (by omega) ?_ ?_
    · rw [gt_cons, if_pos rfl, bw_arr]; simp
    · rw [gt_cons, if_pos rfl]
      exact ⟨rfl, List.take_of_length_le (by simp)⟩
end Go.Abs
