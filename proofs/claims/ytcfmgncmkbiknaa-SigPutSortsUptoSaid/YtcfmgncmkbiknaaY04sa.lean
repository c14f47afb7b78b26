/- Names. -/
import Derived.Test.YtcfmgncmkbiknaaY04me
set_option maxRecDepth 100000
set_option linter.unusedSimpArgs false
set_option linter.unusedVariables false
namespace Go.Abs
open Go Go.Proofs
theorem ixs (s : ByteArray) (k : IntKind) (i : Nat) (φ : AV → Prop) : aindexStr (.str s) (.int k (i : Int)) φ = (i < s.size ∧ φ (.int .u8 (s.data.toList.getD i 0).toNat)) := by
  simp only [aindexStr, Int.toNat_natCast, eq_iff_iff]
  exact ⟨fun h => h.2, fun h => ⟨by omega, h⟩⟩
theorem bn_eqS (a b : ByteArray) (φ : AV → Prop) : abin .eql (.str a) (.str b) φ = φ (.bool (decide (a = b))) := by
  simp [abin]
theorem bn_addS (a b : ByteArray) (φ : AV → Prop) : abin .add (.str a) (.str b) φ = (a.size + b.size < 9223372036854775808 ∧ φ (.str (a ++ b))) := by
  simp [abin]
theorem entPure {g : Nat} {f : List AV → Option AV} (h : EntOk Try.prog g (.prim f)) {xs : List AV} {r : AV} (hr : f xs = some r) : Pure Try.prog g xs r := fun H => h xs r H hr
theorem c116 (s : ByteArray) (c : Int) : Pure Try.prog 116 [.str s, .int .u8 c] (.int .i64 (firstIdx s c.toNat.toUInt8)) := entPure e116 rfl
def cntB (s : ByteArray) (c : Int) : Int := s.foldl (fun (n : Int) x => if x == c.toNat.toUInt8 then n + 1 else n) ((0 : Nat) : Int)
theorem c115 (s : ByteArray) (c : Int) : Pure Try.prog 115 [.str s, .int .u8 c] (.int .i64 (cntB s c)) := entPure e115 (by simp only [countP, cntB])
theorem c112 (s : ByteArray) (c : Int) : Pure Try.prog 112 [.str s, .int .u8 c] (.int .i64 (firstIdx s c.toNat.toUInt8)) := by
  refine fun H => ok112.calls (by simp [fi112]) ?_
  simp only [fi112, ir112]
  simp (contextual := true) (maxSteps := 1000000) only [un_str, stepsS, stepsT, stepsN, if_true, forall_const, ne_eq, implies_true, List.nil_append, List.append_nil, List.cons_append, List.length_cons, List.length_nil, Nat.reduceEqDiff, Nat.reduceAdd, Nat.reduceLT, Nat.reduceLeDiff, ↓reduceIte, reduceCtorEq, Int.reduceEq, Int.reduceLT]
  refine scall_pure (c116 s c) ?_
  simp (contextual := true) (maxSteps := 1000000) only [stepsS, stepsT, stepsN, if_true, forall_const, ne_eq, implies_true, List.nil_append, List.append_nil, List.cons_append, List.length_cons, List.length_nil, Nat.reduceEqDiff, Nat.reduceAdd, Nat.reduceLT, Nat.reduceLeDiff, ↓reduceIte, reduceCtorEq, Int.reduceEq, Int.reduceLT]
  exact ret0 rfl rfl
theorem c103 (s : ByteArray) (c : Int) : Pure Try.prog 103 [.str s, .int .u8 c] (.int .i64 (firstIdx s c.toNat.toUInt8)) := by
  refine fun H => ok103.calls (by simp [fi103]) ?_
  simp only [fi103, ir103]
  simp (contextual := true) (maxSteps := 1000000) only [un_str, stepsS, stepsT, stepsN, if_true, forall_const, ne_eq, implies_true, List.nil_append, List.append_nil, List.cons_append, List.length_cons, List.length_nil, Nat.reduceEqDiff, Nat.reduceAdd, Nat.reduceLT, Nat.reduceLeDiff, ↓reduceIte, reduceCtorEq, Int.reduceEq, Int.reduceLT]
  refine scall_pure (c112 s c) ?_
  simp (contextual := true) (maxSteps := 1000000) only [stepsS, stepsT, stepsN, if_true, forall_const, ne_eq, implies_true, List.nil_append, List.append_nil, List.cons_append, List.length_cons, List.length_nil, Nat.reduceEqDiff, Nat.reduceAdd, Nat.reduceLT, Nat.reduceLeDiff, ↓reduceIte, reduceCtorEq, Int.reduceEq, Int.reduceLT]
  exact ret0 rfl rfl
/-- The text _ -/
def us : ByteArray := ⟨#[95]⟩
theorem ix0 (k : IntKind) (φ : AV → Prop) : aindexStr (.str us) (.int k 0) φ = φ (.int .u8 95) := by
  simp only [aindexStr, eq_iff_iff]
  exact ⟨fun h => h.2.2, fun h => ⟨by omega, by decide, h⟩⟩
/-- Where _ stands first. -/
def usI (s : ByteArray) : Int := if s = us then 0 else firstIdx s 95
theorem c113 (s : ByteArray) : Pure Try.prog 113 [.str s, .str us] (.int .i64 (usI s)) := by
  refine fun H => ok113.calls (by simp [fi113]) ?_
  simp only [fi113, ir113]
  unfold usI
  have hsz : ((us.size : Nat) : Int) = 1 := rfl
  by_cases hs : s = us
  · rw [if_pos hs]
    simp (contextual := true) (maxSteps := 1000000) only [bn_eqS, hsz, hs, ix0, Int.reduceEq, stepsS, stepsT, stepsN, if_true, forall_const, ne_eq, implies_true, List.nil_append, List.append_nil, List.cons_append, List.length_cons, List.length_nil, Nat.reduceEqDiff, Nat.reduceAdd, Nat.reduceLT, Nat.reduceLeDiff, ↓reduceIte, reduceCtorEq, Int.reduceEq, Int.reduceLT]
    exact ret0 rfl rfl
  · rw [if_neg hs]
    have hs' : ¬ us = s := fun e => hs e.symm
    simp (contextual := true) (maxSteps := 1000000) only [bn_eqS, hsz, hs', ix0, Int.reduceEq, stepsS, stepsT, stepsN, if_true, forall_const, ne_eq, implies_true, List.nil_append, List.append_nil, List.cons_append, List.length_cons, List.length_nil, Nat.reduceEqDiff, Nat.reduceAdd, Nat.reduceLT, Nat.reduceLeDiff, ↓reduceIte, reduceCtorEq, Int.reduceEq, Int.reduceLT]
    refine scall_pure (c112 s 95) ?_
    simp (contextual := true) (maxSteps := 1000000) only [stepsS, stepsT, stepsN, if_true, forall_const, ne_eq, implies_true, List.nil_append, List.append_nil, List.cons_append, List.length_cons, List.length_nil, Nat.reduceEqDiff, Nat.reduceAdd, Nat.reduceLT, Nat.reduceLeDiff, ↓reduceIte, reduceCtorEq, Int.reduceEq, Int.reduceLT]
    exact ret0 rfl rfl
theorem c104 (s : ByteArray) : Pure Try.prog 104 [.str s, .str us] (.int .i64 (usI s)) := by
  refine fun H => ok104.calls (by simp [fi104]) ?_
  simp only [fi104, ir104]
  simp (contextual := true) (maxSteps := 1000000) only [stepsS, stepsT, stepsN, if_true, forall_const, ne_eq, implies_true, List.nil_append, List.append_nil, List.cons_append, List.length_cons, List.length_nil, Nat.reduceEqDiff, Nat.reduceAdd, Nat.reduceLT, Nat.reduceLeDiff, ↓reduceIte, reduceCtorEq, Int.reduceEq, Int.reduceLT]
  refine scall_pure (c113 s) ?_
  simp (contextual := true) (maxSteps := 1000000) only [stepsS, stepsT, stepsN, if_true, forall_const, ne_eq, implies_true, List.nil_append, List.append_nil, List.cons_append, List.length_cons, List.length_nil, Nat.reduceEqDiff, Nat.reduceAdd, Nat.reduceLT, Nat.reduceLeDiff, ↓reduceIte, reduceCtorEq, Int.reduceEq, Int.reduceLT]
  exact ret0 rfl rfl
theorem c89 (s : ByteArray) : Pure Try.prog 89 [.str s, .str us] (.bool (decide (0 ≤ usI s))) := by
  refine fun H => ok89.calls (by simp [fi89]) ?_
  simp only [fi89, ir89]
  simp (contextual := true) (maxSteps := 1000000) only [stepsS, stepsT, stepsN, if_true, forall_const, ne_eq, implies_true, List.nil_append, List.append_nil, List.cons_append, List.length_cons, List.length_nil, Nat.reduceEqDiff, Nat.reduceAdd, Nat.reduceLT, Nat.reduceLeDiff, ↓reduceIte, reduceCtorEq, Int.reduceEq, Int.reduceLT]
  refine scall_pure (c104 s) ?_
  simp (contextual := true) (maxSteps := 1000000) only [stepsS, stepsT, stepsN, if_true, forall_const, ne_eq, implies_true, List.nil_append, List.append_nil, List.cons_append, List.length_cons, List.length_nil, Nat.reduceEqDiff, Nat.reduceAdd, Nat.reduceLT, Nat.reduceLeDiff, ↓reduceIte, reduceCtorEq, Int.reduceEq, Int.reduceLT]
  exact ret0 rfl rfl
theorem c106 (s : ByteArray) : Pure Try.prog 106 [.str s, .str us] (.int .i64 (cntB s 95)) := by
  refine fun H => ok106.calls (by simp [fi106]) ?_
  simp only [fi106, ir106]
  have hsz : ((us.size : Nat) : Int) = 1 := rfl
  simp (contextual := true) (maxSteps := 1000000) only [hsz, ix0, Int.reduceEq, stepsS, stepsT, stepsN, if_true, forall_const, ne_eq, implies_true, List.nil_append, List.append_nil, List.cons_append, List.length_cons, List.length_nil, Nat.reduceEqDiff, Nat.reduceAdd, Nat.reduceLT, Nat.reduceLeDiff, ↓reduceIte, reduceCtorEq, Int.reduceEq, Int.reduceLT]
  refine scall_pure (c115 s 95) ?_
  simp (contextual := true) (maxSteps := 1000000) only [stepsS, stepsT, stepsN, if_true, forall_const, ne_eq, implies_true, List.nil_append, List.append_nil, List.cons_append, List.length_cons, List.length_nil, Nat.reduceEqDiff, Nat.reduceAdd, Nat.reduceLT, Nat.reduceLeDiff, ↓reduceIte, reduceCtorEq, Int.reduceEq, Int.reduceLT]
  exact ret0 rfl rfl
/-! ### isName -/
def badC (c : UInt8) : Bool := decide (((c.toNat : Nat) : Int) < 33) || decide ((126 : Int) < ((c.toNat : Nat) : Int)) || decide (0 ≤ firstIdx ⟨#[40, 41, 44]⟩ ((c.toNat : Nat) : Int).toNat.toUInt8)
def nameB (s : ByteArray) : Bool := !decide (((s.size : Nat) : Int) < 1) && !decide ((32 : Int) < ((s.size : Nat) : Int)) && s.data.toList.all fun c => !badC c
theorem allB_drop {p : UInt8 → Bool} {l : List UInt8} {i : Nat} (h : i < l.length) : (l.drop i).all p = (p (l.getD i 0) && (l.drop (i + 1)).all p) := by
  rw [List.drop_eq_getElem_cons h, List.all_cons]
  simp [h]
theorem c88 (s : ByteArray) : Pure Try.prog 88 [.str s] (.bool (nameB s)) := by
  refine fun H => ok88.calls (by simp [fi88]) ?_
  simp only [fi88, ir88]
  have hl : s.data.toList.length = s.size := rfl
  unfold nameB
  simp (contextual := true) (maxSteps := 1000000) only [stepsS, stepsT, stepsN, if_true, forall_const, ne_eq, implies_true, List.nil_append, List.append_nil, List.cons_append, List.length_cons, List.length_nil, Nat.reduceEqDiff, Nat.reduceAdd, Nat.reduceLT, Nat.reduceLeDiff, ↓reduceIte, reduceCtorEq, Int.reduceEq, Int.reduceLT]
  refine ⟨fun h1 => ⟨fun h2 => ?_, fun h2 => ?_⟩, fun h1 => ?_⟩
  · exact ret0 rfl (by simp [h2])
  · refine swp_loop_nat s.size (fun i => ((s.data.toList.drop i).all fun c => !badC c) = (s.data.toList.all fun c => !badC c))
      (fun i => [(0, .str s), (13, .int .i64 s.size), (14, .int .i64 i)]) (fun i => H) ⟨rfl, sle_refl _ _ _⟩ fun i hi hI => ?_
    simp (contextual := true) (maxSteps := 1000000) only [ixs, stepsS, stepsT, stepsN, if_true, forall_const, ne_eq, implies_true, List.nil_append, List.append_nil, List.cons_append, List.length_cons, List.length_nil, Nat.reduceEqDiff, Nat.reduceAdd, Nat.reduceLT, Nat.reduceLeDiff, ↓reduceIte, reduceCtorEq, Int.reduceEq, Int.reduceLT]
    have fin : ∀ (hlt : i < s.size), badC (s.data.toList.getD i 0) = true → (s.data.toList.all fun c => !badC c) = false := fun hlt hb => by
      rw [← hI, allB_drop (by omega), hb]; rfl
    refine ⟨fun hlt => ?_, fun hge => ?_⟩
    · have hlt := len_lt hlt
      have fin := fin hlt
      rw [allB_drop (by omega)] at hI
      have hbc : badC (s.data.toList.getD i 0) = (decide ((((s.data.toList.getD i 0).toNat : Nat) : Int) < 33) || decide ((126 : Int) < (((s.data.toList.getD i 0).toNat : Nat) : Int)) || decide (0 ≤ firstIdx ⟨#[40, 41, 44]⟩ (((s.data.toList.getD i 0).toNat : Nat) : Int).toNat.toUInt8)) := rfl
      generalize s.data.toList.getD i 0 = c at *
      refine ⟨hlt, fun a => ⟨hlt, fun b => ⟨hlt, scall_pure (c103 _ _) ?_⟩, fun b => ?_⟩, fun a => ?_⟩
      · simp (contextual := true) (maxSteps := 1000000) only [stepsS, stepsT, stepsN, if_true, forall_const, ne_eq, implies_true, List.nil_append, List.append_nil, List.cons_append, List.length_cons, List.length_nil, Nat.reduceEqDiff, Nat.reduceAdd, Nat.reduceLT, Nat.reduceLeDiff, ↓reduceIte, reduceCtorEq, Int.reduceEq, Int.reduceLT]
        refine ⟨fun d => ?_, fun d => ?_⟩
        · exact ret0 rfl (by rw [fin (by rw [hbc]; simp only [decide_eq_true d, Bool.or_true, Bool.true_or])]; simp)
        · refine ⟨i + 1, ⟨hlt, ?_⟩, by omega, sle_eq (by rw [wrap_nat i (by omega)]) rfl⟩
          rw [← hI]
          have : badC c = false := by
            rw [hbc]
            simp only [Bool.or_eq_false_iff, decide_eq_false_iff_not]
            omega
          rw [this]; simp
      · exact ret0 rfl (by rw [fin (by rw [hbc]; simp only [decide_eq_true b, Bool.or_true, Bool.true_or])]; simp)
      · exact ret0 rfl (by rw [fin (by rw [hbc]; simp only [decide_eq_true a, Bool.or_true, Bool.true_or])]; simp)
    · rw [List.drop_of_length_le (by have := len_nlt hge; omega)] at hI
      exact ret0 rfl (by rw [← hI]; simp; omega)
  · exact ret0 rfl (by simp [h1])
end Go.Abs
