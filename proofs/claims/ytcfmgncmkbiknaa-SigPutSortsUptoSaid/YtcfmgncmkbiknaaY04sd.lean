/- Signatures: the key of an operation; Check. -/
import Derived.Test.YtcfmgncmkbiknaaY04sc
set_option maxRecDepth 100000
set_option linter.unusedSimpArgs false
set_option linter.unusedVariables false
namespace Go.Abs
open Go Go.Proofs
theorem c85i (l : List Int) (hl : l.length * 8 ≤ 140737488355328) : Pure Try.prog 85 [.lst 0 (ints l)] (.lst 1 (ints l)) := fun H =>
  clone85 0 (ints l) H (of_eq_true (ok_ints l)) (by rw [ints_len]; exact hl) (ints_blw _ _)
def byt (a : Int) : UInt8 := UInt8.ofNat (IntKind.u8.wrap a).toNat
theorem byt_av (a : Int) : AV.int .u8 (IntKind.u8.wrap a) = .int .u8 (byt a).toNat := by
  have h : 0 ≤ IntKind.u8.wrap a ∧ IntKind.u8.wrap a < 256 := by
    simp only [IntKind.wrap]
    have h1 : IntKind.u8.bits = 8 := rfl
    have h2 : IntKind.u8.signed = false := rfl
    rw [h1, h2]
    simp
    omega
  congr 1
  unfold byt
  rw [UInt8.toNat_ofNat']
  omega
def keyL (o : Opn) : List UInt8 := (o.name ++ ⟨#[40]⟩).data.toList ++ (o.args ++ [o.res]).map byt
def keyS (o : Opn) : ByteArray := ⟨(keyL o).toArray⟩
theorem bytes_snoc (l : List UInt8) (a : Int) : byteAVs l ++ [.int .u8 (IntKind.u8.wrap a)] = byteAVs (l ++ [byt a]) := by
  rw [byt_av]; simp [byteAVs]
theorem bytes_len (l : List UInt8) : (byteAVs l).length = l.length := by simp [byteAVs]
theorem bytes_blw (n : Nat) (l : List UInt8) : belowL n (byteAVs l) = true := by
  rw [belowL_iff]; intro x hx; obtain ⟨y, _, rfl⟩ := List.mem_map.1 hx; rfl
theorem bo_str (s : ByteArray) (φ : AV → Prop) : abytesOf 1 (.str s) φ = (s.size < 9223372036854775808 ∧ φ (.lst 1 (byteAVs s.data.toList))) := _root_.id rfl
theorem so_lst (o : Nat) (l : List UInt8) (φ : AV → Prop) (h : φ (.str ⟨l.toArray⟩)) : astrOf (.lst o (byteAVs l)) φ := ⟨l, rfl, h⟩
theorem ci_int (k k' : IntKind) (n : Int) (φ : AV → Prop) : aconvInt k (.int k' n) φ = φ (.int k (k.wrap n)) := _root_.id rfl
theorem c91 (o : Opn) (h1 : o.name.size ≤ 32) (h2 : o.args.length ≤ 8) : Pure Try.prog 91 [o.av] (.str (keyS o)) := by
  refine fun H => ok91.calls (by simp [fi91]) ?_
  simp only [fi91, ir91]
  have hsz : (⟨#[40]⟩ : ByteArray).size = 1 := rfl
  have hs2 : (o.name ++ ⟨#[40]⟩ : ByteArray).size = o.name.size + 1 := by rw [ByteArray.size_append, hsz]
  have hln : (o.name ++ ⟨#[40]⟩ : ByteArray).data.toList.length = o.name.size + 1 := hs2
  simp (contextual := true) (maxSteps := 1000000) only [stepsO, bo_str, hsz, hs2, bytes_blw, stepsS, stepsT, stepsN, if_true, forall_const, ne_eq, implies_true, List.nil_append, List.append_nil, List.cons_append, List.length_cons, List.length_nil, Nat.reduceEqDiff, Nat.reduceAdd, Nat.reduceLT, Nat.reduceLeDiff, ↓reduceIte, reduceCtorEq, Int.reduceEq, Int.reduceLT]
  refine ⟨by omega, by omega, dcall_pure (c85i o.args (by omega)) ?_⟩
  simp (contextual := true) (maxSteps := 1000000) only [stepsO, ap_lst, ok_int, ints_snoc, bytes_blw, stepsS, stepsT, stepsN, if_true, forall_const, ne_eq, implies_true, List.nil_append, List.append_nil, List.cons_append, List.length_cons, List.length_nil, Nat.reduceEqDiff, Nat.reduceAdd, Nat.reduceLT, Nat.reduceLeDiff, ↓reduceIte, reduceCtorEq, Int.reduceEq, Int.reduceLT]
  refine ⟨by omega, ?_⟩
  generalize hv : o.args ++ [o.res] = vs
  have hvl : vs.length ≤ 9 := by rw [← hv]; simp; omega
  have hk : keyS o = ⟨((o.name ++ ⟨#[40]⟩ : ByteArray).data.toList ++ vs.map byt).toArray⟩ := by rw [keyS, keyL, hv]
  rw [hk]
  generalize (o.name ++ ⟨#[40]⟩ : ByteArray).data.toList = nm at *
  refine swp_loop_nat vs.length (fun _ => True)
    (fun i => [(3, .lst 1 (byteAVs (nm ++ (vs.take i).map byt))), (16, .lst 1 (ints vs)), (17, .int .i64 vs.length), (18, .int .i64 i)]) (fun _ => H) ⟨trivial, sle_eq (by simp) rfl⟩ fun i hi hI => ?_
  simp (contextual := true) (maxSteps := 1000000) only [bytes_blw, stepsS, stepsT, stepsN, if_true, forall_const, ne_eq, implies_true, List.nil_append, List.append_nil, List.cons_append, List.length_cons, List.length_nil, Nat.reduceEqDiff, Nat.reduceAdd, Nat.reduceLT, Nat.reduceLeDiff, ↓reduceIte, reduceCtorEq, Int.reduceEq, Int.reduceLT]
  refine ⟨fun hlt => ⟨len_lt hlt, ?_⟩, fun hge => ?_⟩
  · have hlt := len_lt hlt
    simp (contextual := true) (maxSteps := 1000000) only [ci_int, ap_lst, ok_int, bytes_snoc, bytes_len, bytes_blw, stepsS, stepsT, stepsN, if_true, forall_const, ne_eq, implies_true, List.nil_append, List.append_nil, List.cons_append, List.length_cons, List.length_nil, Nat.reduceEqDiff, Nat.reduceAdd, Nat.reduceLT, Nat.reduceLeDiff, ↓reduceIte, reduceCtorEq, Int.reduceEq, Int.reduceLT]
    refine ⟨by simp; omega, i + 1, hlt, by omega, sle_eq ?_ rfl⟩
    rw [wrap_nat i (by omega), List.take_add_one, List.map_append, ← List.append_assoc]
    simp [hlt]
  · rw [List.take_of_length_le (len_nlt hge)]
    refine so_lst 0 _ _ ?_
    simp (contextual := true) (maxSteps := 1000000) only [stepsS, stepsT, stepsN, if_true, forall_const, ne_eq, implies_true, List.nil_append, List.append_nil, List.cons_append, List.length_cons, List.length_nil, Nat.reduceEqDiff, Nat.reduceAdd, Nat.reduceLT, Nat.reduceLeDiff, ↓reduceIte, reduceCtorEq, Int.reduceEq, Int.reduceLT]
    exact ret0 rfl rfl
/-! ### Check -/
instance : LawfulBEq ByteArray where
  rfl := by intro a; rw [ba_beq]; simp
  eq_of_beq := by intro a b h; rw [ba_beq] at h; exact of_decide_eq_true h
def entsS (vs : List ByteArray) : List (AV × AV) := vs.map fun v => (.str v, .bool true)
theorem afind_entsS (n : ByteArray) : ∀ (vs : List ByteArray) (i : Nat), (n ∈ vs → ∃ j, afind 1 (.str n) (entsS vs) i = some (some (j, .bool true))) ∧ (n ∉ vs → afind 1 (.str n) (entsS vs) i = some none)
  | [], i => ⟨fun h => (by cases h), fun _ => rfl⟩
  | v :: r, i => by
    have ih := afind_entsS n r (i + 1)
    simp only [entsS, List.map_cons, afind, keyEq]
    by_cases hv : n = v
    · subst hv
      simp
    · simp only [decide_eq_false hv, List.mem_cons, hv, false_or]
      exact ih
theorem lk_entsS (n : ByteArray) (vs : List ByteArray) (φ : AV → Prop) : lookupC (some (.map (entsS vs))) 1 (.bool false) (.str n) false φ = φ (.bool (decide (n ∈ vs))) := by
  have h := afind_entsS n vs 0
  unfold lookupC
  by_cases hn : n ∈ vs
  · obtain ⟨j, hj⟩ := h.1 hn
    simp [hj, hn, dr_bool]
  · simp [h.2 hn, hn, keyEq, canon, abslice.canon, dr_bool]
theorem ms_entsS {n : ByteArray} {vs : List ByteArray} (hn : n ∉ vs) (id : Nat) (H : List AObj) (K : List AObj → Prop) : mapsetC (some (.map (entsS vs))) 1 id (.str n) (.bool true) H K = K (H.set id (.map (entsS (vs ++ [n])))) := by
  have h := (afind_entsS n vs 0).2 hn
  unfold mapsetC
  simp only [h]
  simp [keyEq, bw_str, bw_bool, va_bool, entsS, canon, abslice.canon, dr_bool]
/-- The names of sorts: right, without blanks, each one once. -/
def sortsB : List ByteArray → List ByteArray → Bool
  | [], _ => true
  | s :: r, seen => if nameB s = true ∧ ¬ 0 ≤ usI s ∧ s ∉ seen then sortsB r (seen ++ [s]) else false
def opsB (n : Int) : List Opn → List ByteArray → Bool
  | [], _ => true
  | o :: r, seen => if goodB o n = true ∧ keyS o ∉ seen then opsB n r (seen ++ [keyS o]) else false
def chkB (s : Sg) : Bool := decide ((s.sorts.length : Int) ≤ 64) && decide ((s.ops.length : Int) ≤ 256) && sortsB s.sorts [] && opsB s.sorts.length s.ops []
theorem sortsB_drop {l : List ByteArray} {i : Nat} (h : i < l.length) (seen : List ByteArray) : sortsB (l.drop i) seen = if nameB (l.getD i default) = true ∧ ¬ 0 ≤ usI (l.getD i default) ∧ l.getD i default ∉ seen then sortsB (l.drop (i + 1)) (seen ++ [l.getD i default]) else false := by
  rw [List.drop_eq_getElem_cons h, sortsB]
  have e : l.getD i default = l[i] := by simp [h]
  rw [e]
theorem opsB_drop {n : Int} {l : List Opn} {i : Nat} (h : i < l.length) (seen : List ByteArray) : opsB n (l.drop i) seen = if goodB (l.getD i default) n = true ∧ keyS (l.getD i default) ∉ seen then opsB n (l.drop (i + 1)) (seen ++ [keyS (l.getD i default)]) else false := by
  rw [List.drop_eq_getElem_cons h, opsB]
  have e : l.getD i default = l[i] := by simp [h]
  rw [e]
theorem good_small {o : Opn} {n : Int} (h : goodB o n = true) : o.name.size ≤ 32 ∧ o.args.length ≤ 8 ∧ isS n o.res = true ∧ ∀ a ∈ o.args, isS n a = true := by
  simp only [goodB, nameB, Bool.and_eq_true, Bool.not_eq_true', decide_eq_false_iff_not, decide_eq_true_eq] at h
  obtain ⟨⟨⟨_, h1⟩, _⟩, _, _, h2, h3, h4⟩ := h
  refine ⟨by omega, by omega, h3, fun a ha => ?_⟩
  cases hx : isS n a with
  | true => rfl
  | false =>
    rw [Bool.eq_false_iff] at h4
    exact absurd (List.any_eq_true.2 ⟨a, ha, by rw [hx]; rfl⟩) h4
theorem c48 (s : Sg) : Pure Try.prog 48 [s.av] (.int .i64 (if chkB s = true then 0 else 40)) := by
  refine fun H => ok48.calls (by simp [fi48]) ?_
  simp only [fi48, ir48]
  have bad : ∀ {G : List AObj} {e : Bool}, e = false → G.take H.length = H → chkB s = e → aret H.length [RX.t 2] [(2, AV.int IntKind.i64 40)] G fun r H' => r = AV.int IntKind.i64 (if chkB s = true then 0 else 40) ∧ H' = H := by
    intro G e he hG hc
    rw [hc, he]
    exact retw hG rfl rfl ⟨rfl, rfl⟩
  simp (contextual := true) (maxSteps := 1000000) only [stepsO, stepsS, stepsT, stepsN, if_true, forall_const, ne_eq, implies_true, List.nil_append, List.append_nil, List.cons_append, List.length_cons, List.length_nil, Nat.reduceEqDiff, Nat.reduceAdd, Nat.reduceLT, Nat.reduceLeDiff, ↓reduceIte, reduceCtorEq, Int.reduceEq, Int.reduceLT]
  refine fun _ => ⟨fun h1 _ => ⟨fun h2 => ?_, fun h2 => ?_⟩, fun h1 => ?_⟩
  · have h2' : ¬ (s.ops.length : Int) ≤ 256 := by omega
    exact bad rfl (by simp) (by rw [chkB, decide_eq_false h2']; simp)
  · refine swp_loop_st s.sorts.length (fun i (seen : List ByteArray) => sortsB (s.sorts.drop i) seen = sortsB s.sorts [])
      (fun i seen => [(1, .iptr s.av), (3, .map H.length), (21, .lst 0 (strs s.sorts)), (22, .int .i64 s.sorts.length), (23, .int .i64 i)]) (fun i seen => H ++ [.map (entsS seen)]) [] ⟨rfl, sle_refl _ _ _⟩ fun i seen hi hI => ?_
    simp (contextual := true) (maxSteps := 1000000) only [stepsO, stepsS, stepsT, stepsN, if_true, forall_const, ne_eq, implies_true, List.nil_append, List.append_nil, List.cons_append, List.length_cons, List.length_nil, Nat.reduceEqDiff, Nat.reduceAdd, Nat.reduceLT, Nat.reduceLeDiff, ↓reduceIte, reduceCtorEq, Int.reduceEq, Int.reduceLT]
    refine ⟨fun hlt => ⟨len_lt hlt, ?_⟩, fun hge => ?_⟩
    · have hlt := len_lt hlt
      rw [sortsB_drop hlt] at hI
      generalize s.sorts.getD i default = x at *
      refine scall_pure (c88 x) ?_
      cases hn : nameB x with
      | false =>
        rw [hn, if_neg (by simp)] at hI
        simp (contextual := true) (maxSteps := 1000000) only [stepsO, Bool.false_eq_true, stepsS, stepsT, stepsN, if_true, forall_const, ne_eq, implies_true, List.nil_append, List.append_nil, List.cons_append, List.length_cons, List.length_nil, Nat.reduceEqDiff, Nat.reduceAdd, Nat.reduceLT, Nat.reduceLeDiff, ↓reduceIte, reduceCtorEq, Int.reduceEq, Int.reduceLT]
        exact bad rfl (by simp) (by simp [chkB, ← hI])
      | true =>
        rw [hn] at hI
        simp (contextual := true) (maxSteps := 1000000) only [stepsO, stepsS, stepsT, stepsN, if_true, forall_const, ne_eq, implies_true, List.nil_append, List.append_nil, List.cons_append, List.length_cons, List.length_nil, Nat.reduceEqDiff, Nat.reduceAdd, Nat.reduceLT, Nat.reduceLeDiff, ↓reduceIte, reduceCtorEq, Int.reduceEq, Int.reduceLT]
        refine scall_pure (c89 x) ?_
        by_cases hu : 0 ≤ usI x
        · rw [if_neg (fun h => h.2.1 hu)] at hI
          simp (contextual := true) (maxSteps := 1000000) only [stepsO, hu, stepsS, stepsT, stepsN, if_true, forall_const, ne_eq, implies_true, List.nil_append, List.append_nil, List.cons_append, List.length_cons, List.length_nil, Nat.reduceEqDiff, Nat.reduceAdd, Nat.reduceLT, Nat.reduceLeDiff, ↓reduceIte, reduceCtorEq, Int.reduceEq, Int.reduceLT]
          exact bad rfl (by simp) (by simp [chkB, ← hI])
        · by_cases hm : x ∈ seen
          · rw [if_neg (fun h => h.2.2 hm)] at hI
            simp (contextual := true) (maxSteps := 1000000) only [stepsO, hu, lk_entsS, hm, stepsS, stepsT, stepsN, if_true, forall_const, ne_eq, implies_true, List.nil_append, List.append_nil, List.cons_append, List.length_cons, List.length_nil, Nat.reduceEqDiff, Nat.reduceAdd, Nat.reduceLT, Nat.reduceLeDiff, ↓reduceIte, reduceCtorEq, Int.reduceEq, Int.reduceLT]
            exact bad rfl (by simp) (by simp [chkB, ← hI])
          · rw [if_pos ⟨rfl, hu, hm⟩] at hI
            simp (contextual := true) (maxSteps := 1000000) only [stepsO, hu, lk_entsS, hm, ms_entsS hm, stepsS, stepsT, stepsN, if_true, forall_const, ne_eq, implies_true, List.nil_append, List.append_nil, List.cons_append, List.length_cons, List.length_nil, Nat.reduceEqDiff, Nat.reduceAdd, Nat.reduceLT, Nat.reduceLeDiff, ↓reduceIte, reduceCtorEq, Int.reduceEq, Int.reduceLT]
            exact ⟨i + 1, seen ++ [x], ⟨hlt, hI⟩, by omega, sle_eq (by rw [wrap_nat i (by omega)]) rfl⟩
    · have hs : sortsB s.sorts [] = true := by
        rw [← hI, List.drop_of_length_le (len_nlt hge)]; rfl
      have hc : chkB s = opsB s.sorts.length s.ops [] := by simp [chkB, h1, h2, hs]
      clear hI
      simp (contextual := true) (maxSteps := 1000000) only [stepsO, stepsS, stepsT, stepsN, if_true, forall_const, ne_eq, implies_true, List.nil_append, List.append_nil, List.cons_append, List.length_cons, List.length_nil, Nat.reduceEqDiff, Nat.reduceAdd, Nat.reduceLT, Nat.reduceLeDiff, ↓reduceIte, reduceCtorEq, Int.reduceEq, Int.reduceLT]
      refine fun _ => swp_loop_st s.ops.length (fun i (seen2 : List ByteArray) => opsB s.sorts.length (s.ops.drop i) seen2 = opsB s.sorts.length s.ops [])
        (fun i seen2 => [(1, .iptr s.av), (6, .map (H.length + 1)), (44, .lst 0 (opas s.ops)), (45, .int .i64 s.ops.length), (46, .int .i64 i)]) (fun i seen2 => H ++ [.map (entsS seen), .map (entsS seen2)]) [] ⟨rfl, sle_refl _ _ _⟩ fun i seen2 hi hI => ?_
      simp (contextual := true) (maxSteps := 1000000) only [stepsO, stepsS, stepsT, stepsN, if_true, forall_const, ne_eq, implies_true, List.nil_append, List.append_nil, List.cons_append, List.length_cons, List.length_nil, Nat.reduceEqDiff, Nat.reduceAdd, Nat.reduceLT, Nat.reduceLeDiff, ↓reduceIte, reduceCtorEq, Int.reduceEq, Int.reduceLT]
      refine ⟨fun hlt => ⟨len_lt hlt, ?_⟩, fun hge => ?_⟩
      · have hlt := len_lt hlt
        rw [opsB_drop hlt] at hI
        generalize s.ops.getD i default = x at *
        refine fun _ => scall_pure (c90 x _) ?_
        cases hg : goodB x s.sorts.length with
        | false =>
          rw [hg, if_neg (by simp)] at hI
          simp (contextual := true) (maxSteps := 1000000) only [stepsO, Bool.false_eq_true, stepsS, stepsT, stepsN, if_true, forall_const, ne_eq, implies_true, List.nil_append, List.append_nil, List.cons_append, List.length_cons, List.length_nil, Nat.reduceEqDiff, Nat.reduceAdd, Nat.reduceLT, Nat.reduceLeDiff, ↓reduceIte, reduceCtorEq, Int.reduceEq, Int.reduceLT]
          exact bad rfl (by simp) (by rw [hc, ← hI])
        | true =>
          rw [hg] at hI
          have hsm := good_small hg
          simp (contextual := true) (maxSteps := 1000000) only [stepsO, stepsS, stepsT, stepsN, if_true, forall_const, ne_eq, implies_true, List.nil_append, List.append_nil, List.cons_append, List.length_cons, List.length_nil, Nat.reduceEqDiff, Nat.reduceAdd, Nat.reduceLT, Nat.reduceLeDiff, ↓reduceIte, reduceCtorEq, Int.reduceEq, Int.reduceLT]
          refine scall_pure (c91 x hsm.1 hsm.2.1) ?_
          by_cases hm : keyS x ∈ seen2
          · rw [if_neg (fun h => h.2 hm)] at hI
            simp (contextual := true) (maxSteps := 1000000) only [stepsO, lk_entsS, hm, stepsS, stepsT, stepsN, if_true, forall_const, ne_eq, implies_true, List.nil_append, List.append_nil, List.cons_append, List.length_cons, List.length_nil, Nat.reduceEqDiff, Nat.reduceAdd, Nat.reduceLT, Nat.reduceLeDiff, ↓reduceIte, reduceCtorEq, Int.reduceEq, Int.reduceLT]
            exact bad rfl (by simp) (by rw [hc, ← hI])
          · rw [if_pos ⟨rfl, hm⟩] at hI
            simp (contextual := true) (maxSteps := 1000000) only [stepsO, lk_entsS, hm, stepsS, stepsT, stepsN, if_true, forall_const, ne_eq, implies_true, List.nil_append, List.append_nil, List.cons_append, List.length_cons, List.length_nil, Nat.reduceEqDiff, Nat.reduceAdd, Nat.reduceLT, Nat.reduceLeDiff, ↓reduceIte, reduceCtorEq, Int.reduceEq, Int.reduceLT]
            refine scall_pure (c91 x hsm.1 hsm.2.1) ?_
            simp (contextual := true) (maxSteps := 1000000) only [stepsO, lk_entsS, hm, ms_entsS hm, stepsS, stepsT, stepsN, if_true, forall_const, ne_eq, implies_true, List.nil_append, List.append_nil, List.cons_append, List.length_cons, List.length_nil, Nat.reduceEqDiff, Nat.reduceAdd, Nat.reduceLT, Nat.reduceLeDiff, ↓reduceIte, reduceCtorEq, Int.reduceEq, Int.reduceLT]
            exact ⟨i + 1, seen2 ++ [keyS x], ⟨hlt, hI⟩, by omega, sle_eq (by rw [wrap_nat i (by omega)]) rfl⟩
      · rw [List.drop_of_length_le (len_nlt hge)] at hI
        exact retw (by simp) rfl rfl ⟨by rw [hc, ← hI]; rfl, rfl⟩
  · have h1' : ¬ (s.sorts.length : Int) ≤ 64 := by omega
    exact bad rfl (by simp) (by rw [chkB, decide_eq_false h1']; simp)
end Go.Abs
