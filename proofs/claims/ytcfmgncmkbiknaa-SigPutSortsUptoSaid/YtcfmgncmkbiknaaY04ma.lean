/- Lists of trees that are written, and match. -/
import Derived.Test.YtcfmgncmkbiknaaY04q
set_option maxRecDepth 100000
set_option linter.unusedSimpArgs false
set_option linter.unusedVariables false
namespace Go.Abs
open Go Go.Proofs
/-- An object that holds trees, one behind the other. -/
def objL (l : List T) : AObj := .cells (flat (avs l))
theorem flat_cons (x : T) (l : List T) : flat (avs (x :: l)) = x.av.cells ++ flat (avs l) := rfl
theorem flat_len : ∀ l : List T, (flat (avs l)).length = l.length * 3
  | [] => rfl
  | x :: r => by rw [flat_cons, List.length_append, T.av_clen, flat_len r, List.length_cons]; omega
theorem flatL_drop : ∀ (l : List T) (i : Nat), i < l.length → (flat (avs l)).drop (i * 3) = (l.getD i default).av.cells ++ flat (avs (l.drop (i + 1)))
  | [], i, h => by simp at h
  | x :: r, 0, _ => by simp [flat_cons]
  | x :: r, i + 1, h => by
    rw [flat_cons, show (i + 1) * 3 = x.av.cells.length + i * 3 by rw [T.av_clen]; omega, List.drop_append, List.getD_cons_succ, List.drop_succ_cons]
    have := flatL_drop r i (by simpa using h)
    simp [this]
theorem flat_splice (x : T) : ∀ (l : List T) (i : Nat), i < l.length → asplice (flat (avs l)) (i * 3) x.av.cells = flat (avs (l.set i x))
  | [], i, h => by simp at h
  | y :: r, 0, _ => by
    unfold asplice
    simp only [List.set_cons_zero, flat_cons, Nat.zero_mul, List.take_zero, List.nil_append, Nat.zero_add]
    rw [show x.av.cells.length = y.av.cells.length by rw [T.av_clen, T.av_clen], List.drop_left]
  | y :: r, i + 1, h => by
    have ih := flat_splice x r i (by simpa using h)
    unfold asplice at ih ⊢
    rw [List.set_cons_succ, flat_cons, flat_cons, ← ih]
    rw [show (i + 1) * 3 = y.av.cells.length + i * 3 by rw [T.av_clen]; omega, List.take_append, List.drop_append]
    simp only [T.av_clen]
    rw [List.append_assoc]
    congr 1
    · rw [List.take_of_length_le (by rw [T.av_clen]; omega)]
    · rw [show 3 + i * 3 - 3 = i * 3 by omega, List.drop_of_length_le (by rw [T.av_clen]; omega), List.nil_append, show 3 + i * 3 + 3 - 3 = i * 3 + 3 by omega]
theorem loadL3 {l : List T} {i : Nat} (h : i < l.length) (φ : AV → Prop) : loadC (some (objL l)) (some 3) (i * 3) φ = φ (l.getD i default).av := by
  have e : List.take 3 ((flat (avs l)).drop (i * 3)) = (l.getD i default).av.cells := by
    rw [flatL_drop l i h, List.take_append_of_le_length (by rw [T.av_clen]; omega), List.take_of_length_le (by rw [T.av_clen]; omega)]
  simp only [objL, loadC, e, T.cells_drop, T.agg_cells, flat_len, eq_iff_iff]
  constructor
  · exact fun h => h.2
  · exact fun h2 => ⟨by omega, h2⟩
theorem loadL0 {l : List T} {i : Nat} (h : i < l.length) (φ : AV → Prop) : loadC (some (objL l)) none (i * 3) φ = φ (.int .i64 (l.getD i default).k) := by
  have e : (flat (avs l)).getD (i * 3) .any = .int .i64 (l.getD i default).k := by
    have := flatL_drop l i h
    rw [List.getD_eq_getElem?_getD, ← List.head?_drop, this, T.av_cells]
    rfl
  simp only [objL, loadC, e, flat_len, un_int, eq_iff_iff]
  constructor
  · exact fun h => h.2
  · exact fun h2 => ⟨by omega, h2⟩
theorem storeL {l : List T} {i : Nat} (h : i < l.length) (x : T) (id : Nat) (H : List AObj) (K : List AObj → Prop) : storeC (some (objL l)) 3 id (i * 3) x.av H K = K (H.set id (objL (l.set i x))) := by
  simp only [objL, storeC, T.av_val, T.av_clen, flat_len, T.av_one, T.cells_unown, flat_splice x l i h, bl_T, true_and, eq_iff_iff]
  constructor
  · exact fun h => h.2
  · exact fun h2 => ⟨by omega, h2⟩
theorem idx_arr (id N c i : Nat) (k : IntKind) (φ : AV → Prop) : aindexAddr 3 (.arr id 0 N c) (.int k (i : Int)) φ = (i < N ∧ φ (.ptr id (i * 3))) := by
  simp only [aindexAddr, Int.toNat_natCast, Nat.zero_add, eq_iff_iff]
  constructor
  · rintro ⟨_, h⟩; exact h
  · exact fun h => ⟨by omega, h⟩
theorem un_arr' (id N c o : Nat) : (AV.arr id o N c).unown = .arr id o N c := rfl
theorem rep_flat (n : Nat) : flat (List.replicate n (zcanon (.agg [.int .i64 0, .int .i64 0, .nils]))) = flat (avs (List.replicate n T0)) := by
  induction n with
  | zero => rfl
  | succ n ih => rw [List.replicate_succ, List.replicate_succ, flat_cons, ← ih]; rfl
theorem mkL (n : Nat) (H : List AObj) (K : AV → List AObj → Prop) (h : n * 40 ≤ 140737488355328) : amkarr 3 40 (.agg [.int .i64 0, .int .i64 0, .nils]) (.int .i64 (n : Int)) H K = K (.arr H.length 0 n n) (H ++ [objL (List.replicate n T0)]) := by
  have hb : belowL (H.length + 1) (flat (avs (List.replicate n T0))) = true := by
    generalize List.replicate n T0 = l
    induction l with
    | nil => rfl
    | cons x r ih => rw [flat_cons, belowL_append, bl_T, ih]; exact ⟨rfl, rfl⟩
  simp only [amkarr, Int.toNat_natCast, rep_flat, hb, objL, true_and, eq_iff_iff]
  constructor
  · rintro ⟨_, _, h⟩; exact h
  · exact fun k => ⟨by omega, h, k⟩
mutual
/-- A pattern held against a tree. -/
def mtc : T → T → List T → Bool × List T
  | .mk k n ps, t, l =>
    if k = 1 then
      (fun l' : List T => ((l'.getD n.toNat default).same t, l')) (if (l.getD n.toNat default).k = 0 then l.set n.toNat t else l)
    else if t.k = 2 ∧ n = t.n ∧ ps.length = t.l.length then mtcs ps t.l l else (false, l)
def mtcs : List T → List T → List T → Bool × List T
  | [], _, l => (true, l)
  | _ :: _, [], l => (true, l)
  | p :: ps, t :: ts, l => (fun r : Bool × List T => if r.1 = true then mtcs ps ts r.2 else (false, r.2)) (mtc p t l)
end
mutual
theorem mtc_len : ∀ (p t : T) (l : List T), (mtc p t l).2.length = l.length
  | .mk k n ps, t, l => by
    simp only [mtc]
    split
    · split <;> simp
    · split
      · exact mtcs_len ps t.l l
      · rfl
theorem mtcs_len : ∀ (ps ts l : List T), (mtcs ps ts l).2.length = l.length
  | [], _, l => by simp [mtcs]
  | _ :: _, [], l => by simp [mtcs]
  | p :: ps, t :: ts, l => by
    simp only [mtcs]
    split
    · rw [mtcs_len ps _ _, mtc_len p _ _]
    · exact mtc_len p _ _
end
theorem mtc_eq (p t : T) (l : List T) : mtc p t l = if p.k = 1 then
      (fun l' : List T => ((l'.getD p.n.toNat default).same t, l')) (if (l.getD p.n.toNat default).k = 0 then l.set p.n.toNat t else l)
    else if t.k = 2 ∧ p.n = t.n ∧ p.l.length = t.l.length then mtcs p.l t.l l else (false, l) := by cases p; rw [mtc]; rfl
theorem mtcs_drop {ps ts : List T} {i : Nat} (h : i < ps.length) (h2 : i < ts.length) (l : List T) : mtcs (ps.drop i) (ts.drop i) l =
    (fun r : Bool × List T => if r.1 = true then mtcs (ps.drop (i + 1)) (ts.drop (i + 1)) r.2 else (false, r.2)) (mtc (ps.getD i default) (ts.getD i default) l) := by
  rw [List.drop_eq_getElem_cons h, List.drop_eq_getElem_cons h2, mtcs]
  have e1 : ts.getD i default = ts[i] := by simp [h2]
  have e2 : ps.getD i default = ps[i] := by simp [h]
  rw [e1, e2]
theorem Fam.take0 {σ : Type} {S : σ → List AObj} {p : Nat} {obj : σ → AObj} {n : Nat} (F : Fam S p obj n) (s : σ) : (S s).take n = S s := by
  rw [← F.len s]; simp
theorem c74 {S : List T → List AObj} {id m : Nat} (F : Fam S id objL m) (p t : T) (l : List T) (hp : p.shaped = true) (hv : ∀ v ∈ p.fv, v < (l.length : Int)) :
    ACalls Try.prog 74 [p.av, t.av, .arr id 0 l.length l.length] (S l) fun r H' => r = .bool (mtc p t l).1 ∧ H' = S (mtc p t l).2 := by
  have hkids := shaped_kids hp
  have ih : ∀ y ∈ p.l, ∀ (t : T) (l : List T), (∀ v ∈ y.fv, v < (l.length : Int)) → ACalls Try.prog 74 [y.av, t.av, .arr id 0 l.length l.length] (S l) fun r H' => r = .bool (mtc y t l).1 ∧ H' = S (mtc y t l).2 :=
    fun y hy t l hv => c74 F y t l (hkids.2 y hy) hv
  have e := mtc_eq p t l
  refine ok74.calls (by simp [fi74]) ?_
  rw [F.len]
  simp only [fi74, ir74]
  by_cases hk : p.k = 1
  · have hn : p.n ∈ p.fv := by cases p; simp only [T.k] at hk; simp [T.fv, T.n, hk]
    have hn0 := fv_shaped p hp _ hn
    have hn1 := hv _ hn
    have hnn : p.n = ((p.n.toNat : Nat) : Int) := by omega
    have hlt : p.n.toNat < l.length := by omega
    rw [if_pos hk] at e
    rw [e]
    generalize p.n.toNat = i at *
    have hlt' : i < (l.set i t).length := by simpa using hlt
    have hse : (l.set i t).getD i default = t := by simp [hlt]
    have hss : t.same t = true := (T.same_iff t t).2 rfl
    simp (contextual := true) (maxSteps := 1000000) only [hk, hnn, F.get, F.set, F.len, idx_arr, un_arr', Nat.add_zero, hlt, loadL3 hlt, loadL3 hlt', loadL0 hlt, storeL hlt, hse, stepsS, stepsT, stepsN, if_true, forall_const, ne_eq, implies_true, List.nil_append, List.append_nil, List.cons_append, List.length_cons, List.length_nil, Nat.reduceEqDiff, Nat.reduceAdd, Nat.reduceLT, Nat.reduceLeDiff, ↓reduceIte, reduceCtorEq, Int.reduceEq, Int.reduceLT]
    refine ⟨fun h0 => dcall_pure (c24 _ _) ?_, fun h0 => dcall_pure (c24 _ _) ?_⟩
    · simp (contextual := true) (maxSteps := 1000000) only [hss, h0, stepsS, stepsT, stepsN, if_true, forall_const, ne_eq, implies_true, List.nil_append, List.append_nil, List.cons_append, List.length_cons, List.length_nil, Nat.reduceEqDiff, Nat.reduceAdd, Nat.reduceLT, Nat.reduceLeDiff, ↓reduceIte, reduceCtorEq, Int.reduceEq, Int.reduceLT]
      exact retw (F.take0 _) rfl rfl ⟨by rw [if_pos h0]; simp only [hse, hss], by rw [if_pos h0]⟩
    · simp (contextual := true) (maxSteps := 1000000) only [h0, stepsS, stepsT, stepsN, if_true, forall_const, ne_eq, implies_true, List.nil_append, List.append_nil, List.cons_append, List.length_cons, List.length_nil, Nat.reduceEqDiff, Nat.reduceAdd, Nat.reduceLT, Nat.reduceLeDiff, ↓reduceIte, reduceCtorEq, Int.reduceEq, Int.reduceLT]
      exact retw (F.take0 _) rfl rfl ⟨by rw [if_neg h0], by rw [if_neg h0]⟩
  · rw [if_neg hk] at e
    rw [e]
    simp (contextual := true) (maxSteps := 1000000) only [hk, F.get, F.set, F.len, idx_arr, un_arr', Nat.add_zero, stepsS, stepsT, stepsN, if_true, forall_const, ne_eq, implies_true, List.nil_append, List.append_nil, List.cons_append, List.length_cons, List.length_nil, Nat.reduceEqDiff, Nat.reduceAdd, Nat.reduceLT, Nat.reduceLeDiff, ↓reduceIte, reduceCtorEq, Int.reduceEq, Int.reduceLT]
    refine ⟨fun h2 => ⟨fun h3 _ _ => ⟨fun h4 => ?_, fun h4 => ?_⟩, fun h3 => ?_⟩, fun h2 => ?_⟩
    · rw [if_neg (by omega)]
      exact retw (F.take0 _) rfl rfl ⟨rfl, rfl⟩
    · rw [if_pos ⟨h2, h3, by omega⟩]
      have hlen : p.l.length = t.l.length := by omega
      refine swp_loop_st p.l.length (fun i (s : List T) => s.length = l.length ∧ mtcs (p.l.drop i) (t.l.drop i) s = mtcs p.l t.l l)
        (fun i s => [(2, .arr id 0 l.length l.length), (3, .iptr p.av), (4, .iptr t.av), (51, .int .i64 t.l.length), (52, .int .i64 i)]) (fun i s => S s) l ⟨⟨rfl, rfl⟩, sle_refl _ _ _⟩ fun i s hi hI => ?_
      obtain ⟨k1, hI⟩ := hI
      simp (contextual := true) (maxSteps := 1000000) only [un_arr', stepsS, stepsT, stepsN, if_true, forall_const, ne_eq, implies_true, List.nil_append, List.append_nil, List.cons_append, List.length_cons, List.length_nil, Nat.reduceEqDiff, Nat.reduceAdd, Nat.reduceLT, Nat.reduceLeDiff, ↓reduceIte, reduceCtorEq, Int.reduceEq, Int.reduceLT]
      refine ⟨fun hlt => ?_, fun hge => ?_⟩
      · have hlt2 := len_lt hlt
        have hlt : i < p.l.length := by omega
        rw [mtcs_drop hlt hlt2] at hI
        have hc := ih _ (mem_getD hlt) (t.l.getD i default) s (fun v hv' => by rw [k1]; exact hv v (fvs_mem hk hlt hv'))
        have hl2 := mtc_len (p.l.getD i default) (t.l.getD i default) s
        rw [k1] at hc hl2
        refine ⟨hlt, hlt2, scall_to hc ?_⟩
        rintro r H' ⟨rfl, rfl⟩
        generalize mtc (p.l.getD i default) (t.l.getD i default) s = r at *
        cases hr : r.1 with
        | false =>
          simp only [hr, Bool.false_eq_true, if_false] at hI
          simp (contextual := true) (maxSteps := 1000000) only [Bool.false_eq_true, stepsS, stepsT, stepsN, if_true, forall_const, ne_eq, implies_true, List.nil_append, List.append_nil, List.cons_append, List.length_cons, List.length_nil, Nat.reduceEqDiff, Nat.reduceAdd, Nat.reduceLT, Nat.reduceLeDiff, ↓reduceIte, reduceCtorEq, Int.reduceEq, Int.reduceLT]
          exact retw (F.take0 _) rfl rfl ⟨by rw [← hI], by rw [← hI]⟩
        | true =>
          simp only [hr, if_true] at hI
          simp (contextual := true) (maxSteps := 1000000) only [stepsS, stepsT, stepsN, if_true, forall_const, ne_eq, implies_true, List.nil_append, List.append_nil, List.cons_append, List.length_cons, List.length_nil, Nat.reduceEqDiff, Nat.reduceAdd, Nat.reduceLT, Nat.reduceLeDiff, ↓reduceIte, reduceCtorEq, Int.reduceEq, Int.reduceLT]
          exact ⟨i + 1, r.2, ⟨hlt, hl2, hI⟩, by omega, sle_eq (by rw [wrap_nat i (by omega)]) rfl⟩
      · rw [List.drop_of_length_le (by have := len_nlt hge; omega)] at hI
        simp only [mtcs] at hI
        exact retw (F.take0 _) rfl rfl ⟨by rw [← hI], by rw [← hI]⟩
    · rw [if_neg (fun h => h3 h.2.1)]
      exact retw (F.take0 _) rfl rfl ⟨rfl, rfl⟩
    · rw [if_neg (fun h => h2 h.1)]
      exact retw (F.take0 _) rfl rfl ⟨rfl, rfl⟩
termination_by SizeOf.sizeOf p
decreasing_by exact T.lt hy
end Go.Abs
