/- What a tree is: the program's way and the document's. -/
import Derived.Test.YtcfmgncmkbiknaaY04w
set_option maxRecDepth 100000
set_option linter.unusedSimpArgs false
namespace Go.Abs
open Go Go.Proofs

/-! ### measure -/
mutual
def cntT : T → Int → Int × Int → Int × Int
  | .mk _ _ l, d, s => cnts l (d + 1) (s.1 + 1, max s.2 d)
def cnts : List T → Int → Int × Int → Int × Int
  | [], _, s => s
  | x :: r, d, s => if 2000 < s.1 ∨ 200 < s.2 then s else cnts r d (cntT x d s)
end
def cntOk (d : Int) (s : Int × Int) : Prop := 0 ≤ s.1 ∧ s.1 ≤ 2000 ∧ 0 ≤ s.2 ∧ s.2 ≤ 200 ∧ 0 ≤ d ∧ d ≤ 201
def cntOut (s : Int × Int) : Prop := 0 ≤ s.1 ∧ s.1 ≤ 2001 ∧ 0 ≤ s.2 ∧ s.2 ≤ 201
mutual
theorem cntT_out : ∀ (x : T) (d : Int) (s : Int × Int), cntOk d s → cntOut (cntT x d s) ∧ (cntT x d s).2 ≥ d
  | .mk k n l, d, s, h => by
    simp only [cntT]
    obtain ⟨h1, h2, h3, h4, h5, h6⟩ := h
    have := cnts_out l (d + 1) (s.1 + 1, max s.2 d) (by unfold cntOut; simp only; omega) (by omega) (by simp only; omega)
    refine ⟨this.1, ?_⟩
    have h := this.2
    simp only at h
    omega
theorem cnts_out : ∀ (l : List T) (d : Int) (s : Int × Int), cntOut s → 0 ≤ d → d ≤ s.2 + 1 → cntOut (cnts l d s) ∧ s.2 ≤ (cnts l d s).2
  | [], d, s, h, _, _ => by simp [cnts, h]
  | x :: r, d, s, h, hd, hd2 => by
    simp only [cnts]
    split
    · exact ⟨h, Int.le_refl _⟩
    · rename_i hn
      obtain ⟨h1, h2, h3, h4⟩ := h
      have hx := cntT_out x d s ⟨h1, by omega, h3, by omega, hd, by omega⟩
      have hr := cnts_out r d (cntT x d s) hx.1 hd (by omega)
      have := cntT_mono x d s
      exact ⟨hr.1, by omega⟩
theorem cntT_mono : ∀ (x : T) (d : Int) (s : Int × Int), s.2 ≤ (cntT x d s).2
  | .mk k n l, d, s => by
    simp only [cntT]
    have := cnts_mono l (d + 1) (s.1 + 1, max s.2 d)
    simp only at this
    omega
theorem cnts_mono : ∀ (l : List T) (d : Int) (s : Int × Int), s.2 ≤ (cnts l d s).2
  | [], d, s => by simp [cnts]
  | x :: r, d, s => by
    simp only [cnts]
    split
    · omega
    · have h1 := cntT_mono x d s
      have h2 := cnts_mono r d (cntT x d s)
      omega
end
theorem cnts_drop {l : List T} {i : Nat} {d : Int} {s : Int × Int} (h : i < l.length) : cnts (l.drop i) d s = if 2000 < s.1 ∨ 200 < s.2 then s else cnts (l.drop (i + 1)) d (cntT (l.getD i default) d s) := by
  rw [List.drop_eq_getElem_cons h]
  simp [cnts, h]
def cntObj (s : Int × Int) : List AObj := [.cells [.int .i64 s.1, .int .i64 s.2]]
theorem c80 (H : List AObj) (x : T) (d : Int) (s : Int × Int) (hs : cntOk d s) :
    ACalls Try.prog 80 [.ptr H.length 0, x.av, .int .i64 d] (H ++ cntObj s) fun r H' => r = .tuple [] ∧ H' = H ++ cntObj (cntT x d s) := by
  have ih : ∀ y ∈ x.l, ∀ (d : Int) (s : Int × Int), cntOk d s → ACalls Try.prog 80 [.ptr H.length 0, y.av, .int .i64 d] (H ++ cntObj s) fun r H' => r = .tuple [] ∧ H' = H ++ cntObj (cntT y d s) :=
    fun y hy d s hs => c80 H y d s hs
  have e : cntT x d s = cnts x.l (d + 1) (s.1 + 1, max s.2 d) := by cases x; simp only [cntT, T.l]
  obtain ⟨h1, h2, h3, h4, h5, h6⟩ := hs
  have w1 : IntKind.i64.wrap (s.1 + 1) = s.1 + 1 := wrap_in _ (by omega)
  have w2 : IntKind.i64.wrap (d + 1) = d + 1 := wrap_in _ (by omega)
  refine ok80.calls (by simp [fi80]) ?_
  simp only [fi80, ir80]
  simp only [w1, cntObj, stepsS, stepsT, stepsN, if_true, forall_const, ne_eq, implies_true, List.nil_append, List.append_nil, List.cons_append, List.length_cons, List.length_nil, Nat.reduceEqDiff, Nat.reduceAdd, Nat.reduceLT, Nat.reduceLeDiff, ↓reduceIte, reduceCtorEq, Int.reduceEq, Int.reduceLT]
  intro hl
  have hout : cntOut (s.1 + 1, max s.2 d) := by unfold cntOut; simp only; omega
  have hmd : d ≤ max s.2 d := by omega
  generalize max s.2 d = m at *
  refine swp_loop_st x.l.length (fun i (t : Int × Int) => cntOut t ∧ d ≤ t.2 ∧ cnts (x.l.drop i) (d + 1) t = cntT x d s)
      (fun i t => [(0, .ptr H.length 0), (2, .int .i64 d), (25, .lst 0 (avs x.l)), (26, .int .i64 x.l.length), (27, .int .i64 i)]) (fun i t => H ++ cntObj t) (s.1 + 1, m) ⟨⟨hout, hmd, by rw [e]; rfl⟩, sle_refl _ _ _⟩ fun i t hi hI => ?_
  obtain ⟨⟨k1, k2, k3, k4⟩, k5, hI⟩ := hI
  simp only [w2, cntObj, stepsS, stepsT, stepsN, if_true, forall_const, ne_eq, implies_true, List.nil_append, List.append_nil, List.cons_append, List.length_cons, List.length_nil, Nat.reduceEqDiff, Nat.reduceAdd, Nat.reduceLT, Nat.reduceLeDiff, ↓reduceIte, reduceCtorEq, Int.reduceEq, Int.reduceLT]
  refine ⟨fun hlt => ⟨len_lt hlt, ?_⟩, fun hge => ?_⟩
  · have hlt := len_lt hlt
    rw [cnts_drop hlt] at hI
    refine ⟨fun hn1 => ⟨fun hn2 => ?_, fun hn2 => ?_⟩, fun hn1 => ?_⟩
    · rw [if_pos (.inr hn2)] at hI; rw [← hI]; exact ret_none (by simp [cntObj]) rfl
    · rw [if_neg (by omega)] at hI
      have ho : cntOk (d + 1) t := ⟨k1, by omega, k3, by omega, by omega, by omega⟩
      have hx := cntT_out (x.l.getD i default) (d + 1) t ho
      refine scall_to (ih _ (mem_getD hlt) (d + 1) t ho) ?_
      rintro r H' ⟨rfl, rfl⟩
      simp only [cntObj, stepsS, stepsT, stepsN, if_true, forall_const, ne_eq, implies_true, List.nil_append, List.append_nil, List.cons_append, List.length_cons, List.length_nil, Nat.reduceEqDiff, Nat.reduceAdd, Nat.reduceLT, Nat.reduceLeDiff, ↓reduceIte, reduceCtorEq, Int.reduceEq, Int.reduceLT]
      exact ⟨i + 1, cntT (x.l.getD i default) (d + 1) t, ⟨hlt, hx.1, by omega, hI⟩, by omega, sle_eq (by rw [wrap_nat i (by omega)]) rfl⟩
    · rw [if_pos (.inl hn1)] at hI; rw [← hI]; exact ret_none (by simp [cntObj]) rfl
  · rw [List.drop_of_length_le (len_nlt hge)] at hI
    rw [← hI]
    exact ret_none (by simp [cntObj]) rfl
termination_by SizeOf.sizeOf x
decreasing_by exact T.lt hy

def overB (s : Int × Int) : Bool := decide (2000 < s.1) || decide (200 < s.2)
theorem c81 (H : List AObj) (s : Int × Int) : ACalls Try.prog 81 [.ptr H.length 0] (H ++ cntObj s) fun r H' => r = .bool (overB s) ∧ H' = H ++ cntObj s := by
  refine ok81.calls (by simp [fi81]) ?_
  simp only [fi81, ir81]
  simp only [cntObj, stepsS, stepsT, stepsN, if_true, forall_const, ne_eq, implies_true, List.nil_append, List.append_nil, List.cons_append, List.length_cons, List.length_nil, Nat.reduceEqDiff, Nat.reduceAdd, Nat.reduceLT, Nat.reduceLeDiff, ↓reduceIte, reduceCtorEq, Int.reduceEq, Int.reduceLT]
  refine ⟨fun h => ?_, fun h => ?_⟩
  · exact ret2 (by simp [cntObj]) rfl (by simp [overB, Int.not_lt.2 h]) rfl
  · exact ret2 (by simp [cntObj]) rfl (by simp [overB, h]) rfl

/-! ### ContainsFunc -/
def idxT (p : T → Bool) : List T → Int → Int
  | [], _ => -1
  | x :: r, k => if p x = true then k else idxT p r (k + 1)
theorem idxT_any (p : T → Bool) : ∀ (l : List T) (k : Int), 0 ≤ k → (decide (0 ≤ idxT p l k) = l.any p)
  | [], k, _ => by simp [idxT]
  | x :: r, k, h => by
    simp only [idxT, List.any_cons]
    split
    · rename_i hp; simp [hp, h]
    · rename_i hp; simp [hp, idxT_any p r (k + 1) (by omega)]
theorem idxT_drop {p : T → Bool} {l : List T} {i : Nat} {k : Int} (h : i < l.length) : idxT p (l.drop i) k = if p (l.getD i default) = true then k else idxT p (l.drop (i + 1)) (k + 1) := by
  rw [List.drop_eq_getElem_cons h]
  simp [idxT, h]
theorem c108 (g : Nat) (p : T → Bool) (l : List T) (hf : ∀ x ∈ l, Pure Try.prog g [x.av] (.bool (p x))) :
    Pure Try.prog 108 [.lst 0 (avs l), .fn (.func g) [] []] (.int .i64 (idxT p l 0)) := by
  refine fun H => ok108.calls (by simp [fi108]) ?_
  simp only [fi108, ir108]
  simp only [stepsS, stepsT, stepsN, if_true, forall_const, ne_eq, implies_true, List.nil_append, List.append_nil, List.cons_append, List.length_cons, List.length_nil, Nat.reduceEqDiff, Nat.reduceAdd, Nat.reduceLT, Nat.reduceLeDiff, ↓reduceIte, reduceCtorEq, Int.reduceEq, Int.reduceLT]
  intro hl
  refine swp_loop_nat l.length (fun i => idxT p (l.drop i) i = idxT p l 0) (fun i => [(0, .lst 0 (avs l)), (1, .fn (.func g) [] []), (7, .int .i64 l.length), (8, .int .i64 i)]) (fun _ => H) ⟨rfl, sle_refl _ _ _⟩ fun i hi hI => ?_
  simp only [stepsS, stepsT, stepsN, if_true, forall_const, ne_eq, implies_true, List.nil_append, List.append_nil, List.cons_append, List.length_cons, List.length_nil, Nat.reduceEqDiff, Nat.reduceAdd, Nat.reduceLT, Nat.reduceLeDiff, ↓reduceIte, reduceCtorEq, Int.reduceEq, Int.reduceLT]
  refine ⟨fun hlt => ?_, fun hge => ?_⟩
  · have hlt := len_lt hlt
    rw [idxT_drop hlt] at hI
    refine ⟨hlt, scall_pure (hf _ (mem_getD hlt)) ?_⟩
    simp only [stepsS, stepsT, stepsN, if_true, forall_const, ne_eq, implies_true, List.nil_append, List.append_nil, List.cons_append, List.length_cons, List.length_nil, Nat.reduceEqDiff, Nat.reduceAdd, Nat.reduceLT, Nat.reduceLeDiff, ↓reduceIte, reduceCtorEq, Int.reduceEq, Int.reduceLT]
    refine scond_b (fun hb => ?_) (fun hb => ?_) <;> simp only [stepsS, stepsT, stepsN, if_true, forall_const, ne_eq, implies_true, List.nil_append, List.append_nil, List.cons_append, List.length_cons, List.length_nil, Nat.reduceEqDiff, Nat.reduceAdd, Nat.reduceLT, Nat.reduceLeDiff, ↓reduceIte, reduceCtorEq, Int.reduceEq, Int.reduceLT]
    · rw [if_pos hb] at hI
      exact ret0 rfl (by rw [← hI])
    · rw [if_neg (by rw [hb]; simp)] at hI
      exact ⟨i + 1, ⟨hlt, hI⟩, by omega, sle_eq (by rw [wrap_nat i (by omega)]) rfl⟩
  · rw [List.drop_of_length_le (len_nlt hge)] at hI
    exact ret0 rfl (by rw [← hI]; rfl)
theorem c92 (g : Nat) (p : T → Bool) (l : List T) (hf : ∀ x ∈ l, Pure Try.prog g [x.av] (.bool (p x))) :
    Pure Try.prog 92 [.lst 0 (avs l), .fn (.func g) [] []] (.bool (l.any p)) := by
  refine fun H => ok92.calls (by simp [fi92]) ?_
  simp only [fi92, ir92]
  simp only [stepsS, stepsT, stepsN, if_true, forall_const, ne_eq, implies_true, List.nil_append, List.append_nil, List.cons_append, List.length_cons, List.length_nil, Nat.reduceEqDiff, Nat.reduceAdd, Nat.reduceLT, Nat.reduceLeDiff, ↓reduceIte, reduceCtorEq, Int.reduceEq, Int.reduceLT]
  refine scall_pure (c108 g p l hf) ?_
  simp only [stepsS, stepsT, stepsN, if_true, forall_const, ne_eq, implies_true, List.nil_append, List.append_nil, List.cons_append, List.length_cons, List.length_nil, Nat.reduceEqDiff, Nat.reduceAdd, Nat.reduceLT, Nat.reduceLeDiff, ↓reduceIte, reduceCtorEq, Int.reduceEq, Int.reduceLT]
  exact ret0 rfl (by rw [idxT_any p l 0 (by omega)])

/-! ### shaped -/
mutual
def T.shaped : T → Bool
  | .mk k n l => !(decide (n < 0) || (decide (k = 1) && decide (0 < l.length)) || (decide (k ≠ 1) && decide (k ≠ 2)) || decide (8 < l.length)) && shapeds l
def shapeds : List T → Bool
  | [] => true
  | x :: r => x.shaped && shapeds r
end
theorem shapeds_all : ∀ l, shapeds l = l.all T.shaped
  | [] => rfl
  | x :: r => by simp only [shapeds, List.all_cons, shapeds_all r]
theorem shapeds_any (l : List T) : (!(l.any fun x => !x.shaped)) = shapeds l := by
  rw [shapeds_all]
  induction l with
  | nil => rfl
  | cons x r ih => simp only [List.any_cons, List.all_cons, Bool.not_or, Bool.not_not, ih]
theorem T.shaped_eq (x : T) : x.shaped = (!(decide (x.n < 0) || (decide (x.k = 1) && decide (0 < x.l.length)) || (decide (x.k ≠ 1) && decide (x.k ≠ 2)) || decide (8 < x.l.length)) && shapeds x.l) := by
  cases x; simp only [T.shaped, T.k, T.n, T.l]; rfl
theorem shapeds_drop {l : List T} {i : Nat} (h : i < l.length) : shapeds (l.drop i) = ((l.getD i default).shaped && shapeds (l.drop (i + 1))) := by
  rw [List.drop_eq_getElem_cons h]
  simp [shapeds, h]
theorem T.shaped_go {x : T} (hh : ¬ (x.n < 0 ∨ (x.k = 1 ∧ 0 < x.l.length) ∨ (x.k ≠ 1 ∧ x.k ≠ 2) ∨ 8 < x.l.length)) : x.shaped = shapeds x.l := by
  rw [x.shaped_eq]
  have h1 : decide (x.n < 0) = false := Bool.eq_false_iff.2 (by simp only [ne_eq, Bool.and_eq_true, decide_eq_true_eq]; omega)
  have h2 : (decide (x.k = 1) && decide (0 < x.l.length)) = false := Bool.eq_false_iff.2 (by simp only [ne_eq, Bool.and_eq_true, decide_eq_true_eq]; omega)
  have h3 : (decide (x.k ≠ 1) && decide (x.k ≠ 2)) = false := Bool.eq_false_iff.2 (by simp only [ne_eq, Bool.and_eq_true, decide_eq_true_eq]; omega)
  have h4 : decide (8 < x.l.length) = false := Bool.eq_false_iff.2 (by simp only [ne_eq, Bool.and_eq_true, decide_eq_true_eq]; omega)
  rw [h1, h2, h3, h4]; rfl
theorem c109 (x : T) (h : Pure Try.prog 96 [x.av] (.bool x.shaped)) : Pure Try.prog 109 [x.av] (.bool (!x.shaped)) := by
  refine fun H => ok109.calls (by simp [fi109]) ?_
  simp only [fi109, ir109]
  simp only [stepsS, stepsT, stepsN, if_true, forall_const, ne_eq, implies_true, List.nil_append, List.append_nil, List.cons_append, List.length_cons, List.length_nil, Nat.reduceEqDiff, Nat.reduceAdd, Nat.reduceLT, Nat.reduceLeDiff, ↓reduceIte, reduceCtorEq, Int.reduceEq, Int.reduceLT]
  refine scall_pure h ?_
  simp only [stepsS, stepsT, stepsN, if_true, forall_const, ne_eq, implies_true, List.nil_append, List.append_nil, List.cons_append, List.length_cons, List.length_nil, Nat.reduceEqDiff, Nat.reduceAdd, Nat.reduceLT, Nat.reduceLeDiff, ↓reduceIte, reduceCtorEq, Int.reduceEq, Int.reduceLT]
  exact ret0 rfl rfl
theorem c96 (x : T) : Pure Try.prog 96 [x.av] (.bool x.shaped) := by
  have ih : ∀ y ∈ x.l, Pure Try.prog 109 [y.av] (.bool (!y.shaped)) := fun y hy => c109 y (c96 y)
  refine fun H => ok96.calls (by simp [fi96]) ?_
  simp only [fi96, ir96]
  simp (contextual := true) (maxSteps := 1000000) only [stepsS, stepsT, stepsN, if_true, forall_const, ne_eq, implies_true, List.nil_append, List.append_nil, List.cons_append, List.length_cons, List.length_nil, Nat.reduceEqDiff, Nat.reduceAdd, Nat.reduceLT, Nat.reduceLeDiff, ↓reduceIte, reduceCtorEq, Int.reduceEq, Int.reduceLT]
  have fin : ∀ (H' : List AObj), H' = H → (x.n < 0 ∨ (x.k = 1 ∧ 0 < x.l.length) ∨ (x.k ≠ 1 ∧ x.k ≠ 2) ∨ 8 < x.l.length) → aret H.length [RX.t 2] [(2, AV.bool false)] H' fun r H' => r = AV.bool x.shaped ∧ H' = H := by
    rintro H' rfl hh
    refine ret0 rfl ?_
    rw [x.shaped_eq]
    rcases hh with h | h | h | h <;> simp [h]
  have go : ¬ (x.n < 0 ∨ (x.k = 1 ∧ 0 < x.l.length) ∨ (x.k ≠ 1 ∧ x.k ≠ 2) ∨ 8 < x.l.length) → x.shaped = shapeds x.l := by
    intro hh
    rw [x.shaped_eq]
    have h1 : decide (x.n < 0) = false := Bool.eq_false_iff.2 (by simp only [ne_eq, Bool.and_eq_true, decide_eq_true_eq]; omega)
    have h2 : (decide (x.k = 1) && decide (0 < x.l.length)) = false := Bool.eq_false_iff.2 (by simp only [ne_eq, Bool.and_eq_true, decide_eq_true_eq]; omega)
    have h3 : (decide (x.k ≠ 1) && decide (x.k ≠ 2)) = false := Bool.eq_false_iff.2 (by simp only [ne_eq, Bool.and_eq_true, decide_eq_true_eq]; omega)
    have h4 : decide (8 < x.l.length) = false := Bool.eq_false_iff.2 (by simp only [ne_eq, Bool.and_eq_true, decide_eq_true_eq]; omega)
    rw [h1, h2, h3, h4]; rfl
  refine ⟨fun h => fin _ rfl (.inl h), fun h => ⟨fun h1 hl => ⟨fun h2 => fin _ rfl (by omega), fun h2 => ⟨fun h3 => fin _ rfl (by omega), fun h3 => scall_pure (c92 109 _ _ ih) ?_⟩⟩,
    fun h1 => ⟨fun h2 => fin _ rfl (by omega), fun h2 hl => ⟨fun h3 => fin _ rfl (by omega), fun h3 => scall_pure (c92 109 _ _ ih) ?_⟩⟩⟩⟩ <;>
  · simp only [stepsS, stepsT, stepsN, if_true, forall_const, ne_eq, implies_true, List.nil_append, List.append_nil, List.cons_append, List.length_cons, List.length_nil, Nat.reduceEqDiff, Nat.reduceAdd, Nat.reduceLT, Nat.reduceLeDiff, ↓reduceIte, reduceCtorEq, Int.reduceEq, Int.reduceLT]
    exact ret0 rfl (by rw [go (by omega), shapeds_any])
termination_by SizeOf.sizeOf x
decreasing_by exact T.lt hy

/-! ### isTree -/
def T.tree (x : T) : Bool := !overB (cntT x 1 (0, 0)) && x.shaped
theorem c57 (x : T) : Pure Try.prog 57 [x.av] (.bool x.tree) := by
  refine fun H => ok57.calls (by simp [fi57]) ?_
  simp only [fi57, ir57]
  simp only [stepsS, stepsT, stepsN, if_true, forall_const, ne_eq, implies_true, List.nil_append, List.append_nil, List.cons_append, List.length_cons, List.length_nil, Nat.reduceEqDiff, Nat.reduceAdd, Nat.reduceLT, Nat.reduceLeDiff, ↓reduceIte, reduceCtorEq, Int.reduceEq, Int.reduceLT]
  refine scall_to (c80 H x 1 (0, 0) (by unfold cntOk; simp)) ?_
  rintro r H' ⟨rfl, rfl⟩
  simp only [stepsS, stepsT, stepsN, if_true, forall_const, ne_eq, implies_true, List.nil_append, List.append_nil, List.cons_append, List.length_cons, List.length_nil, Nat.reduceEqDiff, Nat.reduceAdd, Nat.reduceLT, Nat.reduceLeDiff, ↓reduceIte, reduceCtorEq, Int.reduceEq, Int.reduceLT]
  refine scall_to (c81 H (cntT x 1 (0, 0))) ?_
  rintro r H' ⟨rfl, rfl⟩
  cases hb : overB (cntT x 1 (0, 0)) <;> simp (contextual := true) (maxSteps := 1000000) only [stepsS, stepsT, stepsN, if_true, forall_const, ne_eq, implies_true, List.nil_append, List.append_nil, List.cons_append, List.length_cons, List.length_nil, Nat.reduceEqDiff, Nat.reduceAdd, Nat.reduceLT, Nat.reduceLeDiff, ↓reduceIte, reduceCtorEq, Int.reduceEq, Int.reduceLT]
  · refine scall_pure (c96 x) ?_
    simp only [stepsS, stepsT, stepsN, if_true, forall_const, ne_eq, implies_true, List.nil_append, List.append_nil, List.cons_append, List.length_cons, List.length_nil, Nat.reduceEqDiff, Nat.reduceAdd, Nat.reduceLT, Nat.reduceLeDiff, ↓reduceIte, reduceCtorEq, Int.reduceEq, Int.reduceLT]
    exact ret1 rfl (by simp [T.tree, hb])
  · exact ret1 rfl (by simp [T.tree, hb])
theorem c93 (x : T) : Pure Try.prog 93 [x.av] (.bool (!x.tree)) := by
  refine fun H => ok93.calls (by simp [fi93]) ?_
  simp only [fi93, ir93]
  simp only [stepsS, stepsT, stepsN, if_true, forall_const, ne_eq, implies_true, List.nil_append, List.append_nil, List.cons_append, List.length_cons, List.length_nil, Nat.reduceEqDiff, Nat.reduceAdd, Nat.reduceLT, Nat.reduceLeDiff, ↓reduceIte, reduceCtorEq, Int.reduceEq, Int.reduceLT]
  refine scall_pure (c57 x) ?_
  simp only [stepsS, stepsT, stepsN, if_true, forall_const, ne_eq, implies_true, List.nil_append, List.append_nil, List.cons_append, List.length_cons, List.length_nil, Nat.reduceEqDiff, Nat.reduceAdd, Nat.reduceLT, Nat.reduceLeDiff, ↓reduceIte, reduceCtorEq, Int.reduceEq, Int.reduceLT]
  exact ret0 rfl rfl
def treesB (l : List T) : Bool := l.all T.tree
theorem c53 (l : List T) : Pure Try.prog 53 [.lst 0 (avs l)] (.int .i64 (if treesB l = true then 0 else 4)) := by
  refine fun H => ok53.calls (by simp [fi53]) ?_
  simp only [fi53, ir53]
  simp only [stepsS, stepsT, stepsN, if_true, forall_const, ne_eq, implies_true, List.nil_append, List.append_nil, List.cons_append, List.length_cons, List.length_nil, Nat.reduceEqDiff, Nat.reduceAdd, Nat.reduceLT, Nat.reduceLeDiff, ↓reduceIte, reduceCtorEq, Int.reduceEq, Int.reduceLT]
  refine scall_pure (c92 93 _ l fun x _ => c93 x) ?_
  have e : (l.any fun x => !x.tree) = !treesB l := by
    unfold treesB
    induction l with
    | nil => rfl
    | cons x r ih => simp only [List.any_cons, List.all_cons, ih, Bool.not_and]
  rw [e]
  cases treesB l <;> simp (contextual := true) (maxSteps := 1000000) only [stepsS, stepsT, stepsN, if_true, forall_const, ne_eq, implies_true, List.nil_append, List.append_nil, List.cons_append, List.length_cons, List.length_nil, Nat.reduceEqDiff, Nat.reduceAdd, Nat.reduceLT, Nat.reduceLeDiff, ↓reduceIte, reduceCtorEq, Int.reduceEq, Int.reduceLT]
  · exact ret0 rfl rfl
  · exact ret0 rfl rfl

/-! ### The document's way -/
mutual
def ctdT : T → Int → Int → Int × Bool
  | .mk _ _ l, left, deep => if left - 1 < 0 ∨ 200 < deep then (left - 1, false) else ctds l (left - 1) (deep + 1)
def ctds : List T → Int → Int → Int × Bool
  | [], left, _ => (left, true)
  | x :: r, left, deep => if (ctdT x left deep).2 = true then ctds r (ctdT x left deep).1 deep else ((ctdT x left deep).1, false)
end
mutual
theorem ctdT_le : ∀ (x : T) (left deep : Int), (ctdT x left deep).1 ≤ left ∧ (0 ≤ left → -1 ≤ (ctdT x left deep).1 ∧ ((ctdT x left deep).2 = true → 0 ≤ (ctdT x left deep).1))
  | .mk k n l, left, deep => by
    simp only [ctdT]
    split
    · simp; omega
    · rename_i hn
      have := ctds_le l (left - 1) (deep + 1)
      exact ⟨by omega, fun _ => this.2 (by omega)⟩
theorem ctds_le : ∀ (l : List T) (left deep : Int), (ctds l left deep).1 ≤ left ∧ (0 ≤ left → -1 ≤ (ctds l left deep).1 ∧ ((ctds l left deep).2 = true → 0 ≤ (ctds l left deep).1))
  | [], left, deep => by simp [ctds]; omega
  | x :: r, left, deep => by
    have h1 := ctdT_le x left deep
    simp only [ctds]
    split
    · rename_i hb
      have h2 := ctds_le r (ctdT x left deep).1 deep
      exact ⟨by omega, fun h0 => h2.2 ((h1.2 h0).2 hb)⟩
    · exact ⟨h1.1, fun h0 => ⟨(h1.2 h0).1, fun e => by cases e⟩⟩
end
theorem ctds_drop {l : List T} {i : Nat} {left d : Int} (h : i < l.length) : ctds (l.drop i) left d = if (ctdT (l.getD i default) left d).2 = true then ctds (l.drop (i + 1)) (ctdT (l.getD i default) left d).1 d else ((ctdT (l.getD i default) left d).1, false) := by
  rw [List.drop_eq_getElem_cons h]
  simp [ctds, h]
theorem c50 (x : T) (left deep : Int) (h0 : 0 ≤ left) (h1 : left ≤ 100000) (h2 : 0 ≤ deep) (h3 : deep ≤ 201) :
    Pure Try.prog 50 [x.av, .int .i64 left, .int .i64 deep] (.tuple [.int .i64 (ctdT x left deep).1, .bool (ctdT x left deep).2]) := by
  have ih : ∀ y ∈ x.l, ∀ (left deep : Int), 0 ≤ left → left ≤ 100000 → 0 ≤ deep → deep ≤ 201 →
    Pure Try.prog 50 [y.av, .int .i64 left, .int .i64 deep] (.tuple [.int .i64 (ctdT y left deep).1, .bool (ctdT y left deep).2]) := fun y hy left deep h0 h1 h2 h3 => c50 y left deep h0 h1 h2 h3
  have e : ctdT x left deep = if left - 1 < 0 ∨ 200 < deep then (left - 1, false) else ctds x.l (left - 1) (deep + 1) := by cases x; simp only [ctdT, T.l]
  have w1 : IntKind.i64.wrap (left - 1) = left - 1 := wrap_in _ (by omega)
  have w2 : IntKind.i64.wrap (deep + 1) = deep + 1 := wrap_in _ (by omega)
  refine fun H => ok50.calls (by simp [fi50]) ?_
  simp only [fi50, ir50]
  simp (contextual := true) (maxSteps := 1000000) only [w1, stepsS, stepsT, stepsN, if_true, forall_const, ne_eq, implies_true, List.nil_append, List.append_nil, List.cons_append, List.length_cons, List.length_nil, Nat.reduceEqDiff, Nat.reduceAdd, Nat.reduceLT, Nat.reduceLeDiff, ↓reduceIte, reduceCtorEq, Int.reduceEq, Int.reduceLT]
  refine ⟨fun h4 => ⟨fun h5 => ret20 (by decide) rfl rfl (by rw [e, if_pos (.inr h5)]; rfl) (by rw [e, if_pos (.inr h5)]; rfl), fun h5 => ?_⟩, fun h4 => ret20 (by decide) rfl rfl (by rw [e, if_pos (.inl h4)]; rfl) (by rw [e, if_pos (.inl h4)]; rfl)⟩
  have e2 : ctdT x left deep = ctds x.l (left - 1) (deep + 1) := by rw [e, if_neg (by omega)]
  refine swp_loop_st x.l.length (fun i (s : Int) => 0 ≤ s ∧ s ≤ 100000 ∧ ctds (x.l.drop i) s (deep + 1) = ctdT x left deep)
      (fun i s => [(1, .int .i64 s), (2, .int .i64 deep), (3, x.av.iptr), (8, .int .i64 i)]) (fun i s => H) (left - 1) ⟨⟨by omega, by omega, by rw [e2]; rfl⟩, sle_refl _ _ _⟩ fun i s hi hI => ?_
  obtain ⟨k0, k1, hI⟩ := hI
  simp (contextual := true) (maxSteps := 1000000) only [w2, stepsS, stepsT, stepsN, if_true, forall_const, ne_eq, implies_true, List.nil_append, List.append_nil, List.cons_append, List.length_cons, List.length_nil, Nat.reduceEqDiff, Nat.reduceAdd, Nat.reduceLT, Nat.reduceLeDiff, ↓reduceIte, reduceCtorEq, Int.reduceEq, Int.reduceLT]
  intro hl
  refine ⟨fun hlt => ⟨len_lt hlt, ?_⟩, fun hge => ?_⟩
  · have hlt := len_lt hlt
    rw [ctds_drop hlt] at hI
    have hle := ctdT_le (x.l.getD i default) s (deep + 1)
    refine scall_pure (ih _ (mem_getD hlt) s (deep + 1) k0 k1 (by omega) (by omega)) ?_
    simp (contextual := true) (maxSteps := 1000000) only [stepsS, stepsT, stepsN, if_true, forall_const, ne_eq, implies_true, List.nil_append, List.append_nil, List.cons_append, List.length_cons, List.length_nil, Nat.reduceEqDiff, Nat.reduceAdd, Nat.reduceLT, Nat.reduceLeDiff, ↓reduceIte, reduceCtorEq, Int.reduceEq, Int.reduceLT]
    refine scond_b (fun hb => ?_) (fun hb => ?_) <;> simp (contextual := true) (maxSteps := 1000000) only [stepsS, stepsT, stepsN, if_true, forall_const, ne_eq, implies_true, List.nil_append, List.append_nil, List.cons_append, List.length_cons, List.length_nil, Nat.reduceEqDiff, Nat.reduceAdd, Nat.reduceLT, Nat.reduceLeDiff, ↓reduceIte, reduceCtorEq, Int.reduceEq, Int.reduceLT]
    · rw [if_pos hb] at hI
      exact ⟨i + 1, _, ⟨hlt, (hle.2 k0).2 hb, by omega, hI⟩, by omega, sle_eq (by rw [wrap_nat i (by omega)]) rfl⟩
    · rw [if_neg (by rw [hb]; simp)] at hI
      exact ret20 (by decide) rfl rfl (by rw [← hI]; rfl) (by rw [← hI]; rfl)
  · rw [List.drop_of_length_le (len_nlt hge)] at hI
    exact ret20 (by decide) rfl rfl (by rw [← hI]; rfl) (by rw [← hI]; rfl)
termination_by SizeOf.sizeOf x
decreasing_by exact T.lt hy
theorem c51 (x : T) : Pure Try.prog 51 [x.av] (.bool x.shaped) := by
  have ih : ∀ y ∈ x.l, Pure Try.prog 51 [y.av] (.bool y.shaped) := fun y hy => c51 y
  refine fun H => ok51.calls (by simp [fi51]) ?_
  simp only [fi51, ir51]
  simp (contextual := true) (maxSteps := 1000000) only [stepsS, stepsT, stepsN, if_true, forall_const, ne_eq, implies_true, List.nil_append, List.append_nil, List.cons_append, List.length_cons, List.length_nil, Nat.reduceEqDiff, Nat.reduceAdd, Nat.reduceLT, Nat.reduceLeDiff, ↓reduceIte, reduceCtorEq, Int.reduceEq, Int.reduceLT]
  have fin : ∀ (H' : List AObj), H' = H → (x.n < 0 ∨ (x.k = 1 ∧ 0 < x.l.length) ∨ (x.k ≠ 1 ∧ x.k ≠ 2) ∨ 8 < x.l.length) → aret H.length [RX.t 2] [(2, AV.bool false)] H' fun r H' => r = AV.bool x.shaped ∧ H' = H := by
    rintro H' rfl hh
    refine ret0 rfl ?_
    rw [x.shaped_eq]
    rcases hh with h | h | h | h <;> simp [h]
  refine ⟨fun h => ⟨fun h1 => ⟨fun h2 hl => ⟨fun h3 => fin _ rfl (by omega), fun h3 => ?_⟩, fun h2 => fin _ rfl (by omega)⟩, fun h1 hl => ⟨fun h2 => ⟨fun h3 => fin _ rfl (by omega), fun h3 => ?_⟩, fun h2 => fin _ rfl (by omega)⟩⟩, fun h => fin _ rfl (by omega)⟩
  all_goals
    have go : x.shaped = shapeds x.l := T.shaped_go (by omega)
    refine swp_loop_nat x.l.length (fun i => shapeds (x.l.drop i) = x.shaped) (fun i => [(1, x.av.iptr), (3, .int .i64 i)]) (fun i => H) ⟨by rw [go]; rfl, sle_refl _ _ _⟩ fun i hi hI => ?_
    simp (contextual := true) (maxSteps := 1000000) only [stepsS, stepsT, stepsN, if_true, forall_const, ne_eq, implies_true, List.nil_append, List.append_nil, List.cons_append, List.length_cons, List.length_nil, Nat.reduceEqDiff, Nat.reduceAdd, Nat.reduceLT, Nat.reduceLeDiff, ↓reduceIte, reduceCtorEq, Int.reduceEq, Int.reduceLT]
    intro _
    refine ⟨fun hlt => ⟨len_lt hlt, ?_⟩, fun hge => ?_⟩
    · have hlt := len_lt hlt
      rw [shapeds_drop hlt] at hI
      refine scall_pure (ih _ (mem_getD hlt)) ?_
      simp (contextual := true) (maxSteps := 1000000) only [stepsS, stepsT, stepsN, if_true, forall_const, ne_eq, implies_true, List.nil_append, List.append_nil, List.cons_append, List.length_cons, List.length_nil, Nat.reduceEqDiff, Nat.reduceAdd, Nat.reduceLT, Nat.reduceLeDiff, ↓reduceIte, reduceCtorEq, Int.reduceEq, Int.reduceLT]
      refine scond_b (fun hb => ?_) (fun hb => ?_) <;> simp (contextual := true) (maxSteps := 1000000) only [stepsS, stepsT, stepsN, if_true, forall_const, ne_eq, implies_true, List.nil_append, List.append_nil, List.cons_append, List.length_cons, List.length_nil, Nat.reduceEqDiff, Nat.reduceAdd, Nat.reduceLT, Nat.reduceLeDiff, ↓reduceIte, reduceCtorEq, Int.reduceEq, Int.reduceLT]
      · exact ⟨i + 1, ⟨hlt, by rw [hb] at hI; simpa using hI⟩, by omega, sle_eq (by rw [wrap_nat i (by omega)]) rfl⟩
      · exact ret0 rfl (by rw [← hI, hb]; rfl)
    · rw [List.drop_of_length_le (len_nlt hge)] at hI
      exact ret0 rfl (by rw [← hI]; rfl)
termination_by SizeOf.sizeOf x
decreasing_by exact T.lt hy
theorem c15 (x : T) : Pure Try.prog 15 [x.av] (.bool ((ctdT x 2000 1).2 && x.shaped)) := by
  refine fun H => ok15.calls (by simp [fi15]) ?_
  simp only [fi15, ir15]
  simp (contextual := true) (maxSteps := 1000000) only [stepsS, stepsT, stepsN, if_true, forall_const, ne_eq, implies_true, List.nil_append, List.append_nil, List.cons_append, List.length_cons, List.length_nil, Nat.reduceEqDiff, Nat.reduceAdd, Nat.reduceLT, Nat.reduceLeDiff, ↓reduceIte, reduceCtorEq, Int.reduceEq, Int.reduceLT]
  refine scall_pure (c50 x 2000 1 (by omega) (by omega) (by omega) (by omega)) ?_
  cases hb : (ctdT x 2000 1).2 <;> simp (contextual := true) (maxSteps := 1000000) only [stepsS, stepsT, stepsN, if_true, forall_const, ne_eq, implies_true, List.nil_append, List.append_nil, List.cons_append, List.length_cons, List.length_nil, Nat.reduceEqDiff, Nat.reduceAdd, Nat.reduceLT, Nat.reduceLeDiff, ↓reduceIte, reduceCtorEq, Int.reduceEq, Int.reduceLT]
  · exact ret0 rfl rfl
  · refine scall_pure (c51 x) ?_
    simp (contextual := true) (maxSteps := 1000000) only [stepsS, stepsT, stepsN, if_true, forall_const, ne_eq, implies_true, List.nil_append, List.append_nil, List.cons_append, List.length_cons, List.length_nil, Nat.reduceEqDiff, Nat.reduceAdd, Nat.reduceLT, Nat.reduceLeDiff, ↓reduceIte, reduceCtorEq, Int.reduceEq, Int.reduceLT]
    exact ret0 rfl rfl
end Go.Abs
