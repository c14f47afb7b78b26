/- A part of the proof; its place is told by its neighbours. -/
import Derived.Test.YtcfmgncmkbiknaaY04p
import Derived.Test.YtcfmgncmkbiknaaY04u
set_option maxRecDepth 100000
set_option linter.unusedSimpArgs false
namespace Go.Abs
open Go Go.Proofs
mutual
def T.same : T → T → Bool
  | .mk k n l, .mk k' n' l' => k == k' && n == n' && sames l l'
def sames : List T → List T → Bool
  | [], [] => true
  | x :: r, y :: s => x.same y && sames r s
  | _, _ => false
end
theorem sames_len : ∀ {l m : List T}, sames l m = true → l.length = m.length
  | [], [], _ => rfl
  | x :: r, y :: s, h => by simp only [sames, Bool.and_eq_true] at h; simp [sames_len h.2]
  | [], _ :: _, h => by simp [sames] at h
  | _ :: _, [], h => by simp [sames] at h

theorem sames_drop {xs ys : List T} {i : Nat} (h1 : i < xs.length) (h2 : i < ys.length) : sames (xs.drop i) (ys.drop i) = ((xs.getD i default).same (ys.getD i default) && sames (xs.drop (i + 1)) (ys.drop (i + 1))) := by
  rw [List.drop_eq_getElem_cons h1, List.drop_eq_getElem_cons h2]
  simp [sames, h1, h2]

theorem c65 (xs ys : List T) (hf : ∀ x ∈ xs, ∀ y, Pure Try.prog 24 [x.av, y.av] (.bool (x.same y))) :
   Pure Try.prog 65 [.lst 0 (avs xs), .lst 0 (avs ys), .fn (.func 24) [] []] (.bool (sames xs ys)) := by
  refine fun H => ok65.calls (by simp [fi65]) ?_
  simp only [fi65, ir65]
  simp only [stepsS, stepsT, stepsN, if_true, forall_const, ne_eq, implies_true, List.nil_append, List.append_nil, List.cons_append, List.length_cons, List.length_nil, Nat.reduceEqDiff, Nat.reduceAdd, Nat.reduceLT, Nat.reduceLeDiff, ↓reduceIte, reduceCtorEq, Int.reduceEq, Int.reduceLT]
  refine fun hx hy => ⟨fun hne => ?_, fun he _ => ?_⟩
  · refine aret_one H.length (Nat.le_refl _) (by simp only [stepsS, stepsT, stepsN, if_true, forall_const, ne_eq, implies_true, List.nil_append, List.append_nil, List.cons_append, List.length_cons, List.length_nil, Nat.reduceEqDiff, Nat.reduceAdd, Nat.reduceLT, Nat.reduceLeDiff, ↓reduceIte, reduceCtorEq, Int.reduceEq, Int.reduceLT]) ?_
    simp only [stepsS, stepsT, stepsN, if_true, forall_const, ne_eq, implies_true, List.nil_append, List.append_nil, List.cons_append, List.length_cons, List.length_nil, Nat.reduceEqDiff, Nat.reduceAdd, Nat.reduceLT, Nat.reduceLeDiff, ↓reduceIte, reduceCtorEq, Int.reduceEq, Int.reduceLT, List.take_length]
    have : xs.length ≠ ys.length := by simpa [Int.ofNat_inj] using hne
    cases hs : sames xs ys with
    | false => rfl
    | true => exact absurd (sames_len hs) this
  have he' : xs.length = ys.length := by simpa [Int.ofNat_inj] using he
  refine swp_loop_nat xs.length (fun i => sames (xs.drop i) (ys.drop i) = sames xs ys) (fun i => [(1, .lst 0 (avs ys)), (2, .fn (.func 24) [] []), (15, .lst 0 (avs xs)), (16, .int .i64 xs.length), (17, .int .i64 i)]) (fun _ => H) ⟨rfl, sle_refl _ _ _⟩ fun i hi hI => ?_
  simp only [stepsS, stepsT, stepsN, if_true, forall_const, ne_eq, implies_true, List.nil_append, List.append_nil, List.cons_append, List.length_cons, List.length_nil, Nat.reduceEqDiff, Nat.reduceAdd, Nat.reduceLT, Nat.reduceLeDiff, ↓reduceIte, reduceCtorEq, Int.reduceEq, Int.reduceLT]
  refine ⟨fun hlt => ?_, fun hge => ?_⟩
  · have hlt : i < xs.length := by simpa using hlt
    have hlt2 : i < ys.length := by omega
    refine ⟨hlt, hlt2, scall_pure (hf _ (by simp [hlt]) _) ?_⟩
    rw [sames_drop hlt hlt2] at hI
    simp only [stepsS, stepsT, stepsN, if_true, forall_const, ne_eq, implies_true, List.nil_append, List.append_nil, List.cons_append, List.length_cons, List.length_nil, Nat.reduceEqDiff, Nat.reduceAdd, Nat.reduceLT, Nat.reduceLeDiff, ↓reduceIte, reduceCtorEq, Int.reduceEq, Int.reduceLT]
    refine scond_b (fun hn => ?_) (fun hn => ?_) <;> simp only [stepsS, stepsT, stepsN, if_true, forall_const, ne_eq, implies_true, List.nil_append, List.append_nil, List.cons_append, List.length_cons, List.length_nil, Nat.reduceEqDiff, Nat.reduceAdd, Nat.reduceLT, Nat.reduceLeDiff, ↓reduceIte, reduceCtorEq, Int.reduceEq, Int.reduceLT]
    · refine ⟨i + 1, ⟨by omega, by rw [← hI, hn]; rfl⟩, by omega, ?_⟩
      refine sle_drop ?_ (Nat.le_refl _) (by simp only [stepsS, stepsT, stepsN, if_true, forall_const, ne_eq, implies_true, List.nil_append, List.append_nil, List.cons_append, List.length_cons, List.length_nil, Nat.reduceEqDiff, Nat.reduceAdd, Nat.reduceLT, Nat.reduceLeDiff, ↓reduceIte, reduceCtorEq, Int.reduceEq, Int.reduceLT]) _ rfl
      rw [wrap_nat i (by omega)]
    · refine aret_one H.length (Nat.le_refl _) (by simp only [stepsS, stepsT, stepsN, if_true, forall_const, ne_eq, implies_true, List.nil_append, List.append_nil, List.cons_append, List.length_cons, List.length_nil, Nat.reduceEqDiff, Nat.reduceAdd, Nat.reduceLT, Nat.reduceLeDiff, ↓reduceIte, reduceCtorEq, Int.reduceEq, Int.reduceLT]) ?_
      rw [← hI, hn]
      exact ⟨rfl, by simp⟩
  · have hge : ¬ i < xs.length := by simpa using hge
    refine aret_one H.length (Nat.le_refl _) (by simp only [stepsS, stepsT, stepsN, if_true, forall_const, ne_eq, implies_true, List.nil_append, List.append_nil, List.cons_append, List.length_cons, List.length_nil, Nat.reduceEqDiff, Nat.reduceAdd, Nat.reduceLT, Nat.reduceLeDiff, ↓reduceIte, reduceCtorEq, Int.reduceEq, Int.reduceLT]) ?_
    rw [List.drop_of_length_le (by omega), List.drop_of_length_le (by omega)] at hI
    simp [get, ← hI, sames]
theorem mem_getD {l : List T} {i : Nat} (h : i < l.length) : l.getD i default ∈ l := by simp [h]
theorem T.lt {x y : T} (h : x ∈ y.l) : SizeOf.sizeOf x < SizeOf.sizeOf y := by
  cases y with
  | mk k n l =>
    have := List.sizeOf_lt_of_mem h
    simp only [T.l] at this
    simp only [T.mk.sizeOf_spec]
    omega
theorem c24 (a b : T) : Pure Try.prog 24 [a.av, b.av] (.bool (a.same b)) := by
  have ih : ∀ x ∈ a.l, ∀ y, Pure Try.prog 24 [x.av, y.av] (.bool (x.same y)) := fun x hx y => c24 x y
  refine fun H => ok24.calls (by simp [fi24]) ?_
  simp only [fi24, ir24]
  simp only [stepsS, stepsT, stepsN, if_true, forall_const, ne_eq, implies_true, List.nil_append, List.append_nil, List.cons_append, List.length_cons, List.length_nil, Nat.reduceEqDiff, Nat.reduceAdd, Nat.reduceLT, Nat.reduceLeDiff, ↓reduceIte, reduceCtorEq, Int.reduceEq, Int.reduceLT]
  have e : a.same b = (decide (a.k = b.k) && decide (a.n = b.n) && sames a.l b.l) := by
    cases a; cases b; simp only [T.same, T.k, T.n, T.l]; rfl
  refine ⟨fun hk => ⟨fun hn => scall_pure (c65 _ _ ih) ?_, fun hn => ret0 rfl (by rw [e]; simp [hn])⟩, fun hk => ret0 rfl (by rw [e]; simp [hk])⟩
  simp only [stepsS, stepsT, stepsN, if_true, forall_const, ne_eq, implies_true, List.nil_append, List.append_nil, List.cons_append, List.length_cons, List.length_nil, Nat.reduceEqDiff, Nat.reduceAdd, Nat.reduceLT, Nat.reduceLeDiff, ↓reduceIte, reduceCtorEq, Int.reduceEq, Int.reduceLT]
  exact ret0 rfl (by rw [e]; simp [hk, hn])
termination_by SizeOf.sizeOf a
decreasing_by exact T.lt hx

/-! ### Compare -/
def icmp (a b : Int) : Int := if a < b then -1 else if b < a then 1 else 0
def orL : List Int → Int
  | [] => 0
  | x :: r => if x ≠ 0 then x else orL r
mutual
def T.cmp : T → T → Int
  | .mk k n l, .mk k' n' l' => if orL [icmp k k', icmp n n', icmp l.length l'.length] ≠ 0 then orL [icmp k k', icmp n n', icmp l.length l'.length] else cmps l l'
def cmps : List T → List T → Int
  | [], [] => 0
  | [], _ :: _ => -1
  | _ :: _, [] => 1
  | x :: r, y :: s => if x.cmp y ≠ 0 then x.cmp y else cmps r s
end
theorem c97 (a : Int) : Pure Try.prog 97 [.int .i64 a] (.bool false) := by
  refine fun H => ok97.calls (by simp [fi97]) ?_
  simp only [fi97, ir97]
  simp only [stepsS, stepsT, stepsN, if_true, forall_const, ne_eq, implies_true, List.nil_append, List.append_nil, List.cons_append, List.length_cons, List.length_nil, Nat.reduceEqDiff, Nat.reduceAdd, Nat.reduceLT, Nat.reduceLeDiff, ↓reduceIte, reduceCtorEq, Int.reduceEq, Int.reduceLT]
  exact ret0 rfl (by simp)
theorem c63 (a b : Int) : Pure Try.prog 63 [.int .i64 a, .int .i64 b] (.int .i64 (icmp a b)) := by
  refine fun H => ok63.calls (by simp [fi63]) ?_
  simp only [fi63, ir63]
  simp only [stepsS, stepsT, stepsN, if_true, forall_const, ne_eq, implies_true, List.nil_append, List.append_nil, List.cons_append, List.length_cons, List.length_nil, Nat.reduceEqDiff, Nat.reduceAdd, Nat.reduceLT, Nat.reduceLeDiff, ↓reduceIte, reduceCtorEq, Int.reduceEq, Int.reduceLT]
  refine scall_pure (c97 a) ?_
  simp only [stepsS, stepsT, stepsN, if_true, forall_const, ne_eq, implies_true, List.nil_append, List.append_nil, List.cons_append, List.length_cons, List.length_nil, Nat.reduceEqDiff, Nat.reduceAdd, Nat.reduceLT, Nat.reduceLeDiff, ↓reduceIte, reduceCtorEq, Int.reduceEq, Int.reduceLT]
  refine scall_pure (c97 b) ?_
  simp only [stepsS, stepsT, stepsN, if_true, forall_const, ne_eq, implies_true, List.nil_append, List.append_nil, List.cons_append, List.length_cons, List.length_nil, Nat.reduceEqDiff, Nat.reduceAdd, Nat.reduceLT, Nat.reduceLeDiff, ↓reduceIte, reduceCtorEq, Int.reduceEq, Int.reduceLT]
  exact ⟨fun h => ret0 rfl (by simp [icmp, h]), fun h => ⟨fun h2 => ret0 rfl (by simp [icmp, h, h2, Int.not_lt.2 h]), fun h2 => ret0 rfl (by simp [icmp, Int.not_lt.2 h, Int.not_lt.2 h2])⟩⟩
theorem orL_drop {l : List Int} {i : Nat} (h : i < l.length) : orL (l.drop i) = if l.getD i 0 ≠ 0 then l.getD i 0 else orL (l.drop (i + 1)) := by
  rw [List.drop_eq_getElem_cons h]
  simp [orL, h]
theorem c62 (l : List Int) : Pure Try.prog 62 [.lst 0 (ints l)] (.int .i64 (orL l)) := by
  refine fun H => ok62.calls (by simp [fi62]) ?_
  simp only [fi62, ir62]
  simp only [stepsS, stepsT, stepsN, if_true, forall_const, ne_eq, implies_true, List.nil_append, List.append_nil, List.cons_append, List.length_cons, List.length_nil, Nat.reduceEqDiff, Nat.reduceAdd, Nat.reduceLT, Nat.reduceLeDiff, ↓reduceIte, reduceCtorEq, Int.reduceEq, Int.reduceLT]
  intro hl
  refine swp_loop_nat l.length (fun i => orL (l.drop i) = orL l) (fun i => [(3, .int .i64 0), (6, .lst 0 (ints l)), (7, .int .i64 l.length), (8, .int .i64 i)]) (fun _ => H) ⟨rfl, sle_refl _ _ _⟩ fun i hi hI => ?_
  simp only [stepsS, stepsT, stepsN, if_true, forall_const, ne_eq, implies_true, List.nil_append, List.append_nil, List.cons_append, List.length_cons, List.length_nil, Nat.reduceEqDiff, Nat.reduceAdd, Nat.reduceLT, Nat.reduceLeDiff, ↓reduceIte, reduceCtorEq, Int.reduceEq, Int.reduceLT]
  refine ⟨fun hlt => ?_, fun hge => ?_⟩
  · have hlt := len_lt hlt
    rw [orL_drop hlt] at hI
    refine ⟨hlt, fun hne => ret0 rfl (by rw [← hI, if_pos hne]), fun he => ⟨i + 1, ⟨hlt, ?_⟩, by omega, sle_eq (by rw [wrap_nat i (by omega)]) rfl⟩⟩
    rw [← hI, if_neg (nne he)]
  · have hge := len_nlt hge
    rw [List.drop_of_length_le hge] at hI
    exact ret0 rfl (by rw [← hI]; rfl)
theorem cmps_drop {xs ys : List T} {i : Nat} (h1 : i < xs.length) (h2 : i < ys.length) : cmps (xs.drop i) (ys.drop i) = if (xs.getD i default).cmp (ys.getD i default) ≠ 0 then (xs.getD i default).cmp (ys.getD i default) else cmps (xs.drop (i + 1)) (ys.drop (i + 1)) := by
  rw [List.drop_eq_getElem_cons h1, List.drop_eq_getElem_cons h2]
  simp [cmps, h1, h2]
theorem c64 (xs ys : List T) (hf : ∀ x ∈ xs, ∀ y, Pure Try.prog 23 [x.av, y.av] (.int .i64 (x.cmp y))) :
   Pure Try.prog 64 [.lst 0 (avs xs), .lst 0 (avs ys), .fn (.func 23) [] []] (.int .i64 (cmps xs ys)) := by
  refine fun H => ok64.calls (by simp [fi64]) ?_
  simp only [fi64, ir64]
  simp only [stepsS, stepsT, stepsN, if_true, forall_const, ne_eq, implies_true, List.nil_append, List.append_nil, List.cons_append, List.length_cons, List.length_nil, Nat.reduceEqDiff, Nat.reduceAdd, Nat.reduceLT, Nat.reduceLeDiff, ↓reduceIte, reduceCtorEq, Int.reduceEq, Int.reduceLT]
  intro hx
  refine swp_loop_nat xs.length (fun i => i ≤ ys.length ∧ cmps (xs.drop i) (ys.drop i) = cmps xs ys) (fun i => [(0, .lst 0 (avs xs)), (1, .lst 0 (avs ys)), (2, .fn (.func 23) [] []), (11, .lst 0 (avs xs)), (12, .int .i64 xs.length), (13, .int .i64 i)]) (fun _ => H) ⟨⟨Nat.zero_le _, rfl⟩, sle_refl _ _ _⟩ fun i hi hI => ?_
  simp only [stepsS, stepsT, stepsN, if_true, forall_const, ne_eq, implies_true, List.nil_append, List.append_nil, List.cons_append, List.length_cons, List.length_nil, Nat.reduceEqDiff, Nat.reduceAdd, Nat.reduceLT, Nat.reduceLeDiff, ↓reduceIte, reduceCtorEq, Int.reduceEq, Int.reduceLT]
  obtain ⟨hiy, hI⟩ := hI
  refine ⟨fun hlt => ?_, fun hge hx hy => ?_⟩
  · have hlt := len_lt hlt
    refine ⟨hlt, fun hy => ⟨fun hge => ?_, fun hlt2 => ?_⟩⟩
    · have hge : ys.length ≤ i := by omega
      rw [List.drop_of_length_le hge, List.drop_eq_getElem_cons hlt] at hI
      exact ret1 rfl (by rw [← hI]; simp [cmps])
    · have hlt2 : i < ys.length := by omega
      refine ⟨hlt2, scall_pure (hf _ (mem_getD hlt) _) ?_⟩
      rw [cmps_drop hlt hlt2] at hI
      simp only [stepsS, stepsT, stepsN, if_true, forall_const, ne_eq, implies_true, List.nil_append, List.append_nil, List.cons_append, List.length_cons, List.length_nil, Nat.reduceEqDiff, Nat.reduceAdd, Nat.reduceLT, Nat.reduceLeDiff, ↓reduceIte, reduceCtorEq, Int.reduceEq, Int.reduceLT]
      refine ⟨fun hn => ret1 rfl (by rw [← hI, if_pos hn]), fun hn => ⟨i + 1, ⟨hlt, hlt2, ?_⟩, by omega, ?_⟩⟩
      · rw [← hI, if_neg (nne hn)]
      · exact sle_drop (by rw [wrap_nat i (by omega)]) (Nat.le_refl _) (by simp only [stepsS, stepsT, stepsN, if_true, forall_const, ne_eq, implies_true, List.nil_append, List.append_nil, List.cons_append, List.length_cons, List.length_nil, Nat.reduceEqDiff, Nat.reduceAdd, Nat.reduceLT, Nat.reduceLeDiff, ↓reduceIte, reduceCtorEq, Int.reduceEq, Int.reduceLT]) _ rfl
  · have hge := len_nlt hge
    rw [List.drop_of_length_le hge] at hI
    refine ⟨fun h => ret0 rfl ?_, fun h => ret0 rfl ?_⟩
    · have : i < ys.length := by omega
      rw [List.drop_eq_getElem_cons this] at hI
      rw [← hI]; simp [cmps]
    · rw [List.drop_of_length_le (by omega)] at hI
      rw [← hI]; simp [cmps]
theorem c23 (a b : T) : Pure Try.prog 23 [a.av, b.av] (.int .i64 (a.cmp b)) := by
  have ih : ∀ x ∈ a.l, ∀ y, Pure Try.prog 23 [x.av, y.av] (.int .i64 (x.cmp y)) := fun x hx y => c23 x y
  refine fun H => ok23.calls (by simp [fi23]) ?_
  simp only [fi23, ir23]
  simp only [stepsS, stepsT, stepsN, if_true, forall_const, ne_eq, implies_true, List.nil_append, List.append_nil, List.cons_append, List.length_cons, List.length_nil, Nat.reduceEqDiff, Nat.reduceAdd, Nat.reduceLT, Nat.reduceLeDiff, ↓reduceIte, reduceCtorEq, Int.reduceEq, Int.reduceLT]
  have e : a.cmp b = if orL [icmp a.k b.k, icmp a.n b.n, icmp a.l.length b.l.length] ≠ 0 then orL [icmp a.k b.k, icmp a.n b.n, icmp a.l.length b.l.length] else cmps a.l b.l := by
    cases a; cases b; simp only [T.cmp, T.k, T.n, T.l]; rfl
  refine dcall_pure (c63 _ _) ?_
  simp only [stepsS, stepsT, stepsN, if_true, forall_const, ne_eq, implies_true, List.nil_append, List.append_nil, List.cons_append, List.length_cons, List.length_nil, Nat.reduceEqDiff, Nat.reduceAdd, Nat.reduceLT, Nat.reduceLeDiff, ↓reduceIte, reduceCtorEq, Int.reduceEq, Int.reduceLT]
  refine dcall_pure (c63 _ _) ?_
  simp only [stepsS, stepsT, stepsN, if_true, forall_const, ne_eq, implies_true, List.nil_append, List.append_nil, List.cons_append, List.length_cons, List.length_nil, Nat.reduceEqDiff, Nat.reduceAdd, Nat.reduceLT, Nat.reduceLeDiff, ↓reduceIte, reduceCtorEq, Int.reduceEq, Int.reduceLT]
  refine dcall_pure (c63 _ _) ?_
  simp only [stepsS, stepsT, stepsN, if_true, forall_const, ne_eq, implies_true, List.nil_append, List.append_nil, List.cons_append, List.length_cons, List.length_nil, Nat.reduceEqDiff, Nat.reduceAdd, Nat.reduceLT, Nat.reduceLeDiff, ↓reduceIte, reduceCtorEq, Int.reduceEq, Int.reduceLT]
  refine dcall_pure (c62 [icmp a.k b.k, icmp a.n b.n, icmp a.l.length b.l.length]) ?_
  simp only [stepsS, stepsT, stepsN, if_true, forall_const, ne_eq, implies_true, List.nil_append, List.append_nil, List.cons_append, List.length_cons, List.length_nil, Nat.reduceEqDiff, Nat.reduceAdd, Nat.reduceLT, Nat.reduceLeDiff, ↓reduceIte, reduceCtorEq, Int.reduceEq, Int.reduceLT]
  refine ⟨fun h => ret0 rfl (by rw [e, if_pos h]), fun h => scall_pure (c64 _ _ ih) ?_⟩
  simp only [stepsS, stepsT, stepsN, if_true, forall_const, ne_eq, implies_true, List.nil_append, List.append_nil, List.cons_append, List.length_cons, List.length_nil, Nat.reduceEqDiff, Nat.reduceAdd, Nat.reduceLT, Nat.reduceLeDiff, ↓reduceIte, reduceCtorEq, Int.reduceEq, Int.reduceLT]
  exact ret0 rfl (by rw [e, if_neg (nne h)])
termination_by SizeOf.sizeOf a
decreasing_by exact T.lt hx
end Go.Abs
