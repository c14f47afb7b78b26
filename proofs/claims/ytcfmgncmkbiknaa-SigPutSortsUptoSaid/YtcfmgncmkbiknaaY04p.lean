/- A part of the proof; its place is told by its neighbours. -/
import Derived.Test.YtcfmgncmkbiknaaY04b
import Derived.Test.YtcfmgncmkbiknaaAbse
open Go Go.Proofs Go.Abs
namespace Go.Abs
theorem clone85 (o : Nat) (xs : List AV) (H : List AObj) (h1 : okE 1 xs) (hb : xs.length * 8 ≤ 140737488355328) (hbl : belowL H.length xs = true) :
    ACalls Try.prog 85 [.lst o xs] H fun r H' => r = .lst 1 xs ∧ H' = H := by
  refine ok85.acalls (by simp [fi85]) ?_
  simp only [fi85, ir85, awp, aops, agd, aop, put, get, aval, prune, setE, argEnv, AV.unown, List.map, Nat.reduceEqDiff, reduceIte, aret, ares]
  have hfin : ∀ (x : AV) , x.le (.lst 1 xs) → ∃ m, H.length ≤ m ∧ ∃ r, x.le r ∧ r.blw m = true ∧ r = AV.lst 1 xs ∧ List.take m H = H :=
    fun x hx => ⟨H.length, Nat.le_refl _, _, hx, by simpa [AV.blw] using hbl, rfl, by simp⟩
  cases xs with
  | nil =>
    simp only [aeqNil, isNil, boolP, abslice, aappend, alist, rlist, List.replicate]
    exact ⟨⟨fun _ => ⟨.inr trivial, hfin _ (.inr (.inr (.inr (.inl ⟨rfl, 1, rfl⟩))))⟩, by simp⟩, by simp, fun _ => ⟨by simp, by simp [okE], .inr trivial, hfin _ (.inl rfl)⟩⟩
  | cons x xs =>
    simp only [aeqNil, isNil, boolP, abslice, aappend, alist, rlist, List.replicate]
    exact ⟨by simp, fun _ => ⟨by simpa using hb, h1, .inr trivial, hfin _ (.inl rfl)⟩⟩
theorem clone85n (H : List AObj) : ACalls Try.prog 85 [.nils] H fun r H' => r = .lst 1 [] ∧ H' = H := by
  refine ok85.acalls (by simp [fi85]) ?_
  simp only [fi85, ir85, awp, aops, agd, aop, put, get, aval, prune, setE, argEnv, AV.unown, List.map, Nat.reduceEqDiff, reduceIte, aret, ares]
  simp only [aeqNil, isNil, boolP]
  exact ⟨fun _ => ⟨.inr trivial, H.length, Nat.le_refl _, _, .inr (.inr (.inr (.inl ⟨rfl, 1, rfl⟩))), rfl, rfl, by simp⟩, by simp⟩
def clone1P : List AV → Option AV
  | [.lst _ xs] => if (xs.all fun y => y.cells.length == 1 && y.cells.all AV.one) = true ∧ xs.length * 8 ≤ 140737488355328 ∧ belowL 0 xs = true then some (.lst 1 xs) else none
  | [.nils] => some (.lst 1 [])
  | _ => none
theorem belowL_mono0 {xs : List AV} (h : belowL 0 xs = true) (k : Nat) : belowL k xs = true := belowL_mono (Nat.zero_le _) xs h
theorem clone85_ok : EntOk Try.prog 85 (.prim clone1P) := by
  intro args r H h
  unfold clone1P at h
  split at h <;> try cases h
  rotate_left
  · exact clone85n H
  split at h <;> cases h
  rename_i hc
  refine clone85 _ _ _ ?_ hc.2.1 (belowL_mono0 hc.2.2 _)
  intro y hy
  have := List.all_eq_true.1 hc.1 y hy
  simpa using this
end Go.Abs
