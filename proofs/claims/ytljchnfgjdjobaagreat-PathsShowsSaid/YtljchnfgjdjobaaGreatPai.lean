/- Part 9 of 18 of the proof. -/
import Derived.Test.YtljchnfgjdjobaaGreatPag
import Derived.Test.YtljchnfgjdjobaaGreatPah
import Derived.KernelRfl
set_option linter.unusedVariables false
set_option linter.unusedSimpArgs false
set_option linter.defProp false
set_option linter.unusedSectionVars false
section
open Go Go.Proofs Go.Abs
namespace Go.Abs
theorem clone118 (o : Nat) (xs : List AV) (H : List AObj) (h1 : okE 1 xs) (hb : xs.length * 8 ≤ 140737488355328) (hbl : belowL H.length xs = true) :
 ACalls Tryz.prog 118 [.lst o xs] H fun r H' => r = .lst 1 xs ∧ H' = H := by
 refine k118.2.acalls (Nat.le_of_ble_eq_true rfl) ?_
 simp only [k118, mkF, awp, aops, agd, aop, put, get, aval, prune, setE, argEnv, AV.unown, List.map, Nat.reduceEqDiff, reduceIte, aret, ares]
 have hfin : ∀ (x : AV) , x.le (.lst 1 xs) → ∃ m, H.length ≤ m ∧ ∃ r, x.le r ∧ r.blw m = true ∧ r = AV.lst 1 xs ∧ List.take m H = H :=
  fun x hx => ⟨H.length, Nat.le_refl _, _, hx, by simpa [AV.blw] using hbl, rfl, by simp⟩
 cases xs with
 | nil =>
   simp only [aeqNil, isNil, boolP, abslice, aappend, alist, rlist, List.replicate]
   exact ⟨⟨fun _ => ⟨.inr trivial, hfin _ (.inr (.inr (.inr (.inl ⟨rfl, 1, rfl⟩))))⟩, by simp⟩, by simp, fun _ => ⟨by simp, by simp [okE], .inr trivial, hfin _ (.inl rfl)⟩⟩
 | cons x xs =>
   simp only [aeqNil, isNil, boolP, abslice, aappend, alist, rlist, List.replicate]
   exact ⟨by simp, fun _ => ⟨by simpa using hb, h1, .inr trivial, hfin _ (.inl rfl)⟩⟩
theorem clone118n (H : List AObj) : ACalls Tryz.prog 118 [.nils] H fun r H' => r = .lst 1 [] ∧ H' = H := by
 refine k118.2.acalls (Nat.le_of_ble_eq_true rfl) ?_
 simp only [k118, mkF, awp, aops, agd, aop, put, get, aval, prune, setE, argEnv, AV.unown, List.map, Nat.reduceEqDiff, reduceIte, aret, ares]
 simp only [aeqNil, isNil, boolP]
 exact ⟨fun _ => ⟨.inr trivial, H.length, Nat.le_refl _, _, .inr (.inr (.inr (.inl ⟨rfl, 1, rfl⟩))), rfl, rfl, by simp⟩, by simp⟩
def clone1P : List AV → Option AV
 | [.lst _ xs] => if (xs.all fun y => y.cells.length == 1 && y.cells.all AV.one) = true ∧ xs.length * 8 ≤ 140737488355328 ∧ belowL 0 xs = true then some (.lst 1 xs) else none
 | [.nils] => some (.lst 1 [])
 | _ => none
theorem belowL_mono0 {xs : List AV} (h : belowL 0 xs = true) (k : Nat) : belowL k xs = true := belowL_mono (Nat.zero_le _) xs h
theorem clone118_ok : EntOk Tryz.prog 118 (.prim clone1P) := by
 intro args r H h
 unfold clone1P at h
 split at h <;> try cases h
 rotate_left
 ·exact clone118n H
 split at h <;> cases h
 rename_i hc
 refine clone118 _ _ _ ?_ hc.2.1 (belowL_mono0 hc.2.2 _)
 intro y hy
 have := List.all_eq_true.1 hc.1 y hy
 simpa using this
end Go.Abs
end
section
set_option maxRecDepth 100000
namespace Go.Abs
open Go Go.Proofs
theorem e238 : EntOk Tryz.prog 238 (.prim indexByteP) := indexByte_ok Tryz.func238 (by kernel_rfl) (by kernel_rfl) (by kernel_rfl) (by kernel_rfl)
theorem e231 : EntOk Tryz.prog 231 (.prim countP) := count_ok Tryz.func231 (by kernel_rfl) (by kernel_rfl) (by kernel_rfl) (by kernel_rfl)
end Go.Abs
end
section
set_option maxRecDepth 100000
namespace Go.Abs
open Go Go.Proofs
noncomputable def tab : Tab := [(53, .ir k53.1), (59, .ir k59.1), (62, .ir k62.1), (64, .ir fi64), (65, .ir k65.1), (81, .ir fi81), (92, .ir k92.1), (100, .ir k100.1), (102, .ir k102.1), (108, .ir k108.1), (114, .ir k114.1), (118, .prim clone1P), (121, .ir k121.1), (126, .ir k126.1), (130, .ir k130.1), (141, .ir fi141), (142, .ir k142.1), (143, .ir fi143), (144, .ir fi144), (161, .ir k161.1), (165, .ir k165.1), (171, .ir k171.1), (172, .ir k172.1), (173, .ir k173.1), (178, .ir k178.1), (179, .ir k179.1), (180, .ir k180.1), (181, .ir k181.1), (190, .ir k190.1), (191, .ir k191.1), (192, .ir k192.1), (193, .ir k193.1), (194, .ir k194.1), (211, .ir k211.1), (216, .ir k216.1), (217, .ir k217.1), (218, .ir k218.1), (219, .ir k219.1), (228, .ir k228.1), (229, .ir k229.1), (230, .ir k230.1), (231, .prim countP), (237, .ir k237.1), (238, .prim indexByteP), (240, .ir k240.1), (241, .ir k241.1), (245, .ir k245.1), (246, .ir k246.1), (247, .ir k247.1)]
theorem tab_ok : TabOk Tryz.prog tab := ⟨k53.2, k59.2, k62.2, ok64, k65.2, ok81, k92.2, k100.2, k102.2, k108.2, k114.2, clone118_ok, k121.2, k126.2, k130.2, ok141, k142.2, ok143, ok144, k161.2, k165.2, k171.2, k172.2, k173.2, k178.2, k179.2, k180.2, k181.2, k190.2, k191.2, k192.2, k193.2, k194.2, k211.2, k216.2, k217.2, k218.2, k219.2, k228.2, k229.2, k230.2, e231, k237.2, e238, k240.2, k241.2, k245.2, k246.2, k247.2, trivial⟩
end Go.Abs
end
