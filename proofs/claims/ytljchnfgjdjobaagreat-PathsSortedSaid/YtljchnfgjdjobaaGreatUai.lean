/- Part 9 of 18 of the proof. -/
import Derived.Test.YtljchnfgjdjobaaGreatUag
import Derived.Test.YtljchnfgjdjobaaGreatUah
import Derived.KernelRfl
set_option linter.unusedVariables false
set_option linter.unusedSimpArgs false
set_option linter.defProp false
set_option linter.unusedSectionVars false
section
open Go Go.Proofs Go.aK
namespace Go.aK
theorem uY (o : Nat) (xs : List AV) (H : List aa) (h1 : ta 1 xs) (hb : xs.length * 8 ≤ 140737488355328) (nF : aj H.length xs = true) :
 aq Tryz.prog 118 [.ap o xs] H fun r H' => r = .ap 1 xs ∧ H' = H := by
 refine L8.2.zw (Nat.le_of_ble_eq_true rfl) ?_
 simp only [L8, aI, mb, iZ, rb, bt, put, get, al, eo, s7, bV, AV.ab, List.map, Nat.reduceEqDiff, reduceIte, bT, rj]
 have kD : ∀ (x : AV) , x.le (.ap 1 xs) → ∃ m, H.length ≤ m ∧ ∃ r, x.le r ∧ r.a7 m = true ∧ r = AV.ap 1 xs ∧ List.take m H = H :=
  fun x hx => ⟨H.length, Nat.le_refl _, _, hx, by simpa [AV.a7] using nF, rfl, by simp⟩
 cases xs with
 | nil =>
   simp only [dc, isNil, eH, bh, bE, ma, dz, List.replicate]
   exact ⟨⟨fun _ => ⟨.inr trivial, kD _ (.inr (.inr (.inr (.inl ⟨rfl, 1, rfl⟩))))⟩, by simp⟩, by simp, fun _ => ⟨by simp, by simp [ta], .inr trivial, kD _ (.inl rfl)⟩⟩
 | cons x xs =>
   simp only [dc, isNil, eH, bh, bE, ma, dz, List.replicate]
   exact ⟨by simp, fun _ => ⟨by simpa using hb, h1, .inr trivial, kD _ (.inl rfl)⟩⟩
theorem xH (H : List aa) : aq Tryz.prog 118 [.ah] H fun r H' => r = .ap 1 [] ∧ H' = H := by
 refine L8.2.zw (Nat.le_of_ble_eq_true rfl) ?_
 simp only [L8, aI, mb, iZ, rb, bt, put, get, al, eo, s7, bV, AV.ab, List.map, Nat.reduceEqDiff, reduceIte, bT, rj]
 simp only [dc, isNil, eH]
 exact ⟨fun _ => ⟨.inr trivial, H.length, Nat.le_refl _, _, .inr (.inr (.inr (.inl ⟨rfl, 1, rfl⟩))), rfl, rfl, by simp⟩, by simp⟩
def zB : List AV → Option AV
 | [.ap _ xs] => if (xs.all fun y => y.cells.length == 1 && y.cells.all AV.one) = true ∧ xs.length * 8 ≤ 140737488355328 ∧ aj 0 xs = true then some (.ap 1 xs) else none
 | [.ah] => some (.ap 1 [])
 | _ => none
theorem zC {xs : List AV} (h : aj 0 xs = true) (k : Nat) : aj k xs = true := bF (Nat.zero_le _) xs h
theorem Bw : sQ Tryz.prog 118 (.uV zB) := by
 intro args r H h
 unfold zB at h
 split at h <;> try cases h
 rotate_left
 ·exact xH H
 split at h <;> cases h
 rename_i hc
 refine uY _ _ _ ?_ hc.2.1 (zC hc.2.2 _)
 intro y hy
 have := List.all_eq_true.1 hc.1 y hy
 simpa using this
end Go.aK
end
section
set_option maxRecDepth 100000
namespace Go.aK
open Go Go.Proofs
theorem Vp : sQ Tryz.prog 238 (.uV lL) := zA Tryz.func238 (by kernel_rfl) (by kernel_rfl) (by kernel_rfl) (by kernel_rfl)
theorem Vq : sQ Tryz.prog 231 (.uV countP) := I4 Tryz.func231 (by kernel_rfl) (by kernel_rfl) (by kernel_rfl) (by kernel_rfl)
end Go.aK
end
section
set_option maxRecDepth 100000
namespace Go.aK
open Go Go.Proofs
noncomputable def Qr : xE := [(53, .ir OH.1), (59, .ir XK.1), (62, .ir k62.1), (64, .ir T7), (65, .ir Ti.1), (81, .ir Qm), (92, .ir k92.1), (100, .ir Bs.1), (102, .ir Bt.1), (108, .ir L7.1), (114, .ir Bu.1), (118, .uV zB), (121, .ir Uj.1), (126, .ir Ul.1), (130, .ir L9.1), (141, .ir I1), (142, .ir Ma.1), (143, .ir I2), (144, .ir I3), (161, .ir Mb.1), (165, .ir UH.1), (171, .ir Mc.1), (172, .ir Md.1), (173, .ir Me.1), (178, .ir UM.1), (179, .ir UN.1), (180, .ir UO.1), (181, .ir UP.1), (190, .ir Mf.1), (191, .ir Mg.1), (192, .ir Mh.1), (193, .ir Mi.1), (194, .ir Mj.1), (211, .ir Mn.1), (216, .ir U8.1), (217, .ir U9.1), (218, .ir Vb.1), (219, .ir Vc.1), (228, .ir Mo.1), (229, .ir Mq.1), (230, .ir Vg.1), (231, .uV countP), (237, .ir Vj.1), (238, .uV lL), (240, .ir Vk.1), (241, .ir Vl.1), (245, .ir Vm.1), (246, .ir Vn.1), (247, .ir Vo.1)]
theorem rA : xF Tryz.prog Qr := ⟨OH.2, XK.2, k62.2, YG, Ti.2, T9, k92.2, Bs.2, Bt.2, L7.2, Bu.2, Bw, Uj.2, Ul.2, L9.2, OJ, Ma.2, OL, ON, Mb.2, UH.2, Mc.2, Md.2, Me.2, UM.2, UN.2, UO.2, UP.2, Mf.2, Mg.2, Mh.2, Mi.2, Mj.2, Mn.2, U8.2, U9.2, Vb.2, Vc.2, Mo.2, Mq.2, Vg.2, Vq, Vj.2, Vp, Vk.2, Vl.2, Vm.2, Vn.2, Vo.2, trivial⟩
end Go.aK
end
