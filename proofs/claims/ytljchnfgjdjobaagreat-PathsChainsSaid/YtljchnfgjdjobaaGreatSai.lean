/- Part 9 of 18 of the proof. -/
import Derived.Test.YtljchnfgjdjobaaGreatSag
import Derived.Test.YtljchnfgjdjobaaGreatSah
import Derived.KernelRfl
set_option linter.unusedVariables false
set_option linter.unusedSimpArgs false
set_option linter.defProp false
set_option linter.unusedSectionVars false
section
open Go Go.Proofs Go.aK
namespace Go.aK
theorem uT (o : Nat) (xs : List AV) (H : List aa) (h1 : s5 1 xs) (hb : xs.length * 8 ≤ 140737488355328) (nF : aj H.length xs = true) :
 aq Tryz.prog 118 [.ap o xs] H fun r H' => r = .ap 1 xs ∧ H' = H := by
 refine LZ.2.zq (Nat.le_of_ble_eq_true rfl) ?_
 simp only [LZ, aI, mb, iZ, qY, bt, put, get, al, eo, sW, bV, AV.ab, List.map, Nat.reduceEqDiff, reduceIte, bT, rf]
 have kE : ∀ (x : AV) , x.le (.ap 1 xs) → ∃ m, H.length ≤ m ∧ ∃ r, x.le r ∧ r.a7 m = true ∧ r = AV.ap 1 xs ∧ List.take m H = H :=
  fun x hx => ⟨H.length, Nat.le_refl _, _, hx, by simpa [AV.a7] using nF, rfl, by simp⟩
 cases xs with
 | nil =>
   simp only [dc, isNil, eI, bh, bE, ma, dz, List.replicate]
   exact ⟨⟨fun _ => ⟨.inr trivial, kE _ (.inr (.inr (.inr (.inl ⟨rfl, 1, rfl⟩))))⟩, by simp⟩, by simp, fun _ => ⟨by simp, by simp [s5], .inr trivial, kE _ (.inl rfl)⟩⟩
 | cons x xs =>
   simp only [dc, isNil, eI, bh, bE, ma, dz, List.replicate]
   exact ⟨by simp, fun _ => ⟨by simpa using hb, h1, .inr trivial, kE _ (.inl rfl)⟩⟩
theorem xC (H : List aa) : aq Tryz.prog 118 [.ah] H fun r H' => r = .ap 1 [] ∧ H' = H := by
 refine LZ.2.zq (Nat.le_of_ble_eq_true rfl) ?_
 simp only [LZ, aI, mb, iZ, qY, bt, put, get, al, eo, sW, bV, AV.ab, List.map, Nat.reduceEqDiff, reduceIte, bT, rf]
 simp only [dc, isNil, eI]
 exact ⟨fun _ => ⟨.inr trivial, H.length, Nat.le_refl _, _, .inr (.inr (.inr (.inl ⟨rfl, 1, rfl⟩))), rfl, rfl, by simp⟩, by simp⟩
def zy : List AV → Option AV
 | [.ap _ xs] => if (xs.all fun y => y.cells.length == 1 && y.cells.all AV.one) = true ∧ xs.length * 8 ≤ 140737488355328 ∧ aj 0 xs = true then some (.ap 1 xs) else none
 | [.ah] => some (.ap 1 [])
 | _ => none
theorem zz {xs : List AV} (h : aj 0 xs = true) (k : Nat) : aj k xs = true := bF (Nat.zero_le _) xs h
theorem Bu : sL Tryz.prog 118 (.uQ zy) := by
 intro args r H h
 unfold zy at h
 split at h <;> try cases h
 rotate_left
 ·exact xC H
 split at h <;> cases h
 rename_i hc
 refine uT _ _ _ ?_ hc.2.1 (zz hc.2.2 _)
 intro y hy
 have := List.all_eq_true.1 hc.1 y hy
 simpa using this
end Go.aK
end
section
set_option maxRecDepth 100000
namespace Go.aK
open Go Go.Proofs
theorem Vm : sL Tryz.prog 238 (.uQ lL) := zx Tryz.func238 (by kernel_rfl) (by kernel_rfl) (by kernel_rfl) (by kernel_rfl)
theorem Vn : sL Tryz.prog 231 (.uQ countP) := I1 Tryz.func231 (by kernel_rfl) (by kernel_rfl) (by kernel_rfl) (by kernel_rfl)
end Go.aK
end
section
set_option maxRecDepth 100000
namespace Go.aK
open Go Go.Proofs
noncomputable def Qo : xz := [(53, .ir OD.1), (59, .ir XF.1), (62, .ir k62.1), (64, .ir T4), (65, .ir Tg.1), (81, .ir Qj), (92, .ir k92.1), (100, .ir Bq.1), (102, .ir Br.1), (108, .ir LY.1), (114, .ir Bs.1), (118, .uQ zy), (121, .ir Ug.1), (126, .ir Ui.1), (130, .ir L3.1), (141, .ir IY), (142, .ir L4.1), (143, .ir IZ), (144, .ir I0), (161, .ir L5.1), (165, .ir UE.1), (171, .ir L6.1), (172, .ir L7.1), (173, .ir L8.1), (178, .ir UJ.1), (179, .ir UK.1), (180, .ir UL.1), (181, .ir UM.1), (190, .ir L9.1), (191, .ir Ma.1), (192, .ir Mb.1), (193, .ir Mc.1), (194, .ir Md.1), (211, .ir Mh.1), (216, .ir U5.1), (217, .ir U6.1), (218, .ir U7.1), (219, .ir U8.1), (228, .ir Mi.1), (229, .ir Mj.1), (230, .ir Vd.1), (231, .uQ countP), (237, .ir Vg.1), (238, .uQ lL), (240, .ir Vh.1), (241, .ir Vi.1), (245, .ir Vj.1), (246, .ir Vk.1), (247, .ir Vl.1)]
theorem ru : xA Tryz.prog Qo := ⟨OD.2, XF.2, k62.2, YC, Tg.2, T6, k92.2, Bq.2, Br.2, LY.2, Bs.2, Bu, Ug.2, Ui.2, L3.2, OF, L4.2, OH, OJ, L5.2, UE.2, L6.2, L7.2, L8.2, UJ.2, UK.2, UL.2, UM.2, L9.2, Ma.2, Mb.2, Mc.2, Md.2, Mh.2, U5.2, U6.2, U7.2, U8.2, Mi.2, Mj.2, Vd.2, Vn, Vg.2, Vm, Vh.2, Vi.2, Vj.2, Vk.2, Vl.2, trivial⟩
end Go.aK
end
