/- Part 9 of 18 of the proof. -/
import Derived.Test.YtljchnfgjdjobaaGreatTag
import Derived.Test.YtljchnfgjdjobaaGreatTah
import Derived.KernelRfl
set_option linter.unusedVariables false
set_option linter.unusedSimpArgs false
set_option linter.defProp false
set_option linter.unusedSectionVars false
section
open Go Go.Proofs Go.aL
namespace Go.aL
theorem vf (o : Nat) (xs : List AV) (H : List aa) (h1 : tb 1 xs) (hb : xs.length * 8 ≤ 140737488355328) (nG : ak H.length xs = true) :
 au Tryz.prog 118 [.aq o xs] H fun r H' => r = .aq 1 xs ∧ H' = H := by
 refine L9.2.zq (Nat.le_of_ble_eq_true rfl) ?_
 simp only [L9, aJ, me, iZ, ra, bt, put, get, ap, ej, s8, bW, AV.ae, List.map, Nat.reduceEqDiff, reduceIte, bV, ri]
 have kG : ∀ (x : AV) , x.le (.aq 1 xs) → ∃ m, H.length ≤ m ∧ ∃ r, x.le r ∧ r.aZ m = true ∧ r = AV.aq 1 xs ∧ List.take m H = H :=
  fun x hx => ⟨H.length, Nat.le_refl _, _, hx, by simpa [AV.aZ] using nG, rfl, by simp⟩
 cases xs with
 | nil =>
   simp only [dc, isNil, eI, bk, bF, mc, dE, List.replicate]
   exact ⟨⟨fun _ => ⟨.inr trivial, kG _ (.inr (.inr (.inr (.inl ⟨rfl, 1, rfl⟩))))⟩, by simp⟩, by simp, fun _ => ⟨by simp, by simp [tb], .inr trivial, kG _ (.inl rfl)⟩⟩
 | cons x xs =>
   simp only [dc, isNil, eI, bk, bF, mc, dE, List.replicate]
   exact ⟨by simp, fun _ => ⟨by simpa using hb, h1, .inr trivial, kG _ (.inl rfl)⟩⟩
theorem xH (H : List aa) : au Tryz.prog 118 [.ah] H fun r H' => r = .aq 1 [] ∧ H' = H := by
 refine L9.2.zq (Nat.le_of_ble_eq_true rfl) ?_
 simp only [L9, aJ, me, iZ, ra, bt, put, get, ap, ej, s8, bW, AV.ae, List.map, Nat.reduceEqDiff, reduceIte, bV, ri]
 simp only [dc, isNil, eI]
 exact ⟨fun _ => ⟨.inr trivial, H.length, Nat.le_refl _, _, .inr (.inr (.inr (.inl ⟨rfl, 1, rfl⟩))), rfl, rfl, by simp⟩, by simp⟩
def zy : List AV → Option AV
 | [.aq _ xs] => if (xs.all fun y => y.cells.length == 1 && y.cells.all AV.one) = true ∧ xs.length * 8 ≤ 140737488355328 ∧ ak 0 xs = true then some (.aq 1 xs) else none
 | [.ah] => some (.aq 1 [])
 | _ => none
theorem zz {xs : List AV} (h : ak 0 xs = true) (k : Nat) : ak k xs = true := bG (Nat.zero_le _) xs h
theorem Bu : sM Tryz.prog 118 (.uZ zy) := by
 intro args r H h
 unfold zy at h
 split at h <;> try cases h
 rotate_left
 ·exact xH H
 split at h <;> cases h
 rename_i hc
 refine vf _ _ _ ?_ hc.2.1 (zz hc.2.2 _)
 intro y hy
 have := List.all_eq_true.1 hc.1 y hy
 simpa using this
end Go.aL
end
section
set_option maxRecDepth 100000
namespace Go.aL
open Go Go.Proofs
theorem Vu : sM Tryz.prog 238 (.uZ lM) := zx Tryz.func238 (by kernel_rfl) (by kernel_rfl) (by kernel_rfl) (by kernel_rfl)
theorem Vv : sM Tryz.prog 231 (.uZ countP) := I4 Tryz.func231 (by kernel_rfl) (by kernel_rfl) (by kernel_rfl) (by kernel_rfl)
end Go.aL
end
section
set_option maxRecDepth 100000
namespace Go.aL
open Go Go.Proofs
noncomputable def Qw : xE := [(53, .ir OK.1), (59, .ir XP.1), (62, .ir k62.1), (64, .ir Uc), (65, .ir Tn.1), (81, .ir Qr), (92, .ir k92.1), (100, .ir Bq.1), (102, .ir Br.1), (108, .ir L8.1), (114, .ir Bs.1), (118, .uZ zy), (121, .ir Uo.1), (126, .ir Ur.1), (130, .ir Ma.1), (141, .ir I1), (142, .ir Mb.1), (143, .ir I2), (144, .ir I3), (161, .ir Mc.1), (165, .ir UM.1), (171, .ir Md.1), (172, .ir Me.1), (173, .ir Mf.1), (178, .ir UR.1), (179, .ir US.1), (180, .ir UT.1), (181, .ir UU.1), (190, .ir Mg.1), (191, .ir Mh.1), (192, .ir Mi.1), (193, .ir Mj.1), (194, .ir Mk.1), (211, .ir Mo.1), (216, .ir Ve.1), (217, .ir Vf.1), (218, .ir Vg.1), (219, .ir Vh.1), (228, .ir Mq.1), (229, .ir Mr.1), (230, .ir Vl.1), (231, .uZ countP), (237, .ir Vo.1), (238, .uZ lM), (240, .ir Vp.1), (241, .ir Vq.1), (245, .ir Vr.1), (246, .ir Vs.1), (247, .ir Vt.1)]
theorem ry : xF Tryz.prog Qw := ⟨OK.2, XP.2, k62.2, YK, Tn.2, Ue, k92.2, Bq.2, Br.2, L8.2, Bs.2, Bu, Uo.2, Ur.2, Ma.2, OM, Mb.2, OO, OQ, Mc.2, UM.2, Md.2, Me.2, Mf.2, UR.2, US.2, UT.2, UU.2, Mg.2, Mh.2, Mi.2, Mj.2, Mk.2, Mo.2, Ve.2, Vf.2, Vg.2, Vh.2, Mq.2, Mr.2, Vl.2, Vv, Vo.2, Vu, Vp.2, Vq.2, Vr.2, Vs.2, Vt.2, trivial⟩
end Go.aL
end
