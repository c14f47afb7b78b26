/- Part 9 of 18 of the proof. -/
import Derived.Test.YtljchnfgjdjobaaGreatQag
import Derived.Test.YtljchnfgjdjobaaGreatQah
import Derived.KernelRfl
set_option linter.unusedVariables false
set_option linter.unusedSimpArgs false
set_option linter.defProp false
set_option linter.unusedSectionVars false
section
open Go Go.Proofs Go.aK
namespace Go.aK
theorem uQ (o : Nat) (xs : List AV) (H : List aa) (h1 : sX 1 xs) (hb : xs.length * 8 ≤ 140737488355328) (nG : aj H.length xs = true) :
 aq Tryz.prog 118 [.ap o xs] H fun r H' => r = .ap 1 xs ∧ H' = H := by
 refine LM.2.zh (Nat.le_of_ble_eq_true rfl) ?_
 simp only [LM, aI, mf, iV, qY, bp, put, get, al, eh, sU, bU, AV.ab, List.map, Nat.reduceEqDiff, reduceIte, bT, rf]
 have kC : ∀ (x : AV) , x.le (.ap 1 xs) → ∃ m, H.length ≤ m ∧ ∃ r, x.le r ∧ r.aY m = true ∧ r = AV.ap 1 xs ∧ List.take m H = H :=
  fun x hx => ⟨H.length, Nat.le_refl _, _, hx, by simpa [AV.aY] using nG, rfl, by simp⟩
 cases xs with
 | nil =>
   simp only [dc, isNil, eG, bi, bE, me, dE, List.replicate]
   exact ⟨⟨fun _ => ⟨.inr trivial, kC _ (.inr (.inr (.inr (.inl ⟨rfl, 1, rfl⟩))))⟩, by simp⟩, by simp, fun _ => ⟨by simp, by simp [sX], .inr trivial, kC _ (.inl rfl)⟩⟩
 | cons x xs =>
   simp only [dc, isNil, eG, bi, bE, me, dE, List.replicate]
   exact ⟨by simp, fun _ => ⟨by simpa using hb, h1, .inr trivial, kC _ (.inl rfl)⟩⟩
theorem xz (H : List aa) : aq Tryz.prog 118 [.ah] H fun r H' => r = .ap 1 [] ∧ H' = H := by
 refine LM.2.zh (Nat.le_of_ble_eq_true rfl) ?_
 simp only [LM, aI, mf, iV, qY, bp, put, get, al, eh, sU, bU, AV.ab, List.map, Nat.reduceEqDiff, reduceIte, bT, rf]
 simp only [dc, isNil, eG]
 exact ⟨fun _ => ⟨.inr trivial, H.length, Nat.le_refl _, _, .inr (.inr (.inr (.inl ⟨rfl, 1, rfl⟩))), rfl, rfl, by simp⟩, by simp⟩
def zn : List AV → Option AV
 | [.ap _ xs] => if (xs.all fun y => y.cells.length == 1 && y.cells.all AV.one) = true ∧ xs.length * 8 ≤ 140737488355328 ∧ aj 0 xs = true then some (.ap 1 xs) else none
 | [.ah] => some (.ap 1 [])
 | _ => none
theorem zp {xs : List AV} (h : aj 0 xs = true) (k : Nat) : aj k xs = true := bF (Nat.zero_le _) xs h
theorem Bm : sI Tryz.prog 118 (.uN zn) := by
 intro args r H h
 unfold zn at h
 split at h <;> try cases h
 rotate_left
 ·exact xz H
 split at h <;> cases h
 rename_i hc
 refine uQ _ _ _ ?_ hc.2.1 (zp hc.2.2 _)
 intro y hy
 have := List.all_eq_true.1 hc.1 y hy
 simpa using this
end Go.aK
end
section
set_option maxRecDepth 100000
namespace Go.aK
open Go Go.Proofs
theorem U9 : sI Tryz.prog 238 (.uN lK) := zm Tryz.func238 (by kernel_rfl) (by kernel_rfl) (by kernel_rfl) (by kernel_rfl)
theorem Vb : sI Tryz.prog 231 (.uN countP) := IM Tryz.func231 (by kernel_rfl) (by kernel_rfl) (by kernel_rfl) (by kernel_rfl)
end Go.aK
end
section
set_option maxRecDepth 100000
namespace Go.aK
open Go Go.Proofs
noncomputable def Qb : xw := [(53, .ir Om.1), (59, .ir Xv.1), (62, .ir k62.1), (64, .ir TR), (65, .ir S4.1), (81, .ir P6), (92, .ir k92.1), (100, .ir Bi.1), (102, .ir Bj.1), (108, .ir LL.1), (114, .ir Bk.1), (118, .uN zn), (121, .ir T4.1), (126, .ir T6.1), (130, .ir LN.1), (141, .ir II), (142, .ir LO.1), (143, .ir IJ), (144, .ir IK), (161, .ir LP.1), (165, .ir Us.1), (171, .ir LQ.1), (172, .ir LR.1), (173, .ir LS.1), (178, .ir Ux.1), (179, .ir Uy.1), (180, .ir Uz.1), (181, .ir UA.1), (190, .ir LU.1), (191, .ir LV.1), (192, .ir LW.1), (193, .ir LX.1), (194, .ir LY.1), (211, .ir L5.1), (216, .ir UR.1), (217, .ir US.1), (218, .ir UT.1), (219, .ir UU.1), (228, .ir L6.1), (229, .ir L7.1), (230, .ir UZ.1), (231, .uN countP), (237, .ir U2.1), (238, .uN lK), (240, .ir U4.1), (241, .ir U5.1), (245, .ir U6.1), (246, .ir U7.1), (247, .ir U8.1)]
theorem ru : xx Tryz.prog Qb := ⟨Om.2, Xv.2, k62.2, Yr, S4.2, TT, k92.2, Bi.2, Bj.2, LL.2, Bk.2, Bm, T4.2, T6.2, LN.2, Oo, LO.2, Ot, Ov, LP.2, Us.2, LQ.2, LR.2, LS.2, Ux.2, Uy.2, Uz.2, UA.2, LU.2, LV.2, LW.2, LX.2, LY.2, L5.2, UR.2, US.2, UT.2, UU.2, L6.2, L7.2, UZ.2, Vb, U2.2, U9, U4.2, U5.2, U6.2, U7.2, U8.2, trivial⟩
end Go.aK
end
