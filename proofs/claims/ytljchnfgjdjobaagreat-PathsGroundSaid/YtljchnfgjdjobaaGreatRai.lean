/- Part 9 of 18 of the proof. -/
import Derived.Test.YtljchnfgjdjobaaGreatRag
import Derived.Test.YtljchnfgjdjobaaGreatRah
import Derived.KernelRfl
set_option linter.unusedVariables false
set_option linter.unusedSimpArgs false
set_option linter.defProp false
set_option linter.unusedSectionVars false
section
open Go Go.Proofs Go.aK
namespace Go.aK
theorem uX (o : Nat) (xs : List AV) (H : List aa) (h1 : ta 1 xs) (hb : xs.length * 8 ≤ 140737488355328) (nM : aj H.length xs = true) :
 aq Tryz.prog 118 [.ap o xs] H fun r H' => r = .ap 1 xs ∧ H' = H := by
 refine Mi.2.zw (Nat.le_of_ble_eq_true rfl) ?_
 simp only [Mi, aI, ms, je, rh, bp, put, get, al, ey, s7, bW, AV.ab, List.map, Nat.reduceEqDiff, reduceIte, bV, rp]
 have kO : ∀ (x : AV) , x.le (.ap 1 xs) → ∃ m, H.length ≤ m ∧ ∃ r, x.le r ∧ r.a7 m = true ∧ r = AV.ap 1 xs ∧ List.take m H = H :=
  fun x hx => ⟨H.length, Nat.le_refl _, _, hx, by simpa [AV.a7] using nM, rfl, by simp⟩
 cases xs with
 | nil =>
   simp only [de, isNil, eL, bh, bE, mr, dI, List.replicate]
   exact ⟨⟨fun _ => ⟨.inr trivial, kO _ (.inr (.inr (.inr (.inl ⟨rfl, 1, rfl⟩))))⟩, by simp⟩, by simp, fun _ => ⟨by simp, by simp [ta], .inr trivial, kO _ (.inl rfl)⟩⟩
 | cons x xs =>
   simp only [de, isNil, eL, bh, bE, mr, dI, List.replicate]
   exact ⟨by simp, fun _ => ⟨by simpa using hb, h1, .inr trivial, kO _ (.inl rfl)⟩⟩
theorem xI (H : List aa) : aq Tryz.prog 118 [.ah] H fun r H' => r = .ap 1 [] ∧ H' = H := by
 refine Mi.2.zw (Nat.le_of_ble_eq_true rfl) ?_
 simp only [Mi, aI, ms, je, rh, bp, put, get, al, ey, s7, bW, AV.ab, List.map, Nat.reduceEqDiff, reduceIte, bV, rp]
 simp only [de, isNil, eL]
 exact ⟨fun _ => ⟨.inr trivial, H.length, Nat.le_refl _, _, .inr (.inr (.inr (.inl ⟨rfl, 1, rfl⟩))), rfl, rfl, by simp⟩, by simp⟩
def zB : List AV → Option AV
 | [.ap _ xs] => if (xs.all fun y => y.cells.length == 1 && y.cells.all AV.one) = true ∧ xs.length * 8 ≤ 140737488355328 ∧ aj 0 xs = true then some (.ap 1 xs) else none
 | [.ah] => some (.ap 1 [])
 | _ => none
theorem zC {xs : List AV} (h : aj 0 xs = true) (k : Nat) : aj k xs = true := bF (Nat.zero_le _) xs h
theorem Bx : sP Tryz.prog 118 (.uU zB) := by
 intro args r H h
 unfold zB at h
 split at h <;> try cases h
 rotate_left
 ·exact xI H
 split at h <;> cases h
 rename_i hc
 refine uX _ _ _ ?_ hc.2.1 (zC hc.2.2 _)
 intro y hy
 have := List.all_eq_true.1 hc.1 y hy
 simpa using this
end Go.aK
end
section
set_option maxRecDepth 100000
namespace Go.aK
open Go Go.Proofs
theorem VE : sP Tryz.prog 238 (.uU lR) := zA Tryz.func238 (by kernel_rfl) (by kernel_rfl) (by kernel_rfl) (by kernel_rfl)
theorem VF : sP Tryz.prog 231 (.uU countP) := Jc Tryz.func231 (by kernel_rfl) (by kernel_rfl) (by kernel_rfl) (by kernel_rfl)
end Go.aK
end
section
set_option maxRecDepth 100000
namespace Go.aK
open Go Go.Proofs
noncomputable def QF : xF := [(53, .ir OU.1), (59, .ir X0.1), (62, .ir k62.1), (64, .ir Ul), (65, .ir Tz.1), (81, .ir QA), (92, .ir k92.1), (100, .ir Bt.1), (102, .ir Bu.1), (108, .ir Mh.1), (114, .ir Bv.1), (118, .uU zB), (121, .ir Uz.1), (126, .ir UB.1), (130, .ir Mj.1), (141, .ir I9), (142, .ir Mk.1), (143, .ir Ja), (144, .ir Jb), (161, .ir Ml.1), (165, .ir UX.1), (171, .ir Mm.1), (172, .ir Mn.1), (173, .ir Mo.1), (178, .ir U2.1), (179, .ir U4.1), (180, .ir U5.1), (181, .ir U6.1), (190, .ir Mq.1), (191, .ir Mr.1), (192, .ir Ms.1), (193, .ir Mt.1), (194, .ir Mv.1), (211, .ir Mz.1), (216, .ir Vo.1), (217, .ir Vp.1), (218, .ir Vq.1), (219, .ir Vr.1), (228, .ir MA.1), (229, .ir MB.1), (230, .ir Vv.1), (231, .uU countP), (237, .ir Vy.1), (238, .uU lR), (240, .ir Vz.1), (241, .ir VA.1), (245, .ir VB.1), (246, .ir VC.1), (247, .ir VD.1)]
theorem rD : xG Tryz.prog QF := ⟨OU.2, X0.2, k62.2, YW, Tz.2, Un, k92.2, Bt.2, Bu.2, Mh.2, Bv.2, Bx, Uz.2, UB.2, Mj.2, OW, Mk.2, OY, O0, Ml.2, UX.2, Mm.2, Mn.2, Mo.2, U2.2, U4.2, U5.2, U6.2, Mq.2, Mr.2, Ms.2, Mt.2, Mv.2, Mz.2, Vo.2, Vp.2, Vq.2, Vr.2, MA.2, MB.2, Vv.2, VF, Vy.2, VE, Vz.2, VA.2, VB.2, VC.2, VD.2, trivial⟩
end Go.aK
end
