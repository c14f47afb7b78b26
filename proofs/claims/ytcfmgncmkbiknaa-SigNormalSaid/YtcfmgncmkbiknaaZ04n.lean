/- SigNormal answers true at every input: a list of trees and a number, of whatever size. -/
import Derived.Test.YtcfmgncmkbiknaaRows
import Derived.Test.YtcfmgncmkbiknaaY04q
import Derived.Test.YtcfmgncmkbiknaaY04y
import Derived.ProofKit
set_option maxRecDepth 100000
namespace Go.Proofs.Ytcfmgncmkbiknaa
open Go Go.Abs Go.ChangeShapes Go.WideShapes Go.ChangeAt Go.RowKit

theorem Try.own : ownKnob Try.prog.godebug = none := by kernel_rfl
theorem Try.laidOut : laidOutB Try.prog = true := by kernel_rfl
theorem treeTy : TreeTy Try.prog 3 24 22 := ⟨Try.underlying3, ⟨_, _, _, Try.underlying24, rfl, rfl, rfl, rfl, rfl, rfl⟩, Try.underlying22, by kernel_rfl, by kernel_rfl, by kernel_rfl⟩

theorem sigNormal_lifted (os : Os) (started : os.Started) (H : Type) (enc : TypeId × Value → H) :
    ReturnsInHanded {} Try.checked os 8 .any (Rows.sigNormalSpec.pre6 enc Try.prog Try.f8 Rows.sigNormalRow.domain false) (Rows.sigNormalSpec.post enc Try.prog Try.f8 false true false false) := by
  refine returnsInHanded_of_change_sized (C := Try.checked) Try.own started (by kernel_rfl) Try.func8
    (ChangeSpec.witness6 (enc := enc) (C := Try.checked) false ⟨#[], #[.slice none 0 0, .int .i64 0], []⟩ 8 (by kernel_rfl) (by kernel_rfl) (by kernel_rfl) (by kernel_rfl)) ?_
  intro W base args ds gs before hval0 hW hcnd hsz0 _
  have hval : ∀ (j : Nat) t v, Try.f8.params[j]? = some t → args[j]? = some v → Value.okWide Try.prog W .any base t v := hval0
  have hW' := hW
  obtain ⟨p, q, hA0, hV, rfl, hfz, hnd⟩ := hW
  have hA : DataW.TrodAll enc Try.prog W 0 (fun _ => true) true Try.f8.params.toList args.toList ds p := hA0
  rw [Try.params8] at hA hval
  have hsz : (DataW.weightsEach Try.prog [22, 3] ds).all (· ≤ reachBytes) = true := by
    have h := hsz0
    rw [show Rows.sigNormalSpec.plain.varTypes Try.checked.prog = [] from rfl, List.append_nil, (ChangeShapes.trodVars_none hV).1, List.append_nil] at h
    have e : Try.f8.params.toList = [22, 3] := by rw [Try.params8]
    rw [e] at h
    exact h
  obtain ⟨v0, v1, d0, d1, p0, p1, rfl, rfl, rfl, h0, h1⟩ := trodAll_two hA
  obtain ⟨rfl, rfl⟩ := trodVars_none hV
  obtain ⟨x0, r0x, l0x, w0x⟩ := open_Ts treeTy (hval 0 22 v0 rfl rfl) h0
  have k0x : x0.length * 40 ≤ 140737488351232 := by have := ts_room treeTy hsz (j := 0) (d := d0) (l := x0) rfl rfl l0x; rwa [show Try.prog.bytesOf 24 = 40 by kernel_rfl] at this
  obtain ⟨x1, rfl, _, _, w1x⟩ := open_int Try.underlying3 (hval 1 3 v1 rfl rfl) h1
  have w1y := i64_wf w1x
  refine ((c8 x0 x1 w0x w1y.1 w1y.2 (by omega)).lift Try.call8 (w := W) (vs := #[v0, .int .i64 x1]) (.cons _ _ _ _ r0x (.cons _ _ _ _ (.int _ _) .nil)) ?_).mono ?_
  · intro x hx own ys e
    simp only [List.mem_cons, List.not_mem_nil, or_false] at hx
    rcases hx with rfl | rfl <;> first | (rw [T.av_eq] at e; cases e; done) | (cases e; done) | (cases e; rfl)
  · rintro e W' ⟨rfl, hb⟩
    exact ⟨_, rfl, post_law (t := 4) Try.laidOut hb hW' rfl rfl Try.underlying4 rfl (by kernel_rfl)⟩

theorem sigNormal_holds : Rows.SigNormalSaid :=
  OpenClaim.holds_of_wide 8 Try.f8 rfl rfl rfl rfl rfl rfl rfl ⟨rfl, rfl, rfl, rfl, rfl⟩ rfl rfl rfl rfl rfl (by kernel_rfl) Try.func8 (by kernel_rfl)
    (of_decide_eq_true (by kernel_rfl)) (by unfold Func.isWrapper; first | (rw [if_pos (by decide +kernel)]; kernel_rfl) | (rw [if_neg (by decide +kernel)]; exact ⟨rfl, rfl⟩))
    (fun os started H enc _ => sigNormal_lifted os started H enc)
end Go.Proofs.Ytcfmgncmkbiknaa
