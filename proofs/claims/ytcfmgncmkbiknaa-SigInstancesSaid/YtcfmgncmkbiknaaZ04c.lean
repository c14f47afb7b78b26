/- SigInstances answers true at every input: two trees and a list of trees, of whatever size. -/
import Derived.Test.YtcfmgncmkbiknaaRows
import Derived.Test.YtcfmgncmkbiknaaY04me
import Derived.Test.YtcfmgncmkbiknaaY04y
import Derived.ProofKit
set_option maxRecDepth 100000
namespace Go.Proofs.Ytcfmgncmkbiknaa
open Go Go.Abs Go.ChangeShapes Go.WideShapes Go.ChangeAt Go.RowKit

theorem Try.own : ownKnob Try.prog.godebug = none := by kernel_rfl
theorem Try.laidOut : laidOutB Try.prog = true := by kernel_rfl
theorem treeTy : TreeTy Try.prog 3 24 22 := ⟨Try.underlying3, ⟨_, _, _, Try.underlying24, rfl, rfl, rfl, rfl, rfl, rfl⟩, Try.underlying22, by kernel_rfl, by kernel_rfl, by kernel_rfl⟩

theorem sigInstances_lifted (os : Os) (started : os.Started) (H : Type) (enc : TypeId × Value → H) :
    ReturnsInHanded {} Try.checked os 7 .any (Rows.sigInstancesSpec.pre6 enc Try.prog Try.f7 Rows.sigInstancesRow.domain false) (Rows.sigInstancesSpec.post enc Try.prog Try.f7 false true false false) := by
  refine returnsInHanded_of_change_sized (C := Try.checked) Try.own started (by kernel_rfl) Try.func7
    (ChangeSpec.witness6 (enc := enc) (C := Try.checked) false ⟨#[], #[.agg #[.int .i64 0, .int .i64 0, .slice none 0 0], .agg #[.int .i64 0, .int .i64 0, .slice none 0 0], .slice none 0 0], []⟩ 8 (by kernel_rfl) (by kernel_rfl) (by kernel_rfl) (by kernel_rfl)) ?_
  intro W base args ds gs before hval0 hW hcnd hsz0 _
  have hval : ∀ (j : Nat) t v, Try.f7.params[j]? = some t → args[j]? = some v → Value.okWide Try.prog W .any base t v := hval0
  have hW' := hW
  obtain ⟨p, q, hA0, hV, rfl, hfz, hnd⟩ := hW
  have hA : DataW.TrodAll enc Try.prog W 0 (fun _ => true) true Try.f7.params.toList args.toList ds p := hA0
  rw [Try.params7] at hA hval
  have hsz : (DataW.weightsEach Try.prog [24, 24, 22] ds).all (· ≤ reachBytes) = true := by
    have h := hsz0
    rw [show Rows.sigInstancesSpec.plain.varTypes Try.checked.prog = [] from rfl, List.append_nil, (ChangeShapes.trodVars_none hV).1, List.append_nil] at h
    have e : Try.f7.params.toList = [24, 24, 22] := by rw [Try.params7]
    rw [e] at h
    exact h
  obtain ⟨v0, v1, v2, d0, d1, d2, p0, p1, p2, rfl, rfl, rfl, h0, h1, h2⟩ := trodAll_three hA
  obtain ⟨rfl, rfl⟩ := trodVars_none hV
  obtain ⟨x0, r0x, w0x⟩ := open_T treeTy (hval 0 24 v0 rfl rfl) h0
  obtain ⟨x1, r1x, w1x⟩ := open_T treeTy (hval 1 24 v1 rfl rfl) h1
  obtain ⟨x2, r2x, l2x, w2x⟩ := open_Ts treeTy (hval 2 22 v2 rfl rfl) h2
  have k2x : x2.length * 40 ≤ 140737488351232 := by have := ts_room treeTy hsz (j := 2) (d := d2) (l := x2) rfl rfl l2x; rwa [show Try.prog.bytesOf 24 = 40 by kernel_rfl] at this
  refine ((c7 x0 x1 x2 (by omega)).lift Try.call7 (w := W) (vs := #[v0, v1, v2]) (.cons _ _ _ _ r0x (.cons _ _ _ _ r1x (.cons _ _ _ _ r2x .nil))) ?_).mono ?_
  · intro x hx own ys e
    simp only [List.mem_cons, List.not_mem_nil, or_false] at hx
    rcases hx with rfl | rfl | rfl <;> first | (rw [T.av_eq] at e; cases e; done) | (cases e; done) | (cases e; rfl)
  · rintro e W' ⟨rfl, hb⟩
    exact ⟨_, rfl, post_law (t := 4) Try.laidOut hb hW' rfl rfl Try.underlying4 rfl (by kernel_rfl)⟩

theorem sigInstances_holds : Rows.SigInstancesSaid :=
  OpenClaim.holds_of_wide 7 Try.f7 rfl rfl rfl rfl rfl rfl rfl ⟨rfl, rfl, rfl, rfl, rfl⟩ rfl rfl rfl rfl rfl (by kernel_rfl) Try.func7 (by kernel_rfl)
    (of_decide_eq_true (by kernel_rfl)) (by unfold Func.isWrapper; first | (rw [if_pos (by decide +kernel)]; kernel_rfl) | (rw [if_neg (by decide +kernel)]; exact ⟨rfl, rfl⟩))
    (fun os started H enc _ => sigInstances_lifted os started H enc)
end Go.Proofs.Ytcfmgncmkbiknaa
