/- SigShifts answers true at every input: a tree of whatever size, three numbers. -/
import Derived.Test.YtcfmgncmkbiknaaRows
import Derived.Test.YtcfmgncmkbiknaaY04i
import Derived.Test.YtcfmgncmkbiknaaY04y
import Derived.ProofKit
set_option maxRecDepth 100000
namespace Go.Proofs.Ytcfmgncmkbiknaa
open Go Go.Abs Go.ChangeShapes Go.WideShapes Go.ChangeAt Go.RowKit

theorem Try.own : ownKnob Try.prog.godebug = none := by kernel_rfl
theorem Try.laidOut : laidOutB Try.prog = true := by kernel_rfl
theorem treeTy : TreeTy Try.prog 3 24 22 := ⟨Try.underlying3, ⟨_, _, _, Try.underlying24, rfl, rfl, rfl, rfl, rfl, rfl⟩, Try.underlying22, by kernel_rfl, by kernel_rfl, by kernel_rfl⟩

theorem sigShifts_lifted (os : Os) (started : os.Started) (H : Type) (enc : TypeId × Value → H) :
    ReturnsInHanded {} Try.checked os 9 .any (Rows.sigShiftsSpec.pre6 enc Try.prog Try.f9 Rows.sigShiftsRow.domain false) (Rows.sigShiftsSpec.post enc Try.prog Try.f9 false true false false) := by
  refine returnsInHanded_of_change (C := Try.checked) Try.own started (by kernel_rfl) Try.func9
    (ChangeSpec.witness6 (enc := enc) (C := Try.checked) false ⟨#[], #[.agg #[.int .i64 0, .int .i64 0, .slice none 0 0], .int .i64 0, .int .i64 0, .int .i64 0], []⟩ 8 (by kernel_rfl) (by kernel_rfl) (by kernel_rfl) (by kernel_rfl)) ?_
  intro W base args ds gs before hval0 hW hcnd _
  have hval : ∀ (j : Nat) t v, Try.f9.params[j]? = some t → args[j]? = some v → Value.okWide Try.prog W .any base t v := hval0
  have hW' := hW
  obtain ⟨p, q, hA0, hV, rfl, hfz, hnd⟩ := hW
  have hA : DataW.TrodAll enc Try.prog W 0 (fun _ => true) true Try.f9.params.toList args.toList ds p := hA0
  rw [Try.params9] at hA hval
  obtain ⟨v0, w0, d0, e0, p0, q0, a0, rfl, rfl, h0, r0⟩ := trodAll_cons hA
  obtain ⟨v1, w1, d1, e1, p1, q1, rfl, rfl, rfl, h1, r1⟩ := trodAll_cons r0
  obtain ⟨v2, w2, d2, e2, p2, q2, rfl, rfl, rfl, h2, r2⟩ := trodAll_cons r1
  obtain ⟨v3, w3, d3, e3, p3, q3, rfl, rfl, rfl, h3, r3⟩ := trodAll_cons r2
  obtain ⟨rfl, rfl, rfl⟩ := trodAll_nil r3
  have ea : args = #[v0, v1, v2, v3] := by cases args; simpa using a0
  subst ea
  obtain ⟨rfl, rfl⟩ := trodVars_none hV
  obtain ⟨x0, r0x, w0x⟩ := open_T treeTy (hval 0 24 v0 rfl rfl) h0
  obtain ⟨x1, rfl, _, _, w1x⟩ := open_int Try.underlying3 (hval 1 3 v1 rfl rfl) h1
  have w1y := i64_wf w1x
  obtain ⟨x2, rfl, _, _, w2x⟩ := open_int Try.underlying3 (hval 2 3 v2 rfl rfl) h2
  have w2y := i64_wf w2x
  obtain ⟨x3, rfl, _, _, w3x⟩ := open_int Try.underlying3 (hval 3 3 v3 rfl rfl) h3
  have w3y := i64_wf w3x
  refine ((c9 x0 x1 x2 x3 w0x w1y).lift Try.call9 (w := W) (vs := #[v0, .int .i64 x1, .int .i64 x2, .int .i64 x3]) (.cons _ _ _ _ r0x (.cons _ _ _ _ (.int _ _) (.cons _ _ _ _ (.int _ _) (.cons _ _ _ _ (.int _ _) .nil)))) ?_).mono ?_
  · intro x hx own ys e
    simp only [List.mem_cons, List.not_mem_nil, or_false] at hx
    rcases hx with rfl | rfl | rfl | rfl <;> first | (rw [T.av_eq] at e; cases e) | cases e
  · rintro e W' ⟨rfl, hb⟩
    exact ⟨_, rfl, post_law (t := 4) Try.laidOut hb hW' rfl rfl Try.underlying4 rfl (by kernel_rfl)⟩

theorem sigShifts_holds : Rows.SigShiftsSaid :=
  OpenClaim.holds_of_wide 9 Try.f9 rfl rfl rfl rfl rfl rfl rfl ⟨rfl, rfl, rfl, rfl, rfl⟩ rfl rfl rfl rfl rfl (by kernel_rfl) Try.func9 (by kernel_rfl)
    (of_decide_eq_true (by kernel_rfl)) (by unfold Func.isWrapper; first | (rw [if_pos (by decide +kernel)]; kernel_rfl) | (rw [if_neg (by decide +kernel)]; exact ⟨rfl, rfl⟩))
    (fun os started H enc _ => sigShifts_lifted os started H enc)
end Go.Proofs.Ytcfmgncmkbiknaa
