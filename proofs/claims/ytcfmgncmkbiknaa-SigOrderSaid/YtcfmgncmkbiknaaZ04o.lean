/- SigOrder answers true at every input: three trees, of whatever size. -/
import Derived.Test.YtcfmgncmkbiknaaRows
import Derived.Test.YtcfmgncmkbiknaaY04o
import Derived.Test.YtcfmgncmkbiknaaY04y
import Derived.ProofKit
set_option maxRecDepth 100000
namespace Go.Proofs.Ytcfmgncmkbiknaa
open Go Go.Abs Go.ChangeShapes Go.WideShapes Go.ChangeAt Go.RowKit

theorem Try.own : ownKnob Try.prog.godebug = none := by kernel_rfl
theorem Try.laidOut : laidOutB Try.prog = true := by kernel_rfl
theorem treeTy : TreeTy Try.prog 3 24 22 := ⟨Try.underlying3, ⟨_, _, _, Try.underlying24, rfl, rfl, rfl, rfl, rfl, rfl⟩, Try.underlying22, by kernel_rfl, by kernel_rfl, by kernel_rfl⟩

theorem sigOrder_lifted (os : Os) (started : os.Started) (H : Type) (enc : TypeId × Value → H) :
    ReturnsInHanded {} Try.checked os 4 .any (Rows.sigOrderSpec.pre6 enc Try.prog Try.f4 Rows.sigOrderRow.domain false) (Rows.sigOrderSpec.post enc Try.prog Try.f4 false true false false) := by
  refine returnsInHanded_of_change (C := Try.checked) Try.own started (by kernel_rfl) Try.func4
    (ChangeSpec.witness6 (enc := enc) (C := Try.checked) false ⟨#[], #[.agg #[.int .i64 0, .int .i64 0, .slice none 0 0], .agg #[.int .i64 0, .int .i64 0, .slice none 0 0], .agg #[.int .i64 0, .int .i64 0, .slice none 0 0]], []⟩ 8 (by kernel_rfl) (by kernel_rfl) (by kernel_rfl) (by kernel_rfl)) ?_
  intro W base args ds gs before hval0 hW hcnd _
  have hval : ∀ (j : Nat) t v, Try.f4.params[j]? = some t → args[j]? = some v → Value.okWide Try.prog W .any base t v := hval0
  have hW' := hW
  obtain ⟨p, q, hA0, hV, rfl, hfz, hnd⟩ := hW
  have hA : DataW.TrodAll enc Try.prog W 0 (fun _ => true) true Try.f4.params.toList args.toList ds p := hA0
  rw [Try.params4] at hA hval
  obtain ⟨v0, v1, v2, d0, d1, d2, p0, p1, p2, rfl, rfl, rfl, h0, h1, h2⟩ := trodAll_three hA
  obtain ⟨rfl, rfl⟩ := trodVars_none hV
  obtain ⟨a, ra, _⟩ := open_T treeTy (hval 0 24 v0 rfl rfl) h0
  obtain ⟨b, rb, _⟩ := open_T treeTy (hval 1 24 v1 rfl rfl) h1
  obtain ⟨c, rc, _⟩ := open_T treeTy (hval 2 24 v2 rfl rfl) h2
  refine ((c4 a b c).lift Try.call4 (w := W) (vs := #[v0, v1, v2]) (.cons _ _ _ _ ra (.cons _ _ _ _ rb (.cons _ _ _ _ rc .nil))) ?_).mono ?_
  · intro x hx own ys e
    simp only [List.mem_cons, List.not_mem_nil, or_false] at hx
    rcases hx with rfl | rfl | rfl <;> (rw [T.av_eq] at e; cases e)
  · rintro e W' ⟨rfl, hb⟩
    exact ⟨_, rfl, post_law (t := 4) Try.laidOut hb hW' rfl rfl Try.underlying4 rfl (by kernel_rfl)⟩

theorem sigOrder_holds : Rows.SigOrderSaid :=
  OpenClaim.holds_of_wide 4 Try.f4 rfl rfl rfl rfl rfl rfl rfl ⟨rfl, rfl, rfl, rfl, rfl⟩ rfl rfl rfl rfl rfl (by kernel_rfl) Try.func4 (by kernel_rfl)
    (of_decide_eq_true (by kernel_rfl)) (by unfold Func.isWrapper; first | (rw [if_pos (by decide +kernel)]; kernel_rfl) | (rw [if_neg (by decide +kernel)]; exact ⟨rfl, rfl⟩))
    (fun os started H enc _ => sigOrder_lifted os started H enc)
#print axioms sigOrder_holds
end Go.Proofs.Ytcfmgncmkbiknaa
