/- Paths, At, Put, Shift and Normal return what the chapter says, for all trees, places and numbers. -/
import Derived.Test.YtcfmgncmkbiknaaGreatRows
import Derived.Test.YtcfmgncmkbiknaaGreatPaj
import Derived.ProofKit
set_option maxRecDepth 100000
namespace Go.Proofs.YtcfmgncmkbiknaaGreat
open Go Go.Abs Go.ChangeShapes Go.WideShapes Go.ChangeAt Go.RowKit

theorem Tryz.own : ownKnob Tryz.prog.godebug = none := by kernel_rfl
theorem Tryz.laidOut : laidOutB Tryz.prog = true := by kernel_rfl
theorem treeTy : TreeTy Tryz.prog 3 24 22 := ⟨Tryz.underlying3, ⟨_, _, _, Tryz.underlying24, rfl, rfl, rfl, rfl, rfl, rfl⟩, Tryz.underlying22, by kernel_rfl, by kernel_rfl, by kernel_rfl⟩

theorem sigPlaces_lifted (os : Os) (started : os.Started) (H : Type) (enc : TypeId × Value → H) :
    ReturnsInHanded {} Tryz.checked os 5 .any (Rows.sigPlacesSpec.pre6 enc Tryz.prog Tryz.f5 Rows.sigPlacesRow.domain false) (Rows.sigPlacesSpec.post enc Tryz.prog Tryz.f5 false true false false) := by
  refine returnsInHanded_of_change (C := Tryz.checked) Tryz.own started (by kernel_rfl) Tryz.func5
    (ChangeSpec.witness6 (enc := enc) (C := Tryz.checked) false ⟨#[], #[.agg #[.int .i64 0, .int .i64 0, .slice none 0 0], .agg #[.int .i64 0, .int .i64 0, .slice none 0 0], .slice none 0 0, .int .i64 0, .int .i64 0], []⟩ 8 (by kernel_rfl) (by kernel_rfl) (by kernel_rfl) (by kernel_rfl)) ?_
  intro W base args ds gs before hval0 hW hcnd _
  have hval : ∀ (j : Nat) t v, Tryz.f5.params[j]? = some t → args[j]? = some v → Value.okWide Tryz.prog W .any base t v := hval0
  have hW' := hW
  obtain ⟨p, q, hA0, hV, rfl, hfz, hnd⟩ := hW
  have hA : DataW.TrodAll enc Tryz.prog W 0 (fun _ => true) true Tryz.f5.params.toList args.toList ds p := hA0
  rw [Tryz.params5] at hA hval
  obtain ⟨v0, w0, d0, e0, p0, q0, a0, rfl, rfl, h0, r0⟩ := trodAll_cons hA
  obtain ⟨v1, w1, d1, e1, p1, q1, rfl, rfl, rfl, h1, r1⟩ := trodAll_cons r0
  obtain ⟨v2, w2, d2, e2, p2, q2, rfl, rfl, rfl, h2, r2⟩ := trodAll_cons r1
  obtain ⟨v3, w3, d3, e3, p3, q3, rfl, rfl, rfl, h3, r3⟩ := trodAll_cons r2
  obtain ⟨v4, w4, d4, e4, p4, q4, rfl, rfl, rfl, h4, r4⟩ := trodAll_cons r3
  obtain ⟨rfl, rfl, rfl⟩ := trodAll_nil r4
  have ea : args = #[v0, v1, v2, v3, v4] := by cases args; simpa using a0
  subst ea
  obtain ⟨rfl, rfl⟩ := trodVars_none hV
  obtain ⟨x0, r0x, w0x⟩ := open_T treeTy (hval 0 24 v0 rfl rfl) h0
  obtain ⟨x1, r1x, w1x⟩ := open_T treeTy (hval 1 24 v1 rfl rfl) h1
  obtain ⟨x2, r2x⟩ := open_ints Tryz.underlying3 Tryz.underlying39 (by kernel_rfl) (hval 2 39 v2 rfl rfl) h2
  obtain ⟨x3, rfl, _, _, w3x⟩ := open_int Tryz.underlying3 (hval 3 3 v3 rfl rfl) h3
  have w3y := i64_wf w3x
  obtain ⟨x4, rfl, _, _, w4x⟩ := open_int Tryz.underlying3 (hval 4 3 v4 rfl rfl) h4
  have w4y := i64_wf w4x
  refine (((c5 x0 x1 x2 x3 x4 w0x w3y w4y)).lift Tryz.call5 (w := W) (vs := #[v0, v1, v2, .int .i64 x3, .int .i64 x4]) (.cons _ _ _ _ r0x (.cons _ _ _ _ r1x (.cons _ _ _ _ r2x (.cons _ _ _ _ (.int _ _) (.cons _ _ _ _ (.int _ _) .nil))))) ?_).mono ?_
  · intro x hx own ys e
    simp only [List.mem_cons, List.not_mem_nil, or_false] at hx
    rcases hx with rfl | rfl | rfl | rfl | rfl <;> first | (rw [T.av_eq] at e; cases e; done) | (cases e; done) | (cases e; rfl)
  · rintro e W' ⟨rfl, hb⟩
    exact ⟨_, rfl, post_law (t := 4) Tryz.laidOut hb hW' rfl rfl Tryz.underlying4 rfl (by kernel_rfl)⟩

theorem sigPlaces_holds : Rows.SigPlacesSaid :=
  OpenClaim.holds_of_wide 5 Tryz.f5 rfl rfl rfl rfl rfl rfl rfl ⟨rfl, rfl, rfl, rfl, rfl⟩ rfl rfl rfl rfl rfl (by kernel_rfl) Tryz.func5 (by kernel_rfl)
    (of_decide_eq_true (by kernel_rfl)) (by unfold Func.isWrapper; first | (rw [if_pos (by decide +kernel)]; kernel_rfl) | (rw [if_neg (by decide +kernel)]; exact ⟨rfl, rfl⟩))
    (fun os started H enc _ => sigPlaces_lifted os started H enc)
end Go.Proofs.YtcfmgncmkbiknaaGreat
