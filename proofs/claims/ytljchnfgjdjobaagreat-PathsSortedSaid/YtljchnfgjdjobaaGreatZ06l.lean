/- Sort returns the same terms; none stands behind one that is greater; what is sorted stays as it is. -/
import Derived.Test.YtljchnfgjdjobaaGreatRows
import Derived.Test.YtljchnfgjdjobaaGreatUaq
import Derived.ProofKit
set_option linter.unusedVariables false
set_option linter.unusedSimpArgs false
set_option linter.defProp false
set_option linter.unusedSectionVars false
set_option maxRecDepth 100000
namespace Go.Proofs.YtljchnfgjdjobaaGreat
open Go Go.aK Go.ChangeShapes Go.WideShapes Go.ChangeAt Go.RowKit
theorem Tryz.own : ownKnob Tryz.prog.godebug = none := by kernel_rfl
theorem Tryz.laidOut : laidOutB Tryz.prog = true := by kernel_rfl
theorem K5 : zX Tryz.prog 3 31 29 := ⟨Tryz.underlying3, ⟨_, _, _, Tryz.underlying31, rfl, rfl, rfl, rfl, rfl, rfl⟩, Tryz.underlying29, by kernel_rfl, by kernel_rfl, by kernel_rfl⟩
theorem PM : qP Tryz.prog 3 9 26 22 101 23 25 := ⟨Tryz.underlying3, Tryz.underlying9, Tryz.underlying26, Tryz.underlying22, ⟨_, _, _, Tryz.underlying101, rfl, rfl, rfl, rfl, rfl, rfl⟩, Tryz.underlying23, ⟨_, _, Tryz.underlying25, rfl, rfl, rfl, rfl⟩, by kernel_rfl, by kernel_rfl, by kernel_rfl, by kernel_rfl, by kernel_rfl, by kernel_rfl, by kernel_rfl⟩
theorem aaZ : S5 Tryz.prog 26 28 := ⟨⟨_, _, Tryz.underlying28, rfl, rfl, rfl, rfl⟩, by kernel_rfl⟩
theorem pq (os : Os) (started : os.Started) (H : Type) (enc : TypeId × Value → H) :
 ReturnsInHanded {} Tryz.checked os 11 .any (Rows.pathsSortedSpec.pre6 enc Tryz.prog Tryz.f11 Rows.pathsSortedRow.domain false) (Rows.pathsSortedSpec.post enc Tryz.prog Tryz.f11 false true false false) := by
 refine returnsInHanded_of_change_sized (C := Tryz.checked) Tryz.own started (by kernel_rfl) Tryz.func11
  (ChangeSpec.witness6 (enc := enc) (C := Tryz.checked) false ⟨#[], #[.agg #[.slice none 0 0, .slice none 0 0], .agg #[.slice none 0 0, .slice none 0 0], .slice none 0 0], []⟩ 8 (by kernel_rfl) (by kernel_rfl) (by kernel_rfl) (by kernel_rfl)) ?_
 intro W base args ds gs before hval0 hW afn aa0 _
 have lh : ∀ (j : Nat) t v, Tryz.f11.params[j]? = some t → args[j]? = some v → Value.okWide Tryz.prog W .any base t v := hval0
 have hW' := hW
 obtain ⟨p, q, hA0, hV, rfl, hfz, hnd⟩ := hW
 have hA : DataW.TrodAll enc Tryz.prog W 0 (fun _ => true) true Tryz.f11.params.toList args.toList ds p := hA0
 rw [Tryz.params11] at hA lh
 have cT : (DataW.weightsEach Tryz.prog [25, 28, 29] ds).all (· ≤ reachBytes) = true := by
  have h := aa0
  rw [show Rows.pathsSortedSpec.plain.varTypes Tryz.checked.prog = [] from rfl, List.append_nil, (ChangeShapes.trodVars_none hV).1, List.append_nil] at h
  have e : Tryz.f11.params.toList = [25, 28, 29] := by rw [Tryz.params11]
  rw [e] at h
  exact h
 obtain ⟨v0, v1, v2, d0, d1, d2, p0, p1, p2, rfl, rfl, rfl, h0, h1, h2⟩ := trodAll_three hA
 obtain ⟨rfl, rfl⟩ := trodVars_none hV
 obtain ⟨x0, r0x⟩ := On PM (lh 0 25 v0 rfl rfl) h0
 obtain ⟨x1, y1, r1x⟩ := Oo PM aaZ (lh 1 28 v1 rfl rfl) h1
 obtain ⟨x2, r2x, l2x, w2x⟩ := NJ K5 (lh 2 29 v2 rfl rfl) h2
 have k2x : x2.length * 40 ≤ 140737488351232 := by have := NK K5 cT (j := 2) (d := d2) (l := x2) rfl rfl l2x; rwa [show Tryz.prog.bytesOf 31 = 40 by kernel_rfl] at this
 refine ((c11 x0 x1 y1 x2).lift Tryz.call11 (w := W) (vs := #[v0, v1, v2]) (.cons _ _ _ _ r0x (.cons _ _ _ _ r1x (.cons _ _ _ _ r2x .nil))) ?_).mono ?_
 ·intro x hx own ys e
  simp only [List.mem_cons, List.not_mem_nil, or_false] at hx
  rcases hx with rfl | rfl | rfl <;> first | (rw [T.qn] at e; cases e; done) | (rw [nz] at e; cases e; done) | (cases e; done) | (cases e; rfl)
 ·rintro e W' ⟨rfl, hb⟩
  exact ⟨_, rfl, JQ (t := 4) Tryz.laidOut hb hW' rfl rfl Tryz.underlying4 rfl (by kernel_rfl)⟩
theorem we : (Rows.pathsSortedRow.inPlace == Tryz.checked.prog.inPlace 11) = true := by kernel_rfl
theorem wg : (Rows.pathsSortedRow.unfollowed == Tryz.checked.prog.unfollowed 11) = true := by kernel_rfl
theorem wh : (Rows.pathsSortedRow.recurses == Tryz.checked.prog.recurses 11) = true := by kernel_rfl
theorem wi : (Rows.pathsSortedRow.named == Tryz.checked.prog.varsNamed 11) = true := by kernel_rfl
theorem wj : (Rows.pathsSortedRow.lifted == Tryz.checked.prog.liftsFinal) = true := by rw [Ou]; rfl
theorem pr : joinedFacts Tryz.checked.prog 11 Tryz.f11 Rows.pathsSortedSpec Rows.pathsSortedRow = true := by
 unfold joinedFacts
 rw [S6, S7, Oq, Ot, we, wg, wh, wi, wj]
 kernel_rfl
theorem pathsSorted_holds : Rows.PathsSortedSaid :=
 OpenClaim.holds_of_wide 11 Tryz.f11 rfl rfl rfl rfl rfl rfl rfl ⟨rfl, rfl, rfl, rfl, rfl⟩ rfl rfl rfl rfl rfl (by kernel_rfl) Tryz.func11 pr
  (of_decide_eq_true (by kernel_rfl)) (by unfold Func.isWrapper; first | (rw [if_pos (by decide +kernel)]; kernel_rfl) | (rw [if_neg (by decide +kernel)]; exact ⟨rfl, rfl⟩))
  (fun os started H enc _ => pq os started H enc)
end Go.Proofs.YtljchnfgjdjobaaGreat
