/- In a chain of terms, each one greater than the next one, each term is greater than all behind it, and none stands there twice. -/
import Derived.Test.YtljchnfgjdjobaaGreatRows
import Derived.Test.YtljchnfgjdjobaaGreatSaq
import Derived.ProofKit
set_option linter.unusedVariables false
set_option linter.unusedSimpArgs false
set_option linter.defProp false
set_option linter.unusedSectionVars false
set_option maxRecDepth 100000
namespace Go.Proofs.YtljchnfgjdjobaaGreat
open Go Go.aK Go.ChangeShapes Go.WideShapes Go.ChangeAt Go.RowKit
theorem Tryz.own : ownKnob Tryz.prog.godebug = none := by kernel_rfl
theorem Tryz.laidOut : laidOutB Tryz.prog = true := by kernel_rfl
theorem KX : zU Tryz.prog 3 31 29 := ⟨Tryz.underlying3, ⟨_, _, _, Tryz.underlying31, rfl, rfl, rfl, rfl, rfl, rfl⟩, Tryz.underlying29, by kernel_rfl, by kernel_rfl, by kernel_rfl⟩
theorem PK : qM Tryz.prog 3 9 26 22 101 23 25 := ⟨Tryz.underlying3, Tryz.underlying9, Tryz.underlying26, Tryz.underlying22, ⟨_, _, _, Tryz.underlying101, rfl, rfl, rfl, rfl, rfl, rfl⟩, Tryz.underlying23, ⟨_, _, Tryz.underlying25, rfl, rfl, rfl, rfl⟩, by kernel_rfl, by kernel_rfl, by kernel_rfl, by kernel_rfl, by kernel_rfl, by kernel_rfl, by kernel_rfl⟩
theorem aaT : S3 Tryz.prog 26 28 := ⟨⟨_, _, Tryz.underlying28, rfl, rfl, rfl, rfl⟩, by kernel_rfl⟩
theorem po (os : Os) (started : os.Started) (H : Type) (enc : TypeId × Value → H) :
 ReturnsInHanded {} Tryz.checked os 12 .any (Rows.pathsChainsSpec.pre6 enc Tryz.prog Tryz.f12 Rows.pathsChainsRow.domain false) (Rows.pathsChainsSpec.post enc Tryz.prog Tryz.f12 false true false false) := by
 refine returnsInHanded_of_change_sized (C := Tryz.checked) Tryz.own started (by kernel_rfl) Tryz.func12
  (ChangeSpec.witness6 (enc := enc) (C := Tryz.checked) false ⟨#[], #[.agg #[.slice none 0 0, .slice none 0 0], .agg #[.slice none 0 0, .slice none 0 0], .slice none 0 0], []⟩ 8 (by kernel_rfl) (by kernel_rfl) (by kernel_rfl) (by kernel_rfl)) ?_
 intro W base args ds gs before hval0 hW afg aaU _
 have lh : ∀ (j : Nat) t v, Tryz.f12.params[j]? = some t → args[j]? = some v → Value.okWide Tryz.prog W .any base t v := hval0
 have hW' := hW
 obtain ⟨p, q, hA0, hV, rfl, hfz, hnd⟩ := hW
 have hA : DataW.TrodAll enc Tryz.prog W 0 (fun _ => true) true Tryz.f12.params.toList args.toList ds p := hA0
 rw [Tryz.params12] at hA lh
 have cT : (DataW.weightsEach Tryz.prog [25, 28, 29] ds).all (· ≤ reachBytes) = true := by
  have h := aaU
  rw [show Rows.pathsChainsSpec.plain.varTypes Tryz.checked.prog = [] from rfl, List.append_nil, (ChangeShapes.trodVars_none hV).1, List.append_nil] at h
  have e : Tryz.f12.params.toList = [25, 28, 29] := by rw [Tryz.params12]
  rw [e] at h
  exact h
 obtain ⟨v0, v1, v2, d0, d1, d2, p0, p1, p2, rfl, rfl, rfl, h0, h1, h2⟩ := trodAll_three hA
 obtain ⟨rfl, rfl⟩ := trodVars_none hV
 obtain ⟨x0, r0x⟩ := Oi PK (lh 0 25 v0 rfl rfl) h0
 obtain ⟨x1, y1, r1x⟩ := Oj PK aaT (lh 1 28 v1 rfl rfl) h1
 obtain ⟨x2, r2x, l2x, w2x⟩ := NE KX (lh 2 29 v2 rfl rfl) h2
 have k2x : x2.length * 40 ≤ 140737488351232 := by have := NF KX cT (j := 2) (d := d2) (l := x2) rfl rfl l2x; rwa [show Tryz.prog.bytesOf 31 = 40 by kernel_rfl] at this
 refine ((c12 x0 x1 y1 x2).lift Tryz.call12 (w := W) (vs := #[v0, v1, v2]) (.cons _ _ _ _ r0x (.cons _ _ _ _ r1x (.cons _ _ _ _ r2x .nil))) ?_).mono ?_
 ·intro x hx own ys e
  simp only [List.mem_cons, List.not_mem_nil, or_false] at hx
  rcases hx with rfl | rfl | rfl <;> first | (rw [T.qk] at e; cases e; done) | (rw [nz] at e; cases e; done) | (cases e; done) | (cases e; rfl)
 ·rintro e W' ⟨rfl, hb⟩
  exact ⟨_, rfl, JN (t := 4) Tryz.laidOut hb hW' rfl rfl Tryz.underlying4 rfl (by kernel_rfl)⟩
theorem v7 : (Rows.pathsChainsRow.inPlace == Tryz.checked.prog.inPlace 12) = true := by kernel_rfl
theorem v8 : (Rows.pathsChainsRow.unfollowed == Tryz.checked.prog.unfollowed 12) = true := by kernel_rfl
theorem v9 : (Rows.pathsChainsRow.recurses == Tryz.checked.prog.recurses 12) = true := by kernel_rfl
theorem wa : (Rows.pathsChainsRow.named == Tryz.checked.prog.varsNamed 12) = true := by kernel_rfl
theorem wb : (Rows.pathsChainsRow.lifted == Tryz.checked.prog.liftsFinal) = true := by rw [On]; rfl
theorem pq : joinedFacts Tryz.checked.prog 12 Tryz.f12 Rows.pathsChainsSpec Rows.pathsChainsRow = true := by
 unfold joinedFacts
 rw [S4, S5, Ol, Om, v7, v8, v9, wa, wb]
 kernel_rfl
theorem pathsChains_holds : Rows.PathsChainsSaid :=
 OpenClaim.holds_of_wide 12 Tryz.f12 rfl rfl rfl rfl rfl rfl rfl ⟨rfl, rfl, rfl, rfl, rfl⟩ rfl rfl rfl rfl rfl (by kernel_rfl) Tryz.func12 pq
  (of_decide_eq_true (by kernel_rfl)) (by unfold Func.isWrapper; first | (rw [if_pos (by decide +kernel)]; kernel_rfl) | (rw [if_neg (by decide +kernel)]; exact ⟨rfl, rfl⟩))
  (fun os started H enc _ => po os started H enc)
end Go.Proofs.YtljchnfgjdjobaaGreat
