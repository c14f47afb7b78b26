/- Check and Blame answer as the document does. -/
import Derived.Test.YtljchnfgjdjobaaGreatRows
import Derived.Test.YtljchnfgjdjobaaGreatWas
import Derived.ProofKit
set_option linter.unusedVariables false
set_option linter.unusedSimpArgs false
set_option linter.defProp false
set_option linter.unusedSectionVars false
set_option maxRecDepth 100000
namespace Go.Proofs.YtljchnfgjdjobaaGreat
open Go Go.aI Go.ChangeShapes Go.WideShapes Go.ChangeAt Go.RowKit
theorem Tryz.own:ownKnob Tryz.prog.godebug=none:=by kernel_rfl
theorem Tryz.laidOut:laidOutB Tryz.prog=true:=by kernel_rfl
theorem Xi:nQ Tryz.prog 3 31 29:=⟨Tryz.underlying3,⟨_,_,_,Tryz.underlying31,rfl,rfl,rfl,rfl,rfl,rfl⟩,Tryz.underlying29,by kernel_rfl,by kernel_rfl,by kernel_rfl⟩
theorem T1:ot Tryz.prog 3 9 26 22 101 23 25:=⟨Tryz.underlying3,Tryz.underlying9,Tryz.underlying26,Tryz.underlying22,⟨_,_,_,Tryz.underlying101,rfl,rfl,rfl,rfl,rfl,rfl⟩,Tryz.underlying23,⟨_,_,Tryz.underlying25,rfl,rfl,rfl,rfl⟩,by kernel_rfl,by kernel_rfl,by kernel_rfl,by kernel_rfl,by kernel_rfl,by kernel_rfl,by kernel_rfl⟩
theorem agp:Xd Tryz.prog 26 28:=⟨⟨_,_,Tryz.underlying28,rfl,rfl,rfl,rfl⟩,by kernel_rfl⟩
theorem agq:HT Tryz.prog 26 25 31 122 70 72 49 51:=⟨⟨_,_,Tryz.underlying122,rfl,rfl,rfl,rfl⟩,Tryz.underlying70,⟨_,_,_,_,Tryz.underlying72,⟨rfl,rfl⟩,⟨rfl,rfl⟩,⟨rfl,rfl⟩,⟨rfl,rfl⟩⟩,Tryz.underlying49,⟨_,_,Tryz.underlying51,rfl,rfl,rfl,rfl⟩,by kernel_rfl,by kernel_rfl,by kernel_rfl,by kernel_rfl,by kernel_rfl⟩
theorem tu (os:Os) (started:os.Started) (H:Type) (enc:TypeId×Value→H) :
 ReturnsInHanded {} Tryz.checked os 5 .any (Rows.pathsTypesSpec.pre6 enc Tryz.prog Tryz.f5 Rows.pathsTypesRow.domain false) (Rows.pathsTypesSpec.post enc Tryz.prog Tryz.f5 false true false false):=by
 refine returnsInHanded_of_change (C:=Tryz.checked) Tryz.own started (by kernel_rfl) Tryz.func5
  (ChangeSpec.witness6 (enc:=enc) (C:=Tryz.checked) false ⟨#[],#[.agg #[.slice none 0 0,.slice none 0 0,.slice none 0 0],.agg #[.slice none 0 0,.slice none 0 0]],[]⟩ 8 (by kernel_rfl) (by kernel_rfl) (by kernel_rfl) (by kernel_rfl)) ?_
 intro W base args ds gs before hval0 hW akF _
 have qm:∀ (j:Nat) t v,Tryz.f5.params[j]?=some t→args[j]?=some v→Value.okWide Tryz.prog W .any base t v:=hval0
 have hW':=hW
 obtain ⟨p,q,hA0,hV,rfl,hfz,hnd⟩:=hW
 have hA:DataW.TrodAll enc Tryz.prog W 0 (fun _=>true) true Tryz.f5.params.toList args.toList ds p:=hA0
 rw [Tryz.params5] at hA qm
 obtain ⟨v0,v1,d0,d1,p0,p1,rfl,rfl,rfl,h0,h1⟩:=trodAll_two hA
 obtain ⟨rfl,rfl⟩:=trodVars_none hV
 obtain ⟨x0,r0x⟩:=Sv T1 Xi agq (qm 0 51 v0 rfl rfl) h0
 obtain ⟨x1,y1,r1x⟩:=Sr T1 agp (qm 1 28 v1 rfl rfl) h1
 refine ((c5 x0 x1 y1).lift Tryz.call5 (w:=W) (vs:=#[v0,v1]) (.cons _ _ _ _ r0x (.cons _ _ _ _ r1x .nil)) ?_).mono ?_
 ·intro x hx own ys e
  simp only [List.mem_cons,List.not_mem_nil,or_false] at hx
  rcases hx with rfl | rfl <;> first | (rw [T.vE] at e;cases e;done) | (rw [px] at e;cases e;done) | (cases e;done) | (cases e;rfl)
 ·rintro e W' ⟨rfl,hb⟩
  exact ⟨_,rfl,Na (t:=4) Tryz.laidOut hb hW' rfl rfl Tryz.underlying4 rfl (by kernel_rfl)⟩
theorem zR:(Rows.pathsTypesRow.inPlace == Tryz.checked.prog.inPlace 5)=true:=by kernel_rfl
theorem zS:(Rows.pathsTypesRow.unfollowed == Tryz.checked.prog.unfollowed 5)=true:=by kernel_rfl
theorem zU:(Rows.pathsTypesRow.recurses == Tryz.checked.prog.recurses 5)=true:=by kernel_rfl
theorem zV:(Rows.pathsTypesRow.named == Tryz.checked.prog.varsNamed 5)=true:=by kernel_rfl
theorem zW:(Rows.pathsTypesRow.lifted == Tryz.checked.prog.liftsFinal)=true:=by rw [Sy];rfl
theorem tv:joinedFacts Tryz.checked.prog 5 Tryz.f5 Rows.pathsTypesSpec Rows.pathsTypesRow=true:=by
 unfold joinedFacts
 rw [Xg,Xh,Sw,Sx,zR,zS,zU,zV,zW]
 kernel_rfl
theorem pathsTypes_holds:Rows.PathsTypesSaid:=
 OpenClaim.holds_of_wide 5 Tryz.f5 rfl rfl rfl rfl rfl rfl rfl ⟨rfl,rfl,rfl,rfl,rfl⟩ rfl rfl rfl rfl rfl (by kernel_rfl) Tryz.func5 tv
  (of_decide_eq_true (by kernel_rfl)) (by unfold Func.isWrapper;first | (rw [if_pos (by decide +kernel)];kernel_rfl) | (rw [if_neg (by decide +kernel)];exact ⟨rfl,rfl⟩))
  (fun os started H enc _=>tu os started H enc)
end Go.Proofs.YtljchnfgjdjobaaGreat
