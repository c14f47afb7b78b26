/- Each step of rewriting by an equation that decreases leads to a lesser term. -/
import Derived.Test.YtljchnfgjdjobaaGreatRows
import Derived.Test.YtljchnfgjdjobaaGreatXap
import Derived.ProofKit
set_option linter.unusedVariables false
set_option linter.unusedSimpArgs false
set_option linter.defProp false
set_option linter.unusedSectionVars false
set_option maxRecDepth 100000
namespace Go.Proofs.YtljchnfgjdjobaaGreat
open Go Go.aK Go.ChangeShapes Go.WideShapes Go.ChangeAt Go.RowKit
theorem Tryz.own:ownKnob Tryz.prog.godebug=none:=by kernel_rfl
theorem Tryz.laidOut:laidOutB Tryz.prog=true:=by kernel_rfl
theorem OU:lT Tryz.prog 3 31 29:=⟨Tryz.underlying3,⟨_,_,_,Tryz.underlying31,rfl,rfl,rfl,rfl,rfl,rfl⟩,Tryz.underlying29,by kernel_rfl,by kernel_rfl,by kernel_rfl⟩
theorem Ue:oe Tryz.prog 3 9 26 22 101 23 25:=⟨Tryz.underlying3,Tryz.underlying9,Tryz.underlying26,Tryz.underlying22,⟨_,_,_,Tryz.underlying101,rfl,rfl,rfl,rfl,rfl,rfl⟩,Tryz.underlying23,⟨_,_,Tryz.underlying25,rfl,rfl,rfl,rfl⟩,by kernel_rfl,by kernel_rfl,by kernel_rfl,by kernel_rfl,by kernel_rfl,by kernel_rfl,by kernel_rfl⟩
theorem agq:Xw Tryz.prog 26 28:=⟨⟨_,_,Tryz.underlying28,rfl,rfl,rfl,rfl⟩,by kernel_rfl⟩
theorem agr:HT Tryz.prog 26 25 31 122 70 72 49 51:=⟨⟨_,_,Tryz.underlying122,rfl,rfl,rfl,rfl⟩,Tryz.underlying70,⟨_,_,_,_,Tryz.underlying72,⟨rfl,rfl⟩,⟨rfl,rfl⟩,⟨rfl,rfl⟩,⟨rfl,rfl⟩⟩,Tryz.underlying49,⟨_,_,Tryz.underlying51,rfl,rfl,rfl,rfl⟩,by kernel_rfl,by kernel_rfl,by kernel_rfl,by kernel_rfl,by kernel_rfl⟩
theorem sT (os:Os) (started:os.Started) (H:Type) (enc:TypeId×Value→H) :
 ReturnsInHanded {} Tryz.checked os 16 .any (Rows.pathsStepsSpec.pre6 enc Tryz.prog Tryz.f16 Rows.pathsStepsRow.domain false) (Rows.pathsStepsSpec.post enc Tryz.prog Tryz.f16 false true false false):=by
 refine returnsInHanded_of_change (C:=Tryz.checked) Tryz.own started (by kernel_rfl) Tryz.func16
  (ChangeSpec.witness6 (enc:=enc) (C:=Tryz.checked) false ⟨#[],#[.agg #[.slice none 0 0,.slice none 0 0,.slice none 0 0],.agg #[.slice none 0 0,.slice none 0 0],.agg #[.int .i64 0,.int .i64 0,.slice none 0 0],.slice none 0 0],[]⟩ 8 (by kernel_rfl) (by kernel_rfl) (by kernel_rfl) (by kernel_rfl)) ?_
 intro W base args ds gs before hval0 hW akV _
 have kX:∀ (j:Nat) t v,Tryz.f16.params[j]?=some t→args[j]?=some v→Value.okWide Tryz.prog W .any base t v:=hval0
 have hW':=hW
 obtain ⟨p,q,hA0,hV,rfl,hfz,hnd⟩:=hW
 have hA:DataW.TrodAll enc Tryz.prog W 0 (fun _=>true) true Tryz.f16.params.toList args.toList ds p:=hA0
 rw [Tryz.params16] at hA kX
 obtain ⟨v0,w0,d0,e0,p0,q0,a0,rfl,rfl,h0,r0⟩:=trodAll_cons hA
 obtain ⟨v1,w1,d1,e1,p1,q1,rfl,rfl,rfl,h1,r1⟩:=trodAll_cons r0
 obtain ⟨v2,w2,d2,e2,p2,q2,rfl,rfl,rfl,h2,r2⟩:=trodAll_cons r1
 obtain ⟨v3,w3,d3,e3,p3,q3,rfl,rfl,rfl,h3,r3⟩:=trodAll_cons r2
 obtain ⟨rfl,rfl,rfl⟩:=trodAll_nil r3
 have ea:args=#[v0,v1,v2,v3]:=by cases args;simpa using a0
 subst ea
 obtain ⟨rfl,rfl⟩:=trodVars_none hV
 obtain ⟨x0,r0x⟩:=SP Ue OU agr (kX 0 51 v0 rfl rfl) h0
 obtain ⟨x1,y1,r1x⟩:=SL Ue agq (kX 1 28 v1 rfl rfl) h1
 obtain ⟨x2,r2x,w2x⟩:=Ws OU (kX 2 31 v2 rfl rfl) h2
 obtain ⟨x3,r3x⟩:=SM Tryz.underlying3 Tryz.underlying26 (by kernel_rfl) (kX 3 26 v3 rfl rfl) h3
 refine ((c16 x0 x1 y1 x2 x3).lift Tryz.call16 (w:=W) (vs:=#[v0,v1,v2,v3]) (.cons _ _ _ _ r0x (.cons _ _ _ _ r1x (.cons _ _ _ _ r2x (.cons _ _ _ _ r3x .nil)))) ?_).mono ?_
 ·intro x hx own ys e
  simp only [List.mem_cons,List.not_mem_nil,or_false] at hx
  rcases hx with rfl | rfl | rfl | rfl <;> first | (rw [T.ve] at e;cases e;done) | (rw [pi] at e;cases e;done) | (cases e;done) | (cases e;rfl)
 ·rintro e W' ⟨rfl,hb⟩
  exact ⟨_,rfl,MX (t:=4) Tryz.laidOut hb hW' rfl rfl Tryz.underlying4 rfl (by kernel_rfl)⟩
theorem zA:(Rows.pathsStepsRow.inPlace == Tryz.checked.prog.inPlace 16)=true:=by kernel_rfl
theorem zB:(Rows.pathsStepsRow.unfollowed == Tryz.checked.prog.unfollowed 16)=true:=by kernel_rfl
theorem zC:(Rows.pathsStepsRow.recurses == Tryz.checked.prog.recurses 16)=true:=by kernel_rfl
theorem zD:(Rows.pathsStepsRow.named == Tryz.checked.prog.varsNamed 16)=true:=by kernel_rfl
theorem zF:(Rows.pathsStepsRow.lifted == Tryz.checked.prog.liftsFinal)=true:=by rw [SS];rfl
theorem sU:joinedFacts Tryz.checked.prog 16 Tryz.f16 Rows.pathsStepsSpec Rows.pathsStepsRow=true:=by
 unfold joinedFacts
 rw [Xz,XA,SQ,SR,zA,zB,zC,zD,zF]
 kernel_rfl
theorem pathsSteps_holds:Rows.PathsStepsSaid:=
 OpenClaim.holds_of_wide 16 Tryz.f16 rfl rfl rfl rfl rfl rfl rfl ⟨rfl,rfl,rfl,rfl,rfl⟩ rfl rfl rfl rfl rfl (by kernel_rfl) Tryz.func16 sU
  (of_decide_eq_true (by kernel_rfl)) (by unfold Func.isWrapper;first | (rw [if_pos (by decide +kernel)];kernel_rfl) | (rw [if_neg (by decide +kernel)];exact ⟨rfl,rfl⟩))
  (fun os started H enc _=>sT os started H enc)
end Go.Proofs.YtljchnfgjdjobaaGreat
