/- Verify answers as the document does; Prove returns a proof, if there is one. -/
import Derived.Test.YtljchnfgjdjobaaGreatRows
import Derived.Test.YtljchnfgjdjobaaGreatVas
import Derived.ProofKit
set_option linter.unusedVariables false
set_option linter.unusedSimpArgs false
set_option linter.defProp false
set_option linter.unusedSectionVars false
set_option maxRecDepth 100000
namespace Go.Proofs.YtljchnfgjdjobaaGreat
open Go Go.aK Go.ChangeShapes Go.WideShapes Go.ChangeAt Go.RowKit
theorem Tryz.own:ownKnob Tryz.prog.godebug=none:=by kernel_rfl
theorem Tryz.laidOut:laidOutB Tryz.prog=true:=by kernel_rfl
theorem Oq:GW Tryz.prog 3 31 29:=⟨Tryz.underlying3,⟨_,_,_,Tryz.underlying31,rfl,rfl,rfl,rfl,rfl,rfl⟩,Tryz.underlying29,by kernel_rfl,by kernel_rfl,by kernel_rfl⟩
theorem Ot:pi Tryz.prog 3 9 26 22 101 23 25:=⟨Tryz.underlying3,Tryz.underlying9,Tryz.underlying26,Tryz.underlying22,⟨_,_,_,Tryz.underlying101,rfl,rfl,rfl,rfl,rfl,rfl⟩,Tryz.underlying23,⟨_,_,Tryz.underlying25,rfl,rfl,rfl,rfl⟩,by kernel_rfl,by kernel_rfl,by kernel_rfl,by kernel_rfl,by kernel_rfl,by kernel_rfl,by kernel_rfl⟩
theorem afM:WG Tryz.prog 26 28:=⟨⟨_,_,Tryz.underlying28,rfl,rfl,rfl,rfl⟩,by kernel_rfl⟩
theorem afN:WH Tryz.prog 3 26 42 40:=⟨⟨_,_,_,_,Tryz.underlying42,⟨rfl,rfl⟩,⟨rfl,rfl⟩,⟨rfl,rfl⟩,rfl,rfl⟩,Tryz.underlying40,by kernel_rfl,by kernel_rfl⟩
theorem rB (os:Os) (started:os.Started) (H:Type) (enc:TypeId×Value→H) :
 ReturnsInHanded {} Tryz.checked os 4 .any (Rows.pathsProofsSpec.pre6 enc Tryz.prog Tryz.f4 Rows.pathsProofsRow.domain false) (Rows.pathsProofsSpec.post enc Tryz.prog Tryz.f4 false true false false):=by
 refine returnsInHanded_of_change (C:=Tryz.checked) Tryz.own started (by kernel_rfl) Tryz.func4
  (ChangeSpec.witness6 (enc:=enc) (C:=Tryz.checked) false ⟨#[],#[.agg #[.slice none 0 0,.slice none 0 0],.agg #[.slice none 0 0,.slice none 0 0],.agg #[.int .i64 0,.int .i64 0,.slice none 0 0],.agg #[.int .i64 0,.int .i64 0,.slice none 0 0],.agg #[.int .i64 0,.int .i64 0,.slice none 0 0,.slice none 0 0]],[]⟩ 8 (by kernel_rfl) (by kernel_rfl) (by kernel_rfl) (by kernel_rfl)) ?_
 intro W base args ds gs before hval0 hW ake _
 have kC:∀ (j:Nat) t v,Tryz.f4.params[j]?=some t→args[j]?=some v→Value.okWide Tryz.prog W .any base t v:=hval0
 have hW':=hW
 obtain ⟨p,q,hA0,hV,rfl,hfz,hnd⟩:=hW
 have hA:DataW.TrodAll enc Tryz.prog W 0 (fun _=>true) true Tryz.f4.params.toList args.toList ds p:=hA0
 rw [Tryz.params4] at hA kC
 obtain ⟨v0,w0,d0,e0,p0,q0,a0,rfl,rfl,h0,r0⟩:=trodAll_cons hA
 obtain ⟨v1,w1,d1,e1,p1,q1,rfl,rfl,rfl,h1,r1⟩:=trodAll_cons r0
 obtain ⟨v2,w2,d2,e2,p2,q2,rfl,rfl,rfl,h2,r2⟩:=trodAll_cons r1
 obtain ⟨v3,w3,d3,e3,p3,q3,rfl,rfl,rfl,h3,r3⟩:=trodAll_cons r2
 obtain ⟨v4,w4,d4,e4,p4,q4,rfl,rfl,rfl,h4,r4⟩:=trodAll_cons r3
 obtain ⟨rfl,rfl,rfl⟩:=trodAll_nil r4
 have ea:args=#[v0,v1,v2,v3,v4]:=by cases args;simpa using a0
 subst ea
 obtain ⟨rfl,rfl⟩:=trodVars_none hV
 obtain ⟨x0,r0x⟩:=RP Ot (kC 0 25 v0 rfl rfl) h0
 obtain ⟨x1,y1,r1x⟩:=RQ Ot afM (kC 1 28 v1 rfl rfl) h1
 obtain ⟨x2,r2x,w2x⟩:=MX Oq (kC 2 31 v2 rfl rfl) h2
 obtain ⟨x3,r3x,w3x⟩:=MX Oq (kC 3 31 v3 rfl rfl) h3
 obtain ⟨x4,r4x⟩:=RS Ot afN (kC 4 42 v4 rfl rfl) h4
 refine ((c4 x0 x1 y1 x2 x3 x4).lift Tryz.call4 (w:=W) (vs:=#[v0,v1,v2,v3,v4]) (.cons _ _ _ _ r0x (.cons _ _ _ _ r1x (.cons _ _ _ _ r2x (.cons _ _ _ _ r3x (.cons _ _ _ _ r4x .nil))))) ?_).mono ?_
 ·intro x hx own ys e
  simp only [List.mem_cons,List.not_mem_nil,or_false] at hx
  rcases hx with rfl | rfl | rfl | rfl | rfl <;> first | (rw [T.vx] at e;cases e;done) | (rw [pe] at e;cases e;done) | (cases e;done) | (cases e;rfl)
 ·rintro e W' ⟨rfl,hb⟩
  exact ⟨_,rfl,MP (t:=4) Tryz.laidOut hb hW' rfl rfl Tryz.underlying4 rfl (by kernel_rfl)⟩
theorem yO:(Rows.pathsProofsRow.inPlace == Tryz.checked.prog.inPlace 4)=true:=by kernel_rfl
theorem yP:(Rows.pathsProofsRow.unfollowed == Tryz.checked.prog.unfollowed 4)=true:=by kernel_rfl
theorem yQ:(Rows.pathsProofsRow.recurses == Tryz.checked.prog.recurses 4)=true:=by kernel_rfl
theorem yR:(Rows.pathsProofsRow.named == Tryz.checked.prog.varsNamed 4)=true:=by kernel_rfl
theorem yS:(Rows.pathsProofsRow.lifted == Tryz.checked.prog.liftsFinal)=true:=by rw [RW];rfl
theorem rC:joinedFacts Tryz.checked.prog 4 Tryz.f4 Rows.pathsProofsSpec Rows.pathsProofsRow=true:=by
 unfold joinedFacts
 rw [WI,WJ,RT,RU,yO,yP,yQ,yR,yS]
 kernel_rfl
theorem pathsProofs_holds:Rows.PathsProofsSaid:=
 OpenClaim.holds_of_wide 4 Tryz.f4 rfl rfl rfl rfl rfl rfl rfl ⟨rfl,rfl,rfl,rfl,rfl⟩ rfl rfl rfl rfl rfl (by kernel_rfl) Tryz.func4 rC
  (of_decide_eq_true (by kernel_rfl)) (by unfold Func.isWrapper;first | (rw [if_pos (by decide +kernel)];kernel_rfl) | (rw [if_neg (by decide +kernel)];exact ⟨rfl,rfl⟩))
  (fun os started H enc _=>rB os started H enc)
end Go.Proofs.YtljchnfgjdjobaaGreat
