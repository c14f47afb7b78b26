/- Find and Sort answer as the document does. -/
import Derived.Test.YtljchnfgjdjobaaGreatRows
import Derived.Test.YtljchnfgjdjobaaGreatXas
import Derived.ProofKit
set_option linter.unusedVariables false
set_option linter.unusedSimpArgs false
set_option linter.defProp false
set_option linter.unusedSectionVars false
set_option maxRecDepth 100000
namespace Go.Proofs.YtljchnfgjdjobaaGreat
open Go Go.aI Go.ChangeShapes Go.WideShapes Go.ChangeAt Go.RowKit
theorem Tryz.own:ownKnob Tryz.prog.godebug=none:=by kernel_rfl
theorem Tryz.laidOut:laidOutB Tryz.prog=true:=by kernel_rfl
theorem Hj:k7 Tryz.prog 3 31 29:=⟨Tryz.underlying3,⟨_,_,_,Tryz.underlying31,rfl,rfl,rfl,rfl,rfl,rfl⟩,Tryz.underlying29,by kernel_rfl,by kernel_rfl,by kernel_rfl⟩
theorem Sx:oC Tryz.prog 3 9 26 22 101 23 25:=⟨Tryz.underlying3,Tryz.underlying9,Tryz.underlying26,Tryz.underlying22,⟨_,_,_,Tryz.underlying101,rfl,rfl,rfl,rfl,rfl,rfl⟩,Tryz.underlying23,⟨_,_,Tryz.underlying25,rfl,rfl,rfl,rfl⟩,by kernel_rfl,by kernel_rfl,by kernel_rfl,by kernel_rfl,by kernel_rfl,by kernel_rfl,by kernel_rfl⟩
theorem afR:VL Tryz.prog 26 28:=⟨⟨_,_,Tryz.underlying28,rfl,rfl,rfl,rfl⟩,by kernel_rfl⟩
theorem afS:Hi Tryz.prog 26 25 31 122 70 72 49 51:=⟨⟨_,_,Tryz.underlying122,rfl,rfl,rfl,rfl⟩,Tryz.underlying70,⟨_,_,_,_,Tryz.underlying72,⟨rfl,rfl⟩,⟨rfl,rfl⟩,⟨rfl,rfl⟩,⟨rfl,rfl⟩⟩,Tryz.underlying49,⟨_,_,Tryz.underlying51,rfl,rfl,rfl,rfl⟩,by kernel_rfl,by kernel_rfl,by kernel_rfl,by kernel_rfl,by kernel_rfl⟩
theorem tg (os:Os) (started:os.Started) (H:Type) (enc:TypeId×Value→H) :
 ReturnsInHanded {} Tryz.checked os 6 .any (Rows.pathsFindsSpec.pre6 enc Tryz.prog Tryz.f6 Rows.pathsFindsRow.domain false) (Rows.pathsFindsSpec.post enc Tryz.prog Tryz.f6 false true false false):=by
 refine returnsInHanded_of_change_sized (C:=Tryz.checked) Tryz.own started (by kernel_rfl) Tryz.func6
  (ChangeSpec.witness6 (enc:=enc) (C:=Tryz.checked) false ⟨#[],#[.agg #[.slice none 0 0,.slice none 0 0,.slice none 0 0],.agg #[.slice none 0 0,.slice none 0 0],.slice none 0 0],[]⟩ 8 (by kernel_rfl) (by kernel_rfl) (by kernel_rfl) (by kernel_rfl)) ?_
 intro W base args ds gs before hval0 hW aku afT _
 have nD:∀ (j:Nat) t v,Tryz.f6.params[j]?=some t→args[j]?=some v→Value.okWide Tryz.prog W .any base t v:=hval0
 have hW':=hW
 obtain ⟨p,q,hA0,hV,rfl,hfz,hnd⟩:=hW
 have hA:DataW.TrodAll enc Tryz.prog W 0 (fun _=>true) true Tryz.f6.params.toList args.toList ds p:=hA0
 rw [Tryz.params6] at hA nD
 have dd:(DataW.weightsEach Tryz.prog [51,28,29] ds).all (·≤reachBytes)=true:=by
  have h:=afT
  rw [show Rows.pathsFindsSpec.plain.varTypes Tryz.checked.prog=[] from rfl,List.append_nil,(ChangeShapes.trodVars_none hV).1,List.append_nil] at h
  have e:Tryz.f6.params.toList=[51,28,29]:=by rw [Tryz.params6]
  rw [e] at h
  exact h
 obtain ⟨v0,v1,v2,d0,d1,d2,p0,p1,p2,rfl,rfl,rfl,h0,h1,h2⟩:=trodAll_three hA
 obtain ⟨rfl,rfl⟩:=trodVars_none hV
 obtain ⟨x0,r0x⟩:=Q5 Sx Hj afS (nD 0 51 v0 rfl rfl) h0
 obtain ⟨x1,y1,r1x⟩:=Q0 Sx afR (nD 1 28 v1 rfl rfl) h1
 obtain ⟨x2,r2x,l2x,w2x⟩:=Qe Hj (nD 2 29 v2 rfl rfl) h2
 have k2x:x2.length * 40≤140737488351232:=by have:=Qf Hj dd (j:=2) (d:=d2) (l:=x2) rfl rfl l2x;rwa [show Tryz.prog.bytesOf 31=40 by kernel_rfl] at this
 refine (((c6 x0 x1 y1 x2)).lift Tryz.call6 (w:=W) (vs:=#[v0,v1,v2]) (.cons _ _ _ _ r0x (.cons _ _ _ _ r1x (.cons _ _ _ _ r2x .nil))) ?_).mono ?_
 ·intro x hx own ys e
  simp only [List.mem_cons,List.not_mem_nil,or_false] at hx
  rcases hx with rfl | rfl | rfl <;> first | (rw [T.sE] at e;cases e;done) | (rw [pD] at e;cases e;done) | (cases e;done) | (cases e;rfl)
 ·rintro e W' ⟨rfl,hb⟩
  exact ⟨_,rfl,Mb (t:=4) Tryz.laidOut hb hW' rfl rfl Tryz.underlying4 rfl (by kernel_rfl)⟩
theorem zy:(Rows.pathsFindsRow.inPlace == Tryz.checked.prog.inPlace 6)=true:=by kernel_rfl
theorem zz:(Rows.pathsFindsRow.unfollowed == Tryz.checked.prog.unfollowed 6)=true:=by kernel_rfl
theorem zA:(Rows.pathsFindsRow.recurses == Tryz.checked.prog.recurses 6)=true:=by kernel_rfl
theorem zB:(Rows.pathsFindsRow.named == Tryz.checked.prog.varsNamed 6)=true:=by kernel_rfl
theorem zC:(Rows.pathsFindsRow.lifted == Tryz.checked.prog.liftsFinal)=true:=by rw [Q8];rfl
theorem th:joinedFacts Tryz.checked.prog 6 Tryz.f6 Rows.pathsFindsSpec Rows.pathsFindsRow=true:=by
 unfold joinedFacts
 rw [VO,VP,Q6,Q7,zy,zz,zA,zB,zC]
 kernel_rfl
theorem pathsFinds_holds:Rows.PathsFindsSaid:=
 OpenClaim.holds_of_wide 6 Tryz.f6 rfl rfl rfl rfl rfl rfl rfl ⟨rfl,rfl,rfl,rfl,rfl⟩ rfl rfl rfl rfl rfl (by kernel_rfl) Tryz.func6 th
  (of_decide_eq_true (by kernel_rfl)) (by unfold Func.isWrapper;first | (rw [if_pos (by decide +kernel)];kernel_rfl) | (rw [if_neg (by decide +kernel)];exact ⟨rfl,rfl⟩))
  (fun os started H enc _=>tg os started H enc)
end Go.Proofs.YtljchnfgjdjobaaGreat
