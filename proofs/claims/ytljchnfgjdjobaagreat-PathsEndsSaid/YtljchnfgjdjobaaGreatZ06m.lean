/- The order is irreflexive and transitive, a term is greater than all within it, and it is stable and monotone. -/
import Derived.Test.YtljchnfgjdjobaaGreatRows
import Derived.Test.YtljchnfgjdjobaaGreatVan
import Derived.ProofKit
set_option linter.unusedVariables false
set_option linter.unusedSimpArgs false
set_option linter.defProp false
set_option linter.unusedSectionVars false
set_option maxRecDepth 100000
namespace Go.Proofs.YtljchnfgjdjobaaGreat
open Go Go.aL Go.ChangeShapes Go.WideShapes Go.ChangeAt Go.RowKit
theorem Tryz.own:ownKnob Tryz.prog.godebug=none:=by kernel_rfl
theorem Tryz.laidOut:laidOutB Tryz.prog=true:=by kernel_rfl
theorem tn:wR Tryz.prog 3 31 29:=⟨Tryz.underlying3,⟨_,_,_,Tryz.underlying31,rfl,rfl,rfl,rfl,rfl,rfl⟩,Tryz.underlying29,by kernel_rfl,by kernel_rfl,by kernel_rfl⟩
theorem Sm:rY Tryz.prog 3 9 26 22 101 23 25:=⟨Tryz.underlying3,Tryz.underlying9,Tryz.underlying26,Tryz.underlying22,⟨_,_,_,Tryz.underlying101,rfl,rfl,rfl,rfl,rfl,rfl⟩,Tryz.underlying23,⟨_,_,Tryz.underlying25,rfl,rfl,rfl,rfl⟩,by kernel_rfl,by kernel_rfl,by kernel_rfl,by kernel_rfl,by kernel_rfl,by kernel_rfl,by kernel_rfl⟩
theorem ad9:VI Tryz.prog 26 28:=⟨⟨_,_,Tryz.underlying28,rfl,rfl,rfl,rfl⟩,by kernel_rfl⟩
theorem tq (os:Os) (started:os.Started) (H:Type) (enc:TypeId×Value→H) :
 ReturnsInHanded {} Tryz.checked os 15 .any (Rows.pathsEndsSpec.pre6 enc Tryz.prog Tryz.f15 Rows.pathsEndsRow.domain false) (Rows.pathsEndsSpec.post enc Tryz.prog Tryz.f15 false true false false):=by
 refine returnsInHanded_of_change_sized (C:=Tryz.checked) Tryz.own started (by kernel_rfl) Tryz.func15
  (ChangeSpec.witness6 (enc:=enc) (C:=Tryz.checked) false ⟨#[],#[.agg #[.slice none 0 0,.slice none 0 0],.agg #[.slice none 0 0,.slice none 0 0],.agg #[.int .i64 0,.int .i64 0,.slice none 0 0],.agg #[.int .i64 0,.int .i64 0,.slice none 0 0],.agg #[.int .i64 0,.int .i64 0,.slice none 0 0],.slice none 0 0,.agg #[.int .i64 0,.int .i64 0,.slice none 0 0],.slice none 0 0],[]⟩ 8 (by kernel_rfl) (by kernel_rfl) (by kernel_rfl) (by kernel_rfl)) ?_
 intro W base args ds gs before hval0 hW aiB aea _
 have ic:∀ (j:Nat) t v,Tryz.f15.params[j]?=some t→args[j]?=some v→Value.okWide Tryz.prog W .any base t v:=hval0
 have hW':=hW
 obtain ⟨p,q,hA0,hV,rfl,hfz,hnd⟩:=hW
 have hA:DataW.TrodAll enc Tryz.prog W 0 (fun _=>true) true Tryz.f15.params.toList args.toList ds p:=hA0
 rw [Tryz.params15] at hA ic
 have dc:(DataW.weightsEach Tryz.prog [25,28,31,31,31,29,31,26] ds).all (·≤reachBytes)=true:=by
  have h:=aea
  rw [show Rows.pathsEndsSpec.plain.varTypes Tryz.checked.prog=[] from rfl,List.append_nil,(ChangeShapes.trodVars_none hV).1,List.append_nil] at h
  have e:Tryz.f15.params.toList=[25,28,31,31,31,29,31,26]:=by rw [Tryz.params15]
  rw [e] at h
  exact h
 obtain ⟨v0,w0,d0,e0,p0,q0,a0,rfl,rfl,h0,r0⟩:=trodAll_cons hA
 obtain ⟨v1,w1,d1,e1,p1,q1,rfl,rfl,rfl,h1,r1⟩:=trodAll_cons r0
 obtain ⟨v2,w2,d2,e2,p2,q2,rfl,rfl,rfl,h2,r2⟩:=trodAll_cons r1
 obtain ⟨v3,w3,d3,e3,p3,q3,rfl,rfl,rfl,h3,r3⟩:=trodAll_cons r2
 obtain ⟨v4,w4,d4,e4,p4,q4,rfl,rfl,rfl,h4,r4⟩:=trodAll_cons r3
 obtain ⟨v5,w5,d5,e5,p5,q5,rfl,rfl,rfl,h5,r5⟩:=trodAll_cons r4
 obtain ⟨v6,w6,d6,e6,p6,q6,rfl,rfl,rfl,h6,r6⟩:=trodAll_cons r5
 obtain ⟨v7,w7,d7,e7,p7,q7,rfl,rfl,rfl,h7,r7⟩:=trodAll_cons r6
 obtain ⟨rfl,rfl,rfl⟩:=trodAll_nil r7
 have ea:args=#[v0,v1,v2,v3,v4,v5,v6,v7]:=by cases args;simpa using a0
 subst ea
 obtain ⟨rfl,rfl⟩:=trodVars_none hV
 obtain ⟨x0,r0x⟩:=QN Sm (ic 0 25 v0 rfl rfl) h0
 obtain ⟨x1,y1,r1x⟩:=QO Sm ad9 (ic 1 28 v1 rfl rfl) h1
 obtain ⟨x2,r2x,w2x⟩:=Bi tn (ic 2 31 v2 rfl rfl) h2
 obtain ⟨x3,r3x,w3x⟩:=Bi tn (ic 3 31 v3 rfl rfl) h3
 obtain ⟨x4,r4x,w4x⟩:=Bi tn (ic 4 31 v4 rfl rfl) h4
 obtain ⟨x5,r5x,l5x,w5x⟩:=P2 tn (ic 5 29 v5 rfl rfl) h5
 have k5x:x5.length * 40≤140737488351232:=by have:=P3 tn dc (j:=5) (d:=d5) (l:=x5) rfl rfl l5x;rwa [show Tryz.prog.bytesOf 31=40 by kernel_rfl] at this
 obtain ⟨x6,r6x,w6x⟩:=Bi tn (ic 6 31 v6 rfl rfl) h6
 obtain ⟨x7,r7x⟩:=QP Tryz.underlying3 Tryz.underlying26 (by kernel_rfl) (ic 7 26 v7 rfl rfl) h7
 refine ((c15 x0 x1 y1 x2 x3 x4 x5 x6 x7).lift Tryz.call15 (w:=W) (vs:=#[v0,v1,v2,v3,v4,v5,v6,v7]) (.cons _ _ _ _ r0x (.cons _ _ _ _ r1x (.cons _ _ _ _ r2x (.cons _ _ _ _ r3x (.cons _ _ _ _ r4x (.cons _ _ _ _ r5x (.cons _ _ _ _ r6x (.cons _ _ _ _ r7x .nil)))))))) ?_).mono ?_
 ·intro x hx own ys e
  simp only [List.mem_cons,List.not_mem_nil,or_false] at hx
  rcases hx with rfl | rfl | rfl | rfl | rfl | rfl | rfl | rfl <;> first | (rw [T.uc] at e;cases e;done) | (rw [oB] at e;cases e;done) | (cases e;done) | (cases e;rfl)
 ·rintro e W' ⟨rfl,hb⟩
  exact ⟨_,rfl,Lu (t:=4) Tryz.laidOut hb hW' rfl rfl Tryz.underlying4 rfl (by kernel_rfl)⟩
theorem BZ:(Rows.pathsEndsRow.inPlace == Tryz.checked.prog.inPlace 15)=true:=by kernel_rfl
theorem B0:(Rows.pathsEndsRow.unfollowed == Tryz.checked.prog.unfollowed 15)=true:=by kernel_rfl
theorem B1:(Rows.pathsEndsRow.recurses == Tryz.checked.prog.recurses 15)=true:=by kernel_rfl
theorem B2:(Rows.pathsEndsRow.named == Tryz.checked.prog.varsNamed 15)=true:=by kernel_rfl
theorem B3:(Rows.pathsEndsRow.lifted == Tryz.checked.prog.liftsFinal)=true:=by rw [QS];rfl
theorem tu:joinedFacts Tryz.checked.prog 15 Tryz.f15 Rows.pathsEndsSpec Rows.pathsEndsRow=true:=by
 unfold joinedFacts
 rw [VJ,VK,QQ,QR,BZ,B0,B1,B2,B3]
 kernel_rfl
theorem pathsEnds_holds:Rows.PathsEndsSaid:=
 OpenClaim.holds_of_wide 15 Tryz.f15 rfl rfl rfl rfl rfl rfl rfl ⟨rfl,rfl,rfl,rfl,rfl⟩ rfl rfl rfl rfl rfl (by kernel_rfl) Tryz.func15 tu
  (of_decide_eq_true (by kernel_rfl)) (by unfold Func.isWrapper;first | (rw [if_pos (by decide +kernel)];kernel_rfl) | (rw [if_neg (by decide +kernel)];exact ⟨rfl,rfl⟩))
  (fun os started H enc _=>tq os started H enc)
end Go.Proofs.YtljchnfgjdjobaaGreat
