/- CheckOrder, Greater and Equal answer as the document does. -/
import Derived.Test.YtljchnfgjdjobaaGreatRows
import Derived.Test.YtljchnfgjdjobaaGreatUar
import Derived.ProofKit
set_option linter.unusedVariables false
set_option linter.unusedSimpArgs false
set_option linter.defProp false
set_option linter.unusedSectionVars false
set_option maxRecDepth 100000
namespace Go.Proofs.YtljchnfgjdjobaaGreat
open Go Go.aI Go.ChangeShapes Go.WideShapes Go.ChangeAt Go.RowKit
theorem Tryz.own:ownKnob Tryz.prog.godebug=none:=by kernel_rfl
theorem Tryz.laidOut:laidOutB Tryz.prog=true:=by kernel_rfl
theorem Nq:F3 Tryz.prog 3 31 29:=⟨Tryz.underlying3,⟨_,_,_,Tryz.underlying31,rfl,rfl,rfl,rfl,rfl,rfl⟩,Tryz.underlying29,by kernel_rfl,by kernel_rfl,by kernel_rfl⟩
theorem Sr:so Tryz.prog 3 9 26 22 101 23 25:=⟨Tryz.underlying3,Tryz.underlying9,Tryz.underlying26,Tryz.underlying22,⟨_,_,_,Tryz.underlying101,rfl,rfl,rfl,rfl,rfl,rfl⟩,Tryz.underlying23,⟨_,_,Tryz.underlying25,rfl,rfl,rfl,rfl⟩,by kernel_rfl,by kernel_rfl,by kernel_rfl,by kernel_rfl,by kernel_rfl,by kernel_rfl,by kernel_rfl⟩
theorem aeo:VL Tryz.prog 26 28:=⟨⟨_,_,Tryz.underlying28,rfl,rfl,rfl,rfl⟩,by kernel_rfl⟩
theorem oM (os:Os) (started:os.Started) (H:Type) (enc:TypeId×Value→H) :
 ReturnsInHanded {} Tryz.checked os 3 .any (Rows.pathsComparesSpec.pre6 enc Tryz.prog Tryz.f3 Rows.pathsComparesRow.domain false) (Rows.pathsComparesSpec.post enc Tryz.prog Tryz.f3 false true false false):=by
 refine returnsInHanded_of_change (C:=Tryz.checked) Tryz.own started (by kernel_rfl) Tryz.func3
  (ChangeSpec.witness6 (enc:=enc) (C:=Tryz.checked) false ⟨#[],#[.agg #[.slice none 0 0,.slice none 0 0],.agg #[.slice none 0 0,.slice none 0 0],.agg #[.int .i64 0,.int .i64 0,.slice none 0 0],.agg #[.int .i64 0,.int .i64 0,.slice none 0 0]],[]⟩ 8 (by kernel_rfl) (by kernel_rfl) (by kernel_rfl) (by kernel_rfl)) ?_
 intro W base args ds gs before hval0 hW aiN _
 have lK:∀ (j:Nat) t v,Tryz.f3.params[j]?=some t→args[j]?=some v→Value.okWide Tryz.prog W .any base t v:=hval0
 have hW':=hW
 obtain ⟨p,q,hA0,hV,rfl,hfz,hnd⟩:=hW
 have hA:DataW.TrodAll enc Tryz.prog W 0 (fun _=>true) true Tryz.f3.params.toList args.toList ds p:=hA0
 rw [Tryz.params3] at hA lK
 obtain ⟨v0,w0,d0,e0,p0,q0,a0,rfl,rfl,h0,r0⟩:=trodAll_cons hA
 obtain ⟨v1,w1,d1,e1,p1,q1,rfl,rfl,rfl,h1,r1⟩:=trodAll_cons r0
 obtain ⟨v2,w2,d2,e2,p2,q2,rfl,rfl,rfl,h2,r2⟩:=trodAll_cons r1
 obtain ⟨v3,w3,d3,e3,p3,q3,rfl,rfl,rfl,h3,r3⟩:=trodAll_cons r2
 obtain ⟨rfl,rfl,rfl⟩:=trodAll_nil r3
 have ea:args=#[v0,v1,v2,v3]:=by cases args;simpa using a0
 subst ea
 obtain ⟨rfl,rfl⟩:=trodVars_none hV
 obtain ⟨x0,r0x⟩:=QQ Sr (lK 0 25 v0 rfl rfl) h0
 obtain ⟨x1,y1,r1x⟩:=QR Sr aeo (lK 1 28 v1 rfl rfl) h1
 obtain ⟨x2,r2x,w2x⟩:=LX Nq (lK 2 31 v2 rfl rfl) h2
 obtain ⟨x3,r3x,w3x⟩:=LX Nq (lK 3 31 v3 rfl rfl) h3
 refine ((c3 x0 x1 y1 x2 x3).lift Tryz.call3 (w:=W) (vs:=#[v0,v1,v2,v3]) (.cons _ _ _ _ r0x (.cons _ _ _ _ r1x (.cons _ _ _ _ r2x (.cons _ _ _ _ r3x .nil)))) ?_).mono ?_
 ·intro x hx own ys e
  simp only [List.mem_cons,List.not_mem_nil,or_false] at hx
  rcases hx with rfl | rfl | rfl | rfl <;> first | (rw [T.uA] at e;cases e;done) | (rw [oI] at e;cases e;done) | (cases e;done) | (cases e;rfl)
 ·rintro e W' ⟨rfl,hb⟩
  exact ⟨_,rfl,LO (t:=4) Tryz.laidOut hb hW' rfl rfl Tryz.underlying4 rfl (by kernel_rfl)⟩
theorem tK:(Rows.pathsComparesRow.inPlace == Tryz.checked.prog.inPlace 3)=true:=by kernel_rfl
theorem tL:(Rows.pathsComparesRow.unfollowed == Tryz.checked.prog.unfollowed 3)=true:=by kernel_rfl
theorem tM:(Rows.pathsComparesRow.recurses == Tryz.checked.prog.recurses 3)=true:=by kernel_rfl
theorem tN:(Rows.pathsComparesRow.named == Tryz.checked.prog.varsNamed 3)=true:=by kernel_rfl
theorem tO:(Rows.pathsComparesRow.lifted == Tryz.checked.prog.liftsFinal)=true:=by rw [QU];rfl
theorem oN:joinedFacts Tryz.checked.prog 3 Tryz.f3 Rows.pathsComparesSpec Rows.pathsComparesRow=true:=by
 unfold joinedFacts
 rw [VM,VN,QS,QT,tK,tL,tM,tN,tO]
 kernel_rfl
theorem pathsCompares_holds:Rows.PathsComparesSaid:=
 OpenClaim.holds_of_wide 3 Tryz.f3 rfl rfl rfl rfl rfl rfl rfl ⟨rfl,rfl,rfl,rfl,rfl⟩ rfl rfl rfl rfl rfl (by kernel_rfl) Tryz.func3 oN
  (of_decide_eq_true (by kernel_rfl)) (by unfold Func.isWrapper;first | (rw [if_pos (by decide +kernel)];kernel_rfl) | (rw [if_neg (by decide +kernel)];exact ⟨rfl,rfl⟩))
  (fun os started H enc _=>oM os started H enc)
end Go.Proofs.YtljchnfgjdjobaaGreat
