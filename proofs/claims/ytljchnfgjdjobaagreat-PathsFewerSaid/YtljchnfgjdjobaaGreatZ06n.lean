/- Without some of its equations a type decreases by the orders by which it did; the equation that is blamed does not decrease, those ahead of it do. -/
import Derived.Test.YtljchnfgjdjobaaGreatRows
import Derived.Test.YtljchnfgjdjobaaGreatWaq
import Derived.ProofKit
set_option linter.unusedVariables false
set_option linter.unusedSimpArgs false
set_option linter.defProp false
set_option linter.unusedSectionVars false
set_option maxRecDepth 100000
namespace Go.Proofs.YtljchnfgjdjobaaGreat
open Go Go.aH Go.ChangeShapes Go.WideShapes Go.ChangeAt Go.RowKit
theorem Tryz.own:ownKnob Tryz.prog.godebug=none:=by kernel_rfl
theorem Tryz.laidOut:laidOutB Tryz.prog=true:=by kernel_rfl
theorem TK:mB Tryz.prog 3 31 29:=⟨Tryz.underlying3,⟨_,_,_,Tryz.underlying31,rfl,rfl,rfl,rfl,rfl,rfl⟩,Tryz.underlying29,by kernel_rfl,by kernel_rfl,by kernel_rfl⟩
theorem Qq:mU Tryz.prog 3 9 26 22 101 23 25:=⟨Tryz.underlying3,Tryz.underlying9,Tryz.underlying26,Tryz.underlying22,⟨_,_,_,Tryz.underlying101,rfl,rfl,rfl,rfl,rfl,rfl⟩,Tryz.underlying23,⟨_,_,Tryz.underlying25,rfl,rfl,rfl,rfl⟩,by kernel_rfl,by kernel_rfl,by kernel_rfl,by kernel_rfl,by kernel_rfl,by kernel_rfl,by kernel_rfl⟩
theorem aby:TF Tryz.prog 26 28:=⟨⟨_,_,Tryz.underlying28,rfl,rfl,rfl,rfl⟩,by kernel_rfl⟩
theorem abz:Fg Tryz.prog 26 25 31 122 70 72 49 51:=⟨⟨_,_,Tryz.underlying122,rfl,rfl,rfl,rfl⟩,Tryz.underlying70,⟨_,_,_,_,Tryz.underlying72,⟨rfl,rfl⟩,⟨rfl,rfl⟩,⟨rfl,rfl⟩,⟨rfl,rfl⟩⟩,Tryz.underlying49,⟨_,_,Tryz.underlying51,rfl,rfl,rfl,rfl⟩,by kernel_rfl,by kernel_rfl,by kernel_rfl,by kernel_rfl,by kernel_rfl⟩
theorem rj (os:Os) (started:os.Started) (H:Type) (enc:TypeId×Value→H) :
 ReturnsInHanded {} Tryz.checked os 9 .any (Rows.pathsFewerSpec.pre6 enc Tryz.prog Tryz.f9 Rows.pathsFewerRow.domain false) (Rows.pathsFewerSpec.post enc Tryz.prog Tryz.f9 false true false false):=by
 refine returnsInHanded_of_change (C:=Tryz.checked) Tryz.own started (by kernel_rfl) Tryz.func9
  (ChangeSpec.witness6 (enc:=enc) (C:=Tryz.checked) false ⟨#[],#[.agg #[.slice none 0 0,.slice none 0 0,.slice none 0 0],.agg #[.slice none 0 0,.slice none 0 0],.int .i64 0],[]⟩ 8 (by kernel_rfl) (by kernel_rfl) (by kernel_rfl) (by kernel_rfl)) ?_
 intro W base args ds gs before hval0 hW afC _
 have nB:∀ (j:Nat) t v,Tryz.f9.params[j]?=some t→args[j]?=some v→Value.okWide Tryz.prog W .any base t v:=hval0
 have hW':=hW
 obtain ⟨p,q,hA0,hV,rfl,hfz,hnd⟩:=hW
 have hA:DataW.TrodAll enc Tryz.prog W 0 (fun _=>true) true Tryz.f9.params.toList args.toList ds p:=hA0
 rw [Tryz.params9] at hA nB
 obtain ⟨v0,v1,v2,d0,d1,d2,p0,p1,p2,rfl,rfl,rfl,h0,h1,h2⟩:=trodAll_three hA
 obtain ⟨rfl,rfl⟩:=trodVars_none hV
 obtain ⟨x0,r0x⟩:=OZ Qq TK abz (nB 0 51 v0 rfl rfl) h0
 obtain ⟨x1,y1,r1x⟩:=OW Qq aby (nB 1 28 v1 rfl rfl) h1
 obtain ⟨x2,rfl,_,_,w2x⟩:=open_int Tryz.underlying3 (nB 2 3 v2 rfl rfl) h2
 have w2y:=EI w2x
 refine ((c9 x0 x1 y1 x2).lift Tryz.call9 (w:=W) (vs:=#[v0,v1,.int .i64 x2]) (.cons _ _ _ _ r0x (.cons _ _ _ _ r1x (.cons _ _ _ _ (.int _ _) .nil))) ?_).mono ?_
 ·intro x hx own ys e
  simp only [List.mem_cons,List.not_mem_nil,or_false] at hx
  rcases hx with rfl | rfl | rfl <;> first | (rw [T.tC] at e;cases e;done) | (rw [n7] at e;cases e;done) | (cases e;done) | (cases e;rfl)
 ·rintro e W' ⟨rfl,hb⟩
  exact ⟨_,rfl,Ki (t:=4) Tryz.laidOut hb hW' rfl rfl Tryz.underlying4 rfl (by kernel_rfl)⟩
theorem xz:(Rows.pathsFewerRow.inPlace == Tryz.checked.prog.inPlace 9)=true:=by kernel_rfl
theorem xA:(Rows.pathsFewerRow.unfollowed == Tryz.checked.prog.unfollowed 9)=true:=by kernel_rfl
theorem xB:(Rows.pathsFewerRow.recurses == Tryz.checked.prog.recurses 9)=true:=by kernel_rfl
theorem xC:(Rows.pathsFewerRow.named == Tryz.checked.prog.varsNamed 9)=true:=by kernel_rfl
theorem xD:(Rows.pathsFewerRow.lifted == Tryz.checked.prog.liftsFinal)=true:=by rw [O5];rfl
theorem rk:joinedFacts Tryz.checked.prog 9 Tryz.f9 Rows.pathsFewerSpec Rows.pathsFewerRow=true:=by
 unfold joinedFacts
 rw [TI,TJ,O0,O4,xz,xA,xB,xC,xD]
 kernel_rfl
theorem pathsFewer_holds:Rows.PathsFewerSaid:=
 OpenClaim.holds_of_wide 9 Tryz.f9 rfl rfl rfl rfl rfl rfl rfl ⟨rfl,rfl,rfl,rfl,rfl⟩ rfl rfl rfl rfl rfl (by kernel_rfl) Tryz.func9 rk
  (of_decide_eq_true (by kernel_rfl)) (by unfold Func.isWrapper;first | (rw [if_pos (by decide +kernel)];kernel_rfl) | (rw [if_neg (by decide +kernel)];exact ⟨rfl,rfl⟩))
  (fun os started H enc _=>rj os started H enc)
end Go.Proofs.YtljchnfgjdjobaaGreat
