/- Orders that are found are right; where none is found there is none. -/
import Derived.Test.YtljchnfgjdjobaaGreatRows
import Derived.Test.YtljchnfgjdjobaaGreatYar
import Derived.ProofKit
set_option linter.unusedVariables false
set_option linter.unusedSimpArgs false
set_option linter.defProp false
set_option linter.unusedSectionVars false
set_option maxRecDepth 100000
namespace Go.Proofs.YtljchnfgjdjobaaGreat
open Go Go.aJ Go.ChangeShapes Go.WideShapes Go.ChangeAt Go.RowKit
theorem Tryz.own:ownKnob Tryz.prog.godebug=none:=by kernel_rfl
theorem Tryz.laidOut:laidOutB Tryz.prog=true:=by kernel_rfl
theorem UQ:mM Tryz.prog 3 31 29:=⟨Tryz.underlying3,⟨_,_,_,Tryz.underlying31,rfl,rfl,rfl,rfl,rfl,rfl⟩,Tryz.underlying29,by kernel_rfl,by kernel_rfl,by kernel_rfl⟩
theorem Rx:nk Tryz.prog 3 9 26 22 101 23 25:=⟨Tryz.underlying3,Tryz.underlying9,Tryz.underlying26,Tryz.underlying22,⟨_,_,_,Tryz.underlying101,rfl,rfl,rfl,rfl,rfl,rfl⟩,Tryz.underlying23,⟨_,_,Tryz.underlying25,rfl,rfl,rfl,rfl⟩,by kernel_rfl,by kernel_rfl,by kernel_rfl,by kernel_rfl,by kernel_rfl,by kernel_rfl,by kernel_rfl⟩
theorem acV:UL Tryz.prog 26 28:=⟨⟨_,_,Tryz.underlying28,rfl,rfl,rfl,rfl⟩,by kernel_rfl⟩
theorem acW:Gh Tryz.prog 26 25 31 122 70 72 49 51:=⟨⟨_,_,Tryz.underlying122,rfl,rfl,rfl,rfl⟩,Tryz.underlying70,⟨_,_,_,_,Tryz.underlying72,⟨rfl,rfl⟩,⟨rfl,rfl⟩,⟨rfl,rfl⟩,⟨rfl,rfl⟩⟩,Tryz.underlying49,⟨_,_,Tryz.underlying51,rfl,rfl,rfl,rfl⟩,by kernel_rfl,by kernel_rfl,by kernel_rfl,by kernel_rfl,by kernel_rfl⟩
theorem rZ (os:Os) (started:os.Started) (H:Type) (enc:TypeId×Value→H) :
 ReturnsInHanded {} Tryz.checked os 14 .any (Rows.pathsFoundSpec.pre6 enc Tryz.prog Tryz.f14 Rows.pathsFoundRow.domain false) (Rows.pathsFoundSpec.post enc Tryz.prog Tryz.f14 false true false false):=by
 refine returnsInHanded_of_change (C:=Tryz.checked) Tryz.own started (by kernel_rfl) Tryz.func14
  (ChangeSpec.witness6 (enc:=enc) (C:=Tryz.checked) false ⟨#[],#[.agg #[.slice none 0 0,.slice none 0 0,.slice none 0 0],.agg #[.slice none 0 0,.slice none 0 0]],[]⟩ 8 (by kernel_rfl) (by kernel_rfl) (by kernel_rfl) (by kernel_rfl)) ?_
 intro W base args ds gs before hval0 hW agS _
 have ph:∀ (j:Nat) t v,Tryz.f14.params[j]?=some t→args[j]?=some v→Value.okWide Tryz.prog W .any base t v:=hval0
 have hW':=hW
 obtain ⟨p,q,hA0,hV,rfl,hfz,hnd⟩:=hW
 have hA:DataW.TrodAll enc Tryz.prog W 0 (fun _=>true) true Tryz.f14.params.toList args.toList ds p:=hA0
 rw [Tryz.params14] at hA ph
 obtain ⟨v0,v1,d0,d1,p0,p1,rfl,rfl,rfl,h0,h1⟩:=trodAll_two hA
 obtain ⟨rfl,rfl⟩:=trodVars_none hV
 obtain ⟨x0,r0x⟩:=Qf Rx UQ acW (ph 0 51 v0 rfl rfl) h0
 obtain ⟨x1,y1,r1x⟩:=Qc Rx acV (ph 1 28 v1 rfl rfl) h1
 refine ((c14 x0 x1 y1).lift Tryz.call14 (w:=W) (vs:=#[v0,v1]) (.cons _ _ _ _ r0x (.cons _ _ _ _ r1x .nil)) ?_).mono ?_
 ·intro x hx own ys e
  simp only [List.mem_cons,List.not_mem_nil,or_false] at hx
  rcases hx with rfl | rfl <;> first | (rw [T.uj] at e;cases e;done) | (rw [oz] at e;cases e;done) | (cases e;done) | (cases e;rfl)
 ·rintro e W' ⟨rfl,hb⟩
  exact ⟨_,rfl,Li (t:=4) Tryz.laidOut hb hW' rfl rfl Tryz.underlying4 rfl (by kernel_rfl)⟩
theorem yo:(Rows.pathsFoundRow.inPlace == Tryz.checked.prog.inPlace 14)=true:=by kernel_rfl
theorem yp:(Rows.pathsFoundRow.unfollowed == Tryz.checked.prog.unfollowed 14)=true:=by kernel_rfl
theorem yq:(Rows.pathsFoundRow.recurses == Tryz.checked.prog.recurses 14)=true:=by kernel_rfl
theorem yr:(Rows.pathsFoundRow.named == Tryz.checked.prog.varsNamed 14)=true:=by kernel_rfl
theorem yu:(Rows.pathsFoundRow.lifted == Tryz.checked.prog.liftsFinal)=true:=by rw [Qi];rfl
theorem sc:joinedFacts Tryz.checked.prog 14 Tryz.f14 Rows.pathsFoundSpec Rows.pathsFoundRow=true:=by
 unfold joinedFacts
 rw [UO,UP,Qg,Qh,yo,yp,yq,yr,yu]
 kernel_rfl
theorem pathsFound_holds:Rows.PathsFoundSaid:=
 OpenClaim.holds_of_wide 14 Tryz.f14 rfl rfl rfl rfl rfl rfl rfl ⟨rfl,rfl,rfl,rfl,rfl⟩ rfl rfl rfl rfl rfl (by kernel_rfl) Tryz.func14 sc
  (of_decide_eq_true (by kernel_rfl)) (by unfold Func.isWrapper;first | (rw [if_pos (by decide +kernel)];kernel_rfl) | (rw [if_neg (by decide +kernel)];exact ⟨rfl,rfl⟩))
  (fun os started H enc _=>rZ os started H enc)
end Go.Proofs.YtljchnfgjdjobaaGreat
