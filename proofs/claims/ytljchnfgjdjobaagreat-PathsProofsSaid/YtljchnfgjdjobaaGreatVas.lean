/- Part 19 of 20 of the proof. -/
import Derived.Test.YtljchnfgjdjobaaGreatVar
import Derived.Test.YtljchnfgjdjobaaGreatVao
import Derived.Test.YtljchnfgjdjobaaGreatVap
import Derived.Test.YtljchnfgjdjobaaGreatVak
import Derived.Test.YtljchnfgjdjobaaGreatVam
import Derived.Test.YtljchnfgjdjobaaGreatRows
import Derived.ProofKit
set_option linter.unusedVariables false
set_option linter.unusedSimpArgs false
set_option linter.defProp false
set_option linter.unusedSectionVars false
section
set_option maxRecDepth 100000
set_option maxHeartbeats 1000000
namespace Go.aK
open Go Go.Proofs Go.eI
theorem c4 (s:Sg) (ps ss:List Int) (a b:T) (p:PP):Pure Tryz.prog 4 [s.av,dV ps ss,a.av,b.av,dA p] (.bool true):=by
 refine fun H=>k4.2.calls rfl ?_
 simp only [k4,aG]
 obtain ⟨q1,q2,q3,q4,q5,q6⟩:=aQ ps ss
 obtain ⟨p1,p2,p3,p4,p5,p6,p7,p8,p9⟩:=aH p
 simp +contextual only [aF,q1,p1,sZ,Nat.reduceEqDiff,Nat.reduceAdd,↓reduceIte,reduceCtorEq]
 refine ae c17 ?_
 simp +contextual only [aF,q4,bm,sZ,Nat.reduceEqDiff,Nat.reduceAdd,↓reduceIte]
 have fin:∀ (G:List aa),G.take H.length=H→bV H.length [.t 10] [(10,.bool true)] G fun r H'=>r=.bool true∧H'=H:=fun G hG=>
  aX H.length (rC _) (by rw [aA,if_pos rfl];rfl) ⟨by rw [aA,if_pos rfl],hG⟩
 refine af (c18 s ps ss _) ?_
 rintro r G ⟨⟨b1,rfl,pn⟩,rfl⟩
 cases b1 with
 | false=>simp +contextual only [sZ,Nat.reduceEqDiff,↓reduceIte,reduceCtorEq];exact fin _ (by simp)
 | true=>
 have hs:=pn rfl
 simp +contextual only [sZ,Nat.reduceEqDiff,Nat.reduceAdd,↓reduceIte]
 have h19:=c19 40 [a,b] (H++[aa.cells [.int .i64 400]])
 refine af h19 ?_
 rintro r G ⟨⟨b2,rfl⟩,rfl⟩
 cases b2 with
 | false=>simp +contextual only [sZ,Nat.reduceEqDiff,↓reduceIte,reduceCtorEq];exact fin _ (by simp)
 | true=>
 simp +contextual only [p4,eL,sZ,Nat.reduceEqDiff,Nat.reduceAdd,↓reduceIte,reduceCtorEq]
 have hB:Bq H.length (H++[aa.cells [.int .i64 400]]) (H++[aa.cells [.int .i64 400]]):=⟨rfl,⟨400,by simp⟩,fun _ _=>rfl⟩
 refine af (c26 _ p (rC _) _ hB) ?_
 rintro r G ⟨⟨b3,rfl⟩,hG⟩
 have hGt:G.take H.length=H:=by
  apply abU
  intro j
  rw [aax]
  by_cases hj:j < H.length
  ·rw [if_pos hj,hG.get j (by omega),yO hj]
  ·rw [if_neg hj,abL (by omega)]
 cases b3 with
 | false=>simp +contextual only [sZ,Nat.reduceEqDiff,↓reduceIte,reduceCtorEq];exact fin _ hGt
 | true=>
 simp +contextual only [aF,q4,bm,sZ,Nat.reduceEqDiff,Nat.reduceAdd,↓reduceIte]
 refine af (c27 s ps ss a b _) ?_
 rintro r G ⟨hp,rfl⟩
 have hg:=c21 s ps ss hs a b
 have hv:=c28 s ps ss a b p
 have hv':=c29 s ps ss hs a b p
 rcases hp with ⟨h0,rfl⟩ | ⟨h0,hR,rfl⟩ | ⟨h0,q,hq,rfl⟩
 ·rw [if_neg h0] at hg
  obtain ⟨r1,r2,r3,r4,r5,r6,r7,r8,r9⟩:=aH KE
  simp +contextual only [aF,q4,bm,r1,r2,r3,r4,sZ,Nat.reduceEqDiff,Nat.reduceAdd,Nat.reduceLT,↓reduceIte]
  refine ae hg ?_
  simp +contextual only [aF,q4,p4,bm,eL,sZ,Nat.reduceEqDiff,Nat.reduceAdd,Nat.reduceLT,↓reduceIte]
  refine ay hv ?_
  simp +contextual only [aF,q4,p4,bm,eL,sZ,Nat.reduceEqDiff,↓reduceIte]
  refine ay hv' ?_
  simp +contextual only [lZ,mK,pS,rI,aw,bG,sZ,Nat.reduceEqDiff,↓reduceIte,reduceCtorEq]
  exact ⟨fun _=>⟨fun _ _=>⟨fun _ _=>fin _ hGt,fun h=>absurd rfl h⟩,fun h=>absurd rfl h⟩,fun h=>absurd rfl h⟩
 ·have e2:ES ps ss a b=false:=by rw [aca];exact fun h=>hR (nN.1 h)
  rw [if_pos h0,e2,h0] at hg
  obtain ⟨r1,r2,r3,r4,r5,r6,r7,r8,r9⟩:=aH KE
  simp +contextual only [aF,q4,bm,r1,r2,r3,r4,sZ,Nat.reduceEqDiff,Nat.reduceAdd,Nat.reduceLT,↓reduceIte]
  refine ae hg ?_
  simp +contextual only [aF,q4,p4,bm,eL,sZ,Nat.reduceEqDiff,Nat.reduceAdd,Nat.reduceLT,↓reduceIte]
  refine ay hv ?_
  simp +contextual only [aF,q4,p4,bm,eL,sZ,Nat.reduceEqDiff,↓reduceIte]
  refine ay hv' ?_
  simp +contextual only [lZ,mK,pS,rI,aw,bG,sZ,Nat.reduceEqDiff,↓reduceIte,reduceCtorEq]
  exact ⟨fun _=>⟨fun _ _=>⟨fun _ _=>fin _ hGt,fun h=>absurd rfl h⟩,fun h=>absurd rfl h⟩,fun h=>absurd rfl h⟩
 ·have e2:ES ps ss a b=true:=nN.2 hq.gt
  rw [if_pos h0,e2,h0] at hg
  have e3:sS s ps ss a b q=0:=by unfold sS;rw [if_pos h0,if_pos hq]
  have hv2:=c29 s ps ss hs a b q
  rw [e3] at hv2
  obtain ⟨r1,r2,r3,r4,r5,r6,r7,r8,r9⟩:=aH q
  simp +contextual only [aF,q4,bm,r1,r2,r3,r4,sZ,Nat.reduceEqDiff,Nat.reduceAdd,Nat.reduceLT,↓reduceIte]
  refine ae hg ?_
  simp +contextual only [aF,q4,p4,bm,eL,sZ,Nat.reduceEqDiff,Nat.reduceAdd,Nat.reduceLT,↓reduceIte]
  refine ay hv ?_
  simp +contextual only [aF,q4,p4,bm,eL,sZ,Nat.reduceEqDiff,↓reduceIte]
  refine ay hv' ?_
  simp +contextual only [aF,q4,bm,eL,r4,sZ,Nat.reduceEqDiff,Nat.reduceAdd,↓reduceIte]
  refine ae hv2 ?_
  simp +contextual only [sZ,↓reduceIte,reduceCtorEq]
  exact fin _ hGt
end Go.aK
end
section
set_option maxRecDepth 100000
namespace Go.aK
open Go Go.RowKit Go.eI
section
variable {H:Type} {enc:TypeId×Value→H} {P:Program} {w:World} {base:Nat} {sp:Nat→Bool} {held:Bool}
def Rd {H:Type} (enc:TypeId×Value→H) (P:Program) (w:World) (base:Nat) (sp:Nat→Bool) (held:Bool) {α:Type} (t:TypeId) (g:α→AV) (R:DataW H→α→Prop):Prop:=
 ∀ (fuel:Nat) (cs:List Value) (x:DataW H×List MemPlace),DataW.trod enc P w base sp held fuel t cs=some x→∃ a,aP (eh w) [] cs (g a).cells∧R x.1 a
theorem C0 {ti:TypeId} (h:P.underlying ti=some (.int .i64)):Rd enc P w base sp held ti (fun n:Int=>.int .i64 n) (fun _ _=>True):=by
 intro fuel cs x hx
 obtain ⟨k,rfl,_,_⟩:=DataW.trod_int h hx
 exact ⟨k,.cons _ _ _ _ (.int _ _) .nil,trivial⟩
theorem Oo {ti:TypeId} (h:P.underlying ti=some .string):Rd enc P w base sp held ti (fun s:ByteArray=>.str s) (fun _ _=>True):=by
 intro fuel cs x hx
 obtain ⟨k,rfl,_,_⟩:=DataW.trod_string h hx
 exact ⟨k,.cons _ _ _ _ (.str _) .nil,trivial⟩
def Fz {α:Type} (d:DataW H) (l:List α):Prop:=match d with | .slice es _=>l.length=es.length | _=>l=[]
theorem yN {α:Type} [Inhabited α] {te tl:TypeId} {g:α→AV} {R:DataW H→α→Prop} {e:Nat} (hl:P.underlying tl=some (.slice te)) (hc:P.cellsOf te=e) (he:0 < e) (h:Rd enc P w base sp held te g R) :
 Rd enc P w base sp held tl (fun l:List α=>.al 0 (l.map g)) Fz:=by
 intro fuel cs x hx
 rcases DataW.trod_slice hl hx with ⟨rfl,rfl⟩ | ⟨a,len,cap,elems,rest,m,hm,rfl,rfl,hb,hle,cp,R5,jv,_,_⟩
 ·exact ⟨[],.cons _ _ _ _ aW.ag.drop .nil,rfl⟩
 ·rw [hc] at jv
  have hex:∀ i,i < len→∃ t:α,∃ cs',w.cells? base (a.add (i * e)) e=some cs'∧aP (eh w) [] cs' (g t).cells:=by
   intro i hi
   have:=jv i hi
   rw [Oq (by omega)] at this
   obtain ⟨cs',k1,k2⟩:=afh.1 this
   obtain ⟨t,ht,_⟩:=h _ _ _ k2
   exact ⟨t,cs',k1,ht⟩
  have hf:∃ f:Nat→α,∀ i,i < len→∃ cs',w.cells? base (a.add (i * e)) e=some cs'∧aP (eh w) [] cs' (g (f i)).cells:=by
   refine ⟨fun i=>if hi:i < len then Classical.choose (hex i hi) else default,fun i hi=>?_⟩
   simp only [dif_pos hi]
   exact Classical.choose_spec (hex i hi)
  obtain ⟨f,hf⟩:=hf
  refine ⟨(List.range len).map f,.cons _ _ _ _ ?_ .nil,by simp [Fz,R5]⟩
  show aW (eh w) [] _ (.al 0 (((List.range len).map f).map g))
  rw [acs]
  refine tW (e:=e) (base:=base) he hle cp (fun i=>if hi:i < len then Classical.choose (hf i hi) else []) _ fun i hi=>?_
  simp only [dif_pos hi]
  exact Classical.choose_spec (hf i hi)
structure pi (P:Program) (ti ts tis tss top tops tsig:TypeId):Prop where
 int:P.underlying ti=some (.int .i64)
 str:P.underlying ts=some .string
 ints:P.underlying tis=some (.slice ti)
 strs:P.underlying tss=some (.slice ts)
 op:∃ f0 f1 f2:Field,P.underlying top=some (.struct #[f0,f1,f2])∧f0.type=ts∧f0.offset=0∧f1.type=tis∧f1.offset=1∧f2.type=ti∧f2.offset=2
 ops:P.underlying tops=some (.slice top)
 sig:∃ f0 f1:Field,P.underlying tsig=some (.struct #[f0,f1])∧f0.type=tss∧f0.offset=0∧f1.type=tops∧f1.offset=1
 c:P.cellsOf ti=1∧P.cellsOf ts=1∧P.cellsOf tis=1∧P.cellsOf tss=1∧P.cellsOf top=3∧P.cellsOf tops=1∧P.cellsOf tsig=2
variable {ti ts tis tss top tops tsig:TypeId}
theorem fO {v:List Value} {x:AV} (h:aP (eh w) [] v [x]):∃ u,v=[u]∧aW (eh w) [] u x:=by
 cases h with
 | cons v x vs xs h t=>cases t;exact ⟨_,rfl,h⟩
theorem wL (S:pi P ti ts tis tss top tops tsig):Rd enc P w base sp held tis (fun l:List Int=>.al 0 (ints l)) Fz:=yN S.ints S.c.1 (by decide) (C0 S.int)
theorem RN (S:pi P ti ts tis tss top tops tsig):Rd enc P w base sp held tss (fun l:List ByteArray=>.al 0 (strs l)) Fz:=yN S.strs S.c.2.1 (by decide) (Oo S.str)
theorem abB (S:pi P ti ts tis tss top tops tsig):Rd enc P w base sp held top iP.av (fun _ _=>True):=by
 intro fuel cs x h
 obtain ⟨f0,f1,f2,hu,h0,o0,h1,o1,h2,o2⟩:=S.op
 obtain ⟨c1,c2,c3,c4,c5,c6,c7⟩:=S.c
 obtain ⟨xs,m,rfl,rfl,hlen,fx,hf⟩:=DataW.trod_struct hu h
 have g0:=hf 0 f0 rfl
 have g1:=hf 1 f1 rfl
 have g2:=hf 2 f2 rfl
 rw [h0,o0,c2] at g0
 rw [h1,o1,c3] at g1
 rw [h2,o2,c1] at g2
 simp at fx
 rw [c5] at hlen
 match cs,hlen with
 | [a,b,c],_=>
   have e0:xs[0]?=some xs[0]:=by simp [fx]
   have e1:xs[1]?=some xs[1]:=by simp [fx]
   have e2:xs[2]?=some xs[2]:=by simp [fx]
   rw [e0] at g0;rw [e1] at g1;rw [e2] at g2
   obtain ⟨nm,r0,_⟩:=Oo S.str _ _ _ g0
   obtain ⟨ar,r1,_⟩:=wL S _ _ _ g1
   obtain ⟨re,r2,_⟩:=C0 S.int _ _ _ g2
   obtain ⟨_,q0,r0⟩:=fO r0
   obtain ⟨_,q1,r1⟩:=fO r1
   obtain ⟨_,q2,r2⟩:=fO r2
   simp at q0 q1 q2
   subst q0 q1 q2
   exact ⟨⟨nm,ar,re⟩,.cons _ _ _ _ r0 (.cons _ _ _ _ r1 (.cons _ _ _ _ r2 .nil)),trivial⟩
theorem WD (S:pi P ti ts tis tss top tops tsig):Rd enc P w base sp held tops (fun l:List iP=>.al 0 (qg l)) Fz:=yN S.ops S.c.2.2.2.2.1 (by decide) (abB S)
theorem WE (S:pi P ti ts tis tss top tops tsig):Rd enc P w base sp held tsig Sg.av (fun _ _=>True):=by
 intro fuel cs x h
 obtain ⟨f0,f1,hu,h0,o0,h1,o1⟩:=S.sig
 obtain ⟨c1,c2,c3,c4,c5,c6,c7⟩:=S.c
 obtain ⟨xs,m,rfl,rfl,hlen,fx,hf⟩:=DataW.trod_struct hu h
 have g0:=hf 0 f0 rfl
 have g1:=hf 1 f1 rfl
 rw [h0,o0,c4] at g0
 rw [h1,o1,c6] at g1
 simp at fx
 rw [c7] at hlen
 match cs,hlen with
 | [a,b],_=>
   have e0:xs[0]?=some xs[0]:=by simp [fx]
   have e1:xs[1]?=some xs[1]:=by simp [fx]
   rw [e0] at g0;rw [e1] at g1
   obtain ⟨nm,r0,_⟩:=RN S _ _ _ g0
   obtain ⟨ar,r1,_⟩:=WD S _ _ _ g1
   obtain ⟨_,q0,r0⟩:=fO r0
   obtain ⟨_,q1,r1⟩:=fO r1
   simp at q0 q1
   subst q0 q1
   exact ⟨⟨nm,ar⟩,.cons _ _ _ _ r0 (.cons _ _ _ _ r1 .nil),trivial⟩
theorem RP (S:pi P ti ts tis tss top tops tsig) {r:Reach} {b0:Nat} {v:Value} {d:DataW H} {ps:List MemPlace} (kC:Value.okWide P w r b0 tsig v) (hd:DataW.Trod enc P w base sp held tsig v d ps):∃ s:Sg,aW (eh w) [] v s.av:=by
 obtain ⟨f0,f1,hu,_⟩:=S.sig
 obtain ⟨cs,rfl,_⟩:=WideShapes.okWide_struct hu kC
 obtain ⟨fuel,hf⟩:=hd
 obtain ⟨o,h1,_⟩:=WE S _ _ _ hf
 refine ⟨o,?_⟩
 have:aW (eh w) [] (.agg cs.toList.toArray) o.av:=.agg _ _ h1
 simpa using this
structure WG (P:Program) (tis tod:TypeId):Prop where
 od:∃ f0 f1:Field,P.underlying tod=some (.struct #[f0,f1])∧f0.type=tis∧f0.offset=0∧f1.type=tis∧f1.offset=1
 c:P.cellsOf tod=2
theorem abC (S:pi P ti ts tis tss top tops tsig) {tod:TypeId} (O:WG P tis tod):Rd enc P w base sp held tod (fun o:List Int×List Int=>dV o.1 o.2) (fun _ _=>True):=by
 intro fuel cs x h
 obtain ⟨f0,f1,hu,h0,o0,h1,o1⟩:=O.od
 obtain ⟨c1,c2,c3,c4,c5,c6,c7⟩:=S.c
 obtain ⟨xs,m,rfl,rfl,hlen,fx,hf⟩:=DataW.trod_struct hu h
 have g0:=hf 0 f0 rfl
 have g1:=hf 1 f1 rfl
 rw [h0,o0,c3] at g0
 rw [h1,o1,c3] at g1
 simp at fx
 rw [O.c] at hlen
 match cs,hlen with
 | [a,b],_=>
   have e0:xs[0]?=some xs[0]:=by simp [fx]
   have e1:xs[1]?=some xs[1]:=by simp [fx]
   rw [e0] at g0;rw [e1] at g1
   obtain ⟨nm,r0,_⟩:=wL S _ _ _ g0
   obtain ⟨ar,r1,_⟩:=wL S _ _ _ g1
   obtain ⟨_,q0,r0⟩:=fO r0
   obtain ⟨_,q1,r1⟩:=fO r1
   simp at q0 q1
   subst q0 q1
   exact ⟨(nm,ar),.cons _ _ _ _ r0 (.cons _ _ _ _ r1 .nil),trivial⟩
theorem RQ (S:pi P ti ts tis tss top tops tsig) {tod:TypeId} (O:WG P tis tod) {r:Reach} {b0:Nat} {v:Value} {d:DataW H} {ps:List MemPlace} (kC:Value.okWide P w r b0 tod v) (hd:DataW.Trod enc P w base sp held tod v d ps):∃ pl st:List Int,aW (eh w) [] v (dV pl st):=by
 obtain ⟨f0,f1,hu,_⟩:=O.od
 obtain ⟨cs,rfl,_⟩:=WideShapes.okWide_struct hu kC
 obtain ⟨fuel,hf⟩:=hd
 obtain ⟨o,h1,_⟩:=abC S O _ _ _ hf
 refine ⟨o.1,o.2,?_⟩
 have:aW (eh w) [] (.agg cs.toList.toArray) (dV o.1 o.2):=.agg _ _ h1
 simpa using this
structure WH (P:Program) (ti tis tp tl:TypeId):Prop where
 pp:∃ f0 f1 f2 f3:Field,P.underlying tp=some (.struct #[f0,f1,f2,f3])∧(f0.type=ti∧f0.offset=0)∧(f1.type=ti∧f1.offset=1)∧(f2.type=tis∧f2.offset=2)∧f3.type=tl∧f3.offset=3
 list:P.underlying tl=some (.slice tp)
 c4:P.cellsOf tp=4
 cl:P.cellsOf tl=1
theorem RR (S:pi P ti ts tis tss top tops tsig) {tp tl:TypeId} (O:WH P ti tis tp tl):∀ (fuel:Nat),
 (∀ (cs:List Value) (x:DataW H×List MemPlace),DataW.trod enc P w base sp held fuel tp cs=some x→∃ p:PP,aP (eh w) [] cs (dA p).cells)∧
 (∀ (cs:List Value) (x:DataW H×List MemPlace),DataW.trod enc P w base sp held fuel tl cs=some x→∃ l:List PP,aP (eh w) [] cs [.al 0 (dx l)]):=by
 intro fuel
 induction fuel with
 | zero=>exact ⟨fun cs x h=>by simp [DataW.trod] at h,fun cs x h=>by simp [DataW.trod] at h⟩
 | succ n ih=>
   refine ⟨fun cs x h=>?_,fun cs x h=>?_⟩
   ·obtain ⟨f0,f1,f2,f3,hu,⟨h0,o0⟩,⟨h1,o1⟩,⟨h2,o2⟩,h3,o3⟩:=O.pp
    obtain ⟨c1,c2,c3,c4,c5,c6,c7⟩:=S.c
    obtain ⟨xs,m,hm,rfl,hlen,fx,hf⟩:=DataW.trod_struct hu h
    cases hm
    have g0:=hf 0 f0 rfl
    have g1:=hf 1 f1 rfl
    have g2:=hf 2 f2 rfl
    have g3:=hf 3 f3 rfl
    rw [h0,o0,c1] at g0
    rw [h1,o1,c1] at g1
    rw [h2,o2,c3] at g2
    rw [h3,o3,O.cl] at g3
    simp at fx
    rw [O.c4] at hlen
    match cs,hlen with
    | [a,b,c,d],_=>
      have e0:xs[0]?=some xs[0]:=by simp [fx]
      have e1:xs[1]?=some xs[1]:=by simp [fx]
      have e2:xs[2]?=some xs[2]:=by simp [fx]
      have e3:xs[3]?=some xs[3]:=by simp [fx]
      rw [e0] at g0;rw [e1] at g1;rw [e2] at g2;rw [e3] at g3
      obtain ⟨k,r0,_⟩:=C0 S.int _ _ _ g0
      obtain ⟨q,r1,_⟩:=C0 S.int _ _ _ g1
      obtain ⟨l,r2,_⟩:=wL S _ _ _ g2
      obtain ⟨pl,r3⟩:=ih.2 _ _ g3
      obtain ⟨_,q0,r0⟩:=fO r0
      obtain ⟨_,q1,r1⟩:=fO r1
      obtain ⟨_,q2,r2⟩:=fO r2
      obtain ⟨_,q3,r3⟩:=fO r3
      simp at q0 q1 q2 q3
      subst q0 q1 q2 q3
      exact ⟨.mk k q l pl,by rw [dA];exact .cons _ _ _ _ r0 (.cons _ _ _ _ r1 (.cons _ _ _ _ r2 (.cons _ _ _ _ r3 .nil)))⟩
   ·rcases DataW.trod_slice O.list h with ⟨rfl,rfl⟩ | ⟨a,len,cap,elems,rest,m,hm,rfl,rfl,hb,hle,cp,R5,jv,_,_⟩
    ·exact ⟨[],.cons _ _ _ _ aW.ag.drop .nil⟩
    cases hm
    rw [O.c4] at jv
    have hex:∀ i,i < len→∃ t:PP,∃ cs',w.cells? base (a.add (i * 4)) 4=some cs'∧aP (eh w) [] cs' (dA t).cells:=by
     intro i hi
     have:=jv i hi
     rw [Oq (by omega)] at this
     obtain ⟨cs',k1,k2⟩:=afh.1 this
     obtain ⟨t,ht⟩:=ih.1 _ _ k2
     exact ⟨t,cs',k1,ht⟩
    have hf:∃ f:Nat→PP,∀ i,i < len→∃ cs',w.cells? base (a.add (i * 4)) 4=some cs'∧aP (eh w) [] cs' (dA (f i)).cells:=by
     refine ⟨fun i=>if hi:i < len then Classical.choose (hex i hi) else default,fun i hi=>?_⟩
     simp only [dif_pos hi]
     exact Classical.choose_spec (hex i hi)
    obtain ⟨f,hf⟩:=hf
    refine ⟨(List.range len).map f,.cons _ _ _ _ ?_ .nil⟩
    show aW (eh w) [] _ (.al 0 (dx ((List.range len).map f)))
    rw [kX,acs]
    refine tW (e:=4) (base:=base) (by decide) hle cp (fun i=>if hi:i < len then Classical.choose (hf i hi) else []) _ fun i hi=>?_
    simp only [dif_pos hi]
    exact Classical.choose_spec (hf i hi)
theorem RS (S:pi P ti ts tis tss top tops tsig) {tp tl:TypeId} (O:WH P ti tis tp tl) {r:Reach} {b0:Nat} {v:Value} {d:DataW H} {ps:List MemPlace} (kC:Value.okWide P w r b0 tp v) (hd:DataW.Trod enc P w base sp held tp v d ps):∃ p:PP,aW (eh w) [] v (dA p):=by
 obtain ⟨f0,f1,f2,f3,hu,_⟩:=O.pp
 obtain ⟨cs,rfl,_⟩:=WideShapes.okWide_struct hu kC
 obtain ⟨fuel,hf⟩:=hd
 obtain ⟨p,h1⟩:=(RR S O fuel).1 _ _ hf
 refine ⟨p,?_⟩
 have:aW (eh w) [] (.agg cs.toList.toArray) (.agg (dA p).cells):=.agg _ _ h1
 rw [(aH p).2.2.2.2.2.2.1] at this
 simpa using this
end
end Go.aK
end
section
set_option maxRecDepth 100000
namespace Go.Proofs.YtljchnfgjdjobaaGreat
open Go
theorem WI:laidOutB Tryz.checked.prog=true:=by kernel_rfl
theorem WJ:mapsRowed Tryz.checked.prog=true:=by kernel_rfl
theorem RT:Tryz.checked.prog.stopsHeard=true:=by kernel_rfl
theorem RU:Tryz.checked.prog.mayEnter=true:=by kernel_rfl
theorem RW:Tryz.checked.prog.liftsFinal=false:=by kernel_rfl
end Go.Proofs.YtljchnfgjdjobaaGreat
end
