/- Part 8 of 17 of the proof. -/
import Derived.Test.YtljchnfgjdjobaaGreatXag
import Derived.Test.YtljchnfgjdjobaaGreatXaf
import Derived.KernelRfl
import Derived.SizedLaws
set_option linter.unusedVariables false
set_option linter.unusedSimpArgs false
set_option linter.defProp false
set_option linter.unusedSectionVars false
noncomputable section
set_option maxRecDepth 100000
namespace Go.aK
open Go Go.Proofs
mutual
def ju (f:Int→T):T→T
 | .mk k n l=>if k=1 then f n else .mk k n (eL f l)
def eL (f:Int→T):List T→List T
 | []=>[]
 | x::r=>ju f x::eL f r
end
theorem fc (f:Int→T):∀ l,eL f l=l.map (ju f)
 | []=>rfl
 | x::r=>by simp [eL,fc f r]
theorem wi (f:Int→T) (x:T):ju f x=if x.k=1 then f x.n else .mk x.k x.n (eL f x.l):=by cases x;simp only [ju,T.k,T.n,T.l];rfl
def nF:List T→AV
 | []=>.ag
 | v::r=>.ak 3 (bk (v::r))
theorem Nh (l:List T) (x:T):bk l++[x.av]=bk (l++[x]):=by simp [nB]
theorem pP (vs:List T) (n:T):AV.ak 3 (bk (vs++[n]))=nF (vs++[n]):=by
 cases vs <;> rfl
theorem xQ (vs:List T):(nF vs).one=true:=by cases vs <;> rfl
theorem xR (k:Nat) (vs:List T):(nF vs).aW k=true:=by
 cases vs with
 | nil=>rfl
 | cons v r=>simp only [nF,bZ,dy]
theorem wm (b:Nat) (vs:List T) (n:T) (o:Nat) (ψ:List AV→Prop):bp 3 b (nF vs) (.ak o [n.av]) ψ=((vs.length + 1) * b≤140737488355328∧ψ (bk (vs++[n]))):=by
 cases vs with
 | nil=>simp [nF,ln,Wl,bk]
 | cons v r=>
   show bp 3 b (.ak 3 (bk (v::r))) _ ψ=_
   rw [kM,Wl,pN,Nh]
   simp
theorem Av (vs:List T):(nF vs).drop=.ak 0 (bk vs):=by cases vs <;> rfl
theorem bD {x:T} (h:x.shaped=true):x.l.length≤8∧∀ y∈x.l,y.shaped=true:=by
 rw [x.bP,zB,abp,acx] at h
 have h1:=h.1.2
 have h2:=h.2
 rw [lz] at h2
 exact ⟨by simpa using h1,fun y hy=>abo.1 h2 y hy⟩
theorem nG (f:Int→T) {l:List T} {i:Nat} (h:i < l.length):eL f (l.take (i + 1))=eL f (l.take i)++[ju f (l.getD i default)]:=by
 rw [fc,fc,ade,acL]
 simp [h]
theorem RN (g:Nat) (cap:List AV) (f:Int→T) (x:T) (cc:cap.map AV.ab=cap) (hb:aj 0 cap=true) (hf:∀ n,Pure Tryz.prog g ([.int .i64 n]++cap) (f n).av) (hs:x.shaped=true) :
 Pure Tryz.prog 176 [x.av,.fn (.func g) [] cap] (ju f x).av:=by
 have ih:∀ y∈x.l,Pure Tryz.prog 176 [y.av,.fn (.func g) [] cap] (ju f y).av:=fun y hy=>RN g cap f y cc hb hf ((bD hs).2 y hy)
 refine fun H=>ZG.2.calls rfl ?_
 simp only [ZG,aH]
 have hl8:=(bD hs).1
 simp +contextual only [cc,sZ,Nat.reduceEqDiff,Nat.reduceAdd,↓reduceIte,reduceCtorEq]
 refine ⟨fun hk=>ae (hf x.n) ?_,fun hk _=>?_⟩
 ·simp +contextual only [sZ,Nat.reduceEqDiff,Nat.reduceAdd,↓reduceIte,reduceCtorEq]
  exact sk (T.bW _ _) (by rw [wi,if_pos hk])
 ·refine aB x.l.length (fun _=>True) (fun i=>[(1,.fn (.func g) [] cap),(4,.ptr H.length 0),(5,.ptr (H.length + 1) 0),(21,.ak 0 (bk x.l)),(22,.int .i64 x.l.length),(23,.int .i64 i)])
   (fun i=>H++[.cells [.int .i64 0,.int .i64 0,.ag],.cells [.int .i64 x.k,.int .i64 x.n,nF (eL f (x.l.take i))]]) ⟨trivial,ax _ _ _⟩ fun i hi hI=>?_
  simp +contextual only [Av,sZ,Nat.reduceEqDiff,Nat.reduceAdd,Nat.reduceLT,↓reduceIte,reduceCtorEq]
  refine ⟨fun aG=>⟨aY aG,?_,?_⟩,fun eW=>?_⟩
  ·have aG:=aY aG
   refine ae (ih _ (bU aG)) ?_
   simp +contextual only [wm,pP,xQ,xR,sZ,Nat.reduceEqDiff,Nat.reduceAdd,Nat.reduceLT,↓reduceIte]
   refine ⟨by rw [fc];simp;omega,i + 1,aG,by omega,aE (by rw [aq i (by omega)]) ?_⟩
   rw [nG f aG]
  ·have aG:=aY aG
   refine ae (ih _ (bU aG)) ?_
   simp +contextual only [wm,pP,xQ,xR,sZ,Nat.reduceEqDiff,Nat.reduceAdd,Nat.reduceLT,↓reduceIte]
   refine ⟨by rw [fc];simp;omega,i + 1,aG,by omega,aE (by rw [aq i (by omega)]) ?_⟩
   rw [nG f aG]
  ·rw [Ue (bN eW)]
   refine sk (by simp only [o6,bJ,eE,bZ,dy,cV,ac0]) ?_
   rw [wi,if_neg hk];rfl
termination_by SizeOf.sizeOf x
decreasing_by exact T.lt hy
def T0:T:=.mk 0 0 []
end Go.aK
end
noncomputable section
set_option maxRecDepth 100000
namespace Go.aK
open Go Go.Proofs
theorem tV (a b:Int):vJ b a=- vJ a b:=by unfold vJ;split <;> split <;> (try split) <;> omega
def RP (a b:Int):Int:=if a≠0 then a else b
theorem Ni (a b:T):a.cmp b=RP (vJ a.k b.k) (RP (vJ a.n b.n) (RP (vJ a.l.length b.l.length) (xL a.l b.l))):=by
 cases a;cases b
 simp only [T.cmp,orL,T.k,T.n,T.l,RP]
 repeat' split
 all_goals first | rfl | simp_all
theorem Aw (x y:T) (r s:List T):xL (x::r) (y::s)=RP (x.cmp y) (xL r s):=by simp only [xL,RP]
theorem wo {a b c d:Int} (h1:a=-c) (h2:b=-d):RP a b=- RP c d:=by unfold RP;repeat' split <;> omega
mutual
theorem T.Nj:∀ a b:T,b.cmp a=- a.cmp b
 | .mk k n l,.mk k' n' l'=>by
   rw [Ni,Ni]
   exact wo (tV _ _) (wo (tV _ _) (wo (tV _ _) (Ax l l')))
theorem Ax:∀ l m:List T,xL m l=- xL l m
 | [],[]=>by simp [xL]
 | [],_::_=>by simp [xL]
 | _::_,[]=>by simp [xL]
 | x::r,y::s=>by rw [Aw,Aw];exact wo (T.Nj x y) (Ax r s)
end
mutual
theorem T.xS:∀ a b:T,a.same b=true↔a=b
 | .mk k n l,.mk k' n' l'=>by
   simp only [T.same,zB,beq_iff_eq,T.mk.injEq,Ay l l',and_assoc]
theorem Ay:∀ l m:List T,gY l m=true↔l=m
 | [],[]=>by simp [gY]
 | [],_::_=>by simp [gY]
 | _::_,[]=>by simp [gY]
 | x::r,y::s=>by simp only [gY,zB,T.xS x y,Ay r s,List.cons.injEq]
end
end Go.aK
end
noncomputable section
set_option maxRecDepth 100000
namespace Go.aK
open Go Go.RowKit
mutual
def T.wf:T→Prop
 | .mk k n l=>(-9223372036854775808≤k∧k≤9223372036854775807)∧(-9223372036854775808≤n∧n≤9223372036854775807)∧l.length≤9223372036854775807∧XT l
def XT:List T→Prop
 | []=>True
 | x::r=>x.wf∧XT r
end
theorem IC:∀ l:List T,XT l↔∀ x∈l,x.wf
 | []=>by simp [XT]
 | x::r=>by simp [XT,IC r]
section
variable {H:Type} {enc:TypeId×Value→H} {P:Program} {w:World} {base:Nat} {sp:Nat→Bool} {held:Bool}
structure lT (P:Program) (ti tt tl:TypeId):Prop where
 int:P.underlying ti=some (.int .i64)
 tree:∃ f0 f1 f2:Field,P.underlying tt=some (.struct #[f0,f1,f2])∧f0.type=ti∧f0.offset=0∧f1.type=ti∧f1.offset=1∧f2.type=tl∧f2.offset=2
 list:P.underlying tl=some (.slice tt)
 c1:P.cellsOf ti=1
 c3:P.cellsOf tt=3
 cl:P.cellsOf tl=1
theorem Nk {n:Int} (h:(Lit.int .i64 n).wf=true):-9223372036854775808≤n∧n≤9223372036854775807:=by
 simp only [Lit.wf,zB,decide_eq_true_eq] at h
 revert h
 simp [IntKind.min,IntKind.max,IntKind.signed,IntKind.bits]
theorem He {n:Nat} {p:Nat→T→Prop} (h:∀ i,i < n→∃ t,p i t):∃ f:Nat→T,∀ i,i < n→p i (f i):=by
 refine ⟨fun i=>if hi:i < n then Classical.choose (h i hi) else default,fun i hi=>?_⟩
 simp only [dif_pos hi]
 exact Classical.choose_spec (h i hi)
def isT (w:World) (cs:List Value) (t:T):Prop:=aM (dK w) [] cs t.av.cells∧t.wf
def Wr (w:World) (cs:List Value) (l:List T):Prop:=(∃ v,cs=[v]∧(∃ y,aX (dK w) [] v y∧(y=.ak 0 (bk l)∨(y=.ag∧l=[]))))∧l.length≤9223372036854775807∧XT l
theorem Wr.rep {cs:List Value} {l:List T} (h:Wr w cs l):∃ v,cs=[v]∧aX (dK w) [] v (.ak 0 (bk l)):=by
 obtain ⟨⟨v,rfl,y,hr,hy⟩,_⟩:=h
 refine ⟨v,rfl,?_⟩
 rcases hy with rfl | ⟨rfl,rfl⟩
 ·exact hr
 ·exact hr.drop
def TC (d:DataW H) (l:List T):Prop:=match d with | .slice es _=>l.length=es.length | _=>l=[]
theorem Az {ti tt tl:TypeId} (hT:lT P ti tt tl):∀ (fuel:Nat),
 (∀ (cs:List Value) (x:DataW H×List MemPlace),DataW.trod enc P w base sp held fuel tt cs=some x→∃ t:T,isT w cs t)∧
 (∀ (cs:List Value) (x:DataW H×List MemPlace),DataW.trod enc P w base sp held fuel tl cs=some x→∃ l:List T,Wr w cs l∧TC x.1 l):=by
 intro fuel
 induction fuel with
 | zero=>exact ⟨fun cs x h=>by simp [DataW.trod] at h,fun cs x h=>by simp [DataW.trod] at h⟩
 | succ n ih=>
   refine ⟨fun cs x h=>?_,fun cs x h=>?_⟩
   ·obtain ⟨f0,f1,f2,hu,h0,o0,h1,o1,h2,o2⟩:=hT.tree
    obtain ⟨xs,m,hm,rfl,hlen,eK,hf⟩:=DataW.trod_struct hu h
    cases hm
    have g0:=hf 0 f0 rfl
    have g1:=hf 1 f1 rfl
    have g2:=hf 2 f2 rfl
    rw [h0,o0,hT.c1] at g0
    rw [h1,o1,hT.c1] at g1
    rw [h2,o2,hT.cl] at g2
    simp at eK
    rw [hT.c3] at hlen
    match cs,hlen with
    | [a,b,c],_=>
      have e0:xs[0]?=some xs[0]:=by simp [eK]
      have e1:xs[1]?=some xs[1]:=by simp [eK]
      have e2:xs[2]?=some xs[2]:=by simp [eK]
      rw [e0] at g0;rw [e1] at g1;rw [e2] at g2
      obtain ⟨k,ek,_,wk⟩:=DataW.trod_int hT.int g0
      obtain ⟨q,eq,_,wq⟩:=DataW.trod_int hT.int g1
      obtain ⟨l,hl,_⟩:=ih.2 _ _ g2
      obtain ⟨v,ev,hv⟩:=hl.rep
      simp at ek eq ev
      subst ek eq ev
      exact ⟨.mk k q l,.cons _ _ _ _ (.int _ _) (.cons _ _ _ _ (.int _ _) (.cons _ _ _ _ hv .nil)),Nk wk,Nk wq,hl.2.1,hl.2.2⟩
   ·rcases DataW.trod_slice hT.list h with ⟨rfl,rfl⟩ | ⟨a,len,cap,elems,rest,m,hm,rfl,rfl,hb,hle,cc,XF,kw,_,_⟩
    ·exact ⟨[],⟨⟨_,rfl,.ag,.ag,.inr ⟨rfl,rfl⟩⟩,by simp,trivial⟩,rfl⟩
    cases hm
    rw [hT.c3] at kw
    have hex:∀ i,i < len→∃ t:T,∃ cs',w.cells? base (a.add (i * 3)) 3=some cs'∧isT w cs' t:=by
     intro i hi
     have:=kw i hi
     rw [aaf (by omega)] at this
     obtain ⟨cs',k1,k2⟩:=Option.bind_eq_some_iff.1 this
     obtain ⟨t,ht⟩:=ih.1 _ _ k2
     exact ⟨t,cs',k1,ht⟩
    obtain ⟨f,hf⟩:=He hex
    have XE:maxLen=9223372036854775807:=rfl
    refine ⟨(List.range len).map f,⟨⟨_,rfl,_,?_,.inl rfl⟩,by simp;omega,?_⟩,by simp [TC,XF]⟩
    ·rw [nB,ada]
     refine Am (e:=3) (base:=base) (by decide) hle cc (fun i=>if hi:i < len then Classical.choose (hf i hi) else []) _ fun i hi=>?_
     simp only [dif_pos hi]
     obtain ⟨k1,k2⟩:=Classical.choose_spec (hf i hi)
     exact ⟨k1,k2.1⟩
    ·rw [IC]
     intro x hx
     obtain ⟨i,hi,rfl⟩:=aaR.1 hx
     obtain ⟨cs',_,k2⟩:=hf i (acz.1 hi)
     exact k2.2
theorem Ws {ti tt tl:TypeId} (hT:lT P ti tt tl) {r:Reach} {b0:Nat} {v:Value} {d:DataW H} {ps:List MemPlace} (kX:Value.okWide P w r b0 tt v) (hd:DataW.Trod enc P w base sp held tt v d ps) :
 ∃ t:T,aX (dK w) [] v t.av∧t.wf:=by
 obtain ⟨f0,f1,f2,hu,_⟩:=hT.tree
 obtain ⟨cs,rfl,_⟩:=WideShapes.okWide_struct hu kX
 obtain ⟨fuel,hf⟩:=hd
 obtain ⟨t,h1,h2⟩:=(Az hT fuel).1 _ _ hf
 refine ⟨t,?_,h2⟩
 have:aX (dK w) [] (.agg cs.toList.toArray) (.agg t.av.cells):=.agg _ _ h1
 rw [t.km] at this
 simpa using this
end
end Go.aK
end
section
end
noncomputable section
set_option maxRecDepth 100000
namespace Go.aK
open Go Go.Proofs
mutual
def T.fv:T→List Int
 | .mk k n l=>if k=1 then n::vh l else vh l
def vh:List T→List Int
 | []=>[]
 | x::r=>x.fv++vh r
end
mutual
theorem Kw:∀ (x:T) (vs:List Int) (v:Int),v∈lA x vs↔v∈vs∨v∈x.fv
 | .mk k n l,vs,v=>by
   simp only [lA,T.fv]
   rw [xT l _ v]
   by_cases hk:k=1
   ·by_cases hn:n∈vs
    ·simp only [hk,hn,not_true_eq_false,and_false,if_false,if_true,OU]
     constructor
     ·rintro (h | h)
      ·exact .inl h
      ·exact .inr (.inr h)
     ·rintro (h | h | h)
      ·exact .inl h
      ·subst h;exact .inl hn
      ·exact .inr h
    ·simp only [hk,hn,not_false_eq_true,and_self,if_true,ab7,OU,abO,or_false,or_assoc]
   ·simp only [hk,false_and,if_false]
theorem xT:∀ (l:List T) (vs:List Int) (v:Int),v∈dz l vs↔v∈vs∨v∈vh l
 | [],vs,v=>by simp [dz,vh]
 | x::r,vs,v=>by
   simp only [dz,vh,ab7]
   rw [xT r _ v,Kw x vs v,or_assoc]
end
mutual
theorem mv:∀ (x:T),x.shaped=true→∀ v∈x.fv,0≤v
 | .mk k n l,h,v,hv=>by
   rw [T.bP] at h
   simp only [T.k,T.n,T.l,zB,abp,acx] at h
   simp only [T.fv] at hv
   split at hv
   ·rcases OU.1 hv with rfl | hv
    ·have h9:=h.1.1.1.1
     exact Int.not_lt.1 (of_decide_eq_false h9)
    ·exact qT l h.2 v hv
   ·exact qT l h.2 v hv
theorem qT:∀ (l:List T),cC l=true→∀ v∈vh l,0≤v
 | [],_,v,hv=>by cases hv
 | x::r,h,v,hv=>by
   simp only [cC,zB] at h
   simp only [vh,ab7] at hv
   rcases hv with hv | hv
   ·exact mv x h.1 v hv
   ·exact qT r h.2 v hv
end
theorem xU {k n:Int} {l:List T} (h:(T.mk k n l).shaped=true) (hk:k=1):l=[]:=by
 rw [T.bP] at h
 simp only [T.k,T.n,T.l,zB,abp,acx,acS] at h
 cases l with
 | nil=>rfl
 | cons x r=>
   rcases h.1.1.1.2 with h2 | h2
   ·simp [hk] at h2
   ·simp at h2
theorem qU {k n:Int} {l:List T} (h:(T.mk k n l).shaped=true):cC l=true:=by
 rw [T.bP,zB] at h
 exact h.2
def ren (g:Int→Int) (t:T):T:=ju (fun n=>.mk 1 (g n) []) t
mutual
theorem ID {f g:Int→T}:∀ (x:T),(∀ v∈x.fv,f v=g v)→ju f x=ju g x
 | .mk k n l,h=>by
   simp only [ju]
   simp only [T.fv] at h
   by_cases hk:k=1
   ·rw [if_pos hk,if_pos hk]
    rw [if_pos hk] at h
    exact h n (by simp)
   ·rw [if_neg hk,if_neg hk]
    rw [if_neg hk] at h
    rw [EA l h]
theorem EA {f g:Int→T}:∀ (l:List T),(∀ v∈vh l,f v=g v)→eL f l=eL g l
 | [],_=>rfl
 | x::r,h=>by
   simp only [vh,ab7] at h
   simp only [eL]
   rw [ID x (fun v hv=>h v (.inl hv)),EA r (fun v hv=>h v (.inr hv))]
end
mutual
theorem Hf:∀ (x:T),x.shaped=true→ren (fun n=>n) x=x
 | .mk k n l,h=>by
   simp only [ren,ju]
   by_cases hk:k=1
   ·rw [if_pos hk,xU h hk,hk]
   ·rw [if_neg hk,IE l (qU h)]
theorem IE:∀ (l:List T),cC l=true→eL (fun n=>.mk 1 n []) l=l
 | [],_=>rfl
 | x::r,h=>by
   simp only [cC,zB] at h
   simp only [eL]
   have h1:=Hf x h.1
   unfold ren at h1
   rw [h1,IE r h.2]
end
end Go.aK
end
noncomputable section
set_option maxRecDepth 100000
namespace Go.aK
open Go Go.Proofs
def vi (t:T):Int×Int:=if t.sz≤2000∧t.dp≤200 then (t.sz,t.dp) else (2001,201)
theorem aeh (t:T):(¬ fe (gS t 1 (0,0))↔t.sz≤2000∧t.dp≤200)∧(¬ fe (gS t 1 (0,0))→gS t 1 (0,0)=(t.sz,t.dp)):=by
 have h:=tS t 1 (0,0) (by unfold qp;simp)
 have hd:=t.tR
 refine ⟨h.1.trans ⟨fun k=>⟨by omega,by omega⟩,fun k=>⟨by simp only;omega,by omega⟩⟩,fun k=>?_⟩
 have:=h.2 k
 exact Prod.ext (by simpa using this.1) (by have:=this.2;simp only at this ⊢;omega)
theorem aei (t:T):Pure Tryz.prog 122 [t.av] (.tuple [.int .i64 (vi t).1,.int .i64 (vi t).2]):=by
 refine fun H=>Zd.2.calls rfl ?_
 simp only [Zd,aH]
 simp +contextual only [sZ,Nat.reduceEqDiff,Nat.reduceAdd,↓reduceIte,reduceCtorEq]
 refine af (Wp H t 1 (0,0) (by unfold qp;simp)) ?_
 rintro r H' ⟨rfl,rfl⟩
 simp +contextual only [sZ,Nat.reduceEqDiff,Nat.reduceAdd,↓reduceIte]
 refine af (Z9 H (gS t 1 (0,0))) ?_
 rintro r H' ⟨rfl,rfl⟩
 have h0:=aeh t
 cases hb:vf (gS t 1 (0,0)) with
 | true=>
   have hn:¬ (t.sz≤2000∧t.dp≤200):=fun h=>h0.1.2 h ((tT _).1 hb)
   simp +contextual only [fh,sZ,Nat.reduceEqDiff,↓reduceIte,reduceCtorEq]
   exact u0 (by decide) rfl rfl (by rw [vi,if_neg hn];rfl) (by rw [vi,if_neg hn];rfl)
 | false=>
   have hn:¬ fe (gS t 1 (0,0)):=fun h=>by rw [(tT _).2 h] at hb;cases hb
   have h1:=h0.1.1 hn
   rw [h0.2 hn]
   simp +contextual only [fh,sZ,Nat.reduceEqDiff,Nat.reduceAdd,Nat.reduceLT,↓reduceIte,reduceCtorEq]
   exact u0 (by decide) rfl rfl (by rw [vi,if_pos h1];rfl) (by rw [vi,if_pos h1];rfl)
theorem aej (a b:List Int) (o o':Nat):Pure Tryz.prog 198 [.ak o (ints a),.ak o' (ints b)] (.bool (decide (a=b))):=by
 refine fun H=>ZO.2.calls rfl ?_
 simp only [ZO,aH]
 simp +contextual only [sZ,Nat.reduceEqDiff,Nat.reduceAdd,↓reduceIte,reduceCtorEq]
 refine fun _ _=>⟨fun eS=>aS rfl ?_,fun hl=>?_⟩
 ·rw [decide_eq_false]
  intro h;subst h;exact eS rfl
 have hl:a.length=b.length:=by omega
 refine aB a.length (fun i=>decide (a.drop i=b.drop i)=decide (a=b)) (fun i=>[(0,.ak o (ints a)),(1,.ak o' (ints b)),(5,.int .i64 i)]) (fun i=>H) ⟨rfl,ax _ _ _⟩ fun i hi hI=>?_
 simp +contextual only [sZ,Nat.reduceEqDiff,↓reduceIte,reduceCtorEq]
 intro _
 refine ⟨fun aG=>⟨aY aG,?_⟩,fun eW=>?_⟩
 ·have aG:=aY aG
  have sq:i < b.length:=by omega
  rw [aba aG,aba sq] at hI
  have e1:a.getD i 0=a[i]:=by simp [aG]
  have e2:b.getD i 0=b[i]:=by simp [sq]
  rw [e1,e2]
  refine ⟨sq,fun eS=>aS rfl ?_,fun he=>⟨i + 1,⟨aG,?_⟩,by omega,aE (by rw [aq i (by omega)]) rfl⟩⟩
  ·rw [← hI,decide_eq_false]
   intro h;exact eS (List.cons.inj h).1
  ·rw [← hI,he]
   exact decide_eq_decide.2 (by rw [List.cons.injEq];simp only [true_and])
 ·have eW:=bN eW
  rw [aa9 eW,aa9 (by omega)] at hI
  exact aS rfl (by rw [← hI];rfl)
theorem aag (l:List T):kO l=if fM l=true then dz l [] else []:=by
 unfold kO
 split
 ·rename_i h
  rw [xP l []]
  rw [lz,abo]
  intro x hx
  exact ((T.bg x).1 (abo.1 h x hx)).2.2
 ·rfl
theorem aah (l:List T) (hl:jR l≤1000000):Pure Tryz.prog 219 [.ak 0 (bk l)] (.ak 0 (ints (kO l))):=by
 refine fun H=>Rz.2.calls rfl ?_
 simp only [Rz,aH]
 simp +contextual only [sZ,Nat.reduceAdd,↓reduceIte,reduceCtorEq]
 refine ae (RK l) ?_
 cases hb:fM l with
 | false=>
   simp +contextual only [acv,sZ,↓reduceIte,reduceCtorEq,Int.reduceEq]
   exact YT (by rw [kO,hb];exact .inr (.inr (.inr (.inl ⟨rfl,0,rfl⟩)))) (by simp only [bZ,aT])
 | true=>
   simp +contextual only [sZ,Nat.reduceAdd,↓reduceIte,reduceCtorEq]
   refine ae (aee l hl) ?_
   simp +contextual only [sZ,↓reduceIte,reduceCtorEq]
   exact aS (by simp only [bZ,aT]) (by rw [aag,if_pos hb])
mutual
def TD:T→Int
 | .mk k n l=>max (if k=1 then n else -1) (nH l)
def nH:List T→Int
 | []=>-1
 | x::r=>max (TD x) (nH r)
end
theorem EB {l:List T} {i:Nat} (h:i < l.length):nH (l.drop i)=max (TD (l.getD i default)) (nH (l.drop (i + 1))):=by
 rw [aba h]
 simp [nH,h]
theorem Cg:∀ l:List T,-1≤nH l
 | []=>by simp [nH]
 | x::r=>by simp only [nH];have:=Cg r;omega
theorem Wt (l:List T):Pure Tryz.prog 109 [.ak 0 (bk l)] (.int .i64 (nH l)):=by
 have ih:∀ y∈l,Pure Tryz.prog 109 [.ak 0 (bk y.l)] (.int .i64 (nH y.l)):=fun y hy=>Wt y.l
 refine fun H=>Y5.2.calls rfl ?_
 simp only [Y5,aH]
 simp +contextual only [sZ,Nat.reduceEqDiff,Nat.reduceAdd,↓reduceIte,reduceCtorEq]
 intro _
 have h0:=Cg l
 refine aD l.length (fun i (s:Int)=>-1≤s∧max s (nH (l.drop i))=nH l)
  (fun i s=>[(3,.int .i64 s),(6,.ak 0 (bk l)),(7,.int .i64 l.length),(8,.int .i64 i)]) (fun i s=>H) (-1) ⟨⟨by omega,by rw [List.drop_zero];omega⟩,ax _ _ _⟩ fun i s hi hI=>?_
 obtain ⟨k1,hI⟩:=hI
 simp +contextual only [sZ,Nat.reduceEqDiff,Nat.reduceAdd,↓reduceIte,reduceCtorEq]
 refine ⟨fun aG=>⟨aY aG,fun hk=>?_,fun hk=>?_⟩,fun eW=>?_⟩
 ·have aG:=aY aG
  rw [EB aG] at hI
  have e:TD (l.getD i default)=max (if (l.getD i default).k=1 then (l.getD i default).n else -1) (nH (l.getD i default).l):=by cases l.getD i default;simp only [TD,T.k,T.n,T.l];rfl
  rw [if_pos hk] at e
  refine ae (ih _ (bU aG)) ?_
  simp +contextual only [sZ,Nat.reduceEqDiff,↓reduceIte]
  exact ⟨i + 1,max (max s (l.getD i default).n) (nH (l.getD i default).l),⟨aG,by omega,by omega⟩,by omega,aE (by rw [aq i (by omega)]) rfl⟩
 ·have aG:=aY aG
  rw [EB aG] at hI
  have e:TD (l.getD i default)=max (if (l.getD i default).k=1 then (l.getD i default).n else -1) (nH (l.getD i default).l):=by cases l.getD i default;simp only [TD,T.k,T.n,T.l];rfl
  rw [if_neg hk] at e
  refine ae (ih _ (bU aG)) ?_
  simp +contextual only [sZ,Nat.reduceEqDiff,↓reduceIte]
  exact ⟨i + 1,max s (nH (l.getD i default).l),⟨aG,by omega,by omega⟩,by omega,aE (by rw [aq i (by omega)]) rfl⟩
 ·rw [aa9 (bN eW)] at hI
  simp only [nH] at hI
  exact aS rfl (by congr 1;omega)
termination_by SizeOf.sizeOf l
decreasing_by
 have h1:=List.sizeOf_lt_of_mem hy
 have h2:SizeOf.sizeOf y.l < SizeOf.sizeOf y:=by cases y;simp only [T.l,T.mk.sizeOf_spec];omega
 omega
theorem Ch (l:List T):sV 3 (bk l)=True:=by
 simp only [sV,eq_iff_iff,iff_true]
 intro y hy
 rw [nB] at hy
 obtain ⟨z,_,rfl⟩:=aaR.1 hy
 exact ⟨z.ca,z.nC⟩
end Go.aK
end
noncomputable section
set_option maxRecDepth 100000
namespace Go.aK
open Go Go.Proofs
theorem aai (n:Int):Pure Tryz.prog 177 [.int .i64 n] (T.mk 1 n []).av:=by
 refine fun H=>ZH.2.calls rfl ?_
 simp only [ZH,aH]
 simp +contextual only [sZ,Nat.reduceEqDiff,Nat.reduceAdd,↓reduceIte,reduceCtorEq]
 exact sk (T.bW _ (.mk 1 n [])) rfl
theorem RQ (t:T) (h:t.shaped=true):Pure Tryz.prog 120 [t.av] t.av:=by
 refine fun H=>Zc.2.calls rfl ?_
 simp only [Zc,aH]
 simp +contextual only [sZ,Nat.reduceEqDiff,Nat.reduceAdd,↓reduceIte]
 refine ae (RN 177 [] (fun n=>.mk 1 n []) t rfl rfl (fun n=>aai n) h) ?_
 have e:ju (fun n=>.mk 1 n []) t=t:=Hf t h
 rw [e]
 simp +contextual only [sZ,Nat.reduceEqDiff,Nat.reduceAdd,↓reduceIte,reduceCtorEq]
 exact sk (T.bW _ t) rfl
def lU (t:T):T×Int:=if t.tree=true then (t,0) else (T0,2)
theorem aaj (t:T):Pure Tryz.prog 124 [t.av] (.tuple [(lU t).1.av,.int .i64 (lU t).2]):=by
 refine fun H=>Zf.2.calls rfl ?_
 simp only [Zf,aH]
 simp +contextual only [sZ,Nat.reduceEqDiff,Nat.reduceAdd,↓reduceIte]
 refine ae (Ku t) ?_
 cases h:t.tree with
 | true=>
   simp +contextual only [sZ,Nat.reduceEqDiff,Nat.reduceAdd,↓reduceIte,reduceCtorEq]
   exact xG (T.bW _ _) rfl (by rw [lU,if_pos h];exact t.fL) (by rw [lU,if_pos h];rfl)
 | false=>
   simp +contextual only [sZ,Nat.reduceEqDiff,Nat.reduceAdd,↓reduceIte,reduceCtorEq]
   exact xG (T.bW _ _) rfl (by rw [lU,if_neg (by rw [h];simp)];rfl) (by rw [lU,if_neg (by rw [h];simp)];rfl)
def sub (l:List T) (t:T):T:=ju (fun n=>l.getD n.toNat default) t
def kP (l:List T) (ts:List T):List T:=eL (fun n=>l.getD n.toNat default) ts
theorem sub_eq (l:List T) (t:T):sub l t=if t.k=1 then l.getD t.n.toNat default else .mk t.k t.n (kP l t.l):=wi _ t
theorem RR {l:List T} {t:T} (h:t.k≠1):(sub l t).sz=1 + jR (kP l t.l):=by rw [sub_eq,if_neg h];simp only [T.sz]
def TE (l:List T) (left:Int):aa:=.cells [.ak 0 (bk l),gT (l.map T.sz),.int .i64 left]
def TF (S:Int→List aa) (o:T) (left:Int) (r:AV) (H':List aa):Prop:=
 (o.sz≤left∧r=.tuple [o.av,.bool true]∧H'=S (left - o.sz))∨(left < o.sz∧r=.tuple [T0.av,.bool false]∧∃ left',H'=S left')
theorem Nl (e:Nat) (l:List Int) (i:Nat) (hi:i < l.length) (k:IntKind) (φ:AV→Prop):aA e (gT l).ab (.int k (i:Int)) φ=φ (.ah (.int .i64 (l.getD i 0))):=by
 cases l with
 | nil=>simp at hi
 | cons v r=>
   show aA e (.ak 0 (ints (v::r))) _ φ=_
   rw [xK]
   simp only [hi,true_and]
theorem Kx (l:List Int):(∀ (own:Nat) (xs:List AV),(gT l).ab=AV.ak own xs→∀ z∈xs,z.cells.length=1)=True:=by
 simp only [eq_iff_iff,iff_true]
 intro own xs e z hz
 cases l with
 | nil=>cases e
 | cons v r=>
   have e':AV.ak 0 (ints (v::r))=AV.ak own xs:=e
   cases e'
   obtain ⟨y,_,rfl⟩:=aaR.1 hz
   rfl
theorem wu:∀ (a b:List T),jR (a++b)=jR a + jR b
 | [],b=>by simp [jR]
 | x::r,b=>by rw [List.cons_append];simp only [jR];rw [wu r b];omega
theorem IF {t:T} {i:Nat} {v:Int} (hk:¬ t.k=1) (h:i < t.l.length) (hv:v∈(t.l.getD i default).fv):v∈t.fv:=by
 have e:t.fv=vh t.l:=by cases t;simp only [T.k] at hk;simp only [T.fv,if_neg hk,T.l]
 rw [e]
 have:∀ (l:List T) (i:Nat),i < l.length→v∈(l.getD i default).fv→v∈vh l:=by
  intro l
  induction l with
  | nil=>intro i h;cases h
  | cons x r ih=>
    intro i h hv
    simp only [vh,ab7]
    cases i with
    | zero=>exact .inl (by simpa using hv)
    | succ j=>exact .inr (ih j (by simpa using h) (by simpa using hv))
 exact this _ _ h hv
theorem aak {S:Int→List aa} {p n:Nat} (l:List T) (F:FN S p (TE l) n) (t:T) (left:Int) (ht:t.shaped=true) (hl:fM l=true) (hv:∀ v∈t.fv,v < (l.length:Int)) (h0:0≤left) (h1:left≤2000) :
 aw Tryz.prog 123 [.ptr p 0,t.av] (S left) (TF S (sub l t) left):=by
 have hkids:=bD ht
 have ih:∀ y∈t.l,∀ (e:List aa) (left:Int),(∀ v∈y.fv,v < (l.length:Int))→0≤left→left≤2000→aw Tryz.prog 123 [.ptr p 0,y.av] (S left++e) (TF (fun s=>S s++e) (sub l y) left):=
  fun y hy e left hv h0 h1=>aak l (F.sl e) y left (hkids.2 y hy) hl hv h0 h1
 have fg:∀ s,(S s)[p]?=some (.cells [.ak 0 (bk l),gT (l.map T.sz),.int .i64 s]):=F.get
 have fg':∀ s e,(S s++e)[p]?=some (.cells [.ak 0 (bk l),gT (l.map T.sz),.int .i64 s]):=F.get'
 have fs:∀ s s' ,(S s).set p (.cells [.ak 0 (bk l),gT (l.map T.sz),.int .i64 s'])=S s':=F.set
 have fs':∀ s s' e,(S s++e).set p (.cells [.ak 0 (bk l),gT (l.map T.sz),.int .i64 s'])=S s'++e:=F.We
 have hp:=F.lt left
 refine Ze.2.calls rfl ?_
 rw [F.len]
 simp only [Ze,aH]
 have w1:IntKind.i64.wrap (left - 1)=left - 1:=cZ _ (by omega)
 by_cases hk:t.k=1
 ·have hn:t.n∈t.fv:=by cases t;simp only [T.k] at hk;simp [T.fv,T.n,hk]
  have LB:=mv t ht _ hn
  have Z8:=hv _ hn
  have hnn:t.n=((t.n.toNat:Nat):Int):=by omega
  have aG:t.n.toNat < l.length:=by omega
  generalize t.n.toNat=m at *
  have hm:l.getD m default∈l:=bU aG
  have htm:(l.getD m default).tree=true:=abo.1 hl _ hm
  have hti:=(T.bg _).1 htm
  have Wu:=(l.getD m default).tQ
  have eo:sub l t=l.getD m default:=by rw [sub_eq,if_pos hk,hnn];rfl
  rw [eo]
  have em:(l.map T.sz).getD m 0=(l.getD m default).sz:=by simp [aG]
  have w2:IntKind.i64.wrap (left - (l.getD m default).sz)=left - (l.getD m default).sz:=cZ _ (by omega)
  have oi:=fun k φ=>Nl 1 (l.map T.sz) m (by simpa using aG) k φ
  simp +contextual only [hk,hnn,fg',fs',F.len,F.MY,F.MZ,oi,em,w2,sZ,Nat.reduceEqDiff,Nat.reduceAdd,Nat.reduceLT,↓reduceIte,reduceCtorEq]
  refine ⟨of_eq_true (Kx _),fun aek=>?_,fun eW=>⟨aG,aF (RQ _ hti.2.2) ?_⟩⟩
  ·exact jX (F.take _ _) (T.bW _ T0) rfl rfl rfl (.inr ⟨by omega,rfl,_,rfl⟩)
  ·simp +contextual only [F.MY,F.MZ,sZ,Nat.reduceEqDiff,Nat.reduceAdd,↓reduceIte,reduceCtorEq]
   exact jX (F.take _ _) (T.bW _ _) rfl (T.fL _) rfl (.inl ⟨by omega,rfl,rfl⟩)
 ·simp +contextual only [hk,fg',fs',F.len,F.MY,F.MZ,F.Wf,F.YV,w1,sZ,Nat.reduceEqDiff,Nat.reduceAdd,Nat.reduceLT,↓reduceIte,reduceCtorEq]
  have eo:(sub l t).sz=1 + jR (kP l t.l):=RR hk
  refine ⟨fun aek=>?_,fun eW _=>?_⟩
  ·exact jX (F.take _ _) (T.bW _ T0) rfl rfl rfl (.inr ⟨by have:=fY (kP l t.l);omega,rfl,_,rfl⟩)
  ·refine aD t.l.length (fun i (s:Int)=>0≤s∧s=left - 1 - jR (kP l (t.l.take i)))
    (fun i s=>[(0,.ptr p 0),(4,.ptr n 0),(6,.ptr (n + 1) 0),(63,.ak 0 (bk t.l)),(64,.int .i64 t.l.length),(65,.int .i64 i)])
    (fun i s=>S s++[.cells [.int .i64 0,.int .i64 0,.ag],.cells [.int .i64 t.k,.int .i64 t.n,nF (kP l (t.l.take i))]]) (left - 1) ⟨⟨by omega,by simp [kP,eL,jR]⟩,ax _ _ _⟩ fun i s hi hI=>?_
   obtain ⟨k1,hI⟩:=hI
   simp +contextual only [F.MY,F.MZ,F.Wf,Av,sZ,Nat.reduceEqDiff,Nat.reduceAdd,↓reduceIte,reduceCtorEq]
   refine ⟨fun aG=>⟨aY aG,?_⟩,fun eW=>?_⟩
   ·have aG:=aY aG
    refine af (ih _ (bU aG) _ s (fun v Ky=>hv v (IF hk aG Ky)) k1 (by have:=fY (kP l (t.l.take i));omega)) ?_
    have et:kP l (t.l.take (i + 1))=kP l (t.l.take i)++[sub l (t.l.getD i default)]:=nG _ aG
    rintro r H' (⟨h1,rfl,rfl⟩ | ⟨h1,rfl,left',rfl⟩)
    ·simp +contextual only [F.Wf,F.YV,wm,pP,xQ,xR,sZ,Nat.reduceEqDiff,Nat.reduceAdd,Nat.reduceLT,↓reduceIte,reduceCtorEq]
     refine ⟨by rw [kP,fc];simp;omega,i + 1,_,⟨aG,?_,?_⟩,by omega,aE (by rw [aq i (by omega)]) (by rw [et])⟩
     ·omega
     ·rw [et,wu];simp only [jR];omega
    ·simp +contextual only [F.MY,F.MZ,sZ,Nat.reduceEqDiff,Nat.reduceAdd,Nat.reduceLT,↓reduceIte,reduceCtorEq]
     have e2:kP l t.l=kP l (t.l.take (i + 1))++kP l (t.l.drop (i + 1)):=by
      simp only [kP,fc];rw [← acL,adE]
     have e903:jR (kP l t.l)=jR (kP l (t.l.take i)) + (sub l (t.l.getD i default)).sz + jR (kP l (t.l.drop (i + 1))):=by
      rw [e2,wu,et,wu];simp only [jR];omega
     have:=fY (kP l (t.l.drop (i + 1)))
     exact jX (F.take _ _) (T.bW _ T0) rfl rfl rfl (.inr ⟨by omega,rfl,_,rfl⟩)
   ·rw [Ue (bN eW)] at hI ⊢
    have es:s=left - (sub l t).sz:=by omega
    exact jX (x:=(sub l t).av) (F.take _ _) (T.bW _ _) rfl (by rw [sub_eq l t,if_neg hk];rfl) rfl (.inl ⟨by omega,rfl,by rw [es]⟩)
termination_by SizeOf.sizeOf t
decreasing_by exact T.lt hy
end Go.aK
end
noncomputable section
set_option maxRecDepth 100000
namespace Go.aK
open Go Go.Proofs
mutual
theorem Wv (m:Int) (hm:0≤m):∀ (x:T),(TD x < m↔∀ v∈x.fv,v < m)
 | .mk k n l=>by
   have h:=Ci m hm l
   simp only [TD,T.fv]
   by_cases hk:k=1
   ·rw [if_pos hk,if_pos hk]
    constructor
    ·intro h2 v hv
     rcases OU.1 hv with rfl | hv
     ·omega
     ·exact h.1 (by omega) v hv
    ·intro h2
     have:=h2 n (by simp)
     have:=h.2 fun v hv=>h2 v (aa6 _ hv)
     omega
   ·rw [if_neg hk,if_neg hk,← h]
    omega
theorem Ci (m:Int) (hm:0≤m):∀ (l:List T),(nH l < m↔∀ v∈vh l,v < m)
 | []=>by simp only [nH,vh];simp;omega
 | x::r=>by
   simp only [nH,vh,ab7]
   have h1:=Wv m hm x
   have h2:=Ci m hm r
   constructor
   ·intro h v hv
    rcases hv with hv | hv
    ·exact h1.1 (by omega) v hv
    ·exact h2.1 (by omega) v hv
   ·intro h
    have:=h1.2 fun v hv=>h v (.inl hv)
    have:=h2.2 fun v hv=>h v (.inr hv)
    omega
end
def fj (t:T) (l:List T):T×Int:=
 if t.tree=true∧fM l=true then if nH [t] < l.length then if (sub l t).tree=true then (sub l t,0) else (T0,2) else (T0,1) else (T0,4)
theorem ael (a b c:AV) (x y:AV) (φ:AV→Prop) (hb:c.ab=c):cE [a,b,c] [(0,1,x),(2,1,y)] φ=(x.val=true∧x.cells.length=1∧y.val=true∧y.cells.length=1∧φ (.agg (ai (ai [a,b,c] 0 (x.cells.map AV.ab)) 2 (y.cells.map AV.ab)))):=by
 simp only [cE,iu,eq_iff_iff]
 constructor
 ·rintro ⟨h1,h2,h3,h4,h5,h6,h7⟩;exact ⟨h1,h2,h4,h5,h7⟩
 ·rintro ⟨h1,h2,h4,h5,h7⟩
  have e1:(x.cells.map AV.ab).length=1:=by simpa using h2
  refine ⟨h1,h2,by simp,h4,h5,?_,h7⟩
  simp [ai,h2]
theorem c60 (t:T) (l:List T) (hl:l.length * 40≤140737488355328):Pure Tryz.prog 60 [t.av,.ak 0 (bk l)] (.tuple [(fj t l).1.av,.int .i64 (fj t l).2]):=by
 refine fun H=>k60.2.calls rfl ?_
 simp only [k60,aH]
 simp +contextual only [sZ,Nat.reduceEqDiff,Nat.reduceAdd,↓reduceIte,reduceCtorEq]
 refine ae (Ku t) ?_
 cases ht:t.tree with
 | false=>
   have e:fj t l=(T0,4):=by rw [fj,if_neg (by rw [ht];simp)]
   rw [e]
   simp +contextual only [sZ,Nat.reduceEqDiff,Nat.reduceAdd,↓reduceIte,reduceCtorEq]
   exact xG (T.bW _ T0) rfl rfl rfl
 | true=>
   simp +contextual only [sZ,Nat.reduceEqDiff,Nat.reduceAdd,↓reduceIte]
   refine ae (RK l) ?_
   cases hb:fM l with
   | false=>
     have e:fj t l=(T0,4):=by rw [fj,if_neg (by rw [hb];simp)]
     rw [e]
     simp +contextual only [acv,sZ,Nat.reduceEqDiff,Nat.reduceAdd,↓reduceIte,reduceCtorEq,Int.reduceEq]
     exact xG (T.bW _ T0) rfl rfl rfl
   | true=>
     have K7:t.tree=true∧fM l=true:=⟨ht,hb⟩
     have hti:=(T.bg _).1 ht
     simp +contextual only [sZ,Nat.reduceEqDiff,Nat.reduceAdd,↓reduceIte]
     refine ae (Wt [t]) ?_
     simp +contextual only [ael,sZ,Nat.reduceEqDiff,Nat.reduceAdd,↓reduceIte,reduceCtorEq]
     refine fun _=>⟨fun eW=>?_,fun aG=>?_⟩
     ·have e:fj t l=(T0,1):=by rw [fj,if_pos K7,if_neg (by omega)]
      rw [e]
      exact xG (T.bW _ T0) rfl rfl rfl
     have e:fj t l=if (sub l t).tree=true then (sub l t,0) else (T0,2):=by rw [fj,if_pos K7,if_pos aG]
     rw [e]
     have hv:=(Ci l.length (by omega) [t]).1 aG
     simp only [vh,acA] at hv
     refine aB l.length (fun _=>True) (fun i=>[(2,.ah t.av),(4,.ptr H.length 0),(6,.ptr (H.length + 1) 0),(32,.ak 0 (bk l)),(33,.int .i64 l.length),(34,.int .i64 i)])
      (fun i=>H++[.cells [.int .i64 0,.int .i64 0,.ag],.cells [.ak 0 (bk l),gT ((l.take i).map T.sz),.int .i64 2000]]) ⟨trivial,ax _ _ _⟩ fun i hi hI=>?_
     simp +contextual only [sZ,Nat.reduceEqDiff,Nat.reduceAdd,↓reduceIte,reduceCtorEq]
     refine ⟨fun aG=>⟨aY aG,?_⟩,fun eW=>?_⟩
     ·have aG:=aY aG
      have htr:=(T.bg _).1 (abo.1 hb _ (bU aG))
      have es:(vi (l.getD i default)).1=(l.getD i default).sz:=by rw [vi,if_pos ⟨htr.1,htr.2.1⟩]
      have et:(l.take (i + 1)).map T.sz=(l.take i).map T.sz++[(l.getD i default).sz]:=by
       rw [ade,acL];simp [aG]
      refine ae (aei _) ?_
      simp +contextual only [es,qS,jd,Ew,Ey,sZ,Nat.reduceEqDiff,Nat.reduceAdd,Nat.reduceLT,↓reduceIte]
      refine ⟨by simp;omega,i + 1,aG,by omega,aE (by rw [aq i (by omega)]) (by rw [et])⟩
     ·rw [Ue (bN eW)]
      refine af (aak l (FN.mk2 H (TE l) (.cells [.int .i64 0,.int .i64 0,.ag]) []) t 2000 hti.2.2 hb hv (by omega) (by omega)) ?_
      rintro r H' (⟨h1,rfl,rfl⟩ | ⟨h1,rfl,left',rfl⟩)
      ·simp +contextual only [sZ,Nat.reduceEqDiff,Nat.reduceAdd,Nat.reduceLT,↓reduceIte]
       refine ae (aaj _) ?_
       simp +contextual only [sZ,Nat.reduceEqDiff,Nat.reduceAdd,Nat.reduceLT,↓reduceIte,reduceCtorEq]
       exact xG (T.bW _ _) rfl (T.fL _) rfl
      ·simp +contextual only [sZ,Nat.reduceEqDiff,Nat.reduceAdd,Nat.reduceLT,↓reduceIte,reduceCtorEq]
       have e2:¬ (sub l t).tree=true:=fun h=>by have:=((T.bg _).1 h).1;omega
       rw [if_neg e2]
       exact xG (T.bW _ T0) rfl rfl rfl
end Go.aK
end
noncomputable section
set_option maxRecDepth 100000
namespace Go.aK
open Go Go.Proofs
theorem IG (x y:T):ai x.av.cells 0 y.av.cells=y.av.cells:=by
 cases x;cases y;simp [T.av,AV.cells,ai]
def hZ (l:List T):aa:=.cells (flat (bk l))
theorem cz (x:T) (l:List T):flat (bk (x::l))=x.av.cells++flat (bk l):=rfl
theorem kQ:∀ l:List T,(flat (bk l)).length=l.length * 3
 | []=>rfl
 | x::r=>by rw [cz,aaz,T.ca,kQ r,List.length_cons];omega
theorem vj (x:T):∀ (l:List T) (i:Nat),i < l.length→ai (flat (bk l)) (i * 3) x.av.cells=flat (bk (l.set i x))
 | [],i,h=>by simp at h
 | y::r,0,_=>by
   unfold ai
   simp only [af0,cz,afL,List.take_zero,List.nil_append,acC]
   rw [show x.av.cells.length=y.av.cells.length by rw [T.ca,T.ca],aeG]
 | y::r,i + 1,h=>by
   have ih:=vj x r i (by simpa using h)
   unfold ai at ih ⊢
   rw [agD,cz,cz,← ih]
   rw [show (i + 1) * 3=y.av.cells.length + i * 3 by rw [T.ca];omega,aeU,ac8]
   simp only [T.ca]
   rw [abb]
   congr 1
   ·rw [Ue (by rw [T.ca];omega)]
   ·rw [show 3 + i * 3 - 3=i * 3 by omega,aa9 (by rw [T.ca];omega),List.nil_append,show 3 + i * 3 + 3 - 3=i * 3 + 3 by omega]
theorem Hg {l:List T} {i:Nat} (h:i < l.length) (x:T) (id:Nat) (H:List aa) (K:List aa→Prop):gR (some (hZ l)) 3 id (i * 3) x.av H K=K (H.set id (hZ (l.set i x))):=by
 simp only [hZ,gR,T.tM,T.ca,kQ,T.nC,T.lq,vj x l i h,RI,true_and,eq_iff_iff]
 constructor
 ·exact fun h=>h.2
 ·exact fun h2=>⟨by omega,h2⟩
theorem wv (id N c i:Nat) (k:IntKind) (φ:AV→Prop):aA 3 (.ba id 0 N c) (.int k (i:Int)) φ=(i < N∧φ (.ptr id (i * 3))):=by
 simp only [aA,aad,acC,eq_iff_iff]
 constructor
 ·rintro ⟨_,h⟩;exact h
 ·exact fun h=>⟨by omega,h⟩
theorem nI (id N c o:Nat):(AV.ba id o N c).ab=.ba id o N c:=rfl
theorem EC (n:Nat):flat (List.replicate n (bV (.agg [.int .i64 0,.int .i64 0,.ag])))=flat (bk (List.replicate n T0)):=by
 induction n with
 | zero=>rfl
 | succ n ih=>rw [afk,afk,cz,← ih];rfl
theorem Nm {α:Type} [Inhabited α] {l:List α} {i:Nat} (h:i < l.length):l.set i (l.getD i default)=l:=by
 apply aeZ
 ·simp
 ·intro j h1 h2
  rw [List.getElem_set]
  split
  ·rename_i e;subst e;simp [h]
  ·rfl
theorem aal (x:T):x.av.cells.getD 2 .any=.ak 0 (bk x.l):=by cases x;rfl
def keeps (l l':List T):Prop:=∀ i,(l.getD i default).k≠0→l'.getD i default=l.getD i default
theorem keeps.trans {a b c:List T} (h1:keeps a b) (h2:keeps b c):keeps a c:=fun i h=>by
 rw [h2 i (by rw [h1 i h];exact h),h1 i h]
theorem AA:∀ (l:List T),(flat (bk l)).all AV.one=true
 | []=>rfl
 | x::r=>by rw [cz,agx,T.nC,AA r];rfl
theorem iD (a b:List T):flat (bk (a++b))=flat (bk a)++flat (bk b):=by
 induction a with
 | nil=>rfl
 | cons x r ih=>rw [List.cons_append,cz,cz,ih,abb]
theorem cM:∀ (l:List T),(flat (bk l)).map AV.ab=flat (bk l)
 | []=>rfl
 | x::r=>by rw [cz,acL,T.lq,cM r]
theorem dR (n:Nat):∀ (l:List T),aj n (flat (bk l))=true
 | []=>rfl
 | x::r=>by rw [cz,a8,RI,dR n r];exact ⟨rfl,rfl⟩
theorem ji:∀ (l:List T) (n:Nat),(flat (bk l)).take (n * 3)=flat (bk (l.take n))
 | [],n=>by simp [flat,bk]
 | x::r,0=>by simp [flat,bk]
 | x::r,n + 1=>by
   rw [List.take_succ_cons,cz,cz,← ji r n,show (n + 1) * 3=x.av.cells.length + n * 3 by rw [T.ca];omega,List.take_length_add_append]
theorem qq:∀ (l:List T) (n:Nat),(flat (bk l)).drop (n * 3)=flat (bk (l.drop n))
 | [],n=>by simp [flat,bk]
 | x::r,0=>by simp
 | x::r,n + 1=>by
   rw [List.drop_succ_cons,cz,← qq r n,show (n + 1) * 3=x.av.cells.length + n * 3 by rw [T.ca];omega,List.drop_length_add_append]
def RL (base:Nat) (v:AV) (l:List T) (G:List aa):Prop:=
 (l=[]∧v=.ag)∨∃ id l',base≤id∧v=.ba id 0 l.length l'.length∧G[id]?=some (hZ l')∧l.length≤l'.length∧l'.take l.length=l
theorem RL.one {base:Nat} {v:AV} {l:List T} {G:List aa} (h:RL base v l G):v.one=true∧v.val=true∧v.ab=v∧v.cells=[v]:=by
 rcases h with ⟨_,rfl⟩ | ⟨id,l',_,rfl,_⟩ <;> exact ⟨rfl,rfl,rfl,rfl⟩
theorem RL.aW {base:Nat} {v:AV} {l:List T} {G:List aa} (h:RL base v l G) {n:Nat} (hn:G.length≤n):v.aW n=true:=by
 rcases h with ⟨_,rfl⟩ | ⟨id,l',_,rfl,c,_⟩
 ·rfl
 ·have:=(aaH.1 c).1
  rw [fJ];simp;omega
theorem Cj (n:Nat):dl (.agg [.int .i64 0,.int .i64 0,.ag]) n=flat (bk (List.replicate n T0)):=EC n
theorem Nn {base:Nat} {v:AV} {l:List T} {G:List aa} (h:RL base v l G) (o:Nat) (ys:List T) (hy:ys≠[]) (hb:(l.length + ys.length) * 40≤140737488355328) (hG:base≤G.length) {K:AV→List aa→Prop}
 (hK:∀ v' G',RL base v' (l++ys) G'→(∀ j,j < base→G'[j]?=G[j]?)→G'.take base=G.take base→G.length≤G'.length→K v' G'):ch 3 40 (.agg [.int .i64 0,.int .i64 0,.ag]) v (.ak o (bk ys)) G K:=by
 have jo:sV 3 (bk ys):=of_eq_true (Ch ys)
 have hlen:(bk ys).length=ys.length:=pN ys
 unfold ch
 simp only [dG]
 refine ⟨jo,?_⟩
 rcases h with ⟨rfl,rfl⟩ | ⟨id,l',bu,rfl,hg,hle,RS⟩
 ·simp only [hlen]
  refine ⟨by simpa using hb,fun e=>?_,fun _ cap hc _=>⟨?_,hK _ _ (.inr ⟨G.length,ys++List.replicate (cap - ys.length) T0,hG,?_,?_,by simp,by simp⟩) ?_ ?_ (by simp)⟩⟩
  ·exfalso
   apply hy
   cases ys with
   | nil=>rfl
   | cons a b=>simp [bk] at e
  ·rw [cM,Cj,a8,dR,dR];exact ⟨rfl,rfl⟩
  ·simp;omega
  ·rw [cM,Cj,← iD];simp [hZ]
  ·intro j hj
   rw [zA (by omega)]
  ·rw [abc hG]
 ·simp only [hg,hZ,hlen,kQ,acC,List.drop_zero]
  have vS:=(aaH.1 hg).1
  refine ⟨hb,hle,sU _,fun hroom=>⟨?_,?_⟩,fun kB gA hc _=>⟨?_,?_⟩⟩
  ·rw [cM,dR]
  ·have e1:ai (flat (bk l')) (l.length * 3) ((flat (bk ys)).map AV.ab)=flat (bk (l'.take l.length++ys++l'.drop (l.length + ys.length))):=by
    rw [cM,ai,ji,kQ,show l.length * 3 + ys.length * 3=(l.length + ys.length) * 3 by omega,qq,iD,iD,abb]
   rw [e1]
   have el:(l'.take l.length++ys++l'.drop (l.length + ys.length)).length=l'.length:=by simp;omega
   refine hK _ _ (.inr ⟨id,_,bu,?_,by rw [zD vS];rfl,?_,?_⟩) ?_ ?_ (by simp)
   ·rw [el];simp
   ·rw [el];simp;omega
   ·rw [RS,abc (by simp)];exact Ue (by simp)
   ·intro j hj
    rw [zC (by omega)]
   ·rw [acu (by omega)]
  ·rw [cM,Cj,ji,RS,cM,a8,a8,dR,dR,dR];exact ⟨⟨rfl,rfl⟩,rfl⟩
  ·refine hK _ _ (.inr ⟨G.length,l++ys++List.replicate (gA - (l.length + ys.length)) T0,hG,?_,?_,by simp,by rw [abc (by simp)];exact Ue (by simp)⟩) ?_ ?_ (by simp)
   ·simp;omega
   ·rw [cM,Cj,ji,RS,cM,← iD,← iD];simp [hZ]
   ·intro j hj
    rw [zA (by omega)]
   ·rw [abc hG]
end Go.aK
end
noncomputable section
set_option maxRecDepth 100000
namespace Go.aK
open Go Go.Proofs
def oB:T→List Int→Option T
 | t,[]=>some t
 | t,i::r=>if i < 0∨(t.l.length:Int)≤i then none else oB (t.l.getD i.toNat default) r
theorem xV {t:T} {p:List Int} {i:Nat} (h:i < p.length):oB t (p.drop i)=if p.getD i 0 < 0∨(t.l.length:Int)≤p.getD i 0 then none else oB (t.l.getD (p.getD i 0).toNat default) (p.drop (i + 1)):=by
 rw [aba h,oB]
 have e:p.getD i 0=p[i]:=by simp [h]
 rw [e]
theorem aam (t:T) (p:List Int):Pure Tryz.prog 119 [t.av,.ak 0 (ints p)] (.tuple [((oB t p).getD T0).av,.bool (oB t p).isSome]):=by
 refine fun H=>Zb.2.calls rfl ?_
 simp only [Zb,aH]
 simp +contextual only [sZ,Nat.reduceEqDiff,Nat.reduceAdd,↓reduceIte,reduceCtorEq]
 intro hp
 refine aD p.length (fun i (s:T)=>oB s (p.drop i)=oB t p)
  (fun i s=>[(2,.ptr H.length 0),(4,.ptr (H.length + 1) 0),(8,.ak 0 (ints p)),(9,.int .i64 p.length),(10,.int .i64 i)]) (fun i s=>H++[.cells s.av.cells,.cells [.int .i64 0,.int .i64 0,.ag]]) t ⟨rfl,ax _ _ _⟩ fun i s hi hI=>?_
 simp +contextual only [aal,sZ,Nat.reduceEqDiff,Nat.reduceAdd,Nat.reduceLT,↓reduceIte,reduceCtorEq]
 refine ⟨fun aG=>⟨aY aG,fun FH _=>⟨fun AB=>?_,fun AB=>?_⟩,fun FH=>?_⟩,fun eW=>?_⟩
 ·have aG:=aY aG
  rw [xV aG,if_pos (.inr AB)] at hI
  rw [← hI]
  exact jX (G:=H) (by simp) (T.bW _ T0) rfl rfl rfl ⟨rfl,rfl⟩
 ·have aG:=aY aG
  rw [xV aG,if_neg (by omega)] at hI
  generalize p.getD i 0=k at *
  obtain ⟨m,rfl⟩:=acW FH
  have hm:m < s.l.length:=by omega
  rw [aad] at hI
  simp +contextual only [IG,sZ,Nat.reduceEqDiff,Nat.reduceAdd,↓reduceIte]
  refine ⟨hm,i + 1,s.l.getD m default,⟨aG,hI⟩,by omega,aE (by rw [aq i (by omega)]) rfl⟩
 ·have aG:=aY aG
  rw [xV aG,if_pos (.inl (by omega))] at hI
  rw [← hI]
  exact jX (G:=H) (by simp) (T.bW _ T0) rfl rfl rfl ⟨rfl,rfl⟩
 ·rw [aa9 (bN eW)] at hI
  simp only [oB] at hI
  rw [← hI]
  exact jX (G:=H) (by simp) (T.bW _ s) rfl (T.fL _) rfl ⟨rfl,rfl⟩
def Ww (t:T) (p:List Int):T×Int:=if t.tree=true then (match oB t p with | some x=>(x,0) | none=>(T0,41)) else (T0,4)
theorem xW:∀ (p:List Int) {t x:T},t.shaped=true→oB t p=some x→x.shaped=true
 | [],t,x,h,e=>by simp only [oB] at e;cases e;exact h
 | i::r,t,x,h,e=>by
   simp only [oB] at e
   split at e
   ·cases e
   ·exact xW r ((bD h).2 _ (bU (by omega))) e
theorem c57 (t:T) (p:List Int):Pure Tryz.prog 57 [t.av,.ak 0 (ints p)] (.tuple [(Ww t p).1.av,.int .i64 (Ww t p).2]):=by
 refine fun H=>k57.2.calls rfl ?_
 simp only [k57,aH]
 simp +contextual only [sZ,Nat.reduceEqDiff,Nat.reduceAdd,↓reduceIte,reduceCtorEq]
 refine ae (Ku t) ?_
 cases ht:t.tree with
 | false=>
   have e:Ww t p=(T0,4):=by rw [Ww,if_neg (by rw [ht];simp)]
   rw [e]
   simp +contextual only [sZ,Nat.reduceEqDiff,Nat.reduceAdd,↓reduceIte,reduceCtorEq]
   exact jX (G:=H) (by simp) (T.bW _ T0) rfl rfl rfl ⟨rfl,rfl⟩
 | true=>
   have hs:=((T.bg t).1 ht).2.2
   simp +contextual only [sZ,Nat.reduceEqDiff,Nat.reduceAdd,↓reduceIte]
   refine ae (aam t p) ?_
   have e:Ww t p=(match oB t p with | some x=>(x,0) | none=>(T0,41)):=by rw [Ww,if_pos ht]
   have hx:=fun x=>@xW p t x hs
   cases ha:oB t p with
   | none=>
     rw [ha] at e
     rw [e]
     simp +contextual only [Option.isSome,Option.getD,sZ,Nat.reduceEqDiff,Nat.reduceAdd,Nat.reduceLT,↓reduceIte,reduceCtorEq]
     exact jX (G:=H) (by simp) (T.bW _ T0) rfl rfl rfl ⟨rfl,rfl⟩
   | some x=>
     rw [ha] at e
     rw [e]
     simp +contextual only [Option.isSome,Option.getD,sZ,Nat.reduceEqDiff,Nat.reduceAdd,Nat.reduceLT,↓reduceIte]
     refine ae (RQ x (hx x ha)) ?_
     simp +contextual only [sZ,Nat.reduceEqDiff,Nat.reduceAdd,↓reduceIte,reduceCtorEq]
     exact jX (G:=H) (by simp) (T.bW _ x) rfl (T.fL _) rfl ⟨rfl,rfl⟩
end Go.aK
end
noncomputable section
set_option maxRecDepth 100000
namespace Go.aK
open Go Go.Proofs
def RD (base:Nat) (v:AV) (l:List T) (G:List aa):Prop:=
 (l=[]∧v=.ak 0 [])∨∃ id l',base≤id∧v=.ba id 0 l.length l'.length∧G[id]?=some (hZ l')∧l.length≤l'.length∧l'.take l.length=l
theorem RL.drop {base:Nat} {v:AV} {l:List T} {G:List aa} (h:RL base v l G):RD base v.drop l G:=by
 rcases h with ⟨h,rfl⟩ | ⟨id,l',a,rfl,c⟩
 ·exact .inl ⟨h,rfl⟩
 ·exact .inr ⟨id,l',a,rfl,c⟩
theorem RD.one {base:Nat} {v:AV} {l:List T} {G:List aa} (h:RD base v l G):v.one=true∧v.ab=v∧v.drop=v∧v.val=true:=by
 rcases h with ⟨_,rfl⟩ | ⟨id,l',_,rfl,_⟩ <;> exact ⟨rfl,rfl,rfl,rfl⟩
theorem RD.aW {base:Nat} {v:AV} {l:List T} {G:List aa} (h:RD base v l G) {n:Nat} (hn:G.length≤n):v.aW n=true:=by
 rcases h with ⟨_,rfl⟩ | ⟨id,l',_,rfl,c,_⟩
 ·rfl
 ·have:=(aaH.1 c).1
  rw [fJ];simp;omega
theorem RD.set {base:Nat} {v:AV} {l:List T} {G:List aa} (h:RD base v l G) {j:Nat} (hj:j < base) (o:aa):RD base v l (G.set j o):=by
 rcases h with h | ⟨id,l',a,b,c,d⟩
 ·exact .inl h
 ·exact .inr ⟨id,l',a,b,by rw [zC (by omega)];exact c,d⟩
theorem RL.set {base:Nat} {v:AV} {l:List T} {G:List aa} (h:RL base v l G) {j:Nat} (hj:j < base) (o:aa):RL base v l (G.set j o):=by
 rcases h with h | ⟨id,l',a,b,c,d⟩
 ·exact .inl h
 ·exact .inr ⟨id,l',a,b,by rw [zC (by omega)];exact c,d⟩
theorem RL.drop_one {base:Nat} {v:AV} {l:List T} {G:List aa} (h:RL base v l G):v.drop.one=true∧v.drop.ab=v.drop∧v.drop.drop=v.drop∧v.drop.val=true:=h.drop.one
theorem No (l:List T):(hZ l).aW 0=true:=by simp [hZ,aa.aW,dR]
def Np (H:List aa) (k n:Int) (l:List T) (r:AV) (H':List aa):Prop:=
 ∃ v,r=.agg [.int .i64 k,.int .i64 n,v]∧RD H.length v l H'∧H'.take H.length=H
theorem ED {H G:List aa} {k n:Int} {l:List T} {v:AV} (h:RD H.length v l G) (hG:G.take H.length=H):tL (lh H.length) H.length (.agg [.int .i64 k,.int .i64 n,v]) G (Np H k n l):=by
 rcases h with ⟨rfl,rfl⟩ | ⟨id,l',a,rfl,c,d⟩
 ·exact ⟨H.length,H,sU _,An hG rfl,_,le_refl _,by simp [o6,bJ,cV,eE,bZ],_,rfl,.inl ⟨rfl,rfl⟩,aby⟩
 ·have hl:=(aaH.1 c).1
  refine ⟨G.length,only H.length id G,by omega,Hb c (No l'),_,le_refl _,?_,_,rfl,.inr ⟨id,l',a,rfl,by rw [Kq];exact c,d⟩,by rw [Kp (sU _)];exact hG⟩
  simp only [o6,bJ,cV,eE,fJ]
  simp [hl]
theorem aan (g:Nat) (cap:List AV) (f:Int→T) (x:T) (cc:cap.map AV.ab=cap) (hb:aj 0 cap=true) (hf:∀ n,Pure Tryz.prog g ([.int .i64 n]++cap) (f n).av) (hs:x.shaped=true) (hk:x.k≠1) (H:List aa) :
 aw Tryz.prog 176 [x.av,.fn (.func g) [] cap] H (Np H x.k x.n (eL f x.l)):=by
 refine Tz.2.xE rfl ?_
 simp only [Tz,aH]
 have hl8:=(bD hs).1
 simp +contextual only [hk,sZ,Nat.reduceEqDiff,Nat.reduceAdd,↓reduceIte,reduceCtorEq]
 intro _
 refine ke x.l.length (fun i (p:AV×List aa)=>RL (H.length + 2) p.1 (eL f (x.l.take i)) p.2∧p.2[H.length]?=some (.cells [.int .i64 0,.int .i64 0,.ag])∧p.2[H.length + 1]?=some (.cells [.int .i64 x.k,.int .i64 x.n,p.1])∧p.2.take H.length=H)
  (fun i p=>[(1,.fn (.func g) [] cap),(4,.ptr H.length 0),(5,.ptr (H.length + 1) 0),(21,.ak 0 (bk x.l)),(22,.int .i64 x.l.length),(23,.int .i64 i)])
  (fun i p=>p.2) (.ag,H++[.cells [.int .i64 0,.int .i64 0,.ag],.cells [.int .i64 x.k,.int .i64 x.n,.ag]]) ⟨⟨.inl ⟨rfl,rfl⟩,by simp,by simp,by simp⟩,ms _ _ _⟩ fun i p hi hI=>?_
 obtain ⟨v,G⟩:=p
 obtain ⟨hR,g0,g1,hG⟩:=hI
 simp only at hR g0 g1 hG
 have hlG:=(aaH.1 g1).1
 have ho:=hR.one
 have hd:=hR.drop_one
 simp +contextual only [kN,g0,g1,ho.2.2.1,hd.1,hd.2.1,sZ,Nat.reduceEqDiff,Nat.reduceAdd,Nat.reduceLT,↓reduceIte,reduceCtorEq]
 have hlen:(eL f (x.l.take i)).length=i:=by rw [fc];simp;omega
 have step:∀ (aG:i < x.l.length) {K:AV→List aa→Prop},(∀ v' G',RL (H.length + 2) v' (eL f (x.l.take (i + 1))) G'→G'[H.length]?=some (.cells [.int .i64 0,.int .i64 0,.ag])→G'[H.length + 1]?=some (.cells [.int .i64 x.k,.int .i64 x.n,v])→G'.take H.length=H→
  v'.one=true→v'.val=true→v'.ab=v'→v'.cells=[v']→v'.aW G'.length=true→K v' G')→ch 3 40 (.agg [.int .i64 0,.int .i64 0,.ag]) v (.ak 0 [(ju f (x.l.getD i default)).av]) G K:=by
  intro aG K hK
  have ea:[(ju f (x.l.getD i default)).av]=bk [ju f (x.l.getD i default)]:=rfl
  rw [ea]
  refine Nn hR 0 [ju f (x.l.getD i default)] (by simp) (by rw [hlen];simp;omega) (by omega) fun v' G' qt hj ht hl=>?_
  rw [← nG f aG] at qt
  have K9:=qt.one
  refine hK v' G' qt ((hj _ (by omega)).trans g0) ((hj _ (by omega)).trans g1) ?_ K9.1 K9.2.1 K9.2.2.1 K9.2.2.2 (qt.aW (sU _))
  have e:G'.take H.length=(G'.take (H.length + 2)).take H.length:=by rw [aeH];congr 1;omega
  rw [e,ht,aeH,Nat.min_eq_left (by omega),hG]
 have fin:∀ (aG:i < x.l.length) {v':AV} {G':List aa},RL (H.length + 2) v' (eL f (x.l.take (i + 1))) G'→G'[H.length]?=some (.cells [.int .i64 0,.int .i64 0,.ag])→G'[H.length + 1]?=some (.cells [.int .i64 x.k,.int .i64 x.n,v])→G'.take H.length=H→
  RL (H.length + 2) v' (eL f (x.l.take (i + 1))) (G'.set (H.length + 1) (.cells [.int .i64 x.k,.int .i64 x.n,v']))∧(G'.set (H.length + 1) (.cells [.int .i64 x.k,.int .i64 x.n,v']))[H.length]?=some (.cells [.int .i64 0,.int .i64 0,.ag])∧
  (G'.set (H.length + 1) (.cells [.int .i64 x.k,.int .i64 x.n,v']))[H.length + 1]?=some (.cells [.int .i64 x.k,.int .i64 x.n,v'])∧(G'.set (H.length + 1) (.cells [.int .i64 x.k,.int .i64 x.n,v'])).take H.length=H:=by
  intro aG v' G' qt h0 h1 dS
  have xb:=(aaH.1 h1).1
  refine ⟨qt.set (by omega) _,?_,?_,?_⟩
  ·rw [zC (by omega)];exact h0
  ·rw [zD xb]
  ·rw [acu (by omega)];exact dS
 refine ⟨fun aG=>⟨aY aG,?_,?_⟩,fun eW=>?_⟩
 ·have aG:=aY aG
  refine ae (RN g cap f _ cc hb hf ((bD hs).2 _ (bU aG))) ?_
  simp +contextual only [sZ,Nat.reduceEqDiff,↓reduceIte]
  refine step aG fun v' G' qt g0' g1' dS o1 o2 o3 o4 dZ=>?_
  simp +contextual only [kN,g1',o1,o2,o3,o4,sZ,Nat.reduceEqDiff,Nat.reduceAdd,↓reduceIte]
  exact ⟨by omega,dZ,i + 1,(v',_),⟨aG,fin aG qt g0' g1' dS⟩,by omega,sm (by rw [aq i (by omega)]) rfl⟩
 ·have aG:=aY aG
  refine ae (RN g cap f _ cc hb hf ((bD hs).2 _ (bU aG))) ?_
  simp +contextual only [g1,ho.2.2.1,sZ,Nat.reduceEqDiff,Nat.reduceAdd,Nat.reduceLT,↓reduceIte]
  refine step aG fun v' G' qt g0' g1' dS o1 o2 o3 o4 dZ=>?_
  simp +contextual only [kN,g1',o1,o2,o3,o4,sZ,Nat.reduceEqDiff,Nat.reduceAdd,↓reduceIte]
  exact ⟨by omega,dZ,i + 1,(v',_),⟨aG,fin aG qt g0' g1' dS⟩,by omega,sm (by rw [aq i (by omega)]) rfl⟩
 ·have mV:i=x.l.length:=by have:=bN eW;omega
  rw [mV,aby] at hR
  have yQ:=(aaH.1 g0).1
  refine ⟨hR.drop.aW (sU _),?_⟩
  rw [zD yQ]
  simp +contextual only [hd.2.2.1,sZ]
  refine ED ?_ (by rw [acu (sU _)];exact hG)
  have h2:=hR.drop.set (j:=H.length) (by omega) (.cells [.int .i64 x.k,.int .i64 x.n,v.drop])
  rcases h2 with h2 | ⟨id,l',a,h2⟩
  ·exact .inl h2
  ·exact .inr ⟨id,l',by omega,h2⟩
theorem aao (x:T) (hs:x.shaped=true) (hk:x.k≠1) (H:List aa):aw Tryz.prog 120 [x.av] H (Np H x.k x.n x.l):=by
 refine Tx.2.xE rfl ?_
 simp only [Tx,aH]
 have hc:=aan 177 [] (fun n=>.mk 1 n []) x rfl rfl (fun n=>aai n) hs hk (H++[.cells [.int .i64 0,.int .i64 0,.ag]])
 have e:eL (fun n=>.mk 1 n []) x.l=x.l:=by
  have:ju (fun n=>.mk 1 n []) x=x:=Hf x hs
  rw [wi,if_neg hk] at this
  cases x with
  | mk k n l=>
    simp at this
    exact this.2.2
 rw [e] at hc
 simp +contextual only [sZ,Nat.reduceEqDiff,Nat.reduceAdd,↓reduceIte]
 refine af hc ?_
 rintro r G ⟨v,rfl,hR,hG⟩
 have ho:=hR.one
 have hb:=hR.aW (sU _)
 have hGl:(H++[aa.cells [.int .i64 0,.int .i64 0,.ag]]).length=H.length + 1:=by simp
 rw [hGl] at hR hG
 have yQ:H.length + 1≤G.length:=by
  have:=congrArg List.length hG
  simp at this
  omega
 have g0:G[H.length]?=some (.cells [.int .i64 0,.int .i64 0,.ag]):=by
  have:(G.take (H.length + 1))[H.length]?=G[H.length]?:=by rw [aa7,if_pos (by omega)]
  rw [← this,hG];simp
 have dS:G.take H.length=H:=by
  have:G.take H.length=(G.take (H.length + 1)).take H.length:=by rw [aeH];congr 1;omega
  rw [this,hG];simp
 simp +contextual only [kN,g0,ho.1,ho.2.1,sZ,Nat.reduceEqDiff,Nat.reduceAdd,↓reduceIte,reduceCtorEq]
 refine ⟨hb,?_⟩
 rw [zD (by omega)]
 simp +contextual only [ho.2.2.1,sZ]
 refine ED ?_ (by rw [acu (sU _)];exact dS)
 rcases hR.set (j:=H.length) (by omega) (.cells [.int .i64 x.k,.int .i64 x.n,v]) with h2 | ⟨id,l',a,h2⟩
 ·exact .inl h2
 ·exact .inr ⟨id,l',by omega,h2⟩
theorem Nq {t:T} (h:t.shaped=true) (hk:t.k=1):t.l=[]:=by
 rw [T.bP] at h
 simp only [zB,abp,acx,decide_eq_false_iff_not,acS] at h
 have:¬ 0 < t.l.length:=by
  have:=h.1.1.1.2
  rcases this with h | h
  ·exact absurd hk h
  ·exact h
 exact acy.1 (by omega)
theorem TG (e o:Nat) (l:List Int) (k:IntKind) (φ:AV→Prop):aA e (.ak o (ints l)) (.int k 0) φ=(0 < l.length∧φ (.ah (.int .i64 (l.getD 0 0)))):=xK e o l k 0 φ
theorem aap (x:Int) (r:List Int) (φ:AV→Prop):bo 1 (.ak 0 (ints (x::r))) (some (.int .i64 1)) none none φ=φ (.ak 0 (ints r)):=by
 have er:dG (AV.ak 0 (ints (x::r)))=some (ints (x::r)):=rfl
 have e1:(1:Int).toNat=1:=rfl
 have e2:((ints (x::r)).take (ints (x::r)).length).drop 1=ints r:=by rw [aby];rfl
 simp only [bo,ff,er,dV,e1,e2,eq_iff_iff]
 constructor
 ·intro h;exact h.2.2.2.2
 ·intro h
  refine ⟨fun own xs he z hz=>?_,by omega,by simp [au],sU _,h⟩
  cases he
  obtain ⟨y,_,rfl⟩:=aaR.1 hz
  rfl
theorem RT (id N c o:Nat) (H:List aa) (φ:AV→Prop):aU none (.ah (.ba id o N c)) H φ=φ (.ba id o N c):=by simp [aU,AV.one,AV.ab]
theorem RU (id N c o:Nat):(AV.ba id o N c).one=true:=rfl
theorem aaq (k n:Int) (id c N o:Nat) (φ:AV→Prop):al 2 none (.ah (.agg [.int .i64 k,.int .i64 n,.ba id o N c])) φ=φ (.ah (.ba id o N c)):=by simp [al,apart,AV.cells,AV.one]
theorem aar (a b c:AV) (H:List aa) (φ:AV→Prop):aU (some 3) (.ah (.agg [a,b,c])) H φ=φ (.agg [a,b,c]):=by simp [aU,AV.cells]
def jS:T→List Int→T→T
 | _,[],u=>u
 | t,i::r,u=>.mk t.k t.n (t.l.set i.toNat (jS (t.l.getD i.toNat default) r u))
theorem EE {id:Nat} {l l':List T} {H:List aa} (h:H[id]?=some (hZ l')) (hl:l.length≤l'.length) (lY:l'.take l.length=l) (K:AV→List aa→Prop):dx 3 (.ba id 0 l.length l'.length) H K=K (.ak 0 (bk l)) (H.set id .dead):=by
 have hc:∀ (n:Nat) (l':List T),n≤l'.length→chunks 3 n (flat (bk l'))=bk (l'.take n):=by
  intro n
  induction n with
  | zero=>intro l' _;rfl
  | succ n ih=>
    intro l' h
    cases l' with
    | nil=>simp at h
    | cons x r=>
      rw [cz,chunks,if_neg (by decide),List.take_succ_cons,bk]
      rw [show List.take 3 (x.av.cells++flat (bk r))=x.av.cells by rw [abc (by rw [T.ca];omega),Ue (by rw [T.ca];omega)]]
      rw [show List.drop 3 (x.av.cells++flat (bk r))=flat (bk r) by
       have:=aeG (l₁:=x.av.cells) (l₂:=flat (bk r));rwa [T.ca] at this]
      rw [T.lq,T.km,ih r (by simpa using h)]
 simp only [dx,h,hZ,List.drop_zero,hc _ _ hl,lY,kQ,AA,eq_iff_iff]
 constructor
 ·exact fun k=>k.2.2.2.2
 ·exact fun k=>⟨by omega,hl,by omega,trivial,k⟩
theorem aem:∀ (p:List Int) (t u:T),t.shaped=true→u.shaped=true→(oB t p).isSome=true→Pure Tryz.prog 125 [t.av,.ak 0 (ints p),u.av] (jS t p u).av:=by
 intro p
 induction p with
 | nil=>
   intro t u ht hu ha H
   refine Iz.2.calls rfl ?_
   simp only [Iz,aH]
   simp +contextual only [au,sZ,Nat.reduceEqDiff,Nat.reduceAdd,Nat.reduceLT,↓reduceIte,reduceCtorEq]
   refine ⟨fun _=>ae (RQ u hu) ?_,fun h=>absurd rfl h⟩
   simp +contextual only [sZ,Nat.reduceEqDiff,Nat.reduceAdd,↓reduceIte,reduceCtorEq]
   exact sk (T.bW _ _) rfl
 | cons i r ih=>
   intro t u ht hu ha H
   refine Iz.2.calls rfl ?_
   simp only [Iz,aH]
   simp only [oB] at ha
   split at ha
   ·cases ha
   ·rename_i hi
    obtain ⟨m,rfl⟩:=acW (show 0≤i by omega)
    have hm:m < t.l.length:=by omega
    have hk:t.k≠1:=fun h=>by rw [Nq ht h] at hm;simp at hm
    rw [aad] at ha
    have gh:=(bD ht).2 _ (bU hm)
    simp +contextual only [au,sZ,Nat.reduceEqDiff,Nat.reduceAdd,↓reduceIte,reduceCtorEq]
    refine fun _=>⟨fun h=>absurd h (by simp;omega),fun _=>?_⟩
    refine af (aao t ht hk _) ?_
    rintro q G ⟨v,rfl,hR,hG⟩
    have hGl:(H++[aa.cells [.int .i64 0,.int .i64 0,.ag]]).length=H.length + 1:=by simp
    rw [hGl] at hR hG
    rcases hR with ⟨h0,_⟩ | ⟨id,l',bu,rfl,hg,hle,RS⟩
    ·rw [h0] at hm;simp at hm
    simp +contextual only [TG,aap,RU,Option.map_some,Option.map_none,sZ,Nat.reduceEqDiff,Nat.reduceAdd,↓reduceIte]
    refine ⟨by omega,hm,?_⟩
    refine aF (ih _ u gh hu ha) ?_
    have Hh:m < l'.length:=by omega
    have fz:∀ K,dx 3 (.ba id 0 t.l.length l'.length) (G.set id (hZ (l'.set m (jS (t.l.getD m default) r u)))) K=K (.ak 0 (bk (t.l.set m (jS (t.l.getD m default) r u)))) ((G.set id (hZ (l'.set m (jS (t.l.getD m default) r u)))).set id .dead):=by
     intro K
     have vS:=(aaH.1 hg).1
     have:=EE (id:=id) (l:=t.l.set m (jS (t.l.getD m default) r u)) (l':=l'.set m (jS (t.l.getD m default) r u)) (H:=G.set id (hZ (l'.set m (jS (t.l.getD m default) r u)))) (by rw [zD vS]) (by simpa using hle) (by
      rw [acI,aef,RS]) K
     rw [acI,acI] at this
     exact this
    have g0:(((G.set id (hZ (l'.set m (jS (t.l.getD m default) r u)))).set id .dead))[H.length]?=some (.cells [.int .i64 0,.int .i64 0,.ag]):=by
     rw [zC (by omega),zC (by omega)]
     have:(G.take (H.length + 1))[H.length]?=G[H.length]?:=by rw [aa7,if_pos (by omega)]
     rw [← this,hG];simp
    simp +contextual only [kN,TG,RT,aaq,aar,wv,hm,hg,Hg Hh,fz,g0,sZ,Nat.reduceEqDiff,Nat.reduceAdd,↓reduceIte,reduceCtorEq]
    refine ⟨by omega,?_⟩
    have yQ:=(aaH.1 g0).1
    rw [zD yQ]
    simp +contextual only [sZ]
    have ep:jS t (↑m::r) u=.mk t.k t.n (t.l.set m (jS (t.l.getD m default) r u)):=by rw [jS,aad]
    have dS:G.take H.length=H:=by
     have:G.take H.length=(G.take (H.length + 1)).take H.length:=by rw [aeH];congr 1;omega
     rw [this,hG];simp
    rw [ep]
    refine ⟨H.length,sU _,_,le_refl _,T.bW _ (.mk t.k t.n (t.l.set m (jS (t.l.getD m default) r u))),rfl,?_⟩
    rw [acu (sU _),acu (by omega),acu (by omega),dS]
end Go.aK
end
noncomputable section
set_option maxRecDepth 100000
namespace Go.aK
open Go Go.Proofs
def qV (t:T) (p:List Int) (u:T):T×Int:=if t.tree=true∧u.tree=true then (if (oB t p).isSome=true then lU (jS t p u) else (T0,41)) else (T0,4)
theorem c61 (t:T) (p:List Int) (u:T):Pure Tryz.prog 61 [t.av,.ak 0 (ints p),u.av] (.tuple [(qV t p u).1.av,.int .i64 (qV t p u).2]):=by
 refine fun H=>k61.2.calls rfl ?_
 simp only [k61,aH]
 simp +contextual only [sZ,Nat.reduceEqDiff,Nat.reduceAdd,↓reduceIte,reduceCtorEq]
 refine ae (RK [t,u]) ?_
 have etb:fM [t,u]=(t.tree && u.tree):=by simp [fM]
 rw [etb]
 by_cases XU:t.tree=true∧u.tree=true
 ·have hts:=((T.bg t).1 XU.1).2.2
  have hus:=((T.bg u).1 XU.2).2.2
  have e:qV t p u=if (oB t p).isSome=true then lU (jS t p u) else (T0,41):=by rw [qV,if_pos XU]
  rw [XU.1,XU.2]
  simp +contextual only [sZ,Nat.reduceEqDiff,Nat.reduceAdd,↓reduceIte]
  refine ae (aam t p) ?_
  cases ha:(oB t p).isSome with
  | false=>
    have e:qV t p u=(T0,41):=by rw [e,if_neg (by rw [ha];simp)]
    rw [e]
    simp +contextual only [sZ,Nat.reduceEqDiff,Nat.reduceAdd,Nat.reduceLT,↓reduceIte,reduceCtorEq]
    exact jX (G:=H) (by simp) (T.bW _ T0) rfl rfl rfl ⟨rfl,rfl⟩
  | true=>
    have e:qV t p u=lU (jS t p u):=by rw [e,if_pos ha]
    rw [e]
    simp +contextual only [sZ,Nat.reduceEqDiff,Nat.reduceAdd,Nat.reduceLT,↓reduceIte]
    refine ae (aem p t u hts hus ha) ?_
    simp +contextual only [sZ,Nat.reduceAdd,↓reduceIte]
    refine ae (aaj _) ?_
    simp +contextual only [sZ,Nat.reduceEqDiff,Nat.reduceAdd,Nat.reduceLT,↓reduceIte,reduceCtorEq]
    exact jX (G:=H) (by simp) (T.bW _ _) rfl (T.fL _) rfl ⟨rfl,rfl⟩
 ·have e:(t.tree && u.tree)=false:=by
   cases h1:t.tree <;> cases h2:u.tree <;> simp_all
  have e2:qV t p u=(T0,4):=by rw [qV,if_neg XU]
  rw [e,e2]
  simp +contextual only [acv,sZ,Nat.reduceEqDiff,Nat.reduceAdd,↓reduceIte,reduceCtorEq,Int.reduceEq]
  exact jX (G:=H) (by simp) (T.bW _ T0) rfl rfl rfl ⟨rfl,rfl⟩
mutual
def fm:T→List Int→List (List Int)
 | .mk _ _ l,p=>p::iE l 0 p
def iE:List T→Nat→List Int→List (List Int)
 | [],_,_=>[]
 | x::r,i,p=>fm x (p++[(i:Int)])++iE r (i + 1) p
end
def sW (l:List (List Int)):List AV:=l.map fun p=>.ak 0 (ints p)
def vK:List (List Int)→AV
 | []=>.ag
 | p::r=>.ak 1 (sW (p::r))
def Ck (o a:Nat):AV:=.fn (.func 117) [] [.ptr o 0,.ptr a 0]
theorem EF {l:List T} {i:Nat} (h:i < l.length) (p:List Int):iE (l.drop i) i p=fm (l.getD i default) (p++[(i:Int)])++iE (l.drop (i + 1)) (i + 1) p:=by
 rw [aba h,iE]
 have e:l.getD i default=l[i]:=by simp [h]
 rw [e]
theorem aas (l:List Int) (hl:l.length * 8≤140737488355328):Pure Tryz.prog 118 [.ak 0 (ints l)] (.ak 1 (ints l)):=fun H=>
 sn 0 (ints l) H (of_eq_true (lr l)) (by rw [au];exact hl) (aT _ _)
theorem Nr (l:List (List Int)):(vK l).one=true:=by cases l <;> rfl
theorem sr (n:Nat) (l:List (List Int)):aj n (sW l)=true:=by
 rw [bc];intro x hx;obtain ⟨y,_,rfl⟩:=aaR.1 hx;simp [AV.aW,aT]
theorem Ns (n:Nat) (l:List (List Int)):(vK l).aW n=true:=by
 cases l with
 | nil=>rfl
 | cons x r=>show AV.aW n (.ak 1 (sW (x::r)))=true;rw [bZ];exact sr n _
theorem RV (b:Nat) (l:List (List Int)) (p:List Int) (o:Nat) (ψ:List AV→Prop):bp 1 b (vK l) (.ak o [.ak 0 (ints p)]) ψ=((l.length + 1) * b≤140737488355328∧ψ (sW (l++[p]))):=by
 have jo:sV 1 [AV.ak 0 (ints p)]:=by intro y hy;simp at hy;subst hy;exact ⟨rfl,rfl⟩
 cases l with
 | nil=>simp [vK,ln,jo,sW]
 | cons v r=>
   show bp 1 b (.ak 1 (sW (v::r))) _ ψ=_
   rw [kM]
   have e1:(sW (v::r)).length=(v::r).length:=by simp [sW]
   have e2:sW (v::r)++[AV.ak 0 (ints p)]=sW ((v::r)++[p]):=by simp [sW]
   rw [e1,e2]
   simp [jo]
theorem Kz (l:List (List Int)) (p:List Int):AV.ak 1 (sW (l++[p]))=vK (l++[p]):=by cases l <;> rfl
mutual
theorem mw:∀ (t:T) (p:List Int),((fm t p).length:Int)=t.sz
 | .mk k n l,p=>by simp only [fm,List.length_cons,T.sz];have:=nJ l 0 p;omega
theorem nJ:∀ (l:List T) (i:Nat) (p:List Int),((iE l i p).length:Int)=jR l
 | [],_,_=>by simp [iE,jR]
 | x::r,i,p=>by
   simp only [iE,aaz,jR]
   have h1:=mw x (p++[(i:Int)])
   have h2:=nJ r (i + 1) p
   omega
end
theorem Cl:∀ {l:List T} {y:T},y∈l→y.dp≤Ev l
 | x::r,y,h=>by
   simp only [Ev]
   rcases OU.1 h with rfl | h
   ·omega
   ·have:=Cl h;omega
theorem T.TH (t:T):t.dp=1 + Ev t.l:=by cases t;rfl
theorem tW (t:T) (p:List Int):fm t p=p::iE t.l 0 p:=by cases t;rfl
theorem Wx (p:List Int) (φ:AV→Prop):bo 1 (.ak 0 (ints p)) none (some (.int .i64 p.length)) (some (.int .i64 p.length)) φ=φ (.ak 1 (ints p)):=by
 have er:dG (AV.ak 0 (ints p))=some (ints p):=rfl
 have e2:((ints p).take p.length).drop 0=ints p:=by rw [List.drop_zero];exact Ue (by rw [au];exact sU _)
 have h1:∀ z∈ints p,z.cells.length=1:=by
  intro z hz
  obtain ⟨y,_,rfl⟩:=aaR.1 hz
  rfl
 simp only [bo,ff,er,dV,aad,e2,eq_iff_iff]
 constructor
 ·intro h;exact h.2.2.2.2.2.2.2.2
 ·intro h
  refine ⟨fun own xs he z hz=>?_,by omega,by omega,by rw [au];exact sU _,rfl,by omega,trivial,h1,h⟩
  cases he
  exact h1 z hz
theorem aat {S:List (List Int)→List aa} {o a n:Nat} (F:FN S o (fun ps=>.cells [vK ps]) n) (hA:∀ ps,(S ps)[a]?=some (.cells [Ck o a])):∀ (t:T) (p:List Int) (ps:List (List Int)) (e:List aa),(p.length:Int) + t.dp≤1000→(ps.length:Int) + t.sz≤1000000→
 aw Tryz.prog 117 [t.av,.ak 0 (ints p),.ptr o 0,.ptr a 0] (S ps++e) fun r H'=>r=.tuple []∧H'=S (ps++fm t p)++e:=by
 intro t p ps e hp oO
 have ih:∀ y∈t.l,∀ (p:List Int) (ps:List (List Int)) (e:List aa),(p.length:Int) + y.dp≤1000→(ps.length:Int) + y.sz≤1000000→
  aw Tryz.prog 117 [y.av,.ak 0 (ints p),.ptr o 0,.ptr a 0] (S ps++e) fun r H'=>r=.tuple []∧H'=S (ps++fm y p)++e:=fun y hy p ps e h1 h2=>aat F hA y p ps e h1 h2
 have fg:∀ s e,(S s++e)[o]?=some (.cells [vK s]):=F.get'
 have fs:∀ s s' e,(S s++e).set o (.cells [vK s'])=S s'++e:=F.We
 have fA:∀ s e,(S s++e)[a]?=some (.cells [Ck o a]):=fun s e=>by rw [zA (aaH.1 (hA s)).1];exact hA s
 have hlen:∀ s (e:List aa),(S s++e).length=n + e.length:=fun s e=>by rw [aaz,F.len]
 refine Za.2.calls rfl ?_
 rw [hlen]
 simp only [Za,aH]
 simp +contextual only [sZ,Nat.reduceEqDiff,Nat.reduceAdd,↓reduceIte,reduceCtorEq]
 have aji:=t.tR
 refine aF (aas p (by omega)) ?_
 have hz:=t.tQ
 have hdp:=t.tR
 have fts:∀ s e (x:aa),((S s++e).set o x)[o]?=some x:=fun s e x=>zD (aaH.1 (fg s e)).1
 have fss:∀ s s' e (x:aa),((S s++e).set o x).set o (.cells [vK s'])=S s'++e:=fun s s' e x=>by rw [adL];exact fs s s' e
 have cno:∀ xs,aR (.ak 1 xs)=.ak 0 xs:=fun xs=>rfl
 simp +contextual only [fg,fts,fss,cno,RV,Nr,Ns,Kz,sZ,Nat.reduceEqDiff,Nat.reduceAdd,Nat.reduceLT,↓reduceIte]
 have hg0:∀ s x,(S s++(e++[x]))[n + e.length]?=some x:=fun s x=>by rw [← abb,← hlen s e,abu (sU _)];simp
 have XJ:∀ s x y,(S s++(e++[x])).set (n + e.length) y=S s++(e++[y]):=fun s x y=>by rw [← abb,← hlen s e,ac9 _ _ (sU _)];simp
 have tk0:∀ s,(S s++e).take (n + e.length)=S s++e:=fun s=>Ue (by rw [hlen];exact sU _)
 refine ⟨by omega,fun _=>?_⟩
 refine aD t.l.length (fun i (q:List (List Int))=>q++iE (t.l.drop i) i p=ps++fm t p)
  (fun i q=>[(1,.ak 0 (ints p)),(3,.ptr a 0),(14,.ak 0 (bk t.l)),(15,.int .i64 t.l.length),(16,.int .i64 i)]) (fun i q=>S q++e) (ps++[p]) ⟨by rw [tW,List.drop_zero,abb];rfl,ax _ _ _⟩ fun i q hi hI=>?_
 have fA':∀ s e,(S s++e)[a]?=some (.cells [.fn (.func 117) [] [.ptr o 0,.ptr a 0]]):=fA
 simp +contextual only [hlen,hg0,XJ,fA',sZ,Nat.reduceEqDiff,Nat.reduceAdd,Nat.reduceLT,↓reduceIte,reduceCtorEq]
 refine ⟨fun aG=>⟨aY aG,?_⟩,fun eW=>?_⟩
 ·have aG:=aY aG
  simp +contextual only [Wx,Option.map_some,Option.map_none,sZ,Nat.reduceEqDiff,Nat.reduceAdd,↓reduceIte,reduceCtorEq]
  rw [EF aG,← abb] at hI
  have hy:=bU aG
  have h1:=Cl hy
  have h2:=t.TH
  have h3:=congrArg List.length hI
  have h4:=mw (t.l.getD i default) (p++[(i:Int)])
  have h5:=mw t p
  have h6:=nJ (t.l.drop (i + 1)) (i + 1) p
  have h7:=fY (t.l.drop (i + 1))
  have ha:=(aaH.1 (hA q)).1
  rw [F.len] at ha
  simp only [aaz] at h3
  refine ⟨by omega,af (ih _ hy (p++[(i:Int)]) q (e++[.cells (t.l.getD i default).av.cells]) (by rw [aaz];simp only [List.length_cons,List.length_nil];omega) (by omega)) ?_⟩
  rintro r H' ⟨rfl,rfl⟩
  simp +contextual only [sZ,Nat.reduceEqDiff,↓reduceIte]
  exact ⟨i + 1,q++fm (t.l.getD i default) (p++[(i:Int)]),⟨aG,hI⟩,by omega,fK (by rw [aq i (by omega)]) (by rw [hlen];exact sU _) (by rw [hlen];simp only [we,B0,bZ,eE,aT,dy,qP];simp;omega) [.cells (t.l.getD i default).av.cells] (by rw [abb])⟩
 ·rw [aa9 (bN eW),iE,acA] at hI
  subst hI
  exact ⟨n + e.length,sU _,[],trivial,rfl,rfl,tk0 _⟩
termination_by t=>SizeOf.sizeOf t
decreasing_by exact T.lt hy
def Hi (t:T):AV:=if t.tree=true then .ak 0 (sW (fm t [])) else .ag
theorem c56 (t:T):Pure Tryz.prog 56 [t.av] (.tuple [Hi t,.int .i64 (if t.tree=true then 0 else 4)]):=by
 refine fun H=>k56.2.calls rfl ?_
 simp only [k56,aH]
 unfold Hi
 simp +contextual only [sZ,Nat.reduceEqDiff,Nat.reduceAdd,↓reduceIte]
 refine ae (Ku t) ?_
 cases ht:t.tree with
 | false=>
   simp +contextual only [sZ,Nat.reduceEqDiff,↓reduceIte,reduceCtorEq]
   exact Aj (by decide) rfl rfl rfl rfl
 | true=>
   have hti:=(T.bg t).1 ht
   let S:List (List Int)→List aa:=fun ps=>H++[.cells [vK ps],.cells [Ck H.length (H.length + 1)]]
   have F:FN S H.length (fun ps=>.cells [vK ps]) (H.length + 2):=⟨fun s=>by simp [S],fun s s'=>by simp [S],fun s=>by simp [S]⟩
   have hA:∀ ps,(S ps)[H.length + 1]?=some (.cells [Ck H.length (H.length + 1)]):=fun ps=>by simp [S]
   have hc:=aat F hA t [] [] [] (by simp;omega) (by simp;omega)
   rw [acA,acA,List.nil_append] at hc
   simp +contextual only [sZ,Nat.reduceEqDiff,Nat.reduceAdd,Nat.reduceLT,↓reduceIte,reduceCtorEq]
   refine ⟨by simp;omega,xB hc ⟨le_refl _,.inr (.inr (.inr (.inl ⟨rfl,0,rfl⟩))),le_refl _,le_refl _,trivial⟩ ?_⟩
   rintro r H' ⟨rfl,rfl⟩
   have e1:vK (fm t [])=.ak 1 (sW (fm t [])):=by rw [tW];rfl
   simp only [S,e1]
   simp +contextual only [sZ,Nat.reduceEqDiff,Nat.reduceAdd,Nat.reduceLT,↓reduceIte,reduceCtorEq]
   exact u0 (by decide) (by show AV.aW _ (.ak 0 (sW _))=true;rw [bZ];exact sr _ _) rfl rfl rfl
theorem T.Wy (k n:Int) (l:List T):(T.mk k n l).l=l:=rfl
theorem T.Wz (k n:Int) (l:List T):(T.mk k n l).k=k:=rfl
theorem T.aau (k n:Int) (l:List T):(T.mk k n l).n=n:=rfl
mutual
theorem EG:∀ (t:T) (p q:List Int),q∈fm t p→∃ s,q=p++s∧(oB t s).isSome=true
 | .mk k n l,p,q,h=>by
   simp only [fm,OU] at h
   rcases h with rfl | h
   ·exact ⟨[],by simp,rfl⟩
   ·obtain ⟨j,s,hj,rfl,h2⟩:=AD l 0 p q h
    refine ⟨(j:Int)::s,by simp,?_⟩
    rw [oB,if_neg (by rw [T.Wy];omega),aad]
    exact h2
theorem AD:∀ (l:List T) (i:Nat) (p q:List Int),q∈iE l i p→∃ (j:Nat) (s:List Int),j < l.length∧q=p++((i + j:Nat):Int)::s∧(oB (l.getD j default) s).isSome=true
 | [],i,p,q,h=>by simp [iE] at h
 | x::r,i,p,q,h=>by
   simp only [iE,ab7] at h
   rcases h with h | h
   ·obtain ⟨s,rfl,h2⟩:=EG x _ _ h
    exact ⟨0,s,by simp,by simp,h2⟩
   ·obtain ⟨j,s,hj,rfl,h2⟩:=AD r (i + 1) p q h
    exact ⟨j + 1,s,by simpa using hj,by simp;omega,by simpa using h2⟩
end
end Go.aK
end
noncomputable section
set_option maxRecDepth 100000
namespace Go.aK
open Go Go.Proofs
theorem aav:uX Tryz.prog 238 (.xv nv):=BX Tryz.func238 (by kernel_rfl) (by kernel_rfl) (by kernel_rfl) (by kernel_rfl)
theorem aaw:uX Tryz.prog 231 (.xv countP):=L8 Tryz.func231 (by kernel_rfl) (by kernel_rfl) (by kernel_rfl) (by kernel_rfl)
end Go.aK
end
noncomputable section
set_option maxRecDepth 100000
namespace Go.aK
open Go Go.Proofs
def WA:Aa:=[(53,.ir Tn.1),(59,.ir k59.1),(62,.ir k62.1),(64,.ir YX),(65,.ir XS.1),(81,.ir Wg),(92,.ir k92.1),(100,.ir Em.1),(102,.ir En.1),(108,.ir Q7.1),(114,.ir Eo.1),(118,.xv Ca),(121,.ir Q9.1),(126,.ir Ra.1),(130,.ir Rb.1),(141,.ir M9),(142,.ir Rc.1),(143,.ir Na),(144,.ir Nb),(161,.ir Kr.1),(165,.ir ZB.1),(171,.ir Re.1),(172,.ir Rf.1),(173,.ir Rg.1),(178,.ir Rh.1),(179,.ir Ri.1),(180,.ir Rj.1),(181,.ir Rk.1),(190,.ir Rl.1),(191,.ir Rm.1),(192,.ir Rn.1),(193,.ir Ro.1),(194,.ir Rp.1),(211,.ir Rv.1),(216,.ir Rw.1),(217,.ir Rx.1),(218,.ir Ry.1),(219,.ir Rz.1),(228,.ir RA.1),(229,.ir RB.1),(230,.ir Z1.1),(231,.xv countP),(237,.ir RC.1),(238,.xv nv),(240,.ir Z4.1),(241,.ir Z5.1),(245,.ir RE.1),(246,.ir RF.1),(247,.ir Z7.1)]
theorem tX:Ab Tryz.prog WA:=⟨Tn.2,k59.2,k62.2,ad4,XS.2,YZ,k92.2,Em.2,En.2,Q7.2,Eo.2,Ep,Q9.2,Ra.2,Rb.2,Tp,Rc.2,Tr,Tt,Kr.2,ZB.2,Re.2,Rf.2,Rg.2,Rh.2,Ri.2,Rj.2,Rk.2,Rl.2,Rm.2,Rn.2,Ro.2,Rp.2,Rv.2,Rw.2,Rx.2,Ry.2,Rz.2,RA.2,RB.2,Z1.2,aaw,RC.2,aav,Z4.2,Z5.2,RE.2,RF.2,Z7.2,trivial⟩
end Go.aK
end
noncomputable section
namespace Go.aK
open Go
structure jT (esz:Nat) (x:AV):Prop where
 len:x.cells.length=esz
 un:x.cells.map AV.ab=x.cells
 bl:aj 0 x.cells=true
 one:x.cells.all AV.one=true
theorem jT.flat {esz:Nat}:∀ {xs:List AV},(∀ x∈xs,jT esz x)→(flat xs).length=xs.length * esz∧(flat xs).map AV.ab=flat xs∧(∀ n,aj n (flat xs)=true)∧(Go.aK.flat xs).all AV.one=true
 | [],_=>⟨by simp [Go.aK.flat],rfl,fun _=>rfl,rfl⟩
 | x::r,h=>by
   obtain ⟨h1,h2,h3,h4⟩:=jT.flat (xs:=r) fun y hy=>h y (aa6 _ hy)
   have hx:=h x abn
   have e:Go.aK.flat (x::r)=x.cells++Go.aK.flat r:=rfl
   rw [e]
   refine ⟨by rw [aaz,hx.len,h1,List.length_cons,acE];omega,by rw [acL,hx.un,h2],fun n=>?_,by rw [agx,hx.one,h4];rfl⟩
   rw [a8];exact ⟨bK (ac4 n) _ hx.bl,h3 n⟩
theorem o7 (xs ys:List AV):flat (xs++ys)=flat xs++flat ys:=by simp [flat]
theorem kR {esz:Nat} {z:AV} (hz:jT esz (bV z)) (n:Nat):∀ x∈List.replicate n (bV z),jT esz x:=fun x hx=>by rw [acK hx];exact hz
theorem sv {esz:Nat} {z:AV} (hz:jT esz (bV z)) (n:Nat):(dl z n).length=n * esz:=by
 have:=(jT.flat (kR hz n)).1
 rwa [acR] at this
theorem AE {esz:Nat} {z:AV} (hz:jT esz (bV z)) (n k:Nat) (h:k≤n):(dl z n).drop (k * esz)=dl z (n - k):=by
 have e:dl z n=dl z k++dl z (n - k):=by
  unfold dl
  rw [← o7,ags]
  congr 2;omega
 rw [e,adm (by rw [sv hz];omega),aa9 (by rw [sv hz];omega)]
 rfl
def bw (z:AV) (xs:List AV) (cap:Nat):aa:=.cells (flat xs++dl z (cap - xs.length))
def RO (z:AV) (base:Nat) (v:AV) (xs:List AV) (G:List aa):Prop:=
 (xs=[]∧v=.ag)∨∃ id cap,base≤id∧v=.ba id 0 xs.length cap∧G[id]?=some (bw z xs cap)∧xs.length≤cap∧xs≠[]
theorem RO.one {z:AV} {base:Nat} {v:AV} {xs:List AV} {G:List aa} (h:RO z base v xs G):v.one=true∧v.val=true∧v.ab=v∧v.cells=[v]:=by
 rcases h with ⟨_,rfl⟩ | ⟨id,cap,_,rfl,_⟩ <;> exact ⟨rfl,rfl,rfl,rfl⟩
theorem RO.aW {z:AV} {base:Nat} {v:AV} {xs:List AV} {G:List aa} (h:RO z base v xs G) {n:Nat} (hn:G.length≤n):v.aW n=true:=by
 rcases h with ⟨_,rfl⟩ | ⟨id,cap,_,rfl,c,_⟩
 ·rfl
 ·have:=(aaH.1 c).1
  rw [fJ];simp;omega
theorem RO.set {z:AV} {base:Nat} {v:AV} {xs:List AV} {G:List aa} (h:RO z base v xs G) {j:Nat} (hj:j < base) (o:aa):RO z base v xs (G.set j o):=by
 rcases h with h | ⟨id,cap,a,b,c,d⟩
 ·exact .inl h
 ·exact .inr ⟨id,cap,a,b,by rw [zC (by omega)];exact c,d⟩
theorem RO.len {z:AV} {base:Nat} {v:AV} {xs:List AV} {G:List aa} (h:RO z base v xs G) {H:List aa} (φ:AV→Prop):fT v H φ=φ (.int .i64 xs.length):=by
 rcases h with ⟨rfl,rfl⟩ | ⟨id,cap,_,rfl,_⟩ <;> rfl
theorem Nt {esz bytes:Nat} {z:AV} (hz:jT esz (bV z)) {base:Nat} {v:AV} {xs:List AV} {G:List aa} (h:RO z base v xs G) (eK:∀ x∈xs,jT esz x) (o:Nat) (ys:List AV) (hy:ys≠[]) (ru:∀ x∈ys,jT esz x)
 (hb:(xs.length + ys.length) * bytes≤140737488355328) (hG:base≤G.length) {K:AV→List aa→Prop}
 (hK:∀ v' G',RO z base v' (xs++ys) G'→G'.take base=G.take base→(∀ j,j < base→G'[j]?=G[j]?)→G.length≤G'.length→K v' G'):ch esz bytes z v (.ak o ys) G K:=by
 have jo:sV esz ys:=fun y hy=>⟨(ru y hy).len,(ru y hy).one⟩
 obtain ⟨f1,f2,f3,f4⟩:=jT.flat ru
 obtain ⟨g1,g2,g3,g4⟩:=jT.flat eK
 have vM:=sv hz
 have lV:∀ n m,aj n (dl z m)=true:=fun n m=>(jT.flat (kR hz m)).2.2.1 n
 unfold ch
 simp only [dG]
 refine ⟨jo,?_⟩
 rcases h with ⟨rfl,rfl⟩ | ⟨id,cap,bu,rfl,hg,hle,_⟩
 ·refine ⟨by simpa using hb,fun e=>absurd e hy,fun _ cap hc _=>⟨?_,hK _ _ (.inr ⟨G.length,cap,hG,by simp,?_,by simpa using hc,by simpa using hy⟩) ?_ ?_ (by simp)⟩⟩
  ·rw [f2,a8];exact ⟨f3 _,lV _ _⟩
  ·rw [f2];simp [bw]
  ·rw [abc hG]
  ·intro j hj;rw [zA (by omega)]
 ·have vS:=(aaH.1 hg).1
  simp only [hg,bw,aaz,g1,vM,acC,List.drop_zero]
  refine ⟨hb,hle,by rw [← acE];exact Nat.le_of_eq (by congr 1;omega),fun hroom=>⟨by rw [f2];exact f3 _,?_⟩,fun kB gA hc _=>⟨?_,?_⟩⟩
  ·rw [f2]
   refine hK _ _ (.inr ⟨id,cap,bu,by simp,?_,by simpa using hroom,by simp [hy]⟩) ?_ ?_ (by simp)
   ·rw [zD vS,bw]
    congr 2
    unfold ai
    rw [f1,abc (by rw [g1];exact sU _),Ue (by rw [g1];exact sU _),ac8,aa9 (by rw [g1];omega),g1,
     show xs.length * esz + ys.length * esz - xs.length * esz=ys.length * esz by omega,AE hz _ _ (by omega),o7,List.nil_append,aaz]
    rw [show cap - xs.length - ys.length=cap - (xs.length + ys.length) by omega,abb]
   ·rw [acu (by omega)]
   ·intro j hj;rw [zC (by omega)]
  ·rw [abc (by rw [g1];exact sU _),Ue (by rw [g1];exact sU _),g2,f2,a8,a8];exact ⟨⟨g3 _,f3 _⟩,lV _ _⟩
  ·rw [abc (by rw [g1];exact sU _),Ue (by rw [g1];exact sU _),g2,f2,← o7]
   refine hK _ _ (.inr ⟨G.length,gA,hG,by simp,?_,by simpa using hc,by simp [hy]⟩) ?_ ?_ (by simp)
   ·simp [bw]
   ·rw [abc hG]
   ·intro j hj;rw [zA (by omega)]
theorem qW {esz:Nat}:∀ {xs:List AV} (_:∀ x∈xs,jT esz x) (i:Nat),i < xs.length→(flat xs).drop (i * esz)=(xs.getD i .any).cells++flat (xs.drop (i + 1))
 | [],_,i,h=>by simp at h
 | x::r,hx,0,_=>by simp [flat]
 | x::r,hx,i + 1,h=>by
   have hl:=(hx x abn).len
   have e:flat (x::r)=x.cells++flat r:=rfl
   rw [e,show (i + 1) * esz=x.cells.length + i * esz by rw [hl,acE];omega,ac8,List.getD_cons_succ,List.drop_succ_cons]
   have:=qW (xs:=r) (fun y hy=>hx y (aa6 _ hy)) i (by simpa using h)
   simp [this]
theorem AF {esz:Nat} {z:AV} {c:Nat} (hc:c < esz) (v:AV):∀ {xs:List AV} (_:∀ x∈xs,jT esz x) (i:Nat) {y:AV} (rest:List AV),i < xs.length→y.cells=(xs.getD i .any).cells.set c v→
 (flat xs++rest).set (i * esz + c) v=flat (xs.set i y)++rest
 | [],_,i,_,_,h,_=>by simp at h
 | x::r,hx,0,y,rest,_,hy=>by
   have hl:=(hx x abn).len
   have e:flat (x::r)=x.cells++flat r:=rfl
   rw [af0,e,show flat (y::r)=y.cells++flat r from rfl,hy,afL,acC,abb,aeX _ _ (by omega),abb]
   rfl
 | x::r,hx,i + 1,y,rest,h,hy=>by
   have hl:=(hx x abn).len
   have e:flat (x::r)=x.cells++flat r:=rfl
   have ih:=AF (z:=z) hc v (xs:=r) (fun y hy=>hx y (aa6 _ hy)) i rest (y:=y) (by simpa using h) (by simpa using hy)
   rw [agD,e,show flat (x::r.set i y)=x.cells++flat (r.set i y) from rfl,abb,abb,← ih,show (i + 1) * esz + c=x.cells.length + (i * esz + c) by rw [hl,acE];omega]
   rw [ac9 _ _ (by omega)]
   congr 2;omega
theorem lW (e id N c i:Nat) (k:IntKind) (φ:AV→Prop):aA e (.ba id 0 N c) (.int k (i:Int)) φ=(i < N∧φ (.ptr id (i * e))):=by
 simp only [aA,aad,acC,eq_iff_iff]
 constructor
 ·rintro ⟨_,h⟩;exact h
 ·exact fun h=>⟨by omega,h⟩
theorem o8 {α:Type} (l:List α) (i:Nat) (x:α) (h:i < l.length):ai l i [x]=l.set i x:=by
 unfold ai
 rw [aga,if_pos h]
 rfl
theorem Cm {esz cap id:Nat} {z:AV} {ys:List AV} (ru:∀ x∈ys,jT esz x) {i c:Nat} (hi:i < ys.length) (hc:c < esz) {v y:AV} (h1:v.one=true) (h2:v.val=true) (h3:v.ab.aW 0=true) (hy:y.cells=(ys.getD i .any).cells.set c v.ab)
 {H:List aa} {K:List aa→Prop} (hK:K (H.set id (bw z (ys.set i y) cap))):gR (some (bw z ys cap)) 1 id (i * esz + c) v H K:=by
 obtain ⟨g1,g2,g3,g4⟩:=jT.flat ru
 have hle:i * esz + esz≤ys.length * esz:=by rw [← Nat.succ_mul];exact ac3 _ hi
 simp only [bw,Eh,zS h1,h2,List.length_cons,List.length_nil,List.all_cons,List.all_nil,h1,List.map_cons,List.map_nil]
 refine ⟨trivial,trivial,by rw [aaz,g1];omega,rfl,bK (ac4 _) [v.ab] (by rw [bJ,cV,h3];rfl),?_⟩
 rw [o8 _ _ _ (by rw [aaz,g1];omega),AF (z:=z) hc v.ab ru i _ hi hy]
 have e:(ys.set i y).length=ys.length:=by simp
 simp only [bw,e] at hK
 exact hK
theorem IH {esz:Nat} (h0:1 < esz):∀ {xs:List AV} (_:∀ x∈xs,jT esz x) (_:∀ x∈xs,AV.agg x.cells=x) (rest:List AV),chunks esz xs.length (flat xs++rest)=xs
 | [],_,_,_=>rfl
 | x::r,hx,ha,rest=>by
   have hl:=(hx x abn)
   have e:flat (x::r)=x.cells++flat r:=rfl
   rw [List.length_cons,chunks,if_neg (by omega),e,abb,abc (by rw [hl.len];omega),Ue (by rw [hl.len];omega),hl.un,ha x abn]
   rw [show List.drop esz (x.cells++(flat r++rest))=flat r++rest by rw [← hl.len,aeG],IH h0 (fun y hy=>hx y (aa6 _ hy)) (fun y hy=>ha y (aa6 _ hy))]
theorem xX {esz id cap:Nat} (h0:1 < esz) {z:AV} (hz:jT esz (bV z)) {xs:List AV} {H:List aa} (hx:∀ x∈xs,jT esz x) (ha:∀ x∈xs,AV.agg x.cells=x) (h:H[id]?=some (bw z xs cap)) (hl:xs.length≤cap) {K:AV→List aa→Prop} (hK:K (.ak 0 xs) (H.set id .dead)):dx esz (.ba id 0 xs.length cap) H K:=by
 obtain ⟨g1,g2,g3,g4⟩:=jT.flat hx
 simp only [dx,h,bw,List.drop_zero,IH h0 hx ha]
 refine ⟨by omega,hl,by simp [g1],?_,hK⟩
 rw [agx,g4,show (dl z (cap - xs.length)).all AV.one=true from (jT.flat (kR hz _)).2.2.2];rfl
end Go.aK
end
noncomputable section
set_option maxRecDepth 100000
set_option maxHeartbeats 0
namespace Go.aK
open Go Go.Proofs
def aax:=aH Tryz.call58 Tryz.func58 Tryz.ntmps58 [(3,0,2),(3,2,2),(3,3,1)] [(0,[0]),(1,[0,4]),(2,[2]),(3,[2])] []
def aay:=aH Tryz.call75 Tryz.func75 Tryz.ntmps75 [(0,0,1),(5,2,1000),(6,0,1),(6,8,1),(7,6,2),(7,9,2),(9,0,6004)] [(0,[1,2]),(1,[1,6]),(2,[1,6,7]),(3,[6,7,15,16,17]),(4,[6,7,15,16,17,18]),(5,[6,7,9,15,16,17]),(6,[6,7,9,15,16,17]),(7,[6,7,15,16,17]),(8,[6,7,15,16,17]),(9,[4,5])] [(7,(.take 1 true (.take 2 true (.take 3 true (.take 4 true (.take 5 true (.take 0 false (.br 6 (.take 7 true (.take 8 true (.br 9 .done .nil))) .nil))))))))]
def TI:=aH Tryz.call118 Tryz.func118 Tryz.ntmps118 [(3,0,2),(3,2,2),(3,3,1)] [(0,[0]),(1,[0,4]),(2,[2]),(3,[2])] []
def II:=aH Tryz.call132 Tryz.func132 Tryz.ntmps132 [(0,0,1),(2,0,1),(2,4,2),(2,5,1),(6,2,1000),(7,0,1),(7,5,1),(8,1,1),(8,2,2),(8,3,1),(11,0,1),(11,1,1)] [(0,[1,2]),(1,[1,2,5]),(2,[1,2,5]),(3,[1,2,5,6]),(4,[1,5,6,17,18,19]),(5,[1,5,6,17,18,19,20]),(6,[1,5,6,8,17,18,19]),(7,[1,5,6,8,17,18,19]),(8,[1,5,6,17,18,19]),(9,[1,5,6,17,18,19]),(10,[1]),(11,[4])] []
def TJ:=aH Tryz.call139 Tryz.func139 Tryz.ntmps139 [(10,9,2000),(15,0,1),(15,4,1),(21,0,1),(21,4,1),(23,2,3000)] [(0,[0,1,2]),(1,[0,1,2,9]),(2,[0,1,2,9,10]),(3,[0,1,2,9,10,11,12]),(4,[0,1,9,10,11,12,26,27,28]),(5,[0,1,9,10,11,12,26,27,28,29]),(6,[0,1,9,10,11,12,13,14,26,27,28]),(7,[0,1,9,10,11,12,13,14,26,27,28,33,34,35]),(8,[0,1,9,10,11,12,13,14,26,27,28,33,34,35,36]),(9,[0,1,9,10,11,12,13,14,15,16,26,27,28,33,34,35]),(10,[0,1,9,10,11,12,13,14,15,26,27,28,33,34,35,50]),(11,[0,1,9,10,11,12,13,15,26,27,28]),(12,[0,1,9,10,11,12,13,26,27,28]),(13,[0,1,9,10,11,12,13,14,26,27,28,33,34,35]),(14,[0,1,9,10,11,12,13,26,27,28,63]),(15,[0,1,9,10,11,12,26,27,28]),(16,[0,1,9,10,11,12,26,27,28]),(17,[10,11,12,69,70,71]),(18,[10,11,12,69,70,71,72]),(19,[10,11,12,17,18,69,70,71]),(20,[10,11,12,17,69,70,71,77]),(21,[10,11,12,69,70,71]),(22,[10,11,12,69,70,71]),(23,[6,7,8])] []
def TK:=aH Tryz.call149 Tryz.func149 Tryz.ntmps149 [(1,2,1),(3,1,2000),(4,0,3000)] [(0,[0,1]),(1,[0,1]),(2,[0,8]),(3,[0]),(4,[4])] []
def TL:=aH Tryz.call185 Tryz.func185 Tryz.ntmps185 [(5,3,2000),(6,19,2000)] [(0,[0,1,2]),(1,[0,1,2,7,8]),(2,[0,1,2,7,38]),(3,[6]),(4,[0,9,10]),(5,[0,9,10,11]),(6,[6])] [(4,(.take 0 true (.take 1 true (.take 2 true (.take 3 true (.take 4 true (.take 5 true (.take 6 true (.take 7 true (.take 8 true (.take 9 true (.take 10 true (.take 11 true (.take 12 true (.take 13 true (.take 14 true (.take 15 true (.take 16 true (.take 17 true (.take 18 true (.take 19 true (.take 20 true (.take 21 true .done))))))))))))))))))))))),(6,(.take 0 true (.take 1 true (.take 2 true (.take 3 true (.take 4 true (.take 5 true (.take 6 true (.take 7 true (.take 8 true (.take 9 true (.take 10 true (.take 11 true (.take 12 true (.take 13 true (.take 14 true (.take 15 true (.take 16 true (.take 17 true (.take 18 true (.br 19 (.take 20 true (.take 21 true (.take 22 true .done))) .nil)))))))))))))))))))))]
def TM:=aH Tryz.call199 Tryz.func199 Tryz.ntmps199 [] [(0,[0,2,3]),(1,[0,2,3,9]),(2,[0,2,3]),(3,[0,2,3])] [(3,(.take 0 true (.take 1 true (.take 4 true (.take 5 true (.take 6 true (.take 7 true (.take 8 true (.take 9 true (.take 10 true (.take 11 true (.take 12 true (.take 2 false (.take 3 false (.br 13 (.take 14 true (.br 15 .done .nil)) .nil)))))))))))))))]
end Go.aK
end
