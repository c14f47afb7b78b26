/- Part 19 of 20 of the proof. -/
import Derived.Test.YtljchnfgjdjobaaGreatXar
import Derived.Test.YtljchnfgjdjobaaGreatXaq
import Derived.Test.YtljchnfgjdjobaaGreatXak
import Derived.Test.YtljchnfgjdjobaaGreatXai
import Derived.Test.YtljchnfgjdjobaaGreatProg
import Derived.KernelRfl
import Derived.Test.YtljchnfgjdjobaaGreatXah
import Derived.Test.YtljchnfgjdjobaaGreatXap
import Derived.Test.YtljchnfgjdjobaaGreatXao
import Derived.Test.YtljchnfgjdjobaaGreatXaj
import Derived.Test.YtljchnfgjdjobaaGreatXam
import Derived.Test.YtljchnfgjdjobaaGreatRows
import Derived.ProofKit
set_option linter.unusedVariables false
set_option linter.unusedSimpArgs false
set_option linter.defProp false
set_option linter.unusedSectionVars false
section
set_option maxRecDepth 100000
set_option maxHeartbeats 4000000
namespace Go.aI
open Go Go.Proofs Go.dD
def gJ:List T→List Bool→List T
 | t::r,u::s=>if u=true then gJ r s else t::gJ r s
 | _,_=>[]
theorem AU {p:T→Bool}:∀ {ts:List T} {us:List Bool},us.length=ts.length→∀ j:Nat,us.getD j true=false→p (ts.getD j default)=true→(∀ j',j' < j→us.getD j' true=true∨p (ts.getD j' default)=false)→
 (gJ ts us).getD ((gJ ts us).findIdx p) default=ts.getD j default∧gJ ts (us.set j true)=(gJ ts us).eraseIdx ((gJ ts us).findIdx p)
 | [],[],_,j,h,_,_=>by simp at h
 | t::r,u::s,hl,0,h,hp,hq=>by
   simp only [List.getD_cons_zero] at h hp
   subst h
   simp only [gJ,abI,if_false,List.findIdx_cons,hp,cond_true,List.getD_cons_zero,aeJ,if_true,List.eraseIdx_zero,List.tail_cons,and_self]
 | t::r,u::s,hl,j + 1,h,hp,hq=>by
   simp only [List.getD_cons_succ] at h hp
   have ih:=AU (ts:=r) (us:=s) (by simpa using hl) j h hp fun j' tx=>by
    have:=hq (j' + 1) (by omega)
    simpa using this
   have h0:=hq 0 (by omega)
   simp only [List.getD_cons_zero] at h0
   cases u with
   | true=>simpa [gJ] using ih
   | false=>
     rcases h0 with h0 | h0
     ·cases h0
     ·simp only [gJ,abI,if_false,List.findIdx_cons,h0,cond_false,List.getD_cons_succ,af1,List.eraseIdx_cons_succ]
      exact ⟨ih.1,by rw [ih.2]⟩
theorem tf {x:T}:∀ {ts:List T} {us:List Bool},us.length=ts.length→(x∈gJ ts us↔∃ j,j < ts.length∧us.getD j true=false∧ts.getD j default=x)
 | [],[],_=>by simp [gJ]
 | t::r,u::s,h=>by
   have ih:=tf (x:=x) (ts:=r) (us:=s) (by simpa using h)
   constructor
   ·intro hx
    rw [gJ] at hx
    split at hx
    ·obtain ⟨j,h1,h2,h3⟩:=ih.1 hx
     exact ⟨j + 1,by simpa using h1,by simpa using h2,by simpa using h3⟩
    ·rcases aak.1 hx with rfl | hx
     ·exact ⟨0,by simp,by cases u <;> simp_all,rfl⟩
     ·obtain ⟨j,h1,h2,h3⟩:=ih.1 hx
      exact ⟨j + 1,by simpa using h1,by simpa using h2,by simpa using h3⟩
   ·rintro ⟨j,h1,h2,h3⟩
    rw [gJ]
    cases j with
    | zero=>
      simp only [List.getD_cons_zero] at h2 h3
      subst h2;subst h3
      simp
    | succ j=>
      simp only [List.getD_cons_succ] at h2 h3
      have:=ih.2 ⟨j,by simpa using h1,h2,h3⟩
      split
      ·exact this
      ·exact aaA _ this
def E2 (ps ss:List Int) (ts:List T) (us:List Bool) (i j:Nat):Prop:=∀ k,k < i→us.getD k false=false→k≠j→oO ps ss (ts.getD j default) (ts.getD k default)=false
def QY (ps ss:List Int) (ts:List T) (us:List Bool) (v:Int):Prop:=
 (v=-1∧∀ j,j < ts.length→us.getD j false=true∨¬ E2 ps ss ts us ts.length j)∨
 ∃ j:Nat,v=j∧j < ts.length∧us.getD j false=false∧E2 ps ss ts us ts.length j∧∀ j',j' < j→us.getD j' false=true∨¬ E2 ps ss ts us ts.length j'
open Classical in
theorem afM {ps ss:List Int} (hv:Va ps ss) {ts:List T} (ht:∀ t∈ts,Tt ps t) (hlen:ts.length≤1000) {us:List Bool} (hu:us.length=ts.length) {id:Nat} {H:List aa} (hg:H[id]?=some (mV us)) :
 aA Tryz.prog 106 [dE ps ss,.al 0 (bN ts),.aZ id 0 us.length us.length] H fun r H'=>(∃ v:Int,r=.int .i64 v∧QY ps ss ts us v)∧H'=H:=by
 refine Xo.2.calls rfl ?_
 simp only [Xo,aH]
 obtain ⟨q1,q2,q3,q4,q5,q6⟩:=aR ps ss
 simp +contextual only [q1,sZ,Nat.reduceEqDiff,Nat.reduceAdd,↓reduceIte,reduceCtorEq]
 have fin:∀ v:Int,QY ps ss ts us v→bP H.length [.t 6] [(6,.int .i64 v)] H fun r H'=>(∃ v:Int,r=.int .i64 v∧QY ps ss ts us v)∧H'=H:=fun v h=>
  aT H.length (zy _) (by rw [aD,if_pos rfl];rfl) ⟨⟨v,by rw [aD,if_pos rfl],h⟩,aby⟩
 refine aq ts.length (fun i=>∀ j,j < i→us.getD j false=true∨¬ E2 ps ss ts us ts.length j) (fun i=>[(1,.al 0 (bN ts)),(2,.aZ id 0 us.length us.length),(3,.ah (dE ps ss)),(7,.int .i64 i)]) (fun _=>H) ⟨fun j h=>by omega,ax _ _ _⟩ fun i hi hI=>?_
 by_cases hl:i < ts.length
 rotate_left
 ·have l1:decide ((i:Int) < ts.length)=false:=decide_eq_false (by omega)
  simp +contextual only [l1,sZ,Nat.reduceEqDiff,↓reduceIte,reduceCtorEq]
  refine fun _=>fin _ (.inl ⟨rfl,fun j hj=>hI j (by omega)⟩)
 have l1:decide ((i:Int) < ts.length)=true:=decide_eq_true (by omega)
 have Qq:i < us.length:=by omega
 simp +contextual only [l1,jb,hg,R3 Qq,sZ,Nat.reduceEqDiff,↓reduceIte,reduceCtorEq]
 refine fun _=>⟨Qq,?_⟩
 refine aF ts.length (fun k (b:Bool)=>(b=true→us.getD i false=false∧E2 ps ss ts us k i)∧(b=false→us.getD i false=true∨¬ E2 ps ss ts us ts.length i))
  (fun k b=>[(1,.al 0 (bN ts)),(2,.aZ id 0 us.length us.length),(3,.ah (dE ps ss)),(7,.int .i64 i),(8,.bool b),(9,.int .i64 k)]) (fun _ _=>H) (!us.getD i false) ⟨⟨fun h=>⟨by simpa using h,fun k hk=>by omega⟩,fun h=>.inl (by simpa using h)⟩,ax _ _ _⟩ fun k b hk Io=>?_
 obtain ⟨i1,i2⟩:=Io
 have last:b=false→∃ j,(j≤ts.length∧∀ j',j' < j→us.getD j' false=true∨¬ E2 ps ss ts us ts.length j')∧ts.length - j < ts.length - i∧
  sle H.length [(1,.al 0 (bN ts)),(2,.aZ id 0 us.length us.length),(3,.ah (dE ps ss)),(7,.int .i64 (IntKind.i64.wrap ((i:Int) + 1)))] H [(1,.al 0 (bN ts)),(2,.aZ id 0 us.length us.length),(3,.ah (dE ps ss)),(7,.int .i64 j)] H:=fun hb=>by
  refine ⟨i + 1,⟨by omega,fun j' tx=>?_⟩,by omega,ay (by rw [aj i (by omega)]) rfl⟩
  by_cases h:j' < i
  ·exact hI j' h
  ·rw [show j'=i by omega];exact i2 hb
 by_cases sg:k < ts.length
 ·have l2:decide ((k:Int) < ts.length)=true:=decide_eq_true (by omega)
  have Cz:k < us.length:=by omega
  cases b with
  | false=>
    simp +contextual only [l2,sZ,Nat.reduceEqDiff,↓reduceIte]
    exact fun _=>last rfl
  | true=>
    obtain ⟨i3,i4⟩:=i1 rfl
    cases VB:us.getD k false with
    | true=>
      simp +contextual only [l2,jb,hg,R3 Cz,VB,sZ,Nat.reduceEqDiff,↓reduceIte,reduceCtorEq]
      refine fun _=>⟨Cz,k + 1,true,⟨by omega,fun _=>⟨i3,fun j hj h1 h2=>?_⟩,fun h=>(by cases h)⟩,by omega,ay (by rw [aj k (by omega)]) rfl⟩
      by_cases h:j < k
      ·exact i4 j h h1 h2
      ·rw [show j=k by omega,VB] at h1;cases h1
    | false=>
      by_cases Wc:k=i
      ·have d1:((k:Int)=i)=True:=eq_true (by omega)
       simp +contextual only [l2,jb,hg,R3 Cz,VB,d1,sZ,Nat.reduceEqDiff,↓reduceIte,reduceCtorEq]
       refine fun _=>⟨Cz,k + 1,true,⟨by omega,fun _=>⟨i3,fun j hj h1 h2=>?_⟩,fun h=>(by cases h)⟩,by omega,ay (by rw [aj k (by omega)]) rfl⟩
       exact i4 j (by omega) h1 h2
      ·have d1:((k:Int)=i)=False:=eq_false (by omega)
       simp +contextual only [l2,jb,hg,R3 Cz,VB,d1,q4,bQ,sZ,Nat.reduceEqDiff,↓reduceIte,reduceCtorEq]
       refine fun _=>⟨Cz,hl,sg,aB (c78 hv (ht _ (oc hl)) (ht _ (oc sg))) ?_⟩
       simp +contextual only [sZ,Nat.reduceEqDiff,↓reduceIte]
       cases WK:oO ps ss (ts.getD i default) (ts.getD k default) with
       | false=>
         refine ⟨k + 1,true,⟨by omega,fun _=>⟨i3,fun j hj h1 h2=>?_⟩,fun h=>(by cases h)⟩,by omega,ay (by rw [aj k (by omega),Bool.not_false]) rfl⟩
         by_cases h:j < k
         ·exact i4 j h h1 h2
         ·rw [show j=k by omega];exact WK
       | true=>
         refine ⟨k + 1,false,⟨by omega,fun h=>(by cases h),fun _=>.inr fun h=>?_⟩,by omega,ay (by rw [aj k (by omega),Bool.not_true]) rfl⟩
         rw [h k sg VB Wc] at WK;cases WK
 ·have hke:k=ts.length:=by omega
  subst hke
  have l2:decide ((ts.length:Int) < ts.length)=false:=decide_eq_false (by omega)
  cases b with
  | false=>
    simp +contextual only [l2,sZ,Nat.reduceEqDiff,↓reduceIte]
    exact fun _=>last rfl
  | true=>
    obtain ⟨i3,i4⟩:=i1 rfl
    simp +contextual only [l2,sZ,Nat.reduceEqDiff,↓reduceIte,reduceCtorEq]
    exact fun _=>fin _ (.inr ⟨i,rfl,hl,i3,i4,hI⟩)
theorem VI {ps ss:List Int} {ts:List T} {us:List Bool} (hu:us.length=ts.length) (dP:gJ ts us≠[]) {v:Int} (h:QY ps ss ts us v) :
 ∃ j:Nat,v=j∧j < ts.length∧us.getD j false=false∧(gJ ts us).getD (rA (oO ps ss) (gJ ts us)) default=ts.getD j default∧gJ ts (us.set j true)=(gJ ts us).eraseIdx (rA (oO ps ss) (gJ ts us)):=by
 have hi:∀ a,oO ps ss a a=false:=fun a=>ab0.2 fun h=>Mx rfl (dF.1 h)
 have ht:∀ a b c,oO ps ss a b=true→oO ps ss b c=true→oO ps ss a c=true:=fun a b c h h'=>dF.2 (BT (dF.1 h) (dF.1 h'))
 have gd:∀ j,j < ts.length→us.getD j true=us.getD j false:=fun j hj=>by
  have:j < us.length:=by omega
  simp [this]
 have key:∀ j,j < ts.length→((gJ ts us).all (fun x=>!oO ps ss (ts.getD j default) x)=true↔E2 ps ss ts us ts.length j):=by
  intro j hj
  rw [abc]
  constructor
  ·intro h k hk Cz _
   have:=h (ts.getD k default) ((tf hu).2 ⟨k,hk,by rw [gd k hk];exact Cz,rfl⟩)
   simpa using this
  ·intro h x hx
   obtain ⟨k,hk,Cz,rfl⟩:=(tf hu).1 hx
   rw [gd k hk] at Cz
   by_cases e:k=j
   ·rw [e,hi];rfl
   ·rw [h k hk Cz e];rfl
 rcases h with ⟨_,h⟩ | ⟨j,rfl,hj,hju,hm,hf⟩
 ·exfalso
  obtain ⟨h1,h2⟩:=IK hi ht dP
  have hm:(gJ ts us).getD (rA (oO ps ss) (gJ ts us)) default∈gJ ts us:=dM h1
  obtain ⟨k,hk,Cz,hke⟩:=(tf hu).1 hm
  rw [gd k hk] at Cz
  rcases h k hk with h3 | h3
  ·rw [Cz] at h3;cases h3
  ·refine h3 ((key k hk).1 (abc.2 fun x hx=>?_))
   rw [hke,h2 x hx];rfl
 ·refine ⟨j,rfl,hj,hju,?_⟩
  exact AU (p:=fun a=>(gJ ts us).all fun x=>!oO ps ss a x) hu j (by rw [gd j hj];exact hju) ((key j hj).2 hm) fun j' tx=>by
   have hl:j' < ts.length:=by omega
   rw [gd j' hl]
   rcases hf j' tx with h | h
   ·exact .inl h
   ·exact .inr (ab0.2 fun h2=>h ((key j' hl).1 h2))
theorem yF:∀ (ts:List T),gJ ts (List.replicate ts.length false)=ts
 | []=>rfl
 | t::r=>by rw [List.length_cons,acE,gJ,if_neg (by simp),yF r]
theorem c38 (s:Sg) (ps ss:List Int) (hs:On s ps ss) (ts:List T) (hlen:ts.length < 9223372036854775808):Pure Tryz.prog 38 [s.av,dE ps ss,.al 0 (bN ts)] (.tuple [.al 0 (bN (oa s ps ss ts).1),.int .i64 (oa s ps ss ts).2]):=by
 refine fun H=>k38.2.calls rfl ?_
 simp only [k38,aH]
 obtain ⟨q1,q2,q3,q4,q5,q6⟩:=aR ps ss
 simp +contextual only [aC,q1,q4,bQ,sZ,Nat.reduceEqDiff,Nat.reduceAdd,↓reduceIte,reduceCtorEq]
 refine ae (c77 s ps ss hs ts) ?_
 by_cases h0:fF s ps ss ts=0
 rotate_left
 ·have e:oa s ps ss ts=([],fF s ps ss ts):=by unfold oa;rw [if_neg h0]
  have f0:(fF s ps ss ts=0)=False:=eq_false h0
  rw [e]
  simp +contextual only [f0,sZ,Nat.reduceEqDiff,↓reduceIte,reduceCtorEq]
  exact yb (jz []) aby
 have f0:(fF s ps ss ts=0)=True:=eq_true h0
 by_cases Ft:1000 < ts.length
 ·have e:oa s ps ss ts=([],2):=by unfold oa;rw [if_pos h0,if_pos Ft]
  have ew:decide ((1000:Int) < ts.length)=true:=decide_eq_true (by omega)
  rw [e]
  simp +contextual only [f0,ew,sZ,Nat.reduceEqDiff,↓reduceIte,reduceCtorEq]
  exact fun _=>yb (jz []) aby
 have e:oa s ps ss ts=(vk (oO ps ss) ts.length ts,0):=by unfold oa;rw [if_pos h0,if_neg Ft]
 have ew:decide ((1000:Int) < ts.length)=false:=decide_eq_false (by omega)
 rw [e]
 obtain ⟨hv,ht⟩:=VC h0
 have n0:AV.ag=rj []:=rfl
 have mk:=fun K=>mkB ts.length H K (by omega)
 simp +contextual only [f0,ew,mk,sZ,Nat.reduceEqDiff,↓reduceIte]
 intro _
 rw [n0]
 refine aF ts.length (fun i (q:List Bool×List T)=>q.1.length=ts.length∧q.2.length=i∧(gJ ts q.1).length=ts.length - i∧q.2++vk (oO ps ss) (ts.length - i) (gJ ts q.1)=vk (oO ps ss) ts.length ts)
  (fun i q=>[(2,.al 0 (bN ts)),(4,.ah (dE ps ss)),(9,rj q.2),(10,.aZ H.length 0 ts.length ts.length),(11,.int .i64 i)]) (fun i q=>H++[mV q.1]) (List.replicate ts.length false,[]) ⟨⟨by simp,rfl,by rw [yF];rfl,by rw [yF];rfl⟩,ay rfl rfl⟩ fun i q ky hI=>?_
 obtain ⟨us,vs⟩:=q
 obtain ⟨i1,i2,i3,i4⟩:=hI
 simp only at i1 i2 i3 i4 ⊢
 have hg:(H++[mV us])[H.length]?=some (mV us):=by simp
 by_cases hl:i < ts.length
 ·have l1:decide ((i:Int) < ts.length)=true:=decide_eq_true (by omega)
  have dP:gJ ts us≠[]:=fun h=>by rw [h] at i3;simp at i3;omega
  simp +contextual only [l1,q4,bQ,sZ,Nat.reduceEqDiff,Nat.reduceAdd,↓reduceIte]
  have c106t:=afM hv ht (by omega) i1 hg
  rw [i1] at c106t
  refine fun _=>af c106t ?_
  rintro r G ⟨⟨v,rfl,hf⟩,rfl⟩
  obtain ⟨j,rfl,hj,hju,hm,hr⟩:=VI i1 dP hf
  have afO:j < us.length:=by omega
  have l2:decide ((j:Int) < 0)=false:=decide_eq_false (by omega)
  have es:(H++[mV us]).set H.length (mV (us.set j true))=H++[mV (us.set j true)]:=by simp
  simp +contextual only [l2,jb,hg,stB afO,es,HV,Aj,sZ,Nat.reduceEqDiff,↓reduceIte,reduceCtorEq]
  have HC:rA (oO ps ss) (gJ ts us) < (gJ ts us).length:=by
   have hi:∀ a,oO ps ss a a=false:=fun a=>ab0.2 fun h=>Mx rfl (dF.1 h)
   have ht:∀ a b c,oO ps ss a b=true→oO ps ss b c=true→oO ps ss a c=true:=fun a b c h h'=>dF.2 (BT (dF.1 h) (dF.1 h'))
   exact (IK hi ht dP).1
  refine ⟨hj,hj,by omega,i + 1,(us.set j true,vs++[ts.getD j default]),⟨by omega,by simpa using i1,by simp [i2],?_,?_⟩,by omega,ay (by rw [aj i (by omega)]) rfl⟩
  ·simp only
   rw [hr,agi,if_pos HC];omega
  ·simp only
   rw [hr,← hm,← i4,show ts.length - i=(ts.length - (i + 1)) + 1 by omega,vk,abe];rfl
 ·have VH:i=ts.length:=by omega
  have l1:decide ((i:Int) < ts.length)=false:=decide_eq_false (by omega)
  rw [VH,acG,vk,abJ] at i4
  simp +contextual only [l1,sZ,Nat.reduceEqDiff,↓reduceIte,reduceCtorEq]
  rw [← i4]
  exact fun _=>yb (by cases vs with | nil=>exact .inr (.inr (.inr (.inl ⟨rfl,0,rfl⟩))) | cons x r=>exact .inl rfl) (by simp)
end Go.aI
end
section
set_option maxRecDepth 100000
set_option maxHeartbeats 1000000
namespace Go.aI
open Go Go.Proofs Go.dD
theorem afP (xs ys:List T) (hf:∀ x∈xs,∀ y,Pure Tryz.prog 41 [x.av,y.av] (.bool (x.same y))) :
 Pure Tryz.prog 40 [.al 0 (bN xs),.al 0 (bN ys),.fn (.func 41) [] []] (.bool (gF xs ys)):=by
 refine fun H=>k40.2.calls rfl ?_
 simp only [k40,aH]
 simp only [sZ,Nat.reduceEqDiff,Nat.reduceAdd,↓reduceIte,reduceCtorEq]
 refine fun hx hy=>⟨fun dP=>?_,fun he _=>?_⟩
 ·refine aT H.length (zy _) (by simp only [sZ,↓reduceIte]) ?_
  simp only [sZ,↓reduceIte,aby]
  have:xs.length≠ys.length:=by simpa [Int.ofNat_inj] using dP
  cases hs:gF xs ys with
  | false=>rfl
  | true=>exact absurd (tY hs) this
 have E7:xs.length=ys.length:=by simpa [Int.ofNat_inj] using he
 refine aq xs.length (fun i=>gF (xs.drop i) (ys.drop i)=gF xs ys) (fun i=>[(1,.al 0 (bN ys)),(2,.fn (.func 41) [] []),(15,.al 0 (bN xs)),(16,.int .i64 xs.length),(17,.int .i64 i)]) (fun _=>H) ⟨rfl,ax _ _ _⟩ fun i hi hI=>?_
 simp only [sZ,Nat.reduceEqDiff,Nat.reduceAdd,↓reduceIte,reduceCtorEq]
 refine ⟨fun aM=>?_,fun fV=>?_⟩
 ·have aM:i < xs.length:=by simpa using aM
  have BQ:i < ys.length:=by omega
  refine ⟨aM,BQ,ae (hf _ (by simp [aM]) _) ?_⟩
  rw [xF aM BQ] at hI
  simp only [sZ,Nat.reduceEqDiff,↓reduceIte]
  refine nT (fun hn=>?_) (fun hn=>?_) <;> simp only [sZ,Nat.reduceEqDiff,↓reduceIte,reduceCtorEq]
  ·refine ⟨i + 1,⟨by omega,by rw [← hI,hn];rfl⟩,by omega,?_⟩
   refine sx ?_ (zy _) (by simp only [sZ]) _ rfl
   rw [aj i (by omega)]
  ·refine aT H.length (zy _) (by simp only [sZ,↓reduceIte]) ?_
   rw [← hI,hn]
   exact ⟨rfl,by simp⟩
 ·have fV:¬ i < xs.length:=by simpa using fV
  refine aT H.length (zy _) (by simp only [sZ,↓reduceIte]) ?_
  rw [aap (by omega),aap (by omega)] at hI
  simp [get,← hI,gF]
theorem c39 (ps ss:List Int):Pure Tryz.prog 39 [dE ps ss,dE ps ss] (.bool true):=by
 refine fun H=>k39.2.calls rfl ?_
 simp only [k39,aH]
 obtain ⟨q1,q2,q3,q4,q5,q6⟩:=aR ps ss
 simp +contextual only [q1,rv,sT,ap,sZ,Nat.reduceEqDiff,Nat.reduceAdd,↓reduceIte,reduceCtorEq]
 refine fun hp hs=>aq ps.length (fun _=>True) (fun i=>[(2,.ah (dE ps ss)),(3,.ah (dE ps ss)),(5,.int .i64 i)]) (fun _=>H) ⟨trivial,ax _ _ _⟩ fun i hi hI=>?_
 by_cases hl:i < ps.length
 ·have l1:decide ((i:Int) < ps.length)=true:=decide_eq_true (by omega)
  simp +contextual only [l1,rv,ap,aN,sZ,Nat.reduceEqDiff,↓reduceIte]
  exact fun _=>⟨⟨by omega,by omega⟩,⟨by omega,by omega⟩,i + 1,by omega,by omega,ay (by rw [aj i (by omega)]) rfl⟩
 ·have l1:decide ((i:Int) < ps.length)=false:=decide_eq_false (by omega)
  simp +contextual only [l1,rv,ap,sZ,Nat.reduceEqDiff,↓reduceIte]
  refine fun _=>aq ss.length (fun _=>True) (fun i=>[(2,.ah (dE ps ss)),(3,.ah (dE ps ss)),(6,.int .i64 i)]) (fun _=>H) ⟨trivial,ax _ _ _⟩ fun k hk hI=>?_
  by_cases hl:k < ss.length
  ·have l1:decide ((k:Int) < ss.length)=true:=decide_eq_true (by omega)
   simp +contextual only [l1,sT,ap,aN,sZ,Nat.reduceEqDiff,↓reduceIte]
   exact fun _=>⟨⟨by omega,by omega⟩,⟨by omega,by omega⟩,k + 1,by omega,by omega,ay (by rw [aj k (by omega)]) rfl⟩
  ·have l1:decide ((k:Int) < ss.length)=false:=decide_eq_false (by omega)
   simp +contextual only [l1,sT,ap,sZ,Nat.reduceEqDiff,↓reduceIte,reduceCtorEq]
   exact fun _=>aK rfl rfl
end Go.aI
end
section
set_option maxRecDepth 100000
set_option maxHeartbeats 0
namespace Go.aI
open Go Go.Proofs
noncomputable def k6:=aH Tryz.call6 Tryz.func6 Tryz.ntmps6 [(0,0,1),(0,1,1),(5,6,1000),(6,6,1000)] [(0,[2,3,4]),(1,[2,3,4,18]),(2,[6]),(3,[2,3,4,38]),(4,[6]),(5,[2,3,4,7,8,9]),(6,[2,3,4,7,8,9,10,11,12]),(7,[2,3,4,7,8,9,10,11,12,13,14]),(8,[7,8,9,10,11,12,13,14,15,16]),(9,[6])] []
end Go.aI
end
section
set_option maxRecDepth 100000
set_option maxHeartbeats 4000000
namespace Go.aI
open Go Go.Proofs Go.dD
theorem c6 (t:Ty) (ps ss:List Int) (l:List T):Pure Tryz.prog 6 [t.av,dE ps ss,.al 0 (bN l)] (.bool true):=by
 refine fun H=>k6.2.calls rfl ?_
 simp only [k6,aH]
 obtain ⟨q1,q2,q3,q4,q5,q6⟩:=aR ps ss
 obtain ⟨e1,e2,e3,e4,e5,e6⟩:=Ty.facts t
 simp +contextual only [q1,e1,sZ,Nat.reduceEqDiff,Nat.reduceAdd,↓reduceIte,reduceCtorEq]
 refine ae c17 ?_
 have fin:∀ (G:List aa),G.take H.length=H→bP H.length [.t 6] [(6,.bool true)] G fun r H'=>r=.bool true∧H'=H:=fun G hG=>
  aT H.length (zy _) (by rw [aD,if_pos rfl];rfl) ⟨by rw [aD,if_pos rfl],hG⟩
 simp +contextual only [e4,gl,sZ,Nat.reduceEqDiff,Nat.reduceAdd,↓reduceIte]
 refine af (c30 t H) ?_
 rintro r G ⟨⟨b1,rfl⟩,rfl⟩
 cases b1 with
 | false=>simp +contextual only [sZ,Nat.reduceEqDiff,↓reduceIte,reduceCtorEq];exact fin _ (by simp)
 | true=>
 simp +contextual only [aC,q4,bQ,vR,sZ,Nat.reduceEqDiff,Nat.reduceAdd,↓reduceIte]
 refine af (c18 t.s ps ss _) ?_
 rintro r G' ⟨⟨b2,rfl,hb⟩,rfl⟩
 cases b2 with
 | false=>simp +contextual only [sZ,Nat.reduceEqDiff,↓reduceIte,reduceCtorEq];exact fin _ (by simp)
 | true=>
 have hs:=hb rfl
 by_cases abq:(20:Int) < l.length
 ·have e0:decide ((20:Int) < l.length)=true:=decide_eq_true abq
  simp +contextual only [e0,sZ,Nat.reduceEqDiff,↓reduceIte,reduceCtorEq]
  exact fun _=>fin _ (by simp)
 have e0:decide ((20:Int) < l.length)=false:=decide_eq_false abq
 simp +contextual only [e0,sZ,Nat.reduceEqDiff,Nat.reduceAdd,↓reduceIte]
 refine fun hlen=>af (c19 200 l _) ?_
 rintro r G'' ⟨⟨b3,rfl⟩,rfl⟩
 cases b3 with
 | false=>simp +contextual only [sZ,Nat.reduceEqDiff,↓reduceIte,reduceCtorEq];exact fin _ (by simp)
 | true=>
 have hn:t.s.ops.length≤1000000:=by have:=hs.h1;omega
 have VS:(yI t).length≤1000000:=abW nc hn
 have hr:∀ i∈yI t,0≤i∧i < t.s.ops.length:=fun i hi=>by
  have:=IH.1 hi;exact ⟨this.1,this.2.1⟩
 have c35t:=c35 (c62 t) (fun _=>c92 t hn) Np (fun _=>hr) VS
 have c36t:=c36 hs
 generalize zx (yJ t) t (yI t)=f at c35t c36t
 obtain ⟨P,S,ef⟩:=AN f.1
 rw [ef] at c35t c36t
 obtain ⟨w1,w2,w3,w4,w5,w6⟩:=aR P S
 have c37t:=c37 t.s ps ss l hlen
 have c38t:=c38 t.s ps ss hs l hlen
 generalize oa t.s ps ss l=g at c37t c38t
 have c40t:=afP g.1 g.1 fun x _ y=>c41 x y
 rw [(uf g.1 g.1).2 rfl] at c40t
 simp +contextual only [e4,gl,sZ,Nat.reduceEqDiff,Nat.reduceAdd,↓reduceIte]
 refine ae c35t ?_
 simp +contextual only [w1,w2,w3,w4,e4,gl,sZ,Nat.reduceEqDiff,Nat.reduceAdd,Nat.reduceLT,↓reduceIte]
 refine ae c36t ?_
 simp +contextual only [aC,w1,w2,w3,w4,q4,bQ,vR,sZ,Nat.reduceEqDiff,Nat.reduceAdd,Nat.reduceLT,↓reduceIte]
 refine ae c37t ?_
 simp +contextual only [aC,q4,bQ,vR,sZ,Nat.reduceEqDiff,Nat.reduceAdd,Nat.reduceLT,↓reduceIte]
 refine ae c38t ?_
 simp +contextual only [w4,bQ,sZ,Nat.reduceEqDiff,Nat.reduceAdd,Nat.reduceLT,↓reduceIte]
 refine ae (c39 P S) ?_
 simp +contextual only [sZ,Nat.reduceEqDiff,Nat.reduceAdd,↓reduceIte]
 refine ae c40t ?_
 simp +contextual only [sZ,Nat.reduceEqDiff,↓reduceIte,reduceCtorEq]
 exact fin _ (by simp)
end Go.aI
end
section
set_option maxRecDepth 100000
namespace Go.aI
open Go Go.RowKit Go.dD
section
variable {H:Type} {enc:TypeId×Value→H} {P:Program} {w:World} {base:Nat} {sp:Nat→Bool} {held:Bool}
def Rd {H:Type} (enc:TypeId×Value→H) (P:Program) (w:World) (base:Nat) (sp:Nat→Bool) (held:Bool) {α:Type} (t:TypeId) (g:α→AV) (R:DataW H→α→Prop):Prop:=
 ∀ (fuel:Nat) (cs:List Value) (x:DataW H×List MemPlace),DataW.trod enc P w base sp held fuel t cs=some x→∃ a,aP (eH w) [] cs (g a).cells∧R x.1 a
theorem NU {ti:TypeId} (h:P.underlying ti=some (.int .i64)):Rd enc P w base sp held ti (fun n:Int=>.int .i64 n) (fun _ _=>True):=by
 intro fuel cs x hx
 obtain ⟨k,rfl,_,_⟩:=DataW.trod_int h hx
 exact ⟨k,.cons _ _ _ _ (.int _ _) .nil,trivial⟩
theorem NV {ti:TypeId} (h:P.underlying ti=some .string):Rd enc P w base sp held ti (fun s:ByteArray=>.str s) (fun _ _=>True):=by
 intro fuel cs x hx
 obtain ⟨k,rfl,_,_⟩:=DataW.trod_string h hx
 exact ⟨k,.cons _ _ _ _ (.str _) .nil,trivial⟩
def yG {α:Type} (d:DataW H) (l:List α):Prop:=match d with | .slice es _=>l.length=es.length | _=>l=[]
theorem pI {α:Type} [Inhabited α] {te tl:TypeId} {g:α→AV} {R:DataW H→α→Prop} {e:Nat} (hl:P.underlying tl=some (.slice te)) (hc:P.cellsOf te=e) (he:0 < e) (h:Rd enc P w base sp held te g R) :
 Rd enc P w base sp held tl (fun l:List α=>.al 0 (l.map g)) yG:=by
 intro fuel cs x hx
 rcases DataW.trod_slice hl hx with ⟨rfl,rfl⟩ | ⟨a,len,cap,elems,rest,m,hm,rfl,rfl,hb,hle,bY,KY,kM,_,_⟩
 ·exact ⟨[],.cons _ _ _ _ a7.ag.drop .nil,rfl⟩
 ·rw [hc] at kM
  have hex:∀ i,i < len→∃ t:α,∃ cs',w.cells? base (a.add (i * e)) e=some cs'∧aP (eH w) [] cs' (g t).cells:=by
   intro i hi
   have:=kM i hi
   rw [Hj (by omega)] at this
   obtain ⟨cs',k1,k2⟩:=Option.bind_eq_some_iff.1 this
   obtain ⟨t,ht,_⟩:=h _ _ _ k2
   exact ⟨t,cs',k1,ht⟩
  have hf:∃ f:Nat→α,∀ i,i < len→∃ cs',w.cells? base (a.add (i * e)) e=some cs'∧aP (eH w) [] cs' (g (f i)).cells:=by
   refine ⟨fun i=>if hi:i < len then Classical.choose (hex i hi) else default,fun i hi=>?_⟩
   simp only [dif_pos hi]
   exact Classical.choose_spec (hex i hi)
  obtain ⟨f,hf⟩:=hf
  refine ⟨(List.range len).map f,.cons _ _ _ _ ?_ .nil,by simp [yG,KY]⟩
  show a7 (eH w) [] _ (.al 0 (((List.range len).map f).map g))
  rw [acH]
  refine Ab (e:=e) (base:=base) he hle bY (fun i=>if hi:i < len then Classical.choose (hf i hi) else []) _ fun i hi=>?_
  simp only [dif_pos hi]
  exact Classical.choose_spec (hf i hi)
structure oC (P:Program) (ti ts tis tss top tops tsig:TypeId):Prop where
 int:P.underlying ti=some (.int .i64)
 str:P.underlying ts=some .string
 ints:P.underlying tis=some (.slice ti)
 strs:P.underlying tss=some (.slice ts)
 op:∃ f0 f1 f2:Field,P.underlying top=some (.struct #[f0,f1,f2])∧f0.type=ts∧f0.offset=0∧f1.type=tis∧f1.offset=1∧f2.type=ti∧f2.offset=2
 ops:P.underlying tops=some (.slice top)
 sig:∃ f0 f1:Field,P.underlying tsig=some (.struct #[f0,f1])∧f0.type=tss∧f0.offset=0∧f1.type=tops∧f1.offset=1
 c:P.cellsOf ti=1∧P.cellsOf ts=1∧P.cellsOf tis=1∧P.cellsOf tss=1∧P.cellsOf top=3∧P.cellsOf tops=1∧P.cellsOf tsig=2
variable {ti ts tis tss top tops tsig:TypeId}
theorem lz {v:List Value} {x:AV} (h:aP (eH w) [] v [x]):∃ u,v=[u]∧a7 (eH w) [] u x:=by
 cases h with
 | cons v x vs xs h t=>cases t;exact ⟨_,rfl,h⟩
theorem wC (S:oC P ti ts tis tss top tops tsig):Rd enc P w base sp held tis (fun l:List Int=>.al 0 (ints l)) yG:=pI S.ints S.c.1 (by decide) (NU S.int)
theorem QZ (S:oC P ti ts tis tss top tops tsig):Rd enc P w base sp held tss (fun l:List ByteArray=>.al 0 (strs l)) yG:=pI S.strs S.c.2.1 (by decide) (NV S.str)
theorem abr (S:oC P ti ts tis tss top tops tsig):Rd enc P w base sp held top jg.av (fun _ _=>True):=by
 intro fuel cs x h
 obtain ⟨f0,f1,f2,hu,h0,o0,h1,o1,h2,o2⟩:=S.op
 obtain ⟨c1,c2,c3,c4,c5,c6,c7⟩:=S.c
 obtain ⟨xs,m,rfl,rfl,hlen,fe,hf⟩:=DataW.trod_struct hu h
 have g0:=hf 0 f0 rfl
 have g1:=hf 1 f1 rfl
 have g2:=hf 2 f2 rfl
 rw [h0,o0,c2] at g0
 rw [h1,o1,c3] at g1
 rw [h2,o2,c1] at g2
 simp at fe
 rw [c5] at hlen
 match cs,hlen with
 | [a,b,c],_=>
   have e0:xs[0]?=some xs[0]:=by simp [fe]
   have e1:xs[1]?=some xs[1]:=by simp [fe]
   have e2:xs[2]?=some xs[2]:=by simp [fe]
   rw [e0] at g0;rw [e1] at g1;rw [e2] at g2
   obtain ⟨nm,r0,_⟩:=NV S.str _ _ _ g0
   obtain ⟨ar,r1,_⟩:=wC S _ _ _ g1
   obtain ⟨re,r2,_⟩:=NU S.int _ _ _ g2
   obtain ⟨_,q0,r0⟩:=lz r0
   obtain ⟨_,q1,r1⟩:=lz r1
   obtain ⟨_,q2,r2⟩:=lz r2
   simp at q0 q1 q2
   subst q0 q1 q2
   exact ⟨⟨nm,ar,re⟩,.cons _ _ _ _ r0 (.cons _ _ _ _ r1 (.cons _ _ _ _ r2 .nil)),trivial⟩
theorem VJ (S:oC P ti ts tis tss top tops tsig):Rd enc P w base sp held tops (fun l:List jg=>.al 0 (pw l)) yG:=pI S.ops S.c.2.2.2.2.1 (by decide) (abr S)
theorem VK (S:oC P ti ts tis tss top tops tsig):Rd enc P w base sp held tsig Sg.av (fun _ _=>True):=by
 intro fuel cs x h
 obtain ⟨f0,f1,hu,h0,o0,h1,o1⟩:=S.sig
 obtain ⟨c1,c2,c3,c4,c5,c6,c7⟩:=S.c
 obtain ⟨xs,m,rfl,rfl,hlen,fe,hf⟩:=DataW.trod_struct hu h
 have g0:=hf 0 f0 rfl
 have g1:=hf 1 f1 rfl
 rw [h0,o0,c4] at g0
 rw [h1,o1,c6] at g1
 simp at fe
 rw [c7] at hlen
 match cs,hlen with
 | [a,b],_=>
   have e0:xs[0]?=some xs[0]:=by simp [fe]
   have e1:xs[1]?=some xs[1]:=by simp [fe]
   rw [e0] at g0;rw [e1] at g1
   obtain ⟨nm,r0,_⟩:=QZ S _ _ _ g0
   obtain ⟨ar,r1,_⟩:=VJ S _ _ _ g1
   obtain ⟨_,q0,r0⟩:=lz r0
   obtain ⟨_,q1,r1⟩:=lz r1
   simp at q0 q1
   subst q0 q1
   exact ⟨⟨nm,ar⟩,.cons _ _ _ _ r0 (.cons _ _ _ _ r1 .nil),trivial⟩
structure VL (P:Program) (tis tod:TypeId):Prop where
 od:∃ f0 f1:Field,P.underlying tod=some (.struct #[f0,f1])∧f0.type=tis∧f0.offset=0∧f1.type=tis∧f1.offset=1
 c:P.cellsOf tod=2
theorem abt (S:oC P ti ts tis tss top tops tsig) {tod:TypeId} (O:VL P tis tod):Rd enc P w base sp held tod (fun o:List Int×List Int=>dE o.1 o.2) (fun _ _=>True):=by
 intro fuel cs x h
 obtain ⟨f0,f1,hu,h0,o0,h1,o1⟩:=O.od
 obtain ⟨c1,c2,c3,c4,c5,c6,c7⟩:=S.c
 obtain ⟨xs,m,rfl,rfl,hlen,fe,hf⟩:=DataW.trod_struct hu h
 have g0:=hf 0 f0 rfl
 have g1:=hf 1 f1 rfl
 rw [h0,o0,c3] at g0
 rw [h1,o1,c3] at g1
 simp at fe
 rw [O.c] at hlen
 match cs,hlen with
 | [a,b],_=>
   have e0:xs[0]?=some xs[0]:=by simp [fe]
   have e1:xs[1]?=some xs[1]:=by simp [fe]
   rw [e0] at g0;rw [e1] at g1
   obtain ⟨nm,r0,_⟩:=wC S _ _ _ g0
   obtain ⟨ar,r1,_⟩:=wC S _ _ _ g1
   obtain ⟨_,q0,r0⟩:=lz r0
   obtain ⟨_,q1,r1⟩:=lz r1
   simp at q0 q1
   subst q0 q1
   exact ⟨(nm,ar),.cons _ _ _ _ r0 (.cons _ _ _ _ r1 .nil),trivial⟩
theorem Q0 (S:oC P ti ts tis tss top tops tsig) {tod:TypeId} (O:VL P tis tod) {r:Reach} {b0:Nat} {v:Value} {d:DataW H} {ps:List MemPlace} (nD:Value.okWide P w r b0 tod v) (hd:DataW.Trod enc P w base sp held tod v d ps):∃ pl st:List Int,a7 (eH w) [] v (dE pl st):=by
 obtain ⟨f0,f1,hu,_⟩:=O.od
 obtain ⟨cs,rfl,_⟩:=WideShapes.okWide_struct hu nD
 obtain ⟨fuel,hf⟩:=hd
 obtain ⟨o,h1,_⟩:=abt S O _ _ _ hf
 refine ⟨o.1,o.2,?_⟩
 have:a7 (eH w) [] (.agg cs.toList.toArray) (dE o.1 o.2):=.agg _ _ h1
 simpa using this
end
end Go.aI
end
section
set_option maxRecDepth 100000
namespace Go.aI
open Go Go.RowKit Go.dD
section
variable {H:Type} {enc:TypeId×Value→H} {P:Program} {w:World} {base:Nat} {sp:Nat→Bool} {held:Bool}
variable {ti ts tis tss top tops tsig tt tl tc tcs tq tqs ty:TypeId}
structure Hi (P:Program) (tis tsig tt tc tcs tq tqs ty:TypeId):Prop where
 pair:∃ f0 f1:Field,P.underlying tc=some (.struct #[f0,f1])∧f0.type=tt∧f0.offset=0∧f1.type=tt∧f1.offset=3
 abu:P.underlying tcs=some (.slice tc)
 eqn:∃ f0 f1 f2 f3:Field,P.underlying tq=some (.struct #[f0,f1,f2,f3])∧(f0.type=tis∧f0.offset=0)∧(f1.type=tcs∧f1.offset=1)∧(f2.type=tt∧f2.offset=2)∧(f3.type=tt∧f3.offset=5)
 afQ:P.underlying tqs=some (.slice tq)
 typ:∃ f0 f1:Field,P.underlying ty=some (.struct #[f0,f1])∧f0.type=tsig∧f0.offset=0∧f1.type=tqs∧f1.offset=2
 c:P.cellsOf tc=6∧P.cellsOf tcs=1∧P.cellsOf tq=8∧P.cellsOf tqs=1∧P.cellsOf ty=3
theorem Q3 (hT:k7 P ti tt tl):Rd enc P w base sp held tt T.av (fun _ _=>True):=by
 intro fuel cs x hx
 obtain ⟨t,h1,_⟩:=(Am hT fuel).1 _ _ hx
 exact ⟨t,h1,trivial⟩
theorem abv (hT:k7 P ti tt tl) (Y:Hi P tis tsig tt tc tcs tq tqs ty):Rd enc P w base sp held tc Cn.av (fun _ _=>True):=by
 intro fuel cs x h
 obtain ⟨f0,f1,hu,h0,o0,h1,o1⟩:=Y.pair
 obtain ⟨c1,c2,c3,c4,c5⟩:=Y.c
 obtain ⟨xs,m,rfl,rfl,hlen,fe,hf⟩:=DataW.trod_struct hu h
 have g0:=hf 0 f0 rfl
 have g1:=hf 1 f1 rfl
 rw [h0,o0,hT.c3] at g0
 rw [h1,o1,hT.c3] at g1
 simp at fe
 rw [c1] at hlen
 match cs,hlen with
 | [a,b,c,d,e,f],_=>
   have e0:xs[0]?=some xs[0]:=by simp [fe]
   have e1:xs[1]?=some xs[1]:=by simp [fe]
   rw [e0] at g0;rw [e1] at g1
   obtain ⟨⟨k,n,l⟩,r0,_⟩:=Q3 hT _ _ _ g0
   obtain ⟨⟨k',n',l'⟩,r1,_⟩:=Q3 hT _ _ _ g1
   have r0':aP (eH w) [] [a,b,c] [.int .i64 k,.int .i64 n,.al 0 (bN l)]:=r0
   have r1':aP (eH w) [] [d,e,f] [.int .i64 k',.int .i64 n',.al 0 (bN l')]:=r1
   exact ⟨⟨.mk k n l,.mk k' n' l'⟩,r0'.append r1',trivial⟩
theorem VM (hT:k7 P ti tt tl) (Y:Hi P tis tsig tt tc tcs tq tqs ty):Rd enc P w base sp held tcs (fun l:List Cn=>.al 0 (rB l)) yG:=pI Y.abu Y.c.1 (by decide) (abv hT Y)
theorem VN (S:oC P ti ts tis tss top tops tsig) (hT:k7 P ti tt tl) (Y:Hi P tis tsig tt tc tcs tq tqs ty):Rd enc P w base sp held tq iL.av (fun _ _=>True):=by
 intro fuel cs x h
 obtain ⟨f0,f1,f2,f3,hu,⟨h0,o0⟩,⟨h1,o1⟩,⟨h2,o2⟩,⟨h3,o3⟩⟩:=Y.eqn
 obtain ⟨c1,c2,c3,c4,c5⟩:=Y.c
 obtain ⟨xs,m,rfl,rfl,hlen,fe,hf⟩:=DataW.trod_struct hu h
 have g0:=hf 0 f0 rfl
 have g1:=hf 1 f1 rfl
 have g2:=hf 2 f2 rfl
 have g3:=hf 3 f3 rfl
 rw [h0,o0,S.c.2.2.1] at g0
 rw [h1,o1,c2] at g1
 rw [h2,o2,hT.c3] at g2
 rw [h3,o3,hT.c3] at g3
 simp at fe
 rw [c3] at hlen
 match cs,hlen with
 | [a,b,c,d,e,f,g,i],_=>
   have e0:xs[0]?=some xs[0]:=by simp [fe]
   have e1:xs[1]?=some xs[1]:=by simp [fe]
   have e2:xs[2]?=some xs[2]:=by simp [fe]
   have e3:xs[3]?=some xs[3]:=by simp [fe]
   rw [e0] at g0;rw [e1] at g1;rw [e2] at g2;rw [e3] at g3
   obtain ⟨vs,r0,_⟩:=wC S _ _ _ g0
   obtain ⟨cn,r1,_⟩:=VM hT Y _ _ _ g1
   obtain ⟨⟨k,n,l⟩,r2,_⟩:=Q3 hT _ _ _ g2
   obtain ⟨⟨k',n',l'⟩,r3,_⟩:=Q3 hT _ _ _ g3
   have r0':aP (eH w) [] [a] [.al 0 (ints vs)]:=r0
   have r1':aP (eH w) [] [b] [.al 0 (rB cn)]:=r1
   have r2':aP (eH w) [] [c,d,e] [.int .i64 k,.int .i64 n,.al 0 (bN l)]:=r2
   have r3':aP (eH w) [] [f,g,i] [.int .i64 k',.int .i64 n',.al 0 (bN l')]:=r3
   exact ⟨⟨vs,cn,.mk k n l,.mk k' n' l'⟩,r0'.append (r1'.append (r2'.append r3')),trivial⟩
theorem Q4 (S:oC P ti ts tis tss top tops tsig) (hT:k7 P ti tt tl) (Y:Hi P tis tsig tt tc tcs tq tqs ty):Rd enc P w base sp held tqs (fun l:List iL=>.al 0 (mq l)) yG:=pI Y.afQ Y.c.2.2.1 (by decide) (VN S hT Y)
theorem abw (S:oC P ti ts tis tss top tops tsig) (hT:k7 P ti tt tl) (Y:Hi P tis tsig tt tc tcs tq tqs ty):Rd enc P w base sp held ty Ty.av (fun _ _=>True):=by
 intro fuel cs x h
 obtain ⟨f0,f1,hu,h0,o0,h1,o1⟩:=Y.typ
 obtain ⟨c1,c2,c3,c4,c5⟩:=Y.c
 obtain ⟨xs,m,rfl,rfl,hlen,fe,hf⟩:=DataW.trod_struct hu h
 have g0:=hf 0 f0 rfl
 have g1:=hf 1 f1 rfl
 rw [h0,o0,S.c.2.2.2.2.2.2] at g0
 rw [h1,o1,c4] at g1
 simp at fe
 rw [c5] at hlen
 match cs,hlen with
 | [a,b,c],_=>
   have e0:xs[0]?=some xs[0]:=by simp [fe]
   have e1:xs[1]?=some xs[1]:=by simp [fe]
   rw [e0] at g0;rw [e1] at g1
   obtain ⟨s,r0,_⟩:=VK S _ _ _ g0
   obtain ⟨es,r1,_⟩:=Q4 S hT Y _ _ _ g1
   have r0':aP (eH w) [] [a,b] [.al 0 (strs s.aU),.al 0 (pw s.ops)]:=r0
   have r1':aP (eH w) [] [c] [.al 0 (mq es)]:=r1
   exact ⟨⟨s,es⟩,r0'.append r1',trivial⟩
theorem Q5 (S:oC P ti ts tis tss top tops tsig) (hT:k7 P ti tt tl) (Y:Hi P tis tsig tt tc tcs tq tqs ty) {r:Reach} {b0:Nat} {v:Value} {d:DataW H} {ps:List MemPlace} (nD:Value.okWide P w r b0 ty v) (hd:DataW.Trod enc P w base sp held ty v d ps):∃ t:Ty,a7 (eH w) [] v t.av:=by
 obtain ⟨f0,f1,hu,_⟩:=Y.typ
 obtain ⟨cs,rfl,_⟩:=WideShapes.okWide_struct hu nD
 obtain ⟨fuel,hf⟩:=hd
 obtain ⟨o,h1,_⟩:=abw S hT Y _ _ _ hf
 refine ⟨o,?_⟩
 have:a7 (eH w) [] (.agg cs.toList.toArray) o.av:=.agg _ _ h1
 simpa using this
end
end Go.aI
end
section
set_option maxRecDepth 100000
namespace Go.Proofs.YtljchnfgjdjobaaGreat
open Go
theorem VO:laidOutB Tryz.checked.prog=true:=by kernel_rfl
theorem VP:mapsRowed Tryz.checked.prog=true:=by kernel_rfl
theorem Q6:Tryz.checked.prog.stopsHeard=true:=by kernel_rfl
theorem Q7:Tryz.checked.prog.mayEnter=true:=by kernel_rfl
theorem Q8:Tryz.checked.prog.liftsFinal=false:=by kernel_rfl
end Go.Proofs.YtljchnfgjdjobaaGreat
end
