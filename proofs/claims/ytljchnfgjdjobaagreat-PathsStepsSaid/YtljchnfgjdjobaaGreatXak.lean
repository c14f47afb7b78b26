/- Part 11 of 17 of the proof. -/
import Derived.Test.YtljchnfgjdjobaaGreatXaj
import Derived.Test.YtljchnfgjdjobaaGreatXag
import Derived.KernelRfl
import Derived.Test.YtljchnfgjdjobaaGreatXai
import Derived.Test.YtljchnfgjdjobaaGreatXac
set_option linter.unusedVariables false
set_option linter.unusedSimpArgs false
set_option linter.defProp false
set_option linter.unusedSectionVars false
section
set_option maxRecDepth 100000
namespace Go.aK
open Go Go.Proofs Go.fo
def iV (w:List (Int×Int)):List (AV×AV):=w.map fun p=>(.int .i64 p.1,.int .i64 p.2)
theorem Hy (n:Int):∀ (w:List (Int×Int)) (i:Nat),(∃ j s,w[j]?=some (n,s)∧dt 0 (.int .i64 n) (iV w) i=some (some (i + j,.int .i64 s)))∨((∀ p∈w,p.1≠n)∧dt 0 (.int .i64 n) (iV w) i=some none)
 | [],i=>.inr ⟨(fun p h=>by cases h),rfl⟩
 | (a,b)::r,i=>by
   have ih:=Hy n r (i + 1)
   simp only [iV,List.map_cons,dt,cL,if_true]
   by_cases h:n=a
   ·subst h
    exact .inl ⟨0,b,rfl,by simp⟩
   ·simp only [decide_eq_false h]
    rcases ih with ⟨j,s,h1,h2⟩ | ⟨h1,h2⟩
    ·exact .inl ⟨j + 1,s,h1,by rw [show i + (j + 1)=i + 1 + j by omega];exact h2⟩
    ·refine .inr ⟨fun p hp=>?_,h2⟩
     rcases OU.1 hp with rfl | hp
     ·exact fun e=>h e.symm
     ·exact h1 p hp
theorem lkW {n:Int} {w:List (Int×Int)} {φ:AV→Prop} (h1:∀ s,(n,s)∈w→φ (.tuple [.int .i64 s,.bool true])) (h2:(∀ p∈w,p.1≠n)→φ (.tuple [.int .i64 0,.bool false])):gK (some (.map (iV w))) 0 (.int .i64 0) (.int .i64 n) true φ:=by
 unfold gK
 rcases Hy n w 0 with ⟨j,s,h3,h4⟩ | ⟨h3,h4⟩
 ·simp only [h4];exact h1 s (abJ h3)
 ·simp only [h4];exact ⟨by simp [cL],h2 h3⟩
theorem msW {n s:Int} {w:List (Int×Int)} {id:Nat} {H:List aa} {K:List aa→Prop} (h:∀ w',(∀ p∈w',p∈w∨p=(n,s))→(∀ p∈w,∃ q∈w',q.1=p.1)→(n,s)∈w'→K (H.set id (.map (iV w')))):fx (some (.map (iV w))) 0 id (.int .i64 n) (.int .i64 s) H K:=by
 unfold fx
 refine ⟨rfl,rfl,rfl,?_⟩
 have ec:aR (.int .i64 s)=.int .i64 s:=rfl
 rcases Hy n w 0 with ⟨j,x,h3,h4⟩ | ⟨h3,h4⟩
 ·simp only [h4,ec,acC]
  have e:(iV w).set j (.int .i64 n,.int .i64 s)=iV (w.set j (n,s)):=by simp [iV,adK]
  rw [e]
  have hj:=(aaH.1 h3).1
  refine h _ (fun p hp=>acH hp) (fun p hp=>?_) (aeS.2 ⟨j,by rw [zD hj]⟩)
  obtain ⟨m,hm⟩:=aeS.1 hp
  by_cases e:j=m
  ·subst e
   rw [h3] at hm;cases hm
   exact ⟨(n,s),aeS.2 ⟨j,by rw [zD hj]⟩,rfl⟩
  ·exact ⟨p,aeS.2 ⟨m,by rw [zC e];exact hm⟩,rfl⟩
 ·simp only [h4,ec]
  refine ⟨by simp [cL],?_⟩
  have e:iV w++[(AV.int .i64 n,AV.int .i64 s)]=iV (w++[(n,s)]):=by simp [iV]
  rw [e]
  exact h _ (fun p hp=>by simpa using hp) (fun p hp=>⟨p,ab7.2 (.inl hp),rfl⟩) (by simp)
structure Sa (ps ss:List Int) (i:Nat):Prop where
 SU:∀ j,j < i→0≤ps.getD j 0∧ps.getD j 0≤255∧1≤ss.getD j 0∧ss.getD j 0≤3
 st:∀ j k,j < i→k < i→ps.getD j 0=ps.getD k 0→ss.getD j 0=ss.getD k 0
def eY (s:Sg) (ps ss:List Int):Prop:=ps.length=s.ops.length∧ss.length=s.ops.length∧Sa ps ss ps.length
theorem eY.va {s:Sg} {ps ss:List Int} (h:eY s ps ss):Va ps ss:=⟨by rw [h.2.1,h.1],h.2.2.st⟩
open Classical in
noncomputable def iO (s:Sg) (ps ss:List Int):Int:=if mG s=true then (if eY s ps ss then 0 else 60) else 40
theorem yg (ps ss:List Int) (φ:AV→Prop):al 0 none (.ah (eT ps ss)) φ=φ (.ah (.ak 0 (ints ps))):=by simp [al,apart,eT,AV.cells,AV.one]
theorem zp (ps ss:List Int) (φ:AV→Prop):al 1 none (.ah (eT ps ss)) φ=φ (.ah (.ak 0 (ints ss))):=by simp [al,apart,eT,AV.cells,AV.one]
theorem bt (ps ss:List Int):(eT ps ss).val=true∧(eT ps ss).cells.length=2∧(eT ps ss).cells.all AV.one=true∧(eT ps ss).ab=eT ps ss∧(eT ps ss).drop=eT ps ss∧∀ n,(eT ps ss).aW n=true:=
 ⟨rfl,rfl,rfl,rfl,rfl,fun n=>by simp [eT,o6,bJ,cV,bZ,aT]⟩
theorem cQ (ps ss:List Int) (H:List aa) (φ:AV→Prop):aU (some 2) (.ah (eT ps ss)) H φ=φ (eT ps ss):=R4 _ _ _ _
theorem c24 (s:Sg) (ps ss:List Int):Pure Tryz.prog 24 [s.av,eT ps ss] (.int .i64 (iO s ps ss)):=by
 refine fun H=>k24.2.calls rfl ?_
 simp only [k24,aH]
 obtain ⟨q1,q2,q3,q4,q5,q6⟩:=bt ps ss
 simp +contextual only [aC,q1,sZ,Nat.reduceEqDiff,Nat.reduceAdd,↓reduceIte,reduceCtorEq]
 refine ae (c81 s) ?_
 cases hs:mG s with
 | false=>
   have e:iO s ps ss=40:=by rw [iO,if_neg (by rw [hs];simp)]
   rw [e]
   simp +contextual only [acv,sZ,Nat.reduceEqDiff,↓reduceIte,reduceCtorEq,Int.reduceEq]
   exact aS rfl rfl
 | true=>
   simp +contextual only [aC,yg,zp,au,sZ,Nat.reduceEqDiff,↓reduceIte,reduceCtorEq]
   have bad:¬ eY s ps ss→iO s ps ss=60:=fun h=>by rw [iO,if_pos hs,if_neg h]
   have WW:eY s ps ss→iO s ps ss=0:=fun h=>by rw [iO,if_pos hs,if_pos h]
   have ret60:∀ (X:List aa),¬ eY s ps ss→bT H.length [.t 4] [(4,.int .i64 60)] (H++X) fun r H'=>r=.int .i64 (iO s ps ss)∧H'=H:=fun X h=>by rw [bad h];exact MW rfl rfl
   have ret60':¬ eY s ps ss→bT H.length [.t 4] [(4,.int .i64 60)] H fun r H'=>r=.int .i64 (iO s ps ss)∧H'=H:=fun h=>by rw [bad h];exact aS rfl rfl
   refine fun _ _=>⟨fun hl=>?_,fun hl=>?_⟩
   rotate_left
   ·first | exact ret60' fun h=>hl (by omega) | (refine ret60' fun h=>?_;have:=h.1;omega)
   refine fun _=>⟨fun lY=>ret60' fun h=>lY (by have:=h.2.1;omega),fun lY=>?_⟩
   have g0:∀ w,(H++[aa.map (iV w)])[H.length]?=some (.map (iV w)):=fun w=>by simp
   have gs:∀ w w',(H++[aa.map (iV w)]).set H.length (.map (iV w'))=H++[.map (iV w')]:=fun w w'=>by simp
   refine aD ps.length (fun i (w:List (Int×Int))=>Sa ps ss i∧(∀ p∈w,∃ j,j < i∧ps.getD j 0=p.1∧ss.getD j 0=p.2)∧∀ j,j < i→∃ p∈w,p.1=ps.getD j 0)
    (fun i w=>[(3,.ah (eT ps ss)),(6,.map H.length),(35,.ak 0 (ints ps)),(36,.int .i64 s.ops.length),(37,.int .i64 i)]) (fun i w=>H++[.map (iV w)]) []
    ⟨⟨⟨fun j h=>by omega,fun j k h=>by omega⟩,(fun p h=>by cases h),fun j h=>by omega⟩,ax _ _ _⟩ fun i w hi hI=>?_
   ·obtain ⟨hu,hw1,hw2⟩:=hI
    have nbad:∀ j,j < ps.length→¬ (0≤ps.getD j 0∧ps.getD j 0≤255∧1≤ss.getD j 0∧ss.getD j 0≤3)→¬ eY s ps ss:=fun j hj h h'=>h (h'.2.2.SU j hj)
    by_cases Pg:(i:Int) < s.ops.length
    ·have WX:i < ps.length:=by omega
     simp +contextual only [zp,cR,aad,g0,Pg,decide_true,sZ,Nat.reduceEqDiff,↓reduceIte]
     generalize hp:ps.getD i 0=p
     generalize hq:ss.getD i 0=q
     refine ⟨by omega,⟨by omega,by omega⟩,?_⟩
     by_cases r1:p < 0
     ·refine lkW (fun o _=>?_) (fun _=>?_)
      all_goals
       simp +contextual only [r1,decide_true,sZ,Nat.reduceEqDiff,Nat.reduceAdd,Nat.reduceLT,↓reduceIte,reduceCtorEq]
       exact ret60 _ (nbad i WX (by rw [hp];omega))
     ·by_cases r2:255 < p
      ·refine lkW (fun o _=>?_) (fun _=>?_)
       all_goals
        simp +contextual only [r1,r2,decide_true,decide_false,sZ,Nat.reduceEqDiff,Nat.reduceAdd,Nat.reduceLT,↓reduceIte,reduceCtorEq]
        exact ret60 _ (nbad i WX (by rw [hp];omega))
      ·by_cases r3:q < 1
       ·refine lkW (fun o _=>?_) (fun _=>?_)
        all_goals
         simp +contextual only [r1,r2,r3,decide_true,decide_false,sZ,Nat.reduceEqDiff,Nat.reduceAdd,Nat.reduceLT,↓reduceIte,reduceCtorEq]
         exact ret60 _ (nbad i WX (by rw [hq];omega))
       ·by_cases r4:3 < q
        ·refine lkW (fun o _=>?_) (fun _=>?_)
         all_goals
          simp +contextual only [r1,r2,r3,r4,decide_true,decide_false,sZ,Nat.reduceEqDiff,Nat.reduceAdd,Nat.reduceLT,↓reduceIte,reduceCtorEq]
          exact ret60 _ (nbad i WX (by rw [hq];omega))
        ·have aeV:0≤p∧p≤255∧1≤q∧q≤3:=⟨by omega,by omega,by omega,by omega⟩
         have next:(∀ j,j < i→ps.getD j 0=p→ss.getD j 0=q)→∀ w':List (Int×Int),(∀ x∈w',x∈w∨x=(p,q))→(∀ x∈w,∃ y∈w',y.1=x.1)→(p,q)∈w'→Sa ps ss (i + 1)∧(∀ x∈w',∃ j,j < i + 1∧ps.getD j 0=x.1∧ss.getD j 0=x.2)∧∀ j,j < i + 1→∃ x∈w',x.1=ps.getD j 0:=by
          intro hsame w' m1 m2 m3
          refine ⟨⟨fun j hj=>?_,fun j k hj hk he=>?_⟩,fun x hx=>?_,fun j hj=>?_⟩
          ·by_cases e:j=i
           ·subst e;rw [hp,hq];exact aeV
           ·exact hu.SU j (by omega)
          ·by_cases e:j=i
           ·by_cases e':k=i
            ·rw [e,e']
            ·subst e;rw [hp] at he;rw [hq];exact (hsame k (by omega) he.symm).symm
           ·by_cases e':k=i
            ·subst e';rw [hp] at he;rw [hq];exact hsame j (by omega) he
            ·exact hu.st j k (by omega) (by omega) he
          ·rcases m1 x hx with h | rfl
           ·obtain ⟨j,h1,h2,h3⟩:=hw1 x h;exact ⟨j,by omega,h2,h3⟩
           ·exact ⟨i,by omega,hp,hq⟩
          ·by_cases e:j=i
           ·subst e;rw [hp];exact ⟨_,m3,rfl⟩
           ·obtain ⟨x,h1,h2⟩:=hw2 j (by omega)
            obtain ⟨y,h3,h4⟩:=m2 x h1
            exact ⟨y,h3,h4.trans h2⟩
         refine lkW (fun o ho=>?_) (fun kB=>?_)
         ·obtain ⟨j0,hj1,hj2,hj3⟩:=hw1 _ ho
          simp only at hj2 hj3
          by_cases ho2:o=q
          ·subst ho2
           have d0:decide (¬ o=o)=false:=by simp
           simp +contextual only [r1,r2,r3,r4,decide_false,g0,sZ,Nat.reduceEqDiff,Nat.reduceAdd,Nat.reduceLT,↓reduceIte]
           refine msW fun w' m1 m2 m3=>?_
           simp +contextual only [gs,sZ,Nat.reduceEqDiff,↓reduceIte]
           refine ⟨i + 1,w',⟨WX,next (fun j hj he=>?_) w' m1 m2 m3⟩,by omega,aE (by rw [aq i (by omega)]) rfl⟩
           rw [hu.st j j0 hj hj1 (he.trans hj2.symm),hj3]
          ·have d0:decide (¬ o=q)=true:=by simp [ho2]
           simp +contextual only [r1,r2,r3,r4,decide_false,d0,sZ,Nat.reduceEqDiff,Nat.reduceAdd,Nat.reduceLT,↓reduceIte,reduceCtorEq]
           exact ret60 _ fun h=>ho2 (by rw [← hj3,← hq];exact h.2.2.st j0 i (by omega) WX (hj2.trans hp.symm))
         ·simp +contextual only [r1,r2,r3,r4,decide_false,g0,sZ,Nat.reduceEqDiff,Nat.reduceAdd,Nat.reduceLT,↓reduceIte]
          refine msW fun w' m1 m2 m3=>?_
          simp +contextual only [gs,sZ,Nat.reduceEqDiff,↓reduceIte]
          refine ⟨i + 1,w',⟨WX,next (fun j hj he=>?_) w' m1 m2 m3⟩,by omega,aE (by rw [aq i (by omega)]) rfl⟩
          obtain ⟨x,h1,h2⟩:=hw2 j hj
          exact absurd (h2.trans he) (kB x h1)
    ·have hii:i=ps.length:=by omega
     subst hii
     rw [WW ⟨by omega,by omega,hu⟩]
     simp +contextual only [Pg,decide_false,sZ,Nat.reduceEqDiff,↓reduceIte,reduceCtorEq]
     exact MW rfl rfl
end Go.aK
end
section
set_option maxRecDepth 100000
namespace Go.aK
open Go Go.Proofs Go.fo
theorem aa5 (g:Nat) (cS:List AV) (cc:cS.map AV.ab=cS) (p:T→Bool) (l:List T) (hf:∀ x∈l,Pure Tryz.prog g ([x.av]++cS) (.bool (p x))) :
 Pure Tryz.prog 114 [.ak 0 (bk l),.fn (.func g) [] cS] (.int .i64 (tP p l 0)):=by
 refine fun H=>Eo.2.calls rfl ?_
 simp only [Eo,aH]
 simp +contextual only [sZ,Nat.reduceEqDiff,Nat.reduceAdd,↓reduceIte,reduceCtorEq]
 intro hl
 refine aB l.length (fun i=>tP p (l.drop i) i=tP p l 0) (fun i=>[(0,.ak 0 (bk l)),(1,.fn (.func g) [] cS),(7,.int .i64 l.length),(8,.int .i64 i)]) (fun _=>H) ⟨rfl,ax _ _ _⟩ fun i hi hI=>?_
 simp +contextual only [cc,sZ,Nat.reduceEqDiff,Nat.reduceAdd,↓reduceIte,reduceCtorEq]
 refine ⟨fun aG=>?_,fun eW=>?_⟩
 ·have aG:=aY aG
  rw [Ar aG] at hI
  refine ⟨aG,ae (hf _ (bU aG)) ?_⟩
  cases hb:p (l.getD i default) with
  | true=>
    rw [if_pos hb] at hI
    simp +contextual only [sZ,Nat.reduceEqDiff,↓reduceIte,reduceCtorEq]
    exact aS rfl (by rw [← hI])
  | false=>
    rw [if_neg (by rw [hb];simp)] at hI
    simp +contextual only [sZ,Nat.reduceEqDiff,↓reduceIte,reduceCtorEq]
    exact ⟨i + 1,⟨aG,hI⟩,by omega,aE (by rw [aq i (by omega)]) rfl⟩
 ·rw [aa9 (bN eW)] at hI
  exact aS rfl (by rw [← hI];rfl)
theorem WY (g:Nat) (cS:List AV) (cc:cS.map AV.ab=cS) (p:T→Bool) (l:List T) (hf:∀ x∈l,Pure Tryz.prog g ([x.av]++cS) (.bool (p x))) :
 Pure Tryz.prog 53 [.ak 0 (bk l),.fn (.func g) [] cS] (.bool (l.any p)):=by
 refine fun H=>Tn.2.calls rfl ?_
 simp only [Tn,aH]
 simp +contextual only [sZ,Nat.reduceEqDiff,Nat.reduceAdd,↓reduceIte,reduceCtorEq]
 refine ae (aa5 g cS cc p l hf) ?_
 simp +contextual only [sZ,↓reduceIte,reduceCtorEq]
 exact aS rfl (by rw [xN p l 0 (by omega)])
theorem WZ (x:T):Pure Tryz.prog 130 [x.av] (.int .i64 (if x.tree=true then 0 else 4)):=by
 refine fun H=>Rb.2.calls rfl ?_
 simp only [Rb,aH]
 simp +contextual only [sZ,Nat.reduceEqDiff,Nat.reduceAdd,↓reduceIte]
 refine ae (Ku x) ?_
 cases h:x.tree with
 | true=>simp +contextual only [Bool.not_true,sZ,↓reduceIte,reduceCtorEq];exact aS rfl rfl
 | false=>simp +contextual only [Bool.not_false,sZ,↓reduceIte,reduceCtorEq];exact aS rfl rfl
mutual
def iP (s:Sg):T→Bool
 | .mk k n l=>!(decide (k=2) && (decide ((s.ops.length:Int)≤n) || !decide ((l.length:Int)=((s.ops.getD n.toNat default).args.length:Nat)))) && ovL s l
def ovL (s:Sg):List T→Bool
 | []=>true
 | x::r=>iP s x && ovL s r
end
theorem lD (s:Sg):∀ l,ovL s l=!(l.any fun x=>!iP s x)
 | []=>rfl
 | x::r=>by rw [ovL,lD s r,agj];cases iP s x <;> simp
theorem aeY (s:Sg):∀ t:T,t.shaped=true→Pure Tryz.prog 131 [s.av,t.av] (.bool (iP s t)):=by
 suffices h:∀ N t,wt t≤N→t.shaped=true→Pure Tryz.prog 131 [s.av,t.av] (.bool (iP s t)) from fun t ht=>h _ t (sU _) ht
 intro N
 induction N with
 | zero=>intro t h;have:=eF t;omega
 | succ N ih=>
 intro t hN hs H
 have hk:=bD hs
 have c182:∀ x∈t.l,Pure Tryz.prog 182 ([x.av]++[.ah s.av]) (.bool (!iP s x)):=by
  intro x hx H
  refine ZI.2.calls rfl ?_
  simp only [ZI,aH]
  simp +contextual only [aC,sZ,Nat.reduceEqDiff,Nat.reduceAdd,↓reduceIte,reduceCtorEq]
  refine ae (ih x (by have:=bM hx;omega) (hk.2 x hx)) ?_
  simp +contextual only [sZ,↓reduceIte,reduceCtorEq]
  exact aS rfl rfl
 have hn:0≤t.n:=by
  rw [T.bP] at hs
  simp only [zB,abp,acx,decide_eq_false_iff_not] at hs
  have:=hs.1.1.1.1
  omega
 obtain ⟨m,hm⟩:=acW hn
 refine Zj.2.calls rfl ?_
 simp only [Zj,aH]
 have e:iP s t=(!(decide (t.k=2) && (decide ((s.ops.length:Int)≤t.n) || !decide ((t.l.length:Int)=((s.ops.getD t.n.toNat default).args.length:Nat)))) && !(t.l.any fun x=>!iP s x)):=by
  rw [← lD];cases t;rfl
 have fin:(!(decide (t.k=2) && (decide ((s.ops.length:Int)≤t.n) || !decide ((t.l.length:Int)=((s.ops.getD t.n.toNat default).args.length:Nat)))))=false→bT H.length [.t 4] [(4,.bool false)] H fun r H'=>r=.bool (iP s t)∧H'=H:=by
  intro h
  rw [e,h];exact aS rfl rfl
 by_cases h2:t.k=2
 ·by_cases h3:(s.ops.length:Int)≤t.n
  ·simp +contextual only [aC,h2,h3,decide_true,sZ,Nat.reduceEqDiff,Nat.reduceAdd,↓reduceIte,reduceCtorEq]
   exact fin (by simp [h2,h3])
  ·have Hh:m < s.ops.length:=by omega
   have XH:¬ (s.ops.length:Int)≤(m:Int):=by omega
   have em:t.n.toNat=m:=by omega
   by_cases h4:(t.l.length:Int)=((s.ops.getD m default).args.length:Nat)
   ·simp +contextual only [aC,h2,XH,h4,hm,Hh,au,decide_true,decide_false,sZ,Nat.reduceEqDiff,Nat.reduceAdd,↓reduceIte,reduceCtorEq]
    refine ae (WY 182 [.ah s.av] rfl _ t.l c182) ?_
    simp +contextual only [sZ,↓reduceIte,reduceCtorEq]
    refine aS rfl ?_
    rw [e,em,h4]
    simp [h2,h3]
   ·simp +contextual only [aC,h2,XH,h4,hm,Hh,au,decide_true,decide_false,sZ,Nat.reduceEqDiff,Nat.reduceAdd,↓reduceIte,reduceCtorEq]
    exact fin (by rw [em,decide_eq_true h2,decide_eq_false h3,decide_eq_false h4];rfl)
 ·simp +contextual only [aC,h2,decide_false,sZ,Nat.reduceEqDiff,Nat.reduceAdd,↓reduceIte,reduceCtorEq]
  refine ae (WY 182 [.ah s.av] rfl _ t.l c182) ?_
  simp +contextual only [sZ,↓reduceIte,reduceCtorEq]
  refine aS rfl ?_
  rw [e]
  simp [h2]
noncomputable def gV (s:Sg) (ps ss:List Int) (l:List T):Int:=if iO s ps ss=0 then (if (l.all fun t=>t.tree && iP s t)=true then 0 else 4) else iO s ps ss
theorem KL {p:T→Bool} {l:List T} {i:Nat} (h:i < l.length):(l.drop i).all p=(p (l.getD i default) && (l.drop (i + 1)).all p):=by
 have e:l.getD i default=l[i]:=by simp [h]
 rw [aba h,List.all_cons,e]
theorem c74 (s:Sg) (ps ss:List Int) (l:List T):Pure Tryz.prog 74 [s.av,eT ps ss,.ak 0 (bk l)] (.int .i64 (gV s ps ss l)):=by
 refine fun H=>k74.2.calls rfl ?_
 simp only [k74,aH]
 obtain ⟨q1,q2,q3,q4,q5,q6⟩:=bt ps ss
 simp +contextual only [aC,q1,q4,cQ,sZ,Nat.reduceEqDiff,Nat.reduceAdd,↓reduceIte,reduceCtorEq]
 refine ae (c24 s ps ss) ?_
 by_cases h0:iO s ps ss=0
 ·simp +contextual only [h0,sZ,Nat.reduceEqDiff,↓reduceIte]
  intro _
  refine aB l.length (fun i=>l.all (fun t=>t.tree && iP s t)=(l.drop i).all fun t=>t.tree && iP s t) (fun i=>[(3,.ah s.av),(16,.ak 0 (bk l)),(17,.int .i64 l.length),(18,.int .i64 i)]) (fun _=>H) ⟨rfl,ax _ _ _⟩ fun i hi hI=>?_
  by_cases C3:(i:Int) < l.length
  ·have aG:i < l.length:=by omega
   rw [KL aG] at hI
   simp +contextual only [C3,decide_true,sZ,Nat.reduceEqDiff,Nat.reduceAdd,↓reduceIte]
   refine ⟨aG,ae (WZ _) ?_⟩
   cases ht:(l.getD i default).tree with
   | false=>
     rw [ht,agA,agA] at hI
     simp +contextual only [sZ,Nat.reduceEqDiff,↓reduceIte,reduceCtorEq,Int.reduceEq]
     refine aS rfl ?_
     rw [gV,if_pos h0,hI,if_neg (by simp)]
   | true=>
     rw [ht,ad9] at hI
     simp +contextual only [aC,sZ,Nat.reduceEqDiff,Nat.reduceAdd,↓reduceIte]
     refine ae (aeY s _ ((T.bg _).1 ht).2.2) ?_
     cases ho:iP s (l.getD i default) with
     | false=>
       rw [ho,agA] at hI
       simp +contextual only [Bool.not_false,sZ,Nat.reduceEqDiff,↓reduceIte,reduceCtorEq]
       refine aS rfl ?_
       rw [gV,if_pos h0,hI,if_neg (by simp)]
     | true=>
       rw [ho,ad9] at hI
       simp +contextual only [Bool.not_true,sZ,Nat.reduceEqDiff,↓reduceIte]
       exact ⟨i + 1,⟨aG,hI⟩,by omega,aE (by rw [aq i (by omega)]) rfl⟩
  ·simp +contextual only [C3,decide_false,sZ,Nat.reduceEqDiff,↓reduceIte,reduceCtorEq]
   rw [aa9 (by omega)] at hI
   refine aS rfl ?_
   rw [gV,if_pos h0,hI];rfl
 ·simp +contextual only [h0,sZ,Nat.reduceEqDiff,↓reduceIte,reduceCtorEq]
  refine aS rfl ?_
  rw [gV,if_neg h0]
theorem W0 {s:Sg}:∀ t:T,t.shaped=true→iP s t=true→wx (fun n=>0≤n∧n < s.ops.length) t:=by
 suffices h:∀ N t,wt t≤N→t.shaped=true→iP s t=true→wx (fun n=>0≤n∧n < s.ops.length) t from fun t=>h _ t (sU _)
 intro N
 induction N with
 | zero=>intro t h;have:=eF t;omega
 | succ N ih=>
 intro t hN hs ho
 have hn:0≤t.n:=by
  rw [T.bP] at hs
  simp only [zB,abp,acx,decide_eq_false_iff_not] at hs
  have:=hs.1.1.1.1
  omega
 have hk:=(bD hs).2
 obtain ⟨k,n,l⟩:=t
 rw [iP,lD] at ho
 simp only [zB,abp,acS,acx,decide_eq_false_iff_not,ac7,Bool.not_eq_false'] at ho
 refine wx.mk k n l (fun Gv=>?_) fun x hx=>ih x (by have:=bM (a:=.mk k n l) hx;omega) (hk x hx) ?_
 ·rcases ho.1 with h | h
  ·exact absurd Gv h
  ·exact ⟨hn,by omega⟩
 ·have:=ho.2 x hx
  simpa using this
end Go.aK
end
section
set_option maxRecDepth 100000
namespace Go.aK
open Go Go.Proofs Go.fo
mutual
theorem NS:∀ t:T,(wt t:Int)=t.sz
 | .mk k n l=>by rw [wt,T.sz];have:=IU l;omega
theorem IU:∀ l:List T,(iN l:Int)=jR l
 | []=>rfl
 | x::r=>by rw [iN,jR];have:=NS x;have:=IU r;omega
end
theorem nP {l:List T} (h:∀ t∈l,t.tree=true):iN l≤2000 * l.length:=by
 induction l with
 | nil=>simp [iN]
 | cons x r ih=>
   have:=ih fun t ht=>h t (aa6 _ ht)
   have h1:=((T.bg x).1 (h x abn)).1
   have h2:=NS x
   rw [iN,List.length_cons];omega
structure Rt0 (s:Sg) (ps ss:List Int) (l:List T):Prop where
 ord:eY s ps ss
 tree:∀ t∈l,t.tree=true
 all:∀ t∈l,wx (fun n=>0≤n∧n < ps.length) t
theorem yh {s:Sg} {ps ss:List Int}:iO s ps ss=0↔mG s=true∧eY s ps ss:=by
 unfold iO
 by_cases h:mG s=true
 ·by_cases h2:eY s ps ss
  ·rw [if_pos h,if_pos h2];simp [h,h2]
  ·rw [if_pos h,if_neg h2];simp [h2]
 ·rw [if_neg h];simp [h]
theorem sJ {s:Sg} {ps ss:List Int} {l:List T} (h:gV s ps ss l=0):Rt0 s ps ss l:=by
 unfold gV at h
 split at h
 ·rename_i h0
  have h1:=(yh.1 h0).2
  split at h
  ·rename_i h2
   have h3:=abo.1 h2
   refine ⟨h1,fun t ht=>?_,fun t ht=>?_⟩
   ·have:=h3 t ht;simp only [zB] at this;exact this.1
   ·have:=h3 t ht
    simp only [zB] at this
    rw [h1.1]
    exact W0 t ((T.bg t).1 this.1).2.2 this.2
  ·cases h
 ·rename_i h0;exact absurd h h0
theorem Rt0.cx {s:Sg} {ps ss:List Int} {l:List T} (h:Rt0 s ps ss l) (eS:l≠[]) (hl:l.length≤10000) (n:Nat):(ic ps ss l n).Ok:=
 TR h.ord.va eS (by have:=nP h.tree;omega) h.all n
open Classical in
noncomputable def IV (ps ss:List Int) (a b:T):Bool:=decide (R (jy ps ss) a b)
open Classical in
noncomputable def eqB (ps ss:List Int) (a b:T):Bool:=decide (E (jy ps ss) a b)
theorem sK {ps ss:List Int} {a b:T}:IV ps ss a b=true↔R (jy ps ss) a b:=by simp [IV]
theorem IW {ps ss:List Int} {a b:T}:eqB ps ss a b=true↔E (jy ps ss) a b:=by simp [eqB]
theorem Sb (a b:T):bA (aZ [a,b] 0)=.ak 0 (ints (aZ [a,b] 0)):=rfl
theorem IY {Hs G:List aa} {n0 a b:Nat} {u v x y:AV} {R:AV→List aa→Prop} (sX:b≠a) (hH:Hs.take n0=G) (hb:x.aW n0=true∧y.aW n0=true) (hx:u.ab=x) (hy:v.ab=y) (hR:R (.tuple [x,y]) G):bT n0 [.t a,.t b] [(a,u),(b,v)] Hs R:=by
 subst hH;subst hx;subst hy
 refine ⟨n0,sU _,[u.ab,v.ab],?_,by simp only [aj,hb.1,hb.2,ac0],hR⟩
 simp only [ay,if_neg sX,if_true,List.map]
 exact cp _
theorem Up.low {c:Cx} {H X G:List aa} (h:Up c (H++X) G) (he:H.length≤c.e) (hg:H.length≤c.g):G.take H.length=H:=by
 apply acG
 intro j
 rw [aa7]
 split
 ·rename_i hj
  rw [h.get j (by omega) (by omega),zA hj]
 ·rename_i hj
  rw [acB (by omega)]
theorem c20 (s:Sg) (ps ss:List Int) (a b:T):Pure Tryz.prog 20 [s.av,eT ps ss,a.av,b.av] (.tuple [.bool (if gV s ps ss [a,b]=0 then IV ps ss a b else false),.int .i64 (gV s ps ss [a,b])]):=by
 refine fun H=>k20.2.calls rfl ?_
 simp only [k20,aH]
 obtain ⟨q1,q2,q3,q4,q5,q6⟩:=bt ps ss
 simp +contextual only [aC,q1,q4,cQ,sZ,Nat.reduceEqDiff,Nat.reduceAdd,↓reduceIte,reduceCtorEq]
 refine ae (c74 s ps ss [a,b]) ?_
 by_cases h0:gV s ps ss [a,b]=0
 ·rw [if_pos h0]
  have hr:=sJ h0
  have hw:=nP hr.tree
  have hc:=hr.cx (by simp) (by simp) H.length
  have hd:=AQ ps ss (ts:=[a,b]) (by simp) H
  simp +contextual only [q4,cQ,h0,sZ,Nat.reduceEqDiff,Nat.reduceAdd,↓reduceIte]
  refine af (c75 ps ss [a,b] H (by simp at hw;omega)) ?_
  rintro r G ⟨rfl,rfl⟩
  have a0:=vn (ps:=ps) (ss:=ss) (ts:=[a,b]) (n:=H.length) (j:=0) (by simp)
  have a1:=vn (ps:=ps) (ss:=ss) (ts:=[a,b]) (n:=H.length) (j:=1) (by simp)
  have hl:=cN [a,b] 0
  rw [Sb]
  generalize aZ [a,b] 0=ks at a0 a1 hl ⊢
  have lY:ks.length=2:=hl
  simp +contextual only [cR,lY,dQ,sZ,Nat.reduceEqDiff,Nat.reduceAdd,Nat.reduceLT,↓reduceIte,reduceCtorEq]
  refine ⟨by decide,by decide,af (kV hc a0.1 a1.1 _ hd) ?_⟩
  rintro r G ⟨x,rfl,hx,hU,hD⟩
  rw [a0.2,a1.2] at hx
  simp +contextual only [sZ,Nat.reduceEqDiff,↓reduceIte,reduceCtorEq]
  have ex:x=IV ps ss a b:=by rw [ac6,sK];exact hx
  rw [ex]
  exact IY (by decide) (hU.low (by simp [ic]) (by simp [ic])) ⟨rfl,rfl⟩ rfl rfl ⟨by rw [h0];rfl,rfl⟩
 ·rw [if_neg h0]
  simp +contextual only [h0,sZ,Nat.reduceEqDiff,↓reduceIte,reduceCtorEq]
  exact IY (by decide) aby ⟨rfl,rfl⟩ rfl rfl ⟨rfl,rfl⟩
theorem c22 (s:Sg) (ps ss:List Int) (a b:T):Pure Tryz.prog 22 [s.av,eT ps ss,a.av,b.av] (.tuple [.bool (if gV s ps ss [a,b]=0 then eqB ps ss a b else false),.int .i64 (gV s ps ss [a,b])]):=by
 refine fun H=>k22.2.calls rfl ?_
 simp only [k22,aH]
 obtain ⟨q1,q2,q3,q4,q5,q6⟩:=bt ps ss
 simp +contextual only [aC,q1,q4,cQ,sZ,Nat.reduceEqDiff,Nat.reduceAdd,↓reduceIte,reduceCtorEq]
 refine ae (c74 s ps ss [a,b]) ?_
 by_cases h0:gV s ps ss [a,b]=0
 ·rw [if_pos h0]
  have hr:=sJ h0
  have hw:=nP hr.tree
  have hc:=hr.cx (by simp) (by simp) H.length
  have hd:=AQ ps ss (ts:=[a,b]) (by simp) H
  simp +contextual only [q4,cQ,h0,sZ,Nat.reduceEqDiff,Nat.reduceAdd,↓reduceIte]
  refine af (c75 ps ss [a,b] H (by simp at hw;omega)) ?_
  rintro r G ⟨rfl,rfl⟩
  have a0:=vn (ps:=ps) (ss:=ss) (ts:=[a,b]) (n:=H.length) (j:=0) (by simp)
  have a1:=vn (ps:=ps) (ss:=ss) (ts:=[a,b]) (n:=H.length) (j:=1) (by simp)
  have hl:=cN [a,b] 0
  rw [Sb]
  generalize aZ [a,b] 0=ks at a0 a1 hl ⊢
  have lY:ks.length=2:=hl
  simp +contextual only [cR,lY,dQ,sZ,Nat.reduceEqDiff,Nat.reduceAdd,Nat.reduceLT,↓reduceIte,reduceCtorEq]
  refine ⟨by decide,by decide,af (kU hc a0.1 a1.1 _ hd) ?_⟩
  rintro r G ⟨x,rfl,hx,hU,hD⟩
  rw [a0.2,a1.2] at hx
  simp +contextual only [sZ,Nat.reduceEqDiff,↓reduceIte,reduceCtorEq]
  have ex:x=eqB ps ss a b:=by rw [ac6,IW];exact hx
  rw [ex]
  exact IY (by decide) (hU.low (by simp [ic]) (by simp [ic])) ⟨rfl,rfl⟩ rfl rfl ⟨by rw [h0];rfl,rfl⟩
 ·rw [if_neg h0]
  simp +contextual only [h0,sZ,Nat.reduceEqDiff,↓reduceIte,reduceCtorEq]
  exact IY (by decide) aby ⟨rfl,rfl⟩ rfl rfl ⟨rfl,rfl⟩
end Go.aK
end
section
set_option maxRecDepth 100000
set_option maxHeartbeats 0
namespace Go.aK
open Go Go.Proofs
noncomputable def TS:=aH Tryz.call163 Tryz.func163 Tryz.ntmps163 [(0,0,1),(0,1,1),(1,4,1),(1,5,1),(4,2,1000),(5,0,1),(5,7,1),(8,6,2000)] [(0,[2,3]),(1,[2,3,5]),(2,[2,5,16,17,18]),(3,[2,5,16,17,18,19]),(4,[2,5,7,16,17,18]),(5,[2,5,16,17,18]),(6,[2,5,16,17,18]),(7,[8,9]),(8,[4])] [(8,(.take 0 true (.take 1 true (.take 2 true (.take 3 true (.take 4 true (.take 5 true (.br 6 (.take 7 true .done) .nil))))))))]
end Go.aK
end
section
set_option maxRecDepth 100000
namespace Go.aK
open Go Go.Proofs Go.fo
structure Cn where
 a:T
 b:T
deriving Inhabited
def Cn.av (c:Cn):AV:=.agg [.int .i64 c.a.k,.int .i64 c.a.n,.ak 0 (bk c.a.l),.int .i64 c.b.k,.int .i64 c.b.n,.ak 0 (bk c.b.l)]
def sL (l:List Cn):List AV:=l.map Cn.av
structure iW where
 vs:List Int
 cs:List Cn
 a:T
 b:T
deriving Inhabited
def iW.av (e:iW):AV:=.agg [.ak 0 (ints e.vs),.ak 0 (sL e.cs),.int .i64 e.a.k,.int .i64 e.a.n,.ak 0 (bk e.a.l),.int .i64 e.b.k,.int .i64 e.b.n,.ak 0 (bk e.b.l)]
def iW.rest (e:iW):List T:=e.b::e.cs.flatMap fun c=>[c.a,c.b]
theorem iH (l:List Cn):(sL l).length=l.length:=by simp [sL]
theorem NT (n:Nat) (l:List Cn):aj n (sL l)=true:=by
 rw [bc];intro x hx;obtain ⟨y,_,rfl⟩:=aaR.1 hx
 simp [Cn.av,AV.aW,aj,dy]
theorem iW.facts (e:iW):e.av.val=true∧e.av.cells.length=8∧e.av.cells.all AV.one=true∧e.av.ab=e.av∧e.av.drop=e.av∧∀ n,e.av.aW n=true:=
 ⟨rfl,rfl,rfl,rfl,rfl,fun n=>by simp [iW.av,AV.aW,aj,dy,aT,NT]⟩
theorem Cn.facts (e:Cn):e.av.val=true∧e.av.cells.length=6∧e.av.cells.all AV.one=true∧e.av.ab=e.av∧e.av.drop=e.av∧∀ n,e.av.aW n=true:=
 ⟨rfl,rfl,rfl,rfl,rfl,fun n=>by simp [Cn.av,AV.aW,aj,dy]⟩
theorem T.CE (t:T):AV.agg [.int .i64 t.k,.int .i64 t.n,.ak 0 (bk t.l)]=t.av:=by cases t;rfl
theorem Sc (e:iW) (φ:AV→Prop):al 2 (some 3) (.ah e.av) φ=φ (.ah e.a.av):=by simp [al,apart,iW.av,AV.cells,← T.CE]
theorem W1 (e:iW) (φ:AV→Prop):al 5 (some 3) (.ah e.av) φ=φ (.ah e.b.av):=by simp [al,apart,iW.av,AV.cells,← T.CE]
theorem TT (e:iW) (φ:AV→Prop):al 1 none (.ah e.av) φ=φ (.ah (.ak 0 (sL e.cs))):=by simp [al,apart,iW.av,AV.cells,AV.one]
theorem fcA (e:Cn) (φ:AV→Prop):al 0 (some 3) (.ah e.av) φ=φ (.ah e.a.av):=by simp [al,apart,Cn.av,AV.cells,← T.CE]
theorem fcB (e:Cn) (φ:AV→Prop):al 3 (some 3) (.ah e.av) φ=φ (.ah e.b.av):=by simp [al,apart,Cn.av,AV.cells,← T.CE]
theorem CF (o:Nat) (l:List Cn):(∀ (own:Nat) (xs:List AV),AV.ak o (sL l)=AV.ak own xs→∀ z∈xs,z.cells.length=6)=True:=by
 simp only [eq_iff_iff,iff_true]
 intro own xs e z hz
 cases e
 obtain ⟨y,_,rfl⟩:=aaR.1 hz;rfl
theorem Hz (e o:Nat) (l:List Cn) (k:IntKind) (i:Nat) (φ:AV→Prop):aA e (.ak o (sL l)) (.int k (i:Int)) φ=(i < l.length∧φ (.ah (l.getD i default).av)):=by
 simp only [aA,iH,aad,eq_iff_iff]
 constructor
 ·rintro ⟨_,h,h2⟩;refine ⟨h,?_⟩;simpa [sL,h] using h2
 ·rintro ⟨h,h2⟩;refine ⟨by omega,h,?_⟩;simpa [sL,h] using h2
theorem NU (e:Cn) (H:List aa) (φ:AV→Prop):aU (some 6) (.ah e.av) H φ=φ e.av:=by simp [aU,Cn.av,AV.cells]
def NV (ps ss:List Int) (e:iW):Prop:=∀ y∈e.rest,R (jy ps ss) e.a y
def qy (l:List Cn):List T:=l.flatMap fun c=>[c.a,c.b]
theorem E4 {l:List Cn} {i:Nat} (h:i < l.length):qy (l.take (i + 1))=qy (l.take i)++[(l.getD i default).a,(l.getD i default).b]:=by
 have e:l.getD i default=l[i]:=by simp [h]
 rw [acP h,e]
 unfold qy
 rw [adN]
 rfl
theorem sM (l:List Cn):(qy l).length=2 * l.length:=by
 induction l with
 | nil=>rfl
 | cons x r ih=>simp only [qy,List.flatMap_cons,aaz,List.length_cons,List.length_nil] at ih ⊢;omega
theorem CG (a b:List T):bk (a++b)=bk a++bk b:=by
 induction a with
 | nil=>rfl
 | cons x r ih=>rw [List.cons_append,bk,bk,ih];rfl
theorem aa8 (x:Int) (r:List Int) (φ:AV→Prop):bo 1 (.ak 0 (ints (x::r))) (some (.int .i64 1)) none none φ=φ (.ak 0 (ints r)):=by
 have er:dG (AV.ak 0 (ints (x::r)))=some (ints (x::r)):=rfl
 have e1:(1:Int).toNat=1:=rfl
 have e2:((ints (x::r)).take (ints (x::r)).length).drop 1=ints r:=by rw [aby];rfl
 simp only [bo,ff,er,dV,e1,e2,eq_iff_iff]
 constructor
 ·intro h;exact h.2.2.2.2
 ·intro h
  refine ⟨fun own xs he z hz=>?_,by omega,by simp [au],sU _,h⟩
  cases he
  obtain ⟨y,_,rfl⟩:=aaR.1 hz
  rfl
theorem ae1 (ps ss:List Int) (e:iW) (hv:Va ps ss) (hlen:e.cs.length≤1000) (ht:∀ t∈e.a::e.rest,t.tree=true) (da:∀ t∈e.a::e.rest,wx (fun n=>0≤n∧n < ps.length) t) (H:List aa) :
 aw Tryz.prog 163 [eT ps ss,e.av] H fun r H'=>(∃ b:Bool,r=.bool b∧(b=true↔NV ps ss e))∧H'=H:=by
 refine TS.2.calls rfl ?_
 simp only [TS,aH]
 obtain ⟨q1,q2,q3,q4,q5,q6⟩:=bt ps ss
 obtain ⟨e1,e2,e3,e4,e5,e6⟩:=iW.facts e
 have cf:=Cn.facts
 simp +contextual only [q1,e1,Sc,W1,TT,iH,sZ,Nat.reduceEqDiff,Nat.reduceAdd,↓reduceIte,reduceCtorEq]
 intro _
 have rest:e.rest=e.b::qy e.cs:=rfl
 refine aB e.cs.length (fun i=>True) (fun i=>[(2,.ah (eT ps ss)),(5,.ak 3 (bk (e.a::e.b::qy (e.cs.take i)))),(16,.ak 0 (sL e.cs)),(17,.int .i64 e.cs.length),(18,.int .i64 i)]) (fun _=>H) ⟨trivial,ax _ _ _⟩ fun i hi _=>?_
 by_cases C3:(i:Int) < e.cs.length
 ·have aG:i < e.cs.length:=by omega
  obtain ⟨f1,f2,f3,f4,f5,f6⟩:=cf (e.cs.getD i default)
  have hl:(qy (e.cs.take i)).length≤2000:=by rw [sM];simp;omega
  have hal:=pN (e.a::e.b::qy (e.cs.take i))
  have jo:sV 3 [(e.cs.getD i default).a.av,(e.cs.getD i default).b.av]:=of_eq_true (Ch [_,_])
  simp +contextual only [C3,decide_true,CF,Hz,NU,f1,f2,f3,fcA,fcB,sZ,Nat.reduceEqDiff,Nat.reduceAdd,↓reduceIte]
  have e7:bk (e.a::e.b::qy (e.cs.take i))++[(e.cs.getD i default).a.av,(e.cs.getD i default).b.av]=bk (e.a::e.b::qy (e.cs.take (i + 1))):=by
   rw [E4 aG,← List.cons_append,← List.cons_append,CG];rfl
  exact ⟨aG,by omega,jo,i + 1,aG,by omega,aE (by rw [aq i (by omega),e7]) rfl⟩
 ·have Lu:i=e.cs.length:=by omega
  subst Lu
  rw [aby]
  have eS:e.a::e.b::qy e.cs≠[]:=by simp
  have hl:(e.a::e.b::qy e.cs).length≤10000:=by simp [sM];omega
  have hw:=nP (l:=e.a::e.b::qy e.cs) ht
  have hc:=TR hv eS (by omega) da H.length
  have hd:=AQ ps ss eS H
  simp +contextual only [C3,decide_false,cQ,q4,sZ,Nat.reduceEqDiff,Nat.reduceAdd,↓reduceIte]
  refine af (c75 ps ss (e.a::e.b::qy e.cs) H (by omega)) ?_
  rintro r G ⟨rfl,rfl⟩
  have hk:=(R8 (e.a::e.b::qy e.cs)).kids
  have ek:aZ (e.a::e.b::qy e.cs) 0=0::aZ (e.b::qy e.cs) (0 + wt e.a):=by rw [aZ];rfl
  have Dy:=cN (e.b::qy e.cs) (0 + wt e.a)
  rw [ek] at hk ⊢
  generalize aZ (e.b::qy e.cs) (0 + wt e.a)=tl at hk Dy ⊢
  obtain ⟨AB,Gv⟩:=hk
  simp only [List.map_cons,List.cons.injEq] at AB
  obtain ⟨ha,hb⟩:=AB
  have e0:([(0:Int)]++tl).getD 0 0=0:=rfl
  have ix0:∀ φ:AV→Prop,aA 1 (.ak 0 (ints (0::tl))) (.int .i64 0) φ=φ (.ah (.int .i64 0)):=fun φ=>by
   have:=cR 1 0 (0::tl) .i64 0 φ
   rw [this]
   simp
  simp +contextual only [bA,ix0,dQ,Option.map_some,Option.map_none,aa8,sZ,Nat.reduceEqDiff,Nat.reduceAdd,Nat.reduceLT,↓reduceIte,reduceCtorEq]
  have itl:IL (.ak 0 (ints tl)) tl:=.inr rfl
  refine af (WK (c:=ic ps ss (e.a::e.b::qy e.cs) H.length) (i:=0) itl (by rw [Dy];simp [sM];omega) (fun x hx=>kV hc (Gv 0 abn) (Gv x (aa6 _ hx))) hd) ?_
  rintro r G ⟨b,rfl,hbb,hU,hD⟩
  simp +contextual only [sZ,↓reduceIte,reduceCtorEq]
  refine aP H.length (sU _) (by rw [ay,if_pos rfl];rfl) ?_
  rw [ay,if_pos rfl]
  refine ⟨⟨b,rfl,?_⟩,hU.low (by simp [ic]) (by simp [ic])⟩
  rw [hbb,NV,rest]
  have ha':(ic ps ss (e.a::e.b::qy e.cs) H.length).tm 0=e.a:=ha
  have dZ:tl.map (ic ps ss (e.a::e.b::qy e.cs) H.length).tm=e.b::qy e.cs:=hb
  rw [ha']
  generalize (ic ps ss (e.a::e.b::qy e.cs) H.length).tm=f at dZ
  rw [← dZ]
  constructor
  ·intro h y hy
   obtain ⟨x,hx,rfl⟩:=aaR.1 hy
   exact h x hx
  ·intro h x hx
   exact h _ (aaR.2 ⟨x,hx,rfl⟩)
end Go.aK
end
section
namespace Go.fo
open Go.aK
inductive PP where
 | mk (r i:Int) (to:List Int) (l:List PP)
 deriving Inhabited
def PP.r:PP→Int | .mk r _ _ _=>r
def PP.i:PP→Int | .mk _ i _ _=>i
def PP.to:PP→List Int | .mk _ _ to _=>to
def PP.l:PP→List PP | .mk _ _ _ l=>l
mutual
def pz:PP→Nat
 | .mk _ _ _ l=>pzs l + 1
def pzs:List PP→Nat
 | []=>0
 | x::r=>pz x + pzs r
end
theorem IZ {x:PP}:∀ {l:List PP},x∈l→pz x≤pzs l
 | y::r,h=>by
   rw [pzs]
   rcases OU.1 h with rfl | h
   ·omega
   ·have:=IZ h;omega
theorem CH (p:PP):0 < pz p:=by cases p;rw [pz];omega
theorem CJ {p x:PP} (h:x∈p.l):pz x < pz p:=by
 obtain ⟨r,i,to,l⟩:=p
 have:pz x≤pzs l:=IZ h
 rw [pz];omega
theorem eH {l:List PP} {i:Nat} (h:i < l.length):l.getD i default∈l:=by
 rw [sT,aaf h];exact adr h
theorem KM {l:List T} {i:Nat} (h:i < l.length):l.getD i default∈l:=by
 rw [sT,aaf h];exact adr h
def PP.nil (q:PP):Prop:=q.r=0∧q.i=0∧q.to=[]∧q.l=[]
instance (q:PP):Decidable q.nil:=by
 unfold PP.nil
 have:Decidable (q.l=[]):=by cases q.l with
  | nil=>exact isTrue rfl
  | cons a b=>exact isFalse (by simp)
 exact inferInstance
def dH (to:List Int) (x:Int):Nat→Nat
 | 0=>0
 | n + 1=>dH to x n + if to.getD n 0=x then 1 else 0
def dA (to:List Int) (l:List PP) (x:Int):Nat→Nat
 | 0=>0
 | n + 1=>dA to l x n + if to.getD n 0=x∧(l.getD n default).nil then 1 else 0
theorem AU {to:List Int} {x:Int} {j:Nat}:∀ {n:Nat},j < n→to.getD j 0=x→1≤dH to x n
 | n + 1,h,e=>by
   rw [dH]
   by_cases hj:j=n
   ·subst hj;rw [if_pos e];omega
   ·have:=AU (n:=n) (by omega) e;omega
theorem ug {to:List Int} {x:Int} {j j':Nat} (hj:j < j') (e:to.getD j 0=x) (e':to.getD j' 0=x):∀ {n:Nat},j' < n→2≤dH to x n
 | n + 1,h=>by
   rw [dH]
   by_cases hn:j'=n
   ·subst hn;rw [if_pos e'];have:=AU hj e;omega
   ·have:=ug hj e e' (n:=n) (by omega);omega
theorem AW {to:List Int} {x:Int} {j j' n:Nat} (h:dH to x n≤1) (hj:j < n) (wz:j' < n) (e:to.getD j 0=x) (e':to.getD j' 0=x):j=j':=by
 rcases af5 j j' with h1 | h1 | h1
 ·have:=ug h1 e e' wz;omega
 ·exact h1
 ·have:=ug h1 e' e hj;omega
theorem je {to:List Int} {l:List PP} {x:Int}:∀ {n:Nat},0 < dA to l x n↔∃ j,j < n∧to.getD j 0=x∧(l.getD j default).nil
 | 0=>by simp [dA]
 | n + 1=>by
   rw [dA]
   have ih:=je (to:=to) (l:=l) (x:=x) (n:=n)
   by_cases h:to.getD n 0=x∧(l.getD n default).nil
   ·rw [if_pos h]
    exact ⟨fun _=>⟨n,by omega,h⟩,fun _=>by omega⟩
   ·rw [if_neg h,aey,ih]
    constructor
    ·rintro ⟨j,h1,h2⟩;exact ⟨j,by omega,h2⟩
    ·rintro ⟨j,h1,h2⟩
     have:j≠n:=fun e=>h (e ▸ h2)
     exact ⟨j,by omega,h2⟩
theorem ph {to:List Int} {l:List PP} {x:Int}:∀ n,dA to l x n≤dH to x n
 | 0=>sU _
 | n + 1=>by
   rw [dA,dH]
   have:=ph (to:=to) (l:=l) (x:=x) n
   by_cases h:to.getD n 0=x∧(l.getD n default).nil
   ·rw [if_pos h,if_pos h.1];omega
   ·rw [if_neg h];omega
def mH (S:PP→T→T→Prop) (l:List PP) (a:T) (bs:List T):Prop:=l.length=bs.length∧∀ j,j < bs.length→S (l.getD j default) a (bs.getD j default)
def TU (Q:T→T→Prop) (S:PP→T→T→Prop) (to:List Int) (l:List PP) (az bs:List T):Prop:=
 to.length=bs.length∧l.length=bs.length∧
 (∀ j,j < bs.length→(0≤to.getD j 0∧to.getD j 0 < az.length)∧
   (if (l.getD j default).nil then Q (az.getD (to.getD j 0).toNat default) (bs.getD j default) else S (l.getD j default) (az.getD (to.getD j 0).toNat default) (bs.getD j default)))∧
 (∀ x:Nat,x < az.length→0 < dA to l x bs.length→dH to x bs.length≤1)∧∃ x:Nat,x < az.length∧dA to l x bs.length=0
def E5 (Q:T→T→Prop) (S:PP→T→T→Prop) (i:Int) (l:List PP) (a:T) (az bs:List T) (bl:List T):Prop:=
 (0≤i∧i < az.length∧i≤bs.length)∧(∀ j,j < i.toNat→Q (az.getD j default) (bs.getD j default))∧
 (if i=bs.length then mH S l a bl else ∃ q r,l=q::r∧S q (az.getD i.toNat default) (bs.getD i.toNat default)∧mH S r a bl)
def Fs (O:Od) (S:PP→T→T→Prop) (p:PP) (a b:T):Prop:=
 a.k=2∧(
  (p.r=1∧p.to=[]∧(0≤p.i∧p.i < a.l.length)∧((p.l=[]∧E O (a.l.getD p.i.toNat default) b)∨∃ q,p.l=[q]∧S q (a.l.getD p.i.toNat default) b))∨
  (p.r=2∧p.to=[]∧p.i=0∧b.k=2∧O.pl b.n < O.pl a.n∧mH S p.l a b.l)∨
  (p.r=3∧p.to=[]∧b.k=2∧O.pl a.n=O.pl b.n∧O.sp (O.pl a.n)≠3∧E5 (E O) S p.i p.l a (side (O.sp (O.pl a.n)) a.l) (side (O.sp (O.pl a.n)) b.l) b.l)∨
  (p.r=4∧p.i=0∧b.k=2∧O.pl a.n=O.pl b.n∧O.sp (O.pl a.n)=3∧TU (E O) S p.to p.l a.l b.l))
theorem nQ {S S':PP→T→T→Prop} {l:List PP} {a:T} {bs:List T} (h:∀ q∈l,∀ a b,S q a b↔S' q a b):mH S l a bs↔mH S' l a bs:=by
 refine and_congr_right fun hl=>?_
 constructor
 ·exact fun k j hj=>(h _ (eH (by omega)) _ _).1 (k j hj)
 ·exact fun k j hj=>(h _ (eH (by omega)) _ _).2 (k j hj)
theorem KN {Q:T→T→Prop} {S S':PP→T→T→Prop} {to:List Int} {l:List PP} {az bs:List T} (h:∀ q∈l,∀ a b,S q a b↔S' q a b):TU Q S to l az bs↔TU Q S' to l az bs:=by
 refine and_congr_right fun _=>and_congr_right fun hl=>and_congr_left fun _=>?_
 constructor
 ·intro k j hj
  refine ⟨(k j hj).1,?_⟩
  have:=(k j hj).2
  split at this
  ·rename_i e;rw [if_pos e];exact this
  ·rename_i e;rw [if_neg e];exact (h _ (eH (by omega)) _ _).1 this
 ·intro k j hj
  refine ⟨(k j hj).1,?_⟩
  have:=(k j hj).2
  split at this
  ·rename_i e;rw [if_pos e];exact this
  ·rename_i e;rw [if_neg e];exact (h _ (eH (by omega)) _ _).2 this
theorem HA {Q:T→T→Prop} {S S':PP→T→T→Prop} {i:Int} {l:List PP} {a:T} {az bs bl:List T} (h:∀ q∈l,∀ a b,S q a b↔S' q a b):E5 Q S i l a az bs bl↔E5 Q S' i l a az bs bl:=by
 refine and_congr_right fun _=>and_congr_right fun _=>?_
 split
 ·exact nQ h
 ·constructor
  ·rintro ⟨q,r,rfl,h1,h2⟩
   exact ⟨q,r,rfl,(h q abn _ _).1 h1,(nQ fun x hx=>h x (aa6 _ hx)).1 h2⟩
  ·rintro ⟨q,r,rfl,h1,h2⟩
   exact ⟨q,r,rfl,(h q abn _ _).2 h1,(nQ fun x hx=>h x (aa6 _ hx)).2 h2⟩
theorem E6 {O:Od} {S S':PP→T→T→Prop} {p:PP} {a b:T} (h:∀ q∈p.l,∀ a b,S q a b↔S' q a b):Fs O S p a b↔Fs O S' p a b:=by
 refine and_congr_right fun _=>or_congr ?_ (or_congr ?_ (or_congr ?_ ?_))
 ·refine and_congr_right fun _=>and_congr_right fun _=>and_congr_right fun _=>or_congr Iff.rfl ?_
  constructor
  ·rintro ⟨q,e,k⟩;exact ⟨q,e,(h q (by rw [e];simp) _ _).1 k⟩
  ·rintro ⟨q,e,k⟩;exact ⟨q,e,(h q (by rw [e];simp) _ _).2 k⟩
 ·rw [nQ h]
 ·rw [HA h]
 ·rw [KN h]
def TV (O:Od):Nat→PP→T→T→Prop
 | 0=>fun _ _ _=>False
 | f + 1=>Fs O (TV O f)
def Sh (O:Od) (p:PP) (a b:T):Prop:=TV O (pz p) p a b
theorem ra (O:Od):∀ (f g:Nat) (p:PP) (a b:T),pz p≤f→pz p≤g→(TV O f p a b↔TV O g p a b)
 | 0,_,p,a,b,h,_=>by have:=CH p;omega
 | _ + 1,0,p,a,b,_,h=>by have:=CH p;omega
 | f + 1,g + 1,p,a,b,h1,h2=>by
   simp only [TV]
   refine E6 fun q hq a b=>?_
   have:=CJ hq
   exact ra O f g q a b (by omega) (by omega)
theorem rb {O:Od} {p:PP} {a b:T}:Sh O p a b↔Fs O (Sh O) p a b:=by
 have e:TV O (pz p) p a b↔TV O (pz p + 1) p a b:=ra O _ _ p a b (by omega) (by omega)
 unfold Sh
 rw [e]
 show Fs O (TV O (pz p)) p a b↔_
 refine E6 fun q hq a b=>?_
 have:=CJ hq
 exact ra O _ _ q a b (by omega) (by omega)
theorem TW {G:T→T→Prop}:∀ (n:Nat) {l m:List T},n < l.length→n≤m.length→(∀ j,j < n→l.getD j default=m.getD j default)→(n=m.length∨G (l.getD n default) (m.getD n default))→Lx G l m
 | 0,x::l,[],_,_,_,_=>trivial
 | 0,x::l,y::m,_,_,_,h=>.inr (by simpa using h)
 | n + 1,x::l,[],_,h,_,_=>by simp at h
 | n + 1,x::l,y::m,h1,h2,h3,h4=>by
   refine .inl ⟨h3 0 (by omega),TW n (by simpa using h1) (by simpa using h2) (fun j hj=>h3 (j + 1) (by omega)) ?_⟩
   simpa using h4
theorem HB {β:Type} (f:T→β) (a:List T):a.map f=(List.range a.length).map fun i=>f (a.getD i default):=by
 apply aeZ
 ·simp
 ·intro i h1 h2
  have:i < a.length:=by simpa using h1
  simp [this]
theorem AX {β:Type} (f:T→β) (a:List T) (p:Nat→Bool):(a.map f).Perm (((List.range a.length).filter p).map (fun i=>f (a.getD i default))++((List.range a.length).filter fun i=>!p i).map fun i=>f (a.getD i default)):=by
 rw [HB,← acL]
 exact (List.filter_append_perm p (List.range a.length)).symm.map _
theorem qz (n:Nat) (p:Nat→Bool):((List.range n).filter p).Nodup:=List.Pairwise.filter p List.nodup_range
theorem W2 {O:Od} {S:PP→T→T→Prop} {to:List Int} {l:List PP} {az bs:List T} (h:TU (E O) S to l az bs) (hS:∀ q∈l,∀ a b,S q a b→R O a b):Mu (Gt O.sp) (az.map (norm O)) (bs.map (norm O)):=by
 obtain ⟨h1,h2,h3,h4,x0,Lz,h5⟩:=h
 let n:=bs.length
 let U:Nat→Bool:=fun i=>decide (dA to l i n=0)
 let Z:Nat→Bool:=fun j=>!decide (l.getD j default).nil
 have pu:=AX (norm O) az U
 have pz:=AX (norm O) bs Z
 refine Nz (X:=((List.range az.length).filter U).map fun i=>norm O (az.getD i default)) (Y:=((List.range bs.length).filter Z).map fun i=>norm O (bs.getD i default)) (C:=((List.range bs.length).filter fun i=>!Z i).map fun i=>norm O (bs.getD i default)) ?_ pz ?_ ?_
 ·refine pu.trans (List.Perm.append_left _ ?_)
  have hp:(((List.range bs.length).filter fun j=>!Z j).map fun j=>(to.getD j 0).toNat).Perm ((List.range az.length).filter fun i=>!U i):=by
   rw [List.perm_ext_iff_of_nodup]
   ·intro i
    simp only [Z,U,n,aaR,acO,acz,afG,abp,decide_eq_true_eq,decide_eq_false_iff_not]
    constructor
    ·rintro ⟨j,⟨hj,hn⟩,rfl⟩
     have:=(h3 j hj).1
     refine ⟨by omega,?_⟩
     have:0 < dA to l ((to.getD j 0).toNat:Int) bs.length:=je.2 ⟨j,hj,by omega,hn⟩
     omega
    ·rintro ⟨hi,hu⟩
     obtain ⟨j,k1,k2,k3⟩:=je.1 (show 0 < dA to l (i:Int) bs.length by omega)
     exact ⟨j,⟨k1,k3⟩,by omega⟩
   ·rw [List.Nodup,List.pairwise_map]
    refine List.Pairwise.imp_of_mem ?_ (qz _ _)
    intro j j' hj wz eS he
    simp only [Z,acO,acz,afG,decide_eq_true_eq] at hj wz
    have b1:=(h3 j hj.1).1
    have b2:=(h3 j' wz.1).1
    have e1:to.getD j 0=(((to.getD j 0).toNat:Nat):Int):=by omega
    have e2:to.getD j' 0=(((to.getD j 0).toNat:Nat):Int):=by omega
    have hp:0 < dA to l (((to.getD j 0).toNat:Nat):Int) bs.length:=je.2 ⟨j,hj.1,e1,hj.2⟩
    exact eS (AW (h4 _ (by omega) hp) hj.1 wz.1 e1 e2)
   ·exact qz _ _
  refine (hp.map fun i=>norm O (az.getD i default)).symm.trans ?_
  rw [ada]
  refine List.Perm.of_eq (acT fun j hj=>?_)
  simp only [Z,acO,acz,afG,decide_eq_true_eq] at hj
  have:=(h3 j hj.1).2
  rw [if_pos hj.2] at this
  exact this
 ·intro e
  have:norm O (az.getD x0 default)∈((List.range az.length).filter U).map fun i=>norm O (az.getD i default):=
   aaR.2 ⟨x0,acO.2 ⟨acz.2 Lz,by simp [U,n,h5]⟩,rfl⟩
  rw [e] at this
  cases this
 ·intro y hy
  obtain ⟨j,hj,rfl⟩:=aaR.1 hy
  simp only [Z,acO,acz,abp,decide_eq_false_iff_not] at hj
  obtain ⟨hj,hn⟩:=hj
  have b1:=h3 j hj
  rw [if_neg hn] at b1
  refine ⟨norm O (az.getD (to.getD j 0).toNat default),aaR.2 ⟨(to.getD j 0).toNat,acO.2 ⟨acz.2 (by omega),?_⟩,rfl⟩,hS _ (eH (by omega)) _ _ b1.2⟩
  simp only [U,n,decide_eq_true_eq]
  by_cases hp:0 < dA to l ((to.getD j 0).toNat:Int) bs.length
  ·have ht:=h4 _ (by omega) hp
   obtain ⟨j',k1,k2,k3⟩:=je.1 hp
   have:=AW ht hj k1 (by omega) k2
   exact absurd (this ▸ k3) hn
  ·omega
theorem pT {f:T→T} {l:List T} {i:Nat} (h:i < l.length):(l.map f).getD i default=f (l.getD i default):=by
 simp [h]
theorem ae2 {O:Od}:∀ (N:Nat) {p:PP} {a b:T},pz p≤N→Sh O p a b→R O a b:=by
 intro N
 induction N with
 | zero=>intro p a b h;have:=CH p;omega
 | succ N ih=>
 intro p a b hN h
 have hm:∀ q∈p.l,∀ a b,Sh O q a b→R O a b:=fun q hq a b hs=>ih (by have:=CJ hq;omega) hs
 have jn:∀ {l:List PP} {bs:List T},(∀ q∈l,q∈p.l)→mH (Sh O) l a bs→∀ y∈bs,R O a y:=by
  intro l bs hq hl y hy
  obtain ⟨j,hj,rfl⟩:=List.mem_iff_getElem.1 hy
  have:=hl.2 j hj
  have e:bs.getD j default=bs[j]:=by simp [hj]
  rw [e] at this
  exact hm _ (hq _ (eH (by have:=hl.1;omega))) _ _ this
 obtain ⟨ha,h⟩:=rb.1 h
 rcases h with ⟨_,_,hi,h⟩ | ⟨_,_,_,hb,hp,h⟩ | ⟨_,_,hb,hp,hs,h1,h2,h3⟩ | ⟨_,_,hb,hp,hs,h⟩
 ·refine aaD ha (KM (i:=p.i.toNat) (by omega)) ?_
  rcases h with ⟨_,h⟩ | ⟨q,e,h⟩
  ·exact .inl h
  ·exact .inr (hm q (by rw [e];simp) _ _ h)
 ·exact sA.2 ⟨ha,.inr ⟨hb,.inl ⟨hp,jn (fun _ h=>h) h⟩⟩⟩
 ·refine sA.2 ⟨ha,.inr ⟨hb,.inr (.inl ⟨hp.symm,hs,?_,?_⟩)⟩⟩
  ·split at h3
   ·exact jn (fun _ h=>h) h3
   ·obtain ⟨q,r,e,_,h3⟩:=h3
    exact jn (fun x hx=>by rw [e];exact aa6 _ hx) h3
  ·rw [sw,sw]
   have hla:p.i.toNat < (side (O.sp (O.pl a.n)) a.l).length:=by omega
   refine TW p.i.toNat (by simpa using hla) (by simp;omega) (fun j hj=>?_) ?_
   ·rw [pT (by omega),pT (by omega)]
    exact h2 j hj
   ·by_cases hi:p.i=(side (O.sp (O.pl a.n)) b.l).length
    ·left;simp;omega
    ·rw [if_neg hi] at h3
     obtain ⟨q,r,e,h3,_⟩:=h3
     right
     rw [pT (by omega),pT (by omega)]
     exact hm q (by rw [e];simp) _ _ h3
 ·exact sA.2 ⟨ha,.inr ⟨hb,.inr (.inr ⟨hp.symm,hs,W2 h hm⟩)⟩⟩
theorem Sh.gt {O:Od} {p:PP} {a b:T} (h:Sh O p a b):R O a b:=ae2 _ (sU _) h
end Go.fo
end
section
set_option maxRecDepth 100000
namespace Go.aK
open Go Go.Proofs Go.fo
mutual
def eJ:PP→AV
 | .mk r i to l=>.agg [.int .i64 r,.int .i64 i,.ak 0 (ints to),.ak 0 (eI l)]
def eI:List PP→List AV
 | []=>[]
 | x::r=>eJ x::eI r
end
theorem pi (p:PP):eJ p=.agg [.int .i64 p.r,.int .i64 p.i,.ak 0 (ints p.to),.ak 0 (eI p.l)]:=by cases p;rw [eJ];rfl
theorem mI:∀ l,eI l=l.map eJ
 | []=>rfl
 | x::r=>by simp [eI,mI r]
theorem eZ (l:List PP):(eI l).length=l.length:=by simp [mI]
mutual
theorem gL (n:Nat):∀ p,(eJ p).aW n=true
 | .mk r i to l=>by simp [eJ,AV.aW,aj,aT,jz n l]
theorem jz (n:Nat):∀ l,aj n (eI l)=true
 | []=>rfl
 | x::r=>by simp [eI,aj,gL n x,jz n r]
end
theorem bb (p:PP):(eJ p).val=true∧(eJ p).cells.length=4∧(eJ p).cells.all AV.one=true∧(eJ p).ab=eJ p∧(eJ p).drop=eJ p∧(∀ n,(eJ p).aW n=true)∧AV.agg (eJ p).cells=eJ p∧(eJ p).cells.map AV.drop=(eJ p).cells∧(eJ p).cells.map AV.ab=(eJ p).cells:=by
 refine ⟨?_,?_,?_,?_,?_,fun n=>gL n p,?_,?_,?_⟩ <;> (rw [pi];rfl)
theorem E7 (p:PP) (φ:AV→Prop):al 0 none (.ah (eJ p)) φ=φ (.ah (.int .i64 p.r)):=by rw [pi];simp [al,apart,AV.cells,AV.one]
theorem FQ (p:PP) (φ:AV→Prop):al 1 none (.ah (eJ p)) φ=φ (.ah (.int .i64 p.i)):=by rw [pi];simp [al,apart,AV.cells,AV.one]
theorem Sd (p:PP) (φ:AV→Prop):al 2 none (.ah (eJ p)) φ=φ (.ah (.ak 0 (ints p.to))):=by rw [pi];simp [al,apart,AV.cells,AV.one]
theorem NW (p:PP) (φ:AV→Prop):al 3 none (.ah (eJ p)) φ=φ (.ah (.ak 0 (eI p.l))):=by rw [pi];simp [al,apart,AV.cells,AV.one]
theorem sN (o:Nat) (l:List PP):(∀ (own:Nat) (xs:List AV),AV.ak o (eI l)=AV.ak own xs→∀ z∈xs,z.cells.length=4)=True:=by
 simp only [eq_iff_iff,iff_true]
 intro own xs e z hz
 cases e
 rw [mI] at hz
 obtain ⟨y,_,rfl⟩:=aaR.1 hz
 exact (bb y).2.1
theorem AY (l:List PP) (i:Nat) (h:i < l.length):(eI l).getD i .any=eJ (l.getD i default):=by
 simp [mI,h]
theorem CK (e o:Nat) (l:List PP) (k:IntKind) (i:Int) (φ:AV→Prop):aA e (.ak o (eI l)) (.int k i) φ=((0≤i∧i < l.length)∧φ (.ah (eJ (l.getD i.toNat default)))):=by
 simp only [aA,eZ,eq_iff_iff]
 constructor
 ·rintro ⟨h0,h,h2⟩;rw [AY _ _ h] at h2;exact ⟨by omega,h2⟩
 ·rintro ⟨⟨h0,h⟩,h2⟩
  have h:i.toNat < l.length:=by omega
  rw [AY _ _ h];exact ⟨h0,h,h2⟩
theorem sO (p:PP) (H:List aa) (φ:AV→Prop):aU (some 4) (.ah (eJ p)) H φ=φ (eJ p):=by
 obtain ⟨_,h2,_,_,_,_,h7,_⟩:=bb p
 simp [aU,h2,h7]
theorem W3 (l:List PP):sV 4 (eI l)=True:=by
 simp only [eq_iff_iff,iff_true]
 intro z hz
 rw [mI] at hz
 obtain ⟨y,_,rfl⟩:=aaR.1 hz
 obtain ⟨h1,h2,h3,h4,h5,_⟩:=bb y
 first | exact ⟨h1,h2,h3⟩ | exact ⟨h2,h1,h3⟩ | exact ⟨h1,h2⟩ | (constructor <;> first | assumption | simp [*])
def CL (P:Px) (id:Nat) (xs:List AV) (H:List aa) (K:AV→List aa→Prop):Prop:=∃ bY,yX xs bY∧mY P id bY H K
@[congr] theorem Se {P:Px} {id:Nat} {xs xs':List AV} {H H':List aa} {K:AV→List aa→Prop} (h:hJ xs=xs') (h2:H=H'):CL P id xs H K=CL P id xs' H' K:=by subst h;subst h2;rfl
theorem I0 {P:Px} {env:Env} {H:List aa} (id:Nat) (args:List IX) (pass:Option Nat) (K:AV→Env→List aa→Prop):qg P (.oC id) args pass env H K=CL P id (aL env pass 0 args) H (fun r H'=>K r (cW env (bj args pass)) H'):=agK
theorem W4 (id:Nat):(AV.oC id).ab=.oC id:=agK
theorem AZ {P:Program} {id:Nat} {xs:List AV} {H:List aa} {R K:AV→List aa→Prop} (hc:kE P id xs H R) (hk:∀ r H',R r H'→K r H'):CL (P:Px) id xs H K:=⟨xs,cp _,fX.mono hc hk⟩
theorem uh {P:Program} (g:FuncId) (first cap:List AV) (lc:jm) (env:Env) (H:List aa) (K:Option Code→List aa→Prop) {R:AV→List aa→Prop} (he:∀ (vs:Array Value) (w:World),(callFunc g vs).run P w=.ok (.enter g vs) w)
 (hc:aw P g (first.map AV.ab++[.oC H.length]++cap.map AV.ab) (H++[.loop .ready lc (lN lc.n env)]) R) (hk:∀ r H',R r H'→behind H.length H' K):xD (P:Px) (.fn (.func g) first cap) lc env H K:=
 ⟨he,_,cp _,eC.of (hc.mono hk)⟩
theorem ae3 (n:Nat) (hn:n < 4611686018427387904) (id:Nat) (G:Nat→List aa) (hl:∀ j,(G j).length=(G 0).length) (hy:∀ j,j < n→kE Tryz.prog id [.int .i64 (j:Int)] (G j) fun r H'=>r=.bool true∧H'=G (j + 1)) :
 aw Tryz.prog 201 [.oC id,.ah (.int .i64 n)] (G 0) fun r H'=>r=.tuple []∧H'=G n:=by
 refine ZQ.2.calls rfl ?_
 simp only [ZQ,aH]
 simp +contextual only [sZ,Nat.reduceEqDiff,Nat.reduceAdd,↓reduceIte,reduceCtorEq]
 refine aB n (fun j=>True) (fun j=>[(0,.oC id),(1,.ah (.int .i64 n)),(3,.int .i64 j)]) G ⟨trivial,ax _ _ _⟩ fun j hj _=>?_
 by_cases hjn:(j:Int) < n
 ·simp +contextual only [hjn,decide_true,I0,W4,sZ,Nat.reduceEqDiff,Nat.reduceAdd,↓reduceIte,reduceCtorEq]
  refine AZ (hy j (by omega)) ?_
  rintro r H' ⟨rfl,rfl⟩
  simp +contextual only [sZ,Nat.reduceEqDiff,↓reduceIte,reduceCtorEq]
  exact ⟨j + 1,by omega,by omega,aE (by rw [aq j (by omega)]) rfl⟩
 ·have e:j=n:=by omega
  subst e
  simp +contextual only [hjn,decide_false,sZ,Nat.reduceEqDiff,↓reduceIte,reduceCtorEq]
  exact jt (hl j).symm rfl
end Go.aK
end
section
set_option maxRecDepth 100000
namespace Go.aK
open Go Go.Proofs Go.fo
def upto (n:Nat):List Int:=(List.range n).map Int.ofNat
theorem A0 (n:Nat):upto (n + 1)=upto n++[(n:Int)]:=by simp [upto,aen]
theorem E8 (n:Nat):(upto n).length=n:=by simp [upto]
theorem yi {n:Nat} {x:Int}:x∈upto n↔0≤x∧x < n:=by
 simp only [upto,aaR,acz]
 constructor
 ·rintro ⟨j,h,rfl⟩;exact ⟨Int.natCast_nonneg j,Int.ofNat_lt.2 h⟩
 ·intro h;exact ⟨x.toNat,by omega,by simp;omega⟩
def yj (j:Nat):AV:=match j with | 0=>.ag | j + 1=>.ak 1 (ints (upto (j + 1)))
theorem NX (j:Nat) (h:j < 1000000000) (ψ:List AV→Prop) (hψ:ψ (ints (upto (j + 1)))):bp 1 8 (yj j) (.ak 0 [.int .i64 (j:Int)]) ψ:=by
 have e1:ints (upto j)++[AV.int .i64 (j:Int)]=ints (upto (j + 1)):=by rw [A0];simp [ints]
 have jo:sV 1 [AV.int .i64 (j:Int)]:=of_eq_true (lr [(j:Int)])
 cases j with
 | zero=>
   rw [yj,ln]
   exact ⟨by simp,jo,hψ⟩
 | succ j=>
   rw [yj,kM]
   exact ⟨by rw [au,E8];simp;omega,jo,by rw [e1];exact hψ⟩
theorem NY (j:Nat):(yj j).ab=bA (upto j):=by
 cases j with
 | zero=>rfl
 | succ j=>rw [yj,A0];cases h:upto j <;> rfl
theorem CM:cr.n=13:=by kernel_rfl
theorem yk:cr.ps=[7]:=by kernel_rfl
theorem ui {id:Nat} {H:List aa} {K:List aa→Prop} {lc:jm} {es:List AV} (h:H[id]?=some (.loop .ready lc es)):kL id H K=K (H.set id (.loop .busy lc es)):=by
 unfold kL;rw [h]
theorem HC {n0 id:Nat} {R:AV→List aa→Prop} {H:List aa} {lc:jm} {es:List AV} (h:H[id]?=some (.loop .busy lc es)):rP n0 id R .normal H=JL n0 true (H.set id (.loop .ready lc es)) R:=by
 unfold rP;rw [h]
theorem yl {id:Nat} {H:List aa} {K:Option Code→List aa→Prop} {lc:jm} {es:List AV} (h:H[id]?=some (.loop .ready lc es)):behind id H K=K none (H.set id (.loop .fe lc es)):=by
 unfold behind;rw [h]
theorem ym {P:Px} {n0:Nat} {ia ib:IR} {env:Env} {H:List aa} {id:Nat} {R:AV→List aa→Prop}
 (h:mO P n0 ia env H fun e env1 H1=>e=.normal∧kL id H1 fun H2=>mO P n0 ib env1 H2 fun e _ H3=>rP n0 id R e H3):n7 P n0 ia env H fun e env1 H1=>e=.normal∧kL id H1 fun H2=>n7 P n0 ib env1 H2 fun e _ H3=>rP n0 id R e H3:=by
 refine wg h ?_
 rintro x e H' ⟨h1,h2⟩
 refine ⟨h1,?_⟩
 unfold kL at *
 split at h2
 ·rename_i e'
  exact wg h2 fun _ _ _ h=>h
 ·exact h2.elim
theorem ae4 (n:Nat) (hn:n < 1000000000):Pure Tryz.prog 200 [.ag,.fn (.func 201) [] [.ah (.int .i64 n)]] (bA (upto n)):=by
 refine fun H=>ZP.calls rfl ?_
 simp only [Tw,Tv]
 simp +contextual only [nA,sZ,Nat.reduceEqDiff,Nat.reduceAdd,↓reduceIte,reduceCtorEq]
 have el:∀ X:List aa,(H++X).length=H.length + X.length:=fun X=>aaz
 obtain ⟨es,Br⟩:∃ es,es=lN cr.n [(2,AV.ptr H.length 0),(6,AV.fn (.func 201) [] [.ah (.int .i64 n)])]:=⟨_,rfl⟩
 have ees:es=[.any,.any,.ptr H.length 0,.any,.any,.any,.fn (.func 201) [] [.ah (.int .i64 n)],.any,.any,.any,.any,.any,.any]:=by rw [Br,CM];rfl
 let G:Nat→List aa:=fun j=>H++[.cells [yj j],.loop .ready cr es]
 have hG:∀ j,(G j).length=H.length + 2:=fun j=>by simp [G]
 have g1:∀ j,(G j)[H.length + 1]?=some (.loop .ready cr es):=fun j=>by simp [G]
 refine uh (P:=Tryz.prog) (R:=fun r H'=>r=.tuple []∧H'=G n) 201 [] [.ah (.int .i64 n)] cr _ _ _ Tryz.call201 ?_ ?_
 ·rw [← Br]
  have e1:(H++[aa.cells [AV.ag]]).length=H.length + 1:=by simp
  have e2:(H++[aa.cells [AV.ag]]++[.loop .ready cr es])=G 0:=by simp [G,yj]
  rw [e1,e2]
  refine ae3 n (by omega) (H.length + 1) G (fun j=>by rw [hG,hG]) fun j hj=>?_
  refine pE (lc:=cr) (es:=es) (g1 j) Rq Rr ⟨by rw [ees,CM];rfl,by rw [yk];rfl,by rw [yk,CM];rfl,?_,?_⟩ (ym ?_)
  ·rw [ees];intro x hx;simp only [OU,abO,or_false] at hx
   rcases hx with rfl | rfl | rfl | rfl | rfl | rfl | rfl | rfl | rfl | rfl | rfl | rfl | rfl <;> rfl
  ·intro x hx;simp only [OU,abO,or_false] at hx;subst hx;rfl
  ·have ez:(cr.ps.zip [AV.int .i64 (j:Int)]).reverse++cj 0 es=(7,.int .i64 (j:Int))::cj 0 es:=by rw [yk];rfl
   rw [ez,ees]
   simp only [Ix,Iy]
   have hb:∀ K,kL (H.length + 1) (G j) K=K (H++[.cells [yj j],.loop .busy cr es]):=fun K=>by rw [ui (g1 j)];simp [G]
   simp +contextual only [hb,sZ,Nat.reduceEqDiff,Nat.reduceAdd,Nat.reduceLT,↓reduceIte,reduceCtorEq]
   refine NX j (by omega) _ ?_
   have hz:∀ x:AV,(H++[aa.cells [x],.loop .busy cr es])[H.length + 1]?=some (.loop .busy cr es):=fun x=>by simp
   have lH:(AV.ak 1 (ints (upto (j + 1)))).aW (H.length + 1)=true:=by rw [bZ];exact aT _ _
   simp +contextual only [lH,sZ,Nat.reduceEqDiff,Nat.reduceAdd,Nat.reduceLT,↓reduceIte]
   rw [HC (hz _)]
   refine ⟨by simp [G],rfl,?_⟩
   simp [G,yj]
   exact Ue (by simp)
 ·rintro r G' ⟨rfl,rfl⟩
  have e1:(H++[aa.cells [AV.ag]]).length=H.length + 1:=by simp
  rw [e1,yl (g1 n)]
  have e3:(G n).set (H.length + 1) (.loop .fe cr es)=H++[.cells [yj n],.loop .fe cr es]:=by simp [G]
  rw [e3]
  simp +contextual only [qG,sZ,Nat.reduceAdd,Nat.reduceLT,↓reduceIte,reduceCtorEq]
  have e4:(yj n).ab.ab=bA (upto n):=by rw [NY];exact (aJ _).2.1
  rw [e4]
  exact MW ((aJ _).2.2.1 _) rfl
theorem ae5 (n:Nat) (hn:n < 1000000000):Pure Tryz.prog 152 [.fn (.func 201) [] [.ah (.int .i64 n)]] (bA (upto n)):=by
 refine fun H=>Zv.2.calls rfl ?_
 simp only [Zv,aH]
 simp +contextual only [sZ,Nat.reduceAdd,↓reduceIte,reduceCtorEq]
 refine ae (ae4 n hn) ?_
 have e4:(bA (upto n)).ab=bA (upto n):=(aJ _).2.1
 simp +contextual only [e4,sZ,↓reduceIte,reduceCtorEq]
 exact aS ((aJ _).2.2.1 _) rfl
theorem ae6 (n:Int):Pure Tryz.prog 153 [.int .i64 n] (.fn (.func 201) [] [.ah (.int .i64 n)]):=by
 refine fun H=>Zw.2.calls rfl ?_
 simp only [Zw,aH]
 simp +contextual only [sZ,Nat.reduceEqDiff,Nat.reduceAdd,↓reduceIte,reduceCtorEq]
 exact aS rfl rfl
end Go.aK
end
section
set_option maxRecDepth 100000
namespace Go.aK
open Go Go.Proofs Go.fo
def jY (c:Cx) (i k:Int) (p:PP):Prop:=∀ H,Du c H→aw Tryz.prog 87 [.ptr c.d 0,.int .i64 i,.int .i64 k,eJ p] H (jl c (Sh c.O p (c.tm i) (c.tm k)) H)
theorem ae7 {c:Cx} {b:List Int} {vb:AV} (hb:IL vb b) {q:Nat} {i j:Int} {l:List PP} (hj:0≤j∧j < b.length) (hl:l.length=b.length) (h:jY c i (b.getD j.toNat 0) (l.getD j.toNat default)) {G:List aa} (hD:Du c G) (gq:G[q]?=some (.cells [vb])) :
 aw Tryz.prog 154 [.int .i64 j,.ah (.ptr c.d 0),.ah (.int .i64 i),.ptr q 0,.ah (.ak 0 (eI l))] G (jl c (¬ Sh c.O (l.getD j.toNat default) (c.tm i) (c.tm (b.getD j.toNat 0))) G):=by
 refine Zx.2.calls rfl ?_
 simp only [Zx,aH]
 obtain ⟨b1,b2,b3,b4⟩:=hb.one
 obtain ⟨p1,p2,p3,p4,p5,p6,p7,p8,p9⟩:=bb (l.getD j.toNat default)
 simp +contextual only [gq,b2,hb.lens,hb.idx,CK,sN,sO,p4,sZ,Nat.reduceEqDiff,Nat.reduceAdd,Nat.reduceLT,↓reduceIte,reduceCtorEq]
 refine ⟨hj,⟨hj.1,by omega⟩,af (h G hD) ?_⟩
 rintro r G' ⟨z,rfl,hz,hU,kg⟩
 simp +contextual only [sZ,↓reduceIte,reduceCtorEq]
 refine eO (b:=!z) rfl ?_ hU kg
 rw [← hz];cases z <;> simp
theorem cA {b:List Int} {f:Int→T} {j:Nat} (h:j < b.length):(b.map f).getD j default=f (b.getD j 0):=by simp [h]
theorem W5 {c:Cx} {b:List Int} {vb:AV} (hb:IL vb b) (lb:b.length < 1000000000) {q:Nat} (hq:q≠c.e∧q≠c.g) {i:Int} {l:List PP} (h:∀ j,j < b.length→j < l.length→jY c i (b.getD j 0) (l.getD j default)) {G:List aa} (hD:Du c G) (gq:G[q]?=some (.cells [vb])) :
 aw Tryz.prog 151 [.ak 0 (eI l),.ptr q 0,.ah (.ptr c.d 0),.ah (.int .i64 i)] G (jl c (mH (Sh c.O) l (c.tm i) (b.map c.tm)) G):=by
 refine Zu.2.calls rfl ?_
 simp only [Zu,aH]
 obtain ⟨b1,b2,b3,b4⟩:=hb.one
 simp +contextual only [gq,b2,hb.aN,hb.len (by omega),eZ,sZ,Nat.reduceEqDiff,Nat.reduceAdd,Nat.reduceLT,↓reduceIte,reduceCtorEq]
 have e1:mH (Sh c.O) l (c.tm i) (b.map c.tm)↔l.length=b.length∧∀ j,j < b.length→Sh c.O (l.getD j default) (c.tm i) (c.tm (b.getD j 0)):=by
  unfold mH
  rw [ac1]
  refine and_congr_right fun _=>⟨fun h j hj=>?_,fun h j hj=>?_⟩
  ·have:=h j hj;rwa [cA hj] at this
  ·rw [cA hj];exact h j hj
 refine fun K8=>⟨fun he=>?_,fun eS=>?_⟩
 ·refine ae (ae6 _) ?_
  simp +contextual only [sZ,Nat.reduceEqDiff,Nat.reduceAdd,↓reduceIte]
  refine ae (ae5 b.length lb) ?_
  have k2:∀ l,(bA l).ab=bA l:=fun l=>(aJ l).2.1
  simp +contextual only [k2,sZ,Nat.reduceEqDiff,Nat.reduceAdd,↓reduceIte,reduceCtorEq]
  refine af (EU (SD.Cv c G) (.inl rfl:IL (bA (upto b.length)) (upto b.length)) (by rw [E8];omega) 154 [] [.ah (.ptr c.d 0),.ah (.int .i64 i),.ptr q 0,.ah (.ak 0 (eI l))] rfl rfl (Q:=fun j=>¬ Sh c.O (l.getD j.toNat default) (c.tm i) (c.tm (b.getD j.toNat 0)))
   (fun x hx G' dS=>?_) ⟨hD,Up.refl c G⟩) ?_
  ·have hx:=yi.1 hx
   exact (ae7 hb ⟨hx.1,hx.2⟩ (by omega) (h x.toNat (by omega) (by omega)) dS.1 (by rw [dS.2.get q hq.1 hq.2,gq])).mono fun r H' hr=>hr.sb dS
  ·rintro r G' ⟨z,rfl,hz,dS⟩
   simp +contextual only [sZ,Nat.reduceEqDiff,↓reduceIte,reduceCtorEq]
   refine eO (b:=!z) rfl ?_ dS.2 dS.1
   rw [e1]
   cases z with
   | true=>
     obtain ⟨x,hx,hn⟩:=hz.1 rfl
     have hx:=yi.1 hx
     exact ⟨fun h=>by simp at h,fun h=>absurd (h.2 x.toNat (by omega)) hn⟩
   | false=>
     refine ⟨fun _=>⟨by omega,fun j hj=>?_⟩,fun _=>rfl⟩
     by_cases hs:Sh c.O (l.getD j default) (c.tm i) (c.tm (b.getD j 0))
     ·exact hs
     ·exact absurd (hz.2 ⟨(j:Int),yi.2 ⟨by omega,by omega⟩,hs⟩) (by simp)
 ·refine eO rfl ⟨fun h=>by simp at h,fun h=>?_⟩ (Up.refl c G) hD
  have:=(e1.1 h).1
  exact absurd (by omega) eS
end Go.aK
end
section
set_option maxRecDepth 100000
namespace Go.aK
open Go Go.Proofs Go.fo
theorem HD {P:Px} {t:DT} {f:AV→Env} {v:AV} {H0 H:List aa} {K1 K2:Env→List aa→Prop} (h:iT v H0 fun x=>jQ P t (f x) H K1) (hk:∀ e G,K1 e G→K2 e G):iT v H0 fun x=>jQ P t (f x) H K2:=by
 unfold iT at *
 split at h
 ·exact dP h hk
 ·unfold fT at *
  split at h <;> first | exact dP h hk | exact h.elim | (intro hl;exact dP (h hl) hk) | skip
  all_goals (split at h <;> first | exact dP h hk | exact h.elim)
structure CS (c:Cx) (H:List aa) (p q:Nat) (ts ps:List Int) (G:List aa):Prop where
 du:Du c G
 gp:G[p]?=some (de ts)
 gq:G[q]?=some (de ps)
 len:G.length=H.length + 2
 up:∀ j,j < H.length→j≠c.e→j≠c.g→G[j]?=H[j]?
structure PQ (H:List aa) (p q:Nat):Prop where
 ne:p≠q
 p1:H.length≤p
 q1:H.length≤q
theorem CS.call {c:Cx} {H G G':List aa} {p q:Nat} {ts ps:List Int} (hD:Du c H) (w:PQ H p q) (h:CS c H p q ts ps G) (hU:Up c G G') (kg:Du c G'):CS c H p q ts ps G':=by
 obtain ⟨l1,l2,l3⟩:=hD.lt
 obtain ⟨w1,w2,w3⟩:=w
 exact ⟨kg,by rw [hU.get p (by omega) (by omega),h.gp],by rw [hU.get q (by omega) (by omega),h.gq],by rw [hU.len,h.len],fun j h1 h2 h3=>by rw [hU.get j h2 h3,h.up j h1 h2 h3]⟩
theorem CS.ae8 {c:Cx} {H G:List aa} {p q:Nat} {ts ps ts':List Int} (hD:Du c H) (w:PQ H p q) (h:CS c H p q ts ps G):CS c H p q ts' ps (G.set p (de ts')):=by
 obtain ⟨l1,l2,l3⟩:=hD.lt
 obtain ⟨w1,w2,w3⟩:=w
 have hp:=aO h.gp
 exact ⟨h.du.set (by omega) (by omega) (by omega),by rw [zD hp],by rw [zC w1,h.gq],by rw [acI,h.len],fun j h1 h2 h3=>by rw [zC (by omega),h.up j h1 h2 h3]⟩
theorem CS.ae9 {c:Cx} {H G:List aa} {p q:Nat} {ts ps ps':List Int} (hD:Du c H) (w:PQ H p q) (h:CS c H p q ts ps G):CS c H p q ts ps' (G.set q (de ps')):=by
 obtain ⟨l1,l2,l3⟩:=hD.lt
 obtain ⟨w1,w2,w3⟩:=w
 have hq:=aO h.gq
 exact ⟨h.du.set (by omega) (by omega) (by omega),by rw [zC (Ne.symm w1),h.gp],by rw [zD hq],by rw [acI,h.len],fun j h1 h2 h3=>by rw [zC (by omega),h.up j h1 h2 h3]⟩
theorem CS.fin {c:Cx} {H G:List aa} {p q:Nat} {ts ps:List Int} (hD:Du c H) (h:CS c H p q ts ps G) {b:Bool} {Q:Prop} (hb:b=true↔Q) {s:Nat}:bT H.length [.t s] [(s,.bool b)] G (jl c Q H):=by
 obtain ⟨l1,l2,l3⟩:=hD.lt
 refine aP H.length (sU _) (by rw [ay,if_pos rfl];rfl) ?_
 rw [ay,if_pos rfl]
 refine ⟨b,rfl,hb,⟨by rw [acJ,h.len];omega,fun j h1 h2=>?_⟩,h.du.take l1 l2 l3⟩
 rw [aa7]
 split
 ·rename_i hj;exact h.up j hj h1 h2
 ·rename_i hj;rw [acB (by omega)]
def KO (c:Cx) (to:List Int) (l:List PP) (a b:List Int):Prop:=
 to.length=b.length∧l.length=b.length∧
 (∀ j,j < b.length→(0≤to.getD j 0∧to.getD j 0 < a.length)∧
   (if (l.getD j default).nil then E c.O (c.tm (a.getD (to.getD j 0).toNat 0)) (c.tm (b.getD j 0)) else Sh c.O (l.getD j default) (c.tm (a.getD (to.getD j 0).toNat 0)) (c.tm (b.getD j 0))))∧
 (∀ x:Nat,x < a.length→0 < dA to l x b.length→dH to x b.length≤1)∧∃ x:Nat,x < a.length∧dA to l x b.length=0
theorem E9 {c:Cx} {to:List Int} {l:List PP} {a b:List Int}:KO c to l a b↔TU (E c.O) (Sh c.O) to l (a.map c.tm) (b.map c.tm):=by
 unfold KO TU
 simp only [ac1]
 refine and_congr_right fun _=>and_congr_right fun _=>and_congr_left fun _=>⟨fun h j hj=>?_,fun h j hj=>?_⟩
 ·obtain ⟨h1,h2⟩:=h j hj
  refine ⟨h1,?_⟩
  rw [cA (by omega),cA hj];exact h2
 ·obtain ⟨h1,h2⟩:=h j hj
  rw [cA (by omega),cA hj] at h2
  exact ⟨h1,h2⟩
structure CI (c:Cx) (to:List Int) (l:List PP) (a b ts ps:List Int) (j:Nat):Prop where
 lt:ts.length=a.length
 lp:ps.length=a.length
 t:∀ x:Nat,x < a.length→ts.getD x 0=dH to x j
 p:∀ x:Nat,x < a.length→ps.getD x 0=dA to l x j
 ok:∀ j',j' < j→(0≤to.getD j' 0∧to.getD j' 0 < a.length)∧
  (if (l.getD j' default).nil then E c.O (c.tm (a.getD (to.getD j' 0).toNat 0)) (c.tm (b.getD j' 0)) else Sh c.O (l.getD j' default) (c.tm (a.getD (to.getD j' 0).toNat 0)) (c.tm (b.getD j' 0)))
theorem CI.step {c:Cx} {to:List Int} {l:List PP} {a b ts ps ps':List Int} {j z:Nat} (h:CI c to l a b ts ps j) (hz:z < a.length) (ht:to.getD j 0=z) (hp:ps'=if (l.getD j default).nil then ps.set z (ps.getD z 0 + 1) else ps)
 (hq:if (l.getD j default).nil then E c.O (c.tm (a.getD z 0)) (c.tm (b.getD j 0)) else Sh c.O (l.getD j default) (c.tm (a.getD z 0)) (c.tm (b.getD j 0))):CI c to l a b (ts.set z (ts.getD z 0 + 1)) ps' (j + 1):=by
 obtain ⟨h1,h2,h3,h4,h5⟩:=h
 refine ⟨by simp [h1],by rw [hp];split <;> simp [h2],fun x hx=>?_,fun x hx=>?_,fun j' wz=>?_⟩
 ·rw [mB (by omega),dH,ht]
  by_cases e:x=z
  ·subst e;rw [if_pos rfl,if_pos rfl,h3 x hx];omega
  ·rw [if_neg e,if_neg (by omega),h3 x hx];omega
 ·rw [hp,dA,ht]
  by_cases hn:(l.getD j default).nil
  ·rw [if_pos hn,mB (by omega)]
   by_cases e:x=z
   ·subst e;rw [if_pos rfl,if_pos ⟨rfl,hn⟩,h4 x hx];omega
   ·rw [if_neg e,if_neg (fun h=>by have:=h.1;omega),h4 x hx];omega
  ·rw [if_neg hn,if_neg (fun h=>hn h.2),h4 x hx];omega
 ·by_cases e:j'=j
  ·subst e;rw [ht];exact ⟨by omega,hq⟩
  ·exact h5 j' (by omega)
theorem uj (to:List Int) (x:Int):∀ n,dH to x n≤n
 | 0=>sU _
 | n + 1=>by rw [dH];have:=uj to x n;split <;> omega
theorem KP (to:List Int) (l:List PP) (x:Int) (n:Nat):dA to l x n≤n:=acN (ph n) (uj to x n)
theorem Fa {m n:Nat} (hm:m < 9223372036854775808) (hn:n < 9223372036854775808):IntKind.i64.wrap ((m:Int) + (n:Int))=0↔m=0∧n=0:=by
 rw [IntKind.wrap_i64]
 omega
theorem A4 (n x:Nat):(dY 0 n 0).getD x 0=0:=by
 simp only [dY,List.replicate_zero,List.nil_append,agv,sT,List.getElem?_replicate]
 split <;> rfl
end Go.aK
end
section
set_option maxRecDepth 100000
namespace Go.aK
open Go Go.Proofs Go.fo
theorem afa {c:Cx} {a b:List Int} {va vb:AV} (ha:IL va a) (hb:IL vb b) (la:a.length≤1000000000) (lb:b.length≤1000000000) (p:PP) (hs:∀ x∈a,∀ y∈b,lB c x y) (hh:∀ x∈a,∀ y∈b,∀ q∈p.l,jY c x y q) {H:List aa} (hD:Du c H) :
 aw Tryz.prog 156 [.ptr c.d 0,va,vb,eJ p] H (jl c (KO c p.to p.l a b) H):=by
 refine Zz.2.calls rfl ?_
 simp only [Zz,aH]
 obtain ⟨a1,a2,a3,a4⟩:=ha.one
 obtain ⟨b1,b2,b3,b4⟩:=hb.one
 obtain ⟨p1,p2,p3,p4,p5,p6,p7,p8,p9⟩:=bb p
 have no:¬ KO c p.to p.l a b→bT H.length [.t 8] [(8,.bool false)] H (jl c (KO c p.to p.l a b) H):=fun h=>eO rfl ⟨fun h=>by simp at h,fun h'=>absurd h' h⟩ (Up.refl c H) hD
 by_cases h1:p.to.length=b.length
 ·by_cases h2:p.l.length=b.length
  ·have d1:decide ((p.to.length:Int)≠b.length)=false:=decide_eq_false (by omega)
   have d2:decide ((p.l.length:Int)≠b.length)=false:=decide_eq_false (by omega)
   simp +contextual only [a2,b2,p1,Sd,NW,ha.aN,hb.aN,hb.len (by omega),au,eZ,h1,h2,not_true_eq_false,decide_false,sZ,Nat.reduceEqDiff,Nat.reduceAdd,↓reduceIte,reduceCtorEq]
   intro _
   refine HD (K1:=fun e G=>get e 0=.ptr c.d 0∧get e 1=va∧get e 2=vb∧get e 7=.ah (eJ p)∧∃ x y,get e 9=.ba x 0 a.length a.length∧get e 10=.ba y 0 a.length a.length∧PQ H x y∧CS c H x y (dY 0 a.length 0) (dY 0 a.length 0) G) ?_ ?_
   ·have key:∀ G,G=H++[de (dY 0 a.length 0),de (dY 0 a.length 0)]→CS c H H.length (H.length + 1) (dY 0 a.length 0) (dY 0 a.length 0) G∧CS c H (H.length + 1) H.length (dY 0 a.length 0) (dY 0 a.length 0) G:=by
     rintro G rfl
     exact ⟨⟨hD.sl _,by simp,by simp,by simp,fun j hj _ _=>zA hj⟩,⟨hD.sl _,by simp,by simp,by simp,fun j hj _ _=>zA hj⟩⟩
    have A:=key _ rfl
    simp +contextual only [a2,ha.x9,ha.aN,mkI _ _ _ la,sZ,Nat.reduceEqDiff,Nat.reduceAdd,↓reduceIte,reduceCtorEq]
    refine ⟨⟨_,_,rfl,rfl,⟨by omega,by omega,by omega⟩,?_⟩,⟨_,_,rfl,rfl,⟨by omega,by omega,by omega⟩,?_⟩⟩
    ·exact A.1
    ·exact A.2
   ·rintro e G ⟨e0,e1,e2,e7,x,y,e9,e10,hw,zK⟩
    simp +contextual only [e0,e1,e2,e7,e9,e10,Sd,au,h1,sZ,Nat.reduceEqDiff,↓reduceIte,reduceCtorEq]
    intro _
    refine aD b.length (fun j (s:List aa×List Int×List Int)=>CS c H x y s.2.1 s.2.2 s.1∧CI c p.to p.l a b s.2.1 s.2.2 j)
     (fun j s=>[(0,.ptr c.d 0),(1,va),(2,vb),(7,.ah (eJ p)),(9,.ba x 0 a.length a.length),(10,.ba y 0 a.length a.length),(37,.ak 0 (ints p.to)),(38,.int .i64 b.length),(39,.int .i64 j)])
     (fun j s=>s.1) (G,dY 0 a.length 0,dY 0 a.length 0) ⟨⟨zK,?_⟩,ax _ _ _⟩ fun j s hj hI=>?_
    ·exact ⟨by simp [dY],by simp [dY],fun z _=>by rw [A4];rfl,fun z _=>by rw [A4];rfl,fun j h=>by omega⟩
    ·obtain ⟨G,ts,ps⟩:=s
     obtain ⟨zK,H6⟩:=hI
     simp only at zK H6
     by_cases NZ:(j:Int) < b.length
     ·have rp:j < b.length:=by omega
      obtain ⟨to,C6⟩:∃ to,p.to.getD j 0=to:=⟨_,rfl⟩
      by_cases r1:to < 0
      ·simp +contextual only [NZ,decide_true,cR,aad,C6,r1,sZ,Nat.reduceEqDiff,↓reduceIte,reduceCtorEq]
       refine ⟨by omega,zK.fin hD ⟨fun h=>by simp at h,fun h=>?_⟩⟩
       have:=(h.2.2.1 j rp).1;omega
      ·by_cases r2:(a.length:Int)≤to
       ·simp +contextual only [NZ,decide_true,decide_false,a2,ha.aN,ha.len (by omega),cR,aad,C6,r1,r2,sZ,Nat.reduceEqDiff,↓reduceIte,reduceCtorEq]
        refine ⟨by omega,zK.fin hD ⟨fun h=>by simp at h,fun h=>?_⟩⟩
        have:=(h.2.2.1 j rp).1;omega
       ·obtain ⟨z,rfl⟩:=acW (show 0≤to by omega)
        have hz:z < a.length:=by omega
        have gt:=zK.gp
        have gp:=zK.gq
        have lt:=H6.lt
        have lp:=H6.lp
        have hzt:z < ts.length:=by omega
        have Wu:z < ps.length:=by omega
        simp +contextual only [NZ,decide_true,decide_false,a2,ha.aN,ha.len (by omega),cR,aad,C6,r1,r2,lW,gt,Cy hzt,NK hzt,sZ,Nat.reduceEqDiff,↓reduceIte,reduceCtorEq]
        have KQ:=zK.ae8 (ts':=ts.set z (IntKind.i64.wrap (ts.getD z 0 + 1))) hD hw
        have tz:=H6.t z hz
        have C4:=uj p.to z j
        rw [cZ _ (by omega)] at KQ ⊢
        generalize G.set x (de (ts.set z (ts.getD z 0 + 1)))=G1 at KQ ⊢
        have ql:p.l.getD j default∈p.l:=eH (by omega)
        obtain ⟨q,hq⟩:∃ q,p.l.getD j default=q:=⟨_,rfl⟩
        rw [hq] at ql
        obtain ⟨q1,q2,q3,q4,q5,q6,q7,q8,q9⟩:=bb q
        refine ⟨by omega,hz,hz,?_⟩
        simp +contextual only [NW,CK,sN,sO,hq,aad,q1,q2,q3,E7,FQ,Sd,au,eZ,sZ,Nat.reduceEqDiff,↓reduceIte,reduceCtorEq]
        refine ⟨by omega,fun hr=>⟨fun hi l1 l2=>⟨fun Ly=>?_,fun Ly=>?_⟩,fun hi=>?_⟩,fun hr=>?_⟩
        ·have hwz:=(Fa l1 l2).1 Ly
         have vC:(p.l.getD j default).nil:=by rw [hq];exact ⟨hr,hi,acy.1 hwz.1,acy.1 hwz.2⟩
         have gp1:=KQ.gq
         have Sf:=KQ.ae9 (ps':=ps.set z (IntKind.i64.wrap (ps.getD z 0 + 1))) hD hw
         have tp:=H6.p z hz
         have ple:=KP p.to p.l z j
         simp +contextual only [lW,gp1,Cy Wu,NK Wu,sZ,Nat.reduceEqDiff,↓reduceIte,reduceCtorEq]
         rw [cZ _ (by omega)] at Sf ⊢
         generalize G1.set y (de (ps.set z (ps.getD z 0 + 1)))=G2 at Sf ⊢
         refine ⟨hz,hz,?_⟩
         simp +contextual only [a2,b2,ha.lens,hb.lens,ha.idx,hb.idx,aad,sZ,Nat.reduceEqDiff,Nat.reduceAdd,↓reduceIte,reduceCtorEq]
         refine ⟨by omega,by omega,af (hs _ (aQ hz) _ (aQ rp) G2 Sf.du) ?_⟩
         rintro r G3 ⟨w,rfl,hwE,hU,NJ⟩
         have N0:=Sf.call hD hw hU NJ
         cases w with
         | false=>
           simp +contextual only [Bool.not_false,sZ,Nat.reduceEqDiff,↓reduceIte,reduceCtorEq]
           refine N0.fin hD ⟨fun h=>by simp at h,fun h=>?_⟩
           have:=(h.2.2.1 j rp).2
           rw [if_pos vC,C6,aad] at this
           exact hwE.2 this
         | true=>
           simp +contextual only [Bool.not_true,sZ,Nat.reduceEqDiff,↓reduceIte,reduceCtorEq]
           refine ⟨j + 1,(G3,_,_),⟨rp,N0,H6.step hz C6 (by rw [if_pos vC]) (by rw [if_pos vC];exact hwE.1 rfl)⟩,by omega,aE (by rw [aq j (by omega)]) rfl⟩
        all_goals
         have vC:¬ (p.l.getD j default).nil:=by
          rw [hq]
          rintro ⟨n1,n2,n3,n4⟩
          first | exact hr n1 | exact hi n2 | exact Ly ((Fa l1 l2).2 ⟨by rw [n3];rfl,by rw [n4];rfl⟩)
         simp +contextual only [a2,b2,q4,ha.lens,hb.lens,ha.idx,hb.idx,aad,sO,sZ,Nat.reduceEqDiff,Nat.reduceAdd,↓reduceIte,reduceCtorEq]
         refine ⟨by omega,by omega,af (hh _ (aQ hz) _ (aQ rp) q ql G1 KQ.du) ?_⟩
         rintro r G3 ⟨w,rfl,hwE,hU,NJ⟩
         have N0:=KQ.call hD hw hU NJ
         cases w with
         | false=>
           simp +contextual only [Bool.not_false,sZ,Nat.reduceEqDiff,↓reduceIte,reduceCtorEq]
           refine N0.fin hD ⟨fun h=>by simp at h,fun h=>?_⟩
           have:=(h.2.2.1 j rp).2
           rw [if_neg vC,C6,hq,aad] at this
           exact hwE.2 this
         | true=>
           simp +contextual only [Bool.not_true,sZ,Nat.reduceEqDiff,↓reduceIte,reduceCtorEq]
           refine ⟨j + 1,(G3,_,_),⟨rp,N0,H6.step hz C6 (by rw [if_neg vC]) (by rw [if_neg vC,hq];exact hwE.1 rfl)⟩,by omega,aE (by rw [aq j (by omega)]) rfl⟩
     ·have hje:j=b.length:=by omega
      subst hje
      simp +contextual only [NZ,decide_false,a2,ha.aN,ha.len (by omega),sZ,Nat.reduceEqDiff,↓reduceIte,reduceCtorEq]
      refine aD a.length (fun x' (f:Bool)=>(∀ z:Nat,z < x'→0 < dA p.to p.l z b.length→dH p.to z b.length≤1)∧(f=true↔∃ z:Nat,z < x'∧dA p.to p.l z b.length=0))
       (fun x' f=>[(9,.ba x 0 a.length a.length),(10,.ba y 0 a.length a.length),(14,.bool f),(112,.int .i64 a.length),(113,.int .i64 x')]) (fun _ _=>G) false
       ⟨⟨fun z h=>by omega,⟨fun h=>by simp at h,fun ⟨z,h,_⟩=>by omega⟩⟩,ax _ _ _⟩ fun z f hz hI=>?_
      obtain ⟨kB,FI⟩:=hI
      by_cases OW:(z:Int) < a.length
      ·have jI:z < a.length:=by omega
       have gt:=zK.gp
       have gp:=zK.gq
       have lt:=H6.lt
       have lp:=H6.lp
       have hzt:z < ts.length:=by omega
       have Wu:z < ps.length:=by omega
       have tz:=H6.t z jI
       have pz:=H6.p z jI
       by_cases k1:dA p.to p.l z b.length=0
       ·have p0:ps.getD z 0=0:=by omega
        cases f <;>
         (simp +contextual only [OW,decide_true,lW,gp,Cy Wu,p0,Int.lt_irrefl,decide_false,sZ,Nat.reduceEqDiff,↓reduceIte,reduceCtorEq]
          refine ⟨jI,?_⟩
          first
           | refine ⟨jI,z + 1,true,⟨jI,fun z' FP=>?_,⟨fun _=>⟨z,by omega,k1⟩,fun _=>rfl⟩⟩,by omega,aE (by rw [aq z (by omega)]) rfl⟩
           | refine ⟨z + 1,true,⟨jI,fun z' FP=>?_,⟨fun _=>⟨z,by omega,k1⟩,fun _=>rfl⟩⟩,by omega,aE (by rw [aq z (by omega)]) rfl⟩
          by_cases e:z'=z
          ·subst e;intro h;omega
          ·exact kB z' (by omega))
       ·have p0:(0 < ps.getD z 0)=True:=eq_true (by omega)
        have p1':(ps.getD z 0=0)=False:=eq_false (by omega)
        by_cases k2:dH p.to z b.length≤1
        ·have t0:(1 < ts.getD z 0)=False:=eq_false (by omega)
         have nxt:(∀ z':Nat,z' < z + 1→0 < dA p.to p.l z' b.length→dH p.to z' b.length≤1):=by
          intro z' FP
          by_cases e:z'=z
          ·subst e;intro _;exact k2
          ·exact kB z' (by omega)
         have nfr:(f=true↔∃ z':Nat,z' < z + 1∧dA p.to p.l z' b.length=0):=by
          rw [FI]
          constructor
          ·rintro ⟨z',h1,h2⟩;exact ⟨z',by omega,h2⟩
          ·rintro ⟨z',h1,h2⟩
           have:z'≠z:=fun e=>k1 (e ▸ h2)
           exact ⟨z',by omega,h2⟩
         cases f <;>
          (simp +contextual only [OW,decide_true,lW,gt,gp,Cy hzt,Cy Wu,p0,p1',t0,decide_false,sZ,Nat.reduceEqDiff,↓reduceIte,reduceCtorEq]
           refine ⟨jI,jI,?_⟩
           first
            | exact ⟨jI,z + 1,_,⟨jI,nxt,nfr⟩,by omega,aE (by rw [aq z (by omega)]) rfl⟩
            | exact ⟨z + 1,_,⟨jI,nxt,nfr⟩,by omega,aE (by rw [aq z (by omega)]) rfl⟩)
        ·have t0:(1 < ts.getD z 0)=True:=eq_true (by omega)
         simp +contextual only [OW,decide_true,lW,gt,gp,Cy hzt,Cy Wu,p0,t0,sZ,Nat.reduceEqDiff,↓reduceIte,reduceCtorEq]
         refine ⟨jI,jI,zK.fin hD ⟨fun h=>by simp at h,fun h=>?_⟩⟩
         exact absurd (h.2.2.2.1 z jI (by omega)) k2
      ·have hze:z=a.length:=by omega
       subst hze
       simp +contextual only [OW,decide_false,sZ,Nat.reduceEqDiff,↓reduceIte,reduceCtorEq]
       refine zK.fin hD ?_
       rw [FI]
       exact ⟨fun h=>⟨h1,h2,H6.ok,kB,h⟩,fun h=>h.2.2.2.2⟩
  ·have d1:decide ((p.to.length:Int)≠b.length)=false:=decide_eq_false (by omega)
   have d2:((p.l.length:Int)=b.length)=False:=eq_false (by omega)
   simp +contextual only [b2,p1,Sd,NW,hb.aN,hb.len (by omega),au,eZ,h1,d2,not_true_eq_false,not_false_eq_true,decide_false,decide_true,sZ,Nat.reduceEqDiff,Nat.reduceAdd,↓reduceIte,reduceCtorEq]
   intro _ _
   exact no fun h=>h2 h.2.1
 ·have d1:((p.to.length:Int)=b.length)=False:=eq_false (by omega)
  simp +contextual only [b2,p1,Sd,hb.aN,hb.len (by omega),au,d1,not_false_eq_true,decide_true,sZ,Nat.reduceEqDiff,Nat.reduceAdd,↓reduceIte,reduceCtorEq]
  intro _
  exact no fun h=>h1 h.1
end Go.aK
end
section
set_option maxRecDepth 100000
set_option maxHeartbeats 0
namespace Go.aK
open Go Go.Proofs
noncomputable def zq:=aH Tryz.call87 Tryz.func87 Tryz.ntmps87 [(0,0,1),(0,1,1),(0,2,1),(12,7,2000),(13,11,2000),(17,10,2000),(20,36,2000),(23,3,2000),(24,20,2000),(24,27,2000),(26,10,2000)] [(0,[2,4,5,7]),(1,[2,4,5,7,9,10]),(2,[2,4,5,7,9,10,11]),(3,[2,4,5,7,9,10,11,14]),(4,[2,4,5,7,9,10,11,76]),(5,[8]),(6,[2,4,5,7,9,10,11,15,16]),(7,[2,4,5,7,9,10,11,15,16,85]),(8,[2,4,5,7,9,10,11,15,16,85,86]),(9,[2,4,7,9,103]),(10,[8]),(11,[2,4,7,9,107]),(12,[8]),(13,[8]),(14,[2,4,5,7,9,10,11,15,16,85,128]),(15,[2,4,7,11,17]),(16,[7,11,17,20,22]),(17,[8]),(18,[4,7,9,10,11,15,16,85,156]),(19,[4,7,11,15,16,23,24]),(20,[4,7,11,23,24,202]),(21,[8]),(22,[4,7,11,23,24,207]),(23,[8]),(24,[8]),(25,[4,7,9,10,15,16,241]),(26,[8]),(27,[8])] [(1,(.take 0 true (.take 1 true (.take 2 true (.take 3 true (.take 4 true (.take 5 true (.take 6 true (.take 7 true (.take 8 true (.take 9 true (.take 10 true (.take 11 true (.take 12 true (.take 13 true (.take 14 true (.take 15 true (.br 16 (.take 17 true (.br 18 .done .nil)) .nil)))))))))))))))))),(12,(.take 0 true (.take 1 true (.take 2 true (.take 3 true (.take 4 true (.take 5 true (.take 6 true (.br 7 (.take 8 true .done) .nil))))))))),(13,(.take 0 true (.take 1 true (.take 2 true (.take 3 true (.take 4 true (.take 5 true (.take 6 true (.take 7 true (.take 8 true (.take 9 true (.take 10 true (.br 11 (.take 12 true .done) .nil))))))))))))),(19,(.take 0 true (.take 1 true (.take 2 true (.take 3 true (.take 4 true (.take 5 true (.take 6 true (.take 7 true .done))))))))),(20,(.take 0 true (.take 1 true (.take 2 true (.take 3 true (.take 4 true (.take 5 true (.take 6 true (.take 7 true (.take 8 true (.take 9 true (.take 10 true (.take 11 true (.take 12 true (.take 13 true (.take 14 true (.take 15 true (.take 16 true (.take 17 true (.take 18 true (.take 19 true (.take 20 true (.take 21 true (.take 22 true (.take 23 true (.take 24 true (.take 25 true (.take 26 true (.take 27 true (.take 28 true (.take 29 true (.take 30 true (.take 31 true (.take 32 true (.take 33 true (.take 34 true (.take 35 true (.br 36 (.take 37 true (.take 38 true .done)) .nil)))))))))))))))))))))))))))))))))))))),(24,(.take 0 true (.take 1 true (.take 2 true (.take 3 true (.take 4 true (.take 5 true (.take 6 true (.take 7 true (.take 8 true (.take 9 true (.take 10 true (.take 11 true (.take 12 true (.take 13 true (.take 14 true (.take 15 true (.take 16 true (.take 17 true (.take 18 true (.take 19 true (.br 20 (.take 21 true (.take 22 true (.take 23 true (.take 24 true (.take 25 true (.take 26 true (.br 27 (.take 28 true (.take 29 true .done)) .nil))))))) .nil))))))))))))))))))))))]
end Go.aK
end
