/- Part 18 of 20 of the proof. -/
import Derived.Test.YtljchnfgjdjobaaGreatXaq
import Derived.Test.YtljchnfgjdjobaaGreatXao
import Derived.Test.YtljchnfgjdjobaaGreatXap
import Derived.Test.YtljchnfgjdjobaaGreatXai
import Derived.KernelRfl
import Derived.Test.YtljchnfgjdjobaaGreatXam
set_option linter.unusedVariables false
set_option linter.unusedSimpArgs false
set_option linter.defProp false
set_option linter.unusedSectionVars false
section
set_option maxRecDepth 100000
namespace Go.aI
open Go Go.Proofs Go.dD
theorem c77 (s:Sg) (ps ss:List Int) (hs:On s ps ss) (l:List T):Pure Tryz.prog 77 [s.av,dE ps ss,.al 0 (bN l)] (.int .i64 (fF s ps ss l)):=by
 refine fun H=>k77.2.calls rfl ?_
 simp only [k77,aH]
 obtain ⟨q1,q2,q3,q4,q5,q6⟩:=aR ps ss
 simp +contextual only [aC,q1,q4,bQ,sZ,Nat.reduceEqDiff,Nat.reduceAdd,↓reduceIte,reduceCtorEq]
 refine ae (afi s ps ss hs) ?_
 by_cases h0:jy s ps ss=0
 ·simp +contextual only [h0,sZ,Nat.reduceEqDiff,↓reduceIte]
  refine aq l.length (fun i=>l.all (fun t=>t.tree && ry s t)=(l.drop i).all fun t=>t.tree && ry s t) (fun i=>[(2,.al 0 (bN l)),(3,.ah s.av),(8,.int .i64 i)]) (fun _=>H) ⟨rfl,ax _ _ _⟩ fun i hi hI=>?_
  by_cases vA:(i:Int) < l.length
  ·have aM:i < l.length:=by omega
   rw [AD aM] at hI
   simp +contextual only [aC,vA,decide_true,sZ,Nat.reduceEqDiff,↓reduceIte]
   refine fun _=>⟨aM,aB (c55 s _) ?_⟩
   cases ht:((l.getD i default).tree && ry s (l.getD i default)) with
   | false=>
     rw [ht,afA] at hI
     simp +contextual only [sZ,Nat.reduceEqDiff,↓reduceIte,reduceCtorEq]
     refine aK rfl ?_
     rw [fF,if_pos h0,hI,if_neg (by simp)]
   | true=>
     rw [ht,acB] at hI
     simp +contextual only [sZ,Nat.reduceEqDiff,↓reduceIte]
     exact ⟨i + 1,⟨aM,hI⟩,by omega,ay (by rw [aj i (by omega)]) rfl⟩
  ·simp +contextual only [vA,decide_false,sZ,Nat.reduceEqDiff,↓reduceIte,reduceCtorEq]
   rw [aap (by omega)] at hI
   refine fun _=>aK rfl ?_
   rw [fF,if_pos h0,hI];rfl
 ·simp +contextual only [h0,sZ,Nat.reduceEqDiff,↓reduceIte,reduceCtorEq]
  refine aK rfl ?_
  rw [fF,if_neg h0]
theorem VC {s:Sg} {ps ss:List Int} {l:List T} (h:fF s ps ss l=0):Va ps ss∧∀ t∈l,Tt ps t:=by
 have:=qc h
 exact ⟨this.ord.va,fun t ht=>⟨this.tree t ht,this.all t ht⟩⟩
end Go.aI
end
section
set_option maxRecDepth 100000
set_option maxHeartbeats 1000000
namespace Go.aI
open Go Go.Proofs Go.dD
theorem afF (s:Sg) (vs:List Int):∀ t:T,t.shaped=true→Pure Tryz.prog 250 [s.av,.al 0 (ints vs),t.av] (CE (ln s vs t)):=by
 suffices h:∀ N t,wt t≤N→t.shaped=true→Pure Tryz.prog 250 [s.av,.al 0 (ints vs),t.av] (CE (ln s vs t)) from fun t ht=>h _ t (zy _) ht
 intro N
 induction N with
 | zero=>intro t h;have:=dt t;omega
 | succ N ih=>
 intro t hN hs H
 have hk:=fN hs
 have ih:∀ x∈t.l,Pure Tryz.prog 250 [s.av,.al 0 (ints vs),x.av] (CE (ln s vs x)):=fun x hx=>ih x (by have:=ch hx;omega) (hk.2 x hx)
 have hn:0≤t.n:=by
  rw [T.dn] at hs
  simp only [zC,abC,abQ,decide_eq_false_iff_not] at hs
  have:=hs.1.1.1.1
  omega
 obtain ⟨m,hm⟩:=ab1 hn
 have em:t.n.toNat=m:=by omega
 refine Y6.2.calls rfl ?_
 simp only [Y6,aH]
 have e:ln s vs t=if t.k=1 then (if (vs.length:Int)≤t.n then none else some (vs.getD t.n.toNat 0)) else if (s.ops.length:Int)≤t.n∨¬ (t.l.length:Int)=((s.ops.getD t.n.toNat default).args.length:Nat) then none else if GL s vs t.l (s.ops.getD t.n.toNat default).args=true then some (s.ops.getD t.n.toNat default).zm else none:=by
  cases t;rw [ln];rfl
 have fin0 (o:Option Int) (h:ln s vs t=o):bP H.length [.t 6,.t 7] [(6,.int .i64 (o.getD 0)),(7,.bool o.isSome)] H fun r H'=>r=CE (ln s vs t)∧H'=H:=by
  rw [h];exact AQ (by decide) rfl rfl rfl rfl
 by_cases k1:t.k=1
 ·rw [if_pos k1] at e
  by_cases k2:(vs.length:Int)≤t.n
  ·rw [if_pos k2] at e
   have k2':((vs.length:Int)≤(m:Int))=True:=eq_true (by omega)
   simp +contextual only [aC,k1,hm,k2',ap,sZ,Nat.reduceEqDiff,Nat.reduceAdd,↓reduceIte,reduceCtorEq]
   exact fun _=>fin0 none e
  ·rw [if_neg k2,em] at e
   have k2':((vs.length:Int)≤(m:Int))=False:=eq_false (by omega)
   have k3:m < vs.length:=by omega
   simp +contextual only [aC,k1,hm,k2',k3,ap,sZ,Nat.reduceEqDiff,Nat.reduceAdd,↓reduceIte,reduceCtorEq]
   exact fun _=>fin0 (some _) e
 rw [if_neg k1,em] at e
 by_cases k2:(s.ops.length:Int)≤t.n
 ·rw [if_pos (.inl k2)] at e
  have k2':((s.ops.length:Int)≤(m:Int))=True:=eq_true (by omega)
  simp +contextual only [aC,k1,hm,k2',decide_true,sZ,Nat.reduceEqDiff,Nat.reduceAdd,↓reduceIte,reduceCtorEq]
  exact fin0 none e
 have k2':((s.ops.length:Int)≤(m:Int))=False:=eq_false (by omega)
 have k3:m < s.ops.length:=by omega
 by_cases k4:(t.l.length:Int)=((s.ops.getD m default).args.length:Nat)
 rotate_left
 ·rw [if_pos (.inr k4)] at e
  have k4':(((s.ops.getD m default).args.length:Int)=(t.l.length:Int))=False:=eq_false (fun h=>k4 h.symm)
  simp +contextual only [aC,k1,hm,k2',k3,k4',ap,decide_false,decide_true,not_false_eq_true,sZ,Nat.reduceEqDiff,Nat.reduceAdd,↓reduceIte,reduceCtorEq]
  exact fin0 none e
 rw [if_neg (by omega)] at e
 have k4':(((s.ops.getD m default).args.length:Int)=(t.l.length:Int))=True:=eq_true k4.symm
 simp +contextual only [aC,k1,hm,k2',k3,k4',ap,decide_false,not_true_eq_false,sZ,Nat.reduceEqDiff,Nat.reduceAdd,↓reduceIte,reduceCtorEq]
 generalize ha:(s.ops.getD m default).args=as_ at *
 refine aq t.l.length (fun i=>GL s vs (t.l.drop i) (as_.drop i)=GL s vs t.l as_) (fun i=>[(1,.al 0 (ints vs)),(3,.ah s.av),(5,.ah t.av),(8,.int .i64 i)]) (fun _=>H) ⟨rfl,ax _ _ _⟩ fun i hi hI=>?_
 by_cases hl:i < t.l.length
 ·have f1:decide ((i:Int) < t.l.length)=true:=decide_eq_true (by omega)
  have lZ:i < as_.length:=by omega
  have dr (h:decide (ln s vs (t.l.getD i default)=some (as_.getD i 0))=false):ln s vs t=none:=by
   rw [sU hl,h,afA] at hI
   rw [e,← hI];rfl
  simp +contextual only [aC,f1,hl,sZ,Nat.reduceEqDiff,↓reduceIte]
  refine fun _=>aB (ih _ (oc hl)) ?_
  cases ho:ln s vs (t.l.getD i default) with
  | none=>
    simp +contextual only [CE,aeF,Option.getD_none,sZ,Nat.reduceEqDiff,Nat.reduceAdd,Nat.reduceLT,↓reduceIte,reduceCtorEq]
    exact fin0 none (dr (by rw [ho];rfl))
  | some z=>
    by_cases hz:z=as_.getD i 0
    ·have xU:(z=as_.getD i 0)=True:=eq_true hz
     simp +contextual only [aC,CE,ad7,Option.getD_some,hm,k3,ha,lZ,xU,not_true_eq_false,decide_false,sZ,Nat.reduceEqDiff,Nat.reduceAdd,Nat.reduceLT,↓reduceIte]
     refine ⟨i + 1,⟨hl,?_⟩,by omega,ay (by rw [aj i (by omega)]) rfl⟩
     rw [sU hl,ho,hz,decide_eq_true rfl,acB] at hI
     exact hI
    ·have xU:(z=as_.getD i 0)=False:=eq_false hz
     simp +contextual only [aC,CE,ad7,Option.getD_some,hm,k3,ha,lZ,xU,not_false_eq_true,decide_true,sZ,Nat.reduceEqDiff,Nat.reduceAdd,Nat.reduceLT,↓reduceIte,reduceCtorEq]
     exact fin0 none (dr (by rw [ho];exact decide_eq_false fun h=>hz (Option.some.inj h)))
 ·have f1:decide ((i:Int) < t.l.length)=false:=decide_eq_false (by omega)
  rw [aap (by omega)] at hI
  have hI':GL s vs t.l as_=true:=hI.symm.trans rfl
  rw [if_pos hI'] at e
  simp +contextual only [aC,f1,hm,k3,sZ,Nat.reduceEqDiff,↓reduceIte,reduceCtorEq]
  exact fun _=>fin0 (some _) e
structure SmG (s:Sg):Prop where
 r:vS s
 o:∀ o∈s.ops,NA o
 so:∀ x∈s.aU,x.size≤200
 h1:s.ops.length≤40
 h2:s.aU.length≤40
def oN (s:Sg) (vs:List Int) (t:T):Bool:=t.tree && (ln s vs t).isSome
open Classical in
theorem abh {s:Sg} (h:SmG s) {vs:List Int} (hv:jj s vs) (t:T):Pure Tryz.prog 242 [s.av,.al 0 (ints vs),t.av] (.tuple [.int .i64 (if oN s vs t=true then (ln s vs t).getD 0 else 0),.bool (oN s vs t)]):=by
 have c248:Pure Tryz.prog 248 [s.av,.al 0 (ints vs),t.av] (.tuple [.int .i64 (if oN s vs t=true then (ln s vs t).getD 0 else 0),.int .i64 (if oN s vs t=true then 0 else 4)]):=by
  refine fun H=>Y4.2.calls rfl ?_
  simp only [Y4,aH]
  have abi:=aa1 s h.o h.so h.h1 h.h2
  rw [decide_eq_true h.r] at abi
  have abj:=NB s vs
  rw [decide_eq_true hv] at abj
  simp +contextual only [aC,sZ,Nat.reduceEqDiff,Nat.reduceAdd,↓reduceIte,reduceCtorEq]
  refine ae abi ?_
  simp +contextual only [aC,sZ,Nat.reduceEqDiff,Nat.reduceAdd,↓reduceIte]
  refine ae abj ?_
  simp +contextual only [sZ,Nat.reduceEqDiff,Nat.reduceAdd,↓reduceIte]
  refine ae (Mk t) ?_
  cases ht:t.tree with
  | false=>
    have e:oN s vs t=false:=by rw [oN,ht];rfl
    rw [e]
    simp +contextual only [sZ,Nat.reduceEqDiff,↓reduceIte,reduceCtorEq]
    exact AQ (by decide) rfl rfl rfl rfl
  | true=>
    have e:oN s vs t=(ln s vs t).isSome:=by rw [oN,ht];rfl
    rw [e]
    simp +contextual only [aC,sZ,Nat.reduceEqDiff,Nat.reduceAdd,↓reduceIte]
    refine ae (afF s vs t ((T.cI _).1 ht).2.2) ?_
    cases ho:ln s vs t with
    | none=>
      simp +contextual only [CE,aeF,sZ,Nat.reduceEqDiff,Nat.reduceAdd,Nat.reduceLT,↓reduceIte,reduceCtorEq]
      exact AQ (by decide) rfl rfl rfl rfl
    | some z=>
      simp +contextual only [CE,ad7,Option.getD_some,sZ,Nat.reduceEqDiff,Nat.reduceAdd,Nat.reduceLT,↓reduceIte,reduceCtorEq]
      exact AQ (by decide) rfl rfl rfl rfl
 refine fun H=>YZ.2.calls rfl ?_
 simp only [YZ,aH]
 simp +contextual only [aC,sZ,Nat.reduceEqDiff,Nat.reduceAdd,↓reduceIte,reduceCtorEq]
 refine ae c248 ?_
 cases oN s vs t <;> simp +contextual only [sZ,Nat.reduceEqDiff,Nat.reduceAdd,Nat.reduceLT,↓reduceIte,reduceCtorEq,Int.reduceEq] <;> exact AQ (by decide) rfl rfl rfl rfl
theorem abk {s:Sg} (h:SmG s) {vs:List Int} (hv:jj s vs) (a b:T):Pure Tryz.prog 234 [s.av,.al 0 (ints vs),a.av,b.av] (.bool (dy s vs a b)):=by
 refine fun H=>YV.2.calls rfl ?_
 simp only [YV,aH]
 have ea:dy s vs a b=(oN s vs a && (oN s vs b && decide ((if oN s vs a=true then (ln s vs a).getD 0 else 0)=(if oN s vs b=true then (ln s vs b).getD 0 else 0)))):=by
  unfold dy oN
  cases a.tree <;> cases b.tree <;> cases (ln s vs a).isSome <;> cases (ln s vs b).isSome <;> rfl
 rw [ea]
 have c1:=abh h hv a
 have c2:=abh h hv b
 generalize (if oN s vs a=true then (ln s vs a).getD 0 else 0)=x at *
 generalize (if oN s vs b=true then (ln s vs b).getD 0 else 0)=y at *
 generalize oN s vs a=u at *
 generalize oN s vs b=v at *
 simp +contextual only [aC,sZ,Nat.reduceEqDiff,Nat.reduceAdd,↓reduceIte,reduceCtorEq]
 refine ae c1 ?_
 simp +contextual only [aC,sZ,Nat.reduceEqDiff,Nat.reduceAdd,Nat.reduceLT,↓reduceIte]
 refine ae c2 ?_
 cases u <;> cases v <;> simp +contextual only [sZ,Nat.reduceEqDiff,Nat.reduceAdd,Nat.reduceLT,↓reduceIte,reduceCtorEq] <;> exact aK rfl rfl
theorem afG (l:List Int) (n:Int):Pure Tryz.prog 236 [.al 0 (ints l),.int .i64 n] (.bool (decide (n∈l))):=by
 refine fun H=>YX.2.calls rfl ?_
 simp only [YX,aH]
 simp +contextual only [sZ,Nat.reduceEqDiff,Nat.reduceAdd,↓reduceIte,reduceCtorEq]
 refine aq l.length (fun i=>∀ j,j < i→l.getD j 0≠n) (fun i=>[(0,.al 0 (ints l)),(1,.int .i64 n),(5,.int .i64 i)]) (fun _=>H) ⟨fun j hj=>(by cases hj),ax _ _ _⟩ fun i hi hI=>?_
 by_cases hl:i < l.length
 ·have f1:decide ((i:Int) < l.length)=true:=decide_eq_true (by omega)
  simp +contextual only [f1,aN,zB,sZ,Nat.reduceEqDiff,↓reduceIte,reduceCtorEq]
  refine fun _=>⟨⟨by omega,by omega⟩,fun h=>aK rfl (by rw [decide_eq_true (h ▸ bj hl)]),fun h=>⟨i + 1,⟨hl,fun j hj=>?_⟩,by omega,ay (by rw [aj i (by omega)]) rfl⟩⟩
  by_cases e:j=i
  ·subst e;exact h
  ·exact hI j (by omega)
 ·have f1:decide ((i:Int) < l.length)=false:=decide_eq_false (by omega)
  simp +contextual only [f1,sZ,Nat.reduceEqDiff,↓reduceIte,reduceCtorEq]
  refine fun _=>aK rfl ?_
  rw [decide_eq_false]
  intro hm
  obtain ⟨j,hj,e⟩:=fY hm
  exact hI j (by omega) e
end Go.aI
end
section
set_option maxRecDepth 100000
namespace Go.aI
open Go Go.Proofs Go.dD
mutual
def EW (x:Int):T→Bool
 | .mk k n l=>decide (k=2∧n=x) || EX x l
def EX (x:Int):List T→Bool
 | []=>false
 | t::r=>EW x t || EX x r
end
mutual
theorem NQ {x:Int}:∀ (t:T) (vs:List Int),x∈lq vs t↔x∈vs∨EW x t=true
 | .mk k n l,vs=>by
   rw [lq,EW,s7 l,abU,decide_eq_true_eq]
   by_cases h:k=2
   ·rw [if_pos h,EB]
    constructor
    ·rintro ((h1 | h1) | h1)
     ·exact .inl h1
     ·exact .inr (.inl ⟨h,h1.symm⟩)
     ·exact .inr (.inr h1)
    ·rintro (h1 | ⟨_,h1⟩ | h1)
     ·exact .inl (.inl h1)
     ·exact .inl (.inr h1.symm)
     ·exact .inr h1
   ·rw [if_neg h]
    constructor
    ·rintro (h1 | h1)
     ·exact .inl h1
     ·exact .inr (.inr h1)
    ·rintro (h1 | ⟨h1,_⟩ | h1)
     ·exact .inl h1
     ·exact absurd h1 h
     ·exact .inr h1
theorem s7 {x:Int}:∀ (l:List T) (vs:List Int),x∈opsL vs l↔x∈vs∨EX x l=true
 | [],vs=>by simp [opsL,EX]
 | t::r,vs=>by rw [opsL,EX,s7 r,NQ t,abU,or_assoc]
end
theorem yC {x:Int}:∀ {l:List T},EX x l=true↔∃ t∈l,EW x t=true
 | []=>by simp [EX]
 | t::r=>by rw [EX,abU,yC (l:=r)];simp
theorem NR {x:Int} (e:iL) (vs:List Int):x∈yl vs e↔x∈vs∨∃ t∈e.a::e.rest,EW x t=true:=by
 have key:∀ (cs:List Cn) (vs:List Int),x∈cs.foldl (fun vs c=>opsL vs [c.a,c.b]) vs↔x∈vs∨∃ t∈cs.flatMap (fun c=>[c.a,c.b]),EW x t=true:=by
  intro cs
  induction cs with
  | nil=>intro vs;simp
  | cons c r ih=>
    intro vs
    rw [List.foldl_cons,ih,s7,yC]
    simp only [List.flatMap_cons,abF,or_and_right,exists_or]
    rw [or_assoc]
 rw [yl,key,s7,yC,iL.rest]
 simp only [aak,or_and_right,exists_or,abA,or_false,or_assoc]
theorem EY {x:Int}:∀ (l:List iL) (vs:List Int),x∈lr l vs↔x∈vs∨∃ e∈l,∃ t∈e.a::e.rest,EW x t=true
 | [],vs=>by simp [lr]
 | e::r,vs=>by
   rw [lr,List.foldl_cons]
   have:=EY (x:=x) r (yl vs e)
   rw [lr] at this
   rw [this,NR]
   simp only [aak,or_and_right,exists_or,exists_eq_left,or_assoc]
theorem IH {t:Ty} {x:Int}:x∈yI t↔0≤x∧x < t.s.ops.length∧∃ e∈t.es,∃ u∈e.a::e.rest,EW x u=true:=by
 rw [yI,uB,EY];simp
end Go.aI
end
section
set_option maxRecDepth 100000
namespace Go.aI
open Go Go.Proofs Go.dD
def cnt (S:Int→Bool):Nat→Nat
 | 0=>0
 | m + 1=>cnt S m + if S m=true then 1 else 0
theorem NS {l:List Int} {j:Nat} (h:(j:Int)≤yn l):∃ x∈l,(j:Int)≤x:=by
 refine Classical.byContradiction fun hn=>?_
 have:=foldl_max l (-1) ((j:Int) - 1) (by omega) (fun y hy=>by
  refine Classical.byContradiction fun hy'=>hn ⟨y,hy,by omega⟩)
 unfold yn at h
 omega
end Go.aI
end
section
set_option maxRecDepth 100000
set_option maxHeartbeats 1000000
namespace Go.aI
open Go Go.Proofs Go.dD
theorem Hf (l:List Int):aO 1 (cC l)=True∧aO 1 (cC l).ab=True∧(∀ (H:List aa) (φ:AV→Prop),fR (cC l) H φ=(l.length < 9223372036854775808→φ (.int .i64 l.length)))∧∀ (H:List aa) (φ:AV→Prop),fR (cC l).ab H φ=(l.length < 9223372036854775808→φ (.int .i64 l.length)):=by
 cases l with
 | nil=>exact ⟨by simp [cC,aO],by simp [cC,AV.ab,aO],fun _ φ=>by show φ _=_;simp,fun _ φ=>by show φ _=_;simp⟩
 | cons p r=>exact ⟨by simp [cC,aO],by simp [cC,AV.ab,aO],fun _ φ=>by show (_→φ _)=_;rw [ap],fun _ φ=>by show (_→φ _)=_;rw [ap]⟩
theorem Kq (e:Nat) (l:List Int) (k:IntKind) (i:Int) (hi:0≤i∧i < l.length) (φ:AV→Prop):aG e (cC l).ab (.int k i) φ=φ (.ah (.int .i64 (l.getD i.toNat 0))):=by
 cases l with
 | nil=>simp at hi;omega
 | cons x r=>
   show aG e (.al 0 (ints (x::r))) _ φ=_
   rw [aN]
   exact propext ⟨fun h=>h.2,fun h=>⟨hi,h⟩⟩
theorem Cy (l:List Int):(cC l).ab.ab=(cC l).ab:=by cases l <;> rfl
theorem QV (l:List Int) (n:Int):Pure Tryz.prog 170 [(cC l).ab,.int .i64 n] (.bool (decide (n∈l))):=by
 refine fun H=>P6.2.calls rfl ?_
 simp only [P6,aH]
 obtain ⟨o1,o2,o3,o4⟩:=Hf l
 have uu:(cC l).ab.ab=(cC l).ab:=by cases l <;> rfl
 simp +contextual only [sZ,Nat.reduceEqDiff,Nat.reduceAdd,↓reduceIte,reduceCtorEq]
 refine aq l.length (fun i=>∀ j,j < i→l.getD j 0≠n) (fun i=>[(0,(cC l).ab),(1,.int .i64 n),(5,.int .i64 i)]) (fun _=>H) ⟨fun j hj=>(by cases hj),ax _ _ _⟩ fun i hi hI=>?_
 by_cases hl:i < l.length
 ·have f1:decide ((i:Int) < l.length)=true:=decide_eq_true (by omega)
  simp +contextual only [f1,uu,o2,o4,J3 l,Kq _ l _ (i:Int) ⟨by omega,by omega⟩,zB,sZ,Nat.reduceEqDiff,↓reduceIte,reduceCtorEq]
  refine fun _=>⟨fun h=>aK rfl (by rw [decide_eq_true (h ▸ bj hl)]),fun h=>⟨i + 1,⟨hl,fun j hj=>?_⟩,by omega,ay (by rw [aj i (by omega)]) rfl⟩⟩
  by_cases e:j=i
  ·subst e;exact h
  ·exact hI j (by omega)
 ·have f1:decide ((i:Int) < l.length)=false:=decide_eq_false (by omega)
  simp +contextual only [f1,uu,o2,o4,sZ,Nat.reduceEqDiff,↓reduceIte,reduceCtorEq]
  refine fun _=>aK rfl ?_
  rw [decide_eq_false]
  intro hm
  obtain ⟨j,hj,e⟩:=fY hm
  exact hI j (by omega) e
theorem abl (l:List Int) (n:Int):Pure Tryz.prog 170 [.al 0 (ints l),.int .i64 n] (.bool (decide (n∈l))):=by
 cases l with
 | cons x r=>exact QV (x::r) n
 | nil=>
   refine fun H=>P6.2.calls rfl ?_
   simp only [P6,aH]
   simp +contextual only [sZ,Nat.reduceEqDiff,Nat.reduceAdd,↓reduceIte,reduceCtorEq]
   refine aq 0 (fun i=>True) (fun i=>[(0,.al 0 (ints [])),(1,.int .i64 n),(5,.int .i64 i)]) (fun _=>H) ⟨trivial,ax _ _ _⟩ fun i hi _=>?_
   have:i=0:=by omega
   subst this
   have f1:decide (((0:Nat):Int) < (0:Nat))=false:=rfl
   simp +contextual only [f1,ap,List.length_nil,sZ,Nat.reduceEqDiff,Nat.reduceLT,↓reduceIte,reduceCtorEq]
   exact aK rfl rfl
mutual
theorem ni:∀ (t:T) (vs:List Int),(lq vs t).length≤vs.length + wt t
 | .mk k n l,vs=>by
   rw [lq,wt]
   have:=EZ l (if k=2 then rF vs n else vs)
   have h:(if k=2 then rF vs n else vs).length≤vs.length + 1:=by
    split
    ·unfold rF;split <;> simp
    ·omega
   omega
theorem EZ:∀ (l:List T) (vs:List Int),(opsL vs l).length≤vs.length + ft l
 | [],vs=>by simp [opsL]
 | x::r,vs=>by
   rw [opsL,ft]
   have:=ni x vs
   have:=EZ r (lq vs x)
   omega
end
theorem QW:∀ (N:Nat) (t:T),wt t≤N→∀ (vs:List Int) (H:List aa),vs.length + wt t≤1000000000→aA Tryz.prog 169 [cC vs,t.av] H fun r H'=>r=cC (lq vs t)∧H'=H:=by
 intro N
 induction N with
 | zero=>intro t h;have:=dt t;omega
 | succ N ih=>
 intro t hN vs H hb
 have hw:=vn t
 have V8:=fW t.l
 refine X3.2.calls rfl ?_
 simp only [X3,aH]
 have e0:lq vs t=opsL (if t.k=2 then rF vs t.n else vs) t.l:=by cases t;rw [lq];rfl
 have step:∀ (us:List Int),(if t.k=2 then rF vs t.n else vs)=us→us.length≤vs.length + 1∧opsL us t.l=lq vs t:=fun us h=>by
  subst h
  refine ⟨?_,e0.symm⟩
  split
  ·unfold rF;split <;> simp
  ·omega
 rcases (show (t.k=2∧t.n∈vs)∨(t.k=2∧t.n∉vs)∨t.k≠2 by by_cases h:t.k=2 <;> by_cases h':t.n∈vs <;> simp [h,h']) with ⟨h2,hm⟩ | ⟨h2,hm⟩ | h2
 case' inl=>
  simp +contextual only [h2,Cy,decide_true,sZ,Nat.reduceEqDiff,Nat.reduceAdd,↓reduceIte,reduceCtorEq]
  refine ae (QV vs t.n) ?_
  rw [decide_eq_true hm]
  simp +contextual only [sZ,Nat.reduceEqDiff,↓reduceIte,reduceCtorEq]
  obtain ⟨s1,s2⟩:=step vs (by rw [if_pos h2,rF,if_pos hm])
  obtain ⟨us,VD⟩:∃ us,us=vs:=⟨vs,rfl⟩
  have s1:us.length≤vs.length + 1:=by rw [VD];omega
  have s2:opsL us t.l=lq vs t:=by rw [VD];exact s2
  rw [show cC vs=cC us by rw [VD]]
 case' inr.inl=>
  simp +contextual only [h2,Cy,decide_true,sZ,Nat.reduceEqDiff,Nat.reduceAdd,↓reduceIte,reduceCtorEq]
  refine ae (QV vs t.n) ?_
  rw [decide_eq_false hm]
  simp +contextual only [kq,dZ,sZ,Nat.reduceEqDiff,Nat.reduceAdd,↓reduceIte,reduceCtorEq]
  refine ⟨by omega,?_⟩
  obtain ⟨s1,s2⟩:=step (vs++[t.n]) (by rw [if_pos h2,rF,if_neg hm])
  generalize vs++[t.n]=us at s1 s2 ⊢
 case' inr.inr=>
  simp +contextual only [h2,decide_false,sZ,Nat.reduceEqDiff,Nat.reduceAdd,↓reduceIte,reduceCtorEq]
  obtain ⟨s1,s2⟩:=step vs (by rw [if_neg h2])
  obtain ⟨us,VD⟩:∃ us,us=vs:=⟨vs,rfl⟩
  have s1:us.length≤vs.length + 1:=by rw [VD];omega
  have s2:opsL us t.l=lq vs t:=by rw [VD];exact s2
  rw [show cC vs=cC us by rw [VD]]
 all_goals
  refine aF t.l.length (fun i (q:List Int)=>q.length + ft (t.l.drop i)≤vs.length + wt t∧opsL q (t.l.drop i)=lq vs t) (fun i q=>[(0,cC q),(3,.ah t.av),(5,.int .i64 i)]) (fun _ _=>H) us ⟨⟨by rw [List.drop_zero];omega,s2⟩,ax _ _ _⟩ fun i q hi hI=>?_
  obtain ⟨i1,i2⟩:=hI
  by_cases hl:i < t.l.length
  ·have l1:decide ((i:Int) < t.l.length)=true:=decide_eq_true (by omega)
   have ed:t.l.drop i=t.l.getD i default::t.l.drop (i + 1):=by rw [aav hl];simp [hl]
   rw [ed,ft] at i1
   rw [ed,opsL] at i2
   simp +contextual only [l1,hl,sZ,Nat.reduceEqDiff,Nat.reduceAdd,↓reduceIte,reduceCtorEq]
   refine fun _=>af (ih _ (by have:=ch (dM hl);omega) q H (by omega)) ?_
   rintro r G ⟨rfl,rfl⟩
   simp +contextual only [sZ,Nat.reduceEqDiff,↓reduceIte,reduceCtorEq]
   have:=ni (t.l.getD i default) q
   exact ⟨i + 1,_,⟨hl,by omega,i2⟩,by omega,ay (by rw [aj i (by omega)]) rfl⟩
  ·have l1:decide ((i:Int) < t.l.length)=false:=decide_eq_false (by omega)
   rw [aap (by omega),opsL] at i2
   simp +contextual only [l1,sZ,Nat.reduceEqDiff,↓reduceIte,reduceCtorEq]
   subst i2
   exact fun _=>aK (xK _ _) rfl
theorem c95 {t:Ty} (KY:t.es.length≤400) (he:∀ e∈t.es,e.cs.length≤8∧∀ u∈e.a::e.rest,wt u≤2000) (hn:t.s.ops.length≤1000000):Pure Tryz.prog 95 [t.av] (.al 0 (ints (yI t))):=by
 refine fun H=>k95.2.calls rfl ?_
 simp only [k95,aH]
 obtain ⟨e1,e2,e3,e4,e5,e6⟩:=Ty.facts t
 have n0:AV.ag=cC []:=rfl
 simp +contextual only [e1,sZ,Nat.reduceEqDiff,Nat.reduceAdd,↓reduceIte]
 refine aF t.es.length (fun i (q:List Int)=>q.length≤i * 40000∧(t.es.drop i).foldl yl q=lr t.es []) (fun i q=>[(1,.ah t.av),(3,cC q),(4,.int .i64 i)]) (fun _ _=>H) [] ⟨⟨by simp,rfl⟩,ax _ _ _⟩ fun i q hi hI=>?_
 obtain ⟨i1,i2⟩:=hI
 by_cases hl:i < t.es.length
 ·have l1:decide ((i:Int) < t.es.length)=true:=decide_eq_true (by omega)
  obtain ⟨h8,hu⟩:=he _ (oc hl)
  have ed:t.es.drop i=t.es.getD i default::t.es.drop (i + 1):=by rw [aav hl,th,Hj hl];rfl
  rw [ed,List.foldl_cons] at i2
  obtain ⟨e,hE⟩:∃ e,t.es.getD i default=e:=⟨_,rfl⟩
  rw [hE] at h8 hu i2
  have wa:=hu e.a (by simp)
  have wb:=hu e.b (by simp [iL.rest])
  have hc:∀ c∈e.cs,wt c.a≤2000∧wt c.b≤2000:=fun c hc=>⟨hu _ (aaA _ (aaA _ (abY.2 ⟨c,hc,by simp⟩))),hu _ (aaA _ (aaA _ (abY.2 ⟨c,hc,by simp⟩)))⟩
  have b1:=ni e.a q
  have b2:=ni e.b (lq q e.a)
  simp +contextual only [l1,Cg,dx,fB,idx_eq,hE,hl,CF,sZ,Nat.reduceEqDiff,Nat.reduceAdd,↓reduceIte,reduceCtorEq]
  refine fun _=>af (QW _ e.a (zy _) q H (by omega)) ?_
  rintro r G ⟨rfl,rfl⟩
  simp +contextual only [Cg,fB,idx_eq,hE,hl,KC,sZ,Nat.reduceEqDiff,Nat.reduceAdd,↓reduceIte,reduceCtorEq]
  refine af (QW _ e.b (zy _) _ G (by omega)) ?_
  rintro r G' ⟨rfl,rfl⟩
  simp +contextual only [sZ,Nat.reduceEqDiff,↓reduceIte]
  have i2:(t.es.drop (i + 1)).foldl yl (e.cs.foldl (fun vs c=>opsL vs [c.a,c.b]) (lq (lq q e.a) e.b))=lr t.es []:=i2
  refine aF e.cs.length (fun j (u:List Int)=>u.length≤i * 40000 + 4000 + j * 4000∧(t.es.drop (i + 1)).foldl yl ((e.cs.drop j).foldl (fun vs c=>opsL vs [c.a,c.b]) u)=lr t.es []) (fun j u=>[(1,.ah t.av),(3,cC u),(4,.int .i64 i),(5,.int .i64 j)]) (fun _ _=>G') _ ⟨⟨by omega,i2⟩,ax _ _ _⟩ fun j u hj hJ=>?_
  obtain ⟨j1,j2⟩:=hJ
  by_cases lA:j < e.cs.length
  ·have l2:decide ((j:Int) < e.cs.length)=true:=decide_eq_true (by omega)
   have ed2:e.cs.drop j=e.cs.getD j default::e.cs.drop (j + 1):=by rw [aav lA,th,Hj lA];rfl
   rw [ed2,List.foldl_cons] at j2
   obtain ⟨c,hC⟩:∃ c,e.cs.getD j default=c:=⟨_,rfl⟩
   have hcm:c∈e.cs:=hC ▸ oc lA
   obtain ⟨ca,cb⟩:=hc c hcm
   rw [hC,show opsL u [c.a,c.b]=lq (lq u c.a) c.b from rfl] at j2
   have d1:=ni c.a u
   have d2:=ni c.b (lq u c.a)
   simp +contextual only [l2,Cg,fB,idx_eq,hE,hl,zq,cL,jK,mn,hC,lA,Qy,sZ,Nat.reduceEqDiff,Nat.reduceAdd,↓reduceIte,reduceCtorEq]
   refine fun _=>af (QW _ c.a (zy _) u G' (by omega)) ?_
   rintro r G2 ⟨rfl,rfl⟩
   simp +contextual only [Cg,fB,idx_eq,hE,hl,zq,jK,mn,hC,lA,Qz,sZ,Nat.reduceEqDiff,Nat.reduceAdd,↓reduceIte,reduceCtorEq]
   refine af (QW _ c.b (zy _) _ G2 (by omega)) ?_
   rintro r G3 ⟨rfl,rfl⟩
   simp +contextual only [sZ,Nat.reduceEqDiff,↓reduceIte]
   exact ⟨j + 1,_,⟨lA,by omega,j2⟩,by omega,ay (by rw [aj j (by omega)]) rfl⟩
  ·have l2:decide ((j:Int) < e.cs.length)=false:=decide_eq_false (by omega)
   rw [aap (by omega),List.foldl_nil] at j2
   simp +contextual only [l2,Cg,fB,idx_eq,hE,hl,zq,cL,sZ,Nat.reduceEqDiff,↓reduceIte]
   exact fun _=>⟨i + 1,u,⟨hl,by omega,j2⟩,by omega,ay (by rw [aj i (by omega)]) rfl⟩
 ·have l1:decide ((i:Int) < t.es.length)=false:=decide_eq_false (by omega)
  rw [aap (by omega),List.foldl_nil] at i2
  subst i2
  simp +contextual only [l1,Cg,dx,sZ,Nat.reduceEqDiff,↓reduceIte]
  refine fun _=>aq t.s.ops.length (fun k=>True) (fun k=>[(1,.ah t.av),(3,cC (lr t.es [])),(6,cC (lQ (lr t.es []) k)),(7,.int .i64 k)]) (fun _=>H) ⟨trivial,ax _ _ _⟩ fun k hk _=>?_
  by_cases sg:k < t.s.ops.length
  ·have l2:decide ((k:Int) < t.s.ops.length)=true:=decide_eq_true (by omega)
   have hlen:=nc (vs:=lr t.es []) (n:=k)
   simp +contextual only [aC,l2,vR,Cy,sZ,Nat.reduceEqDiff,Nat.reduceAdd,↓reduceIte]
   refine fun _=>ae (QV _ (k:Int)) ?_
   by_cases hm:(k:Int)∈lr t.es []
   ·rw [decide_eq_true hm]
    simp +contextual only [kq,dZ,sZ,Nat.reduceEqDiff,Nat.reduceAdd,↓reduceIte]
    exact ⟨by omega,k + 1,sg,by omega,ay (by rw [aj k (by omega),lQ,if_pos hm]) rfl⟩
   ·rw [decide_eq_false hm]
    simp +contextual only [sZ,Nat.reduceEqDiff,↓reduceIte]
    exact ⟨k + 1,sg,by omega,ay (by rw [aj k (by omega),lQ,if_neg hm]) rfl⟩
  ·have l2:decide ((k:Int) < t.s.ops.length)=false:=decide_eq_false (by omega)
   have KH:k=t.s.ops.length:=by omega
   subst KH
   simp +contextual only [aC,l2,vR,sZ,Nat.reduceEqDiff,↓reduceIte,reduceCtorEq]
   exact fun _=>⟨H.length,zy _,_,EO _,by rw [bA,aJ],rfl,aby⟩
theorem c96 (n:Nat) (x:Int) (hn:n≤1000000):Pure Tryz.prog 96 [.int .i64 n,.int .i64 x] (.al 0 (ints (List.replicate n x))):=by
 refine fun H=>k96.2.calls rfl ?_
 simp only [k96,aH]
 simp +contextual only [bs0,sZ,Nat.reduceEqDiff,Nat.reduceAdd,↓reduceIte,reduceCtorEq]
 refine aq n (fun i=>True) (fun i=>[(0,.int .i64 n),(1,.int .i64 x),(5,.al 1 (ints (List.replicate i x))),(6,.int .i64 i)]) (fun _=>H) ⟨trivial,ax _ _ _⟩ fun i hi _=>?_
 by_cases hl:i < n
 ·have l1:decide ((i:Int) < n)=true:=decide_eq_true (by omega)
  simp +contextual only [l1,jv,ok_int,ap,ach,sZ,Nat.reduceEqDiff,Nat.reduceAdd,↓reduceIte,reduceCtorEq]
  refine ⟨by omega,i + 1,hl,by omega,ay ?_ rfl⟩
  rw [aj i (by omega),afT,← pV]
 ·have l1:decide ((i:Int) < n)=false:=decide_eq_false (by omega)
  have:i=n:=by omega
  subst this
  simp +contextual only [l1,sZ,Nat.reduceEqDiff,↓reduceIte,reduceCtorEq]
  exact aK (by rw [bA,aJ]) rfl
theorem Kr {l:List Int} (h0:∀ x∈l,0≤x):ji l=true↔∀ x∈l,0 < x→x - 1∈l:=by
 have afH:∀ y∈l,y≤yn l:=fun y hy=>by
  have:∀ (l:List Int) (x:Int),x≤l.foldl max x∧∀ y∈l,y≤l.foldl max x:=by
   intro l
   induction l with
   | nil=>intro x;exact ⟨afV _,fun y hy=>by cases hy⟩
   | cons z r ih=>
     intro x
     obtain ⟨i1,i2⟩:=ih (max x z)
     rw [List.foldl_cons]
     exact ⟨by omega,fun y hy=>by
      rcases aak.1 hy with rfl | hy
      ·omega
      ·exact i2 y hy⟩
  exact (this l (-1)).2 y hy
 unfold ji
 rw [abc]
 constructor
 ·intro h x hx nC
  have:=h (x - 1).toNat (abG.2 (by have:=afH x hx;omega))
  have e:(((x - 1).toNat:Nat):Int)=x - 1:=by omega
  rw [e] at this
  exact of_decide_eq_true this
 ·intro h j hj
  have hj:=abG.1 hj
  refine decide_eq_true ?_
  obtain ⟨x,hx,hjx⟩:=NS (l:=l) (j:=j) (by omega)
  have down:∀ (n:Nat) (y:Int),y∈l→(j:Int)≤y→y - j=n→(j:Int)∈l:=by
   intro n
   induction n with
   | zero=>
    intro y hy h1 h2
    have:y=j:=by omega
    subst this;exact hy
   | succ n ih=>intro y hy h1 h2;exact ih (y - 1) (h y hy (by omega)) (by omega) (by omega)
  exact down (x - j).toNat x hx hjx (by omega)
theorem c97 {l:List Int} (h0:∀ x∈l,0≤x∧x < 1000000):Pure Tryz.prog 97 [.al 0 (ints l)] (.bool (ji l)):=by
 refine fun H=>k97.2.calls rfl ?_
 simp only [k97,aH]
 have hd:=Kr fun x hx=>(h0 x hx).1
 simp +contextual only [sZ,Nat.reduceAdd,↓reduceIte,reduceCtorEq]
 refine aq l.length (fun i=>∀ j,j < i→0 < l.getD j 0→l.getD j 0 - 1∈l) (fun i=>[(0,.al 0 (ints l)),(3,.int .i64 i)]) (fun _=>H) ⟨fun j hj=>(by cases hj),ax _ _ _⟩ fun i hi hI=>?_
 by_cases hl:i < l.length
 ·have l1:decide ((i:Int) < l.length)=true:=decide_eq_true (by omega)
  have hb:=h0 _ (bj hl)
  have w1:IntKind.i64.wrap (l.getD i 0 - 1)=l.getD i 0 - 1:=cp _ (by omega)
  by_cases hp:0 < l.getD i 0
  ·simp +contextual only [l1,aN,zB,hp,decide_true,w1,sZ,Nat.reduceEqDiff,Nat.reduceAdd,↓reduceIte,reduceCtorEq]
   refine fun _=>⟨⟨by omega,by omega⟩,⟨by omega,by omega⟩,ae (abl l _) ?_⟩
   by_cases hm:l.getD i 0 - 1∈l
   ·rw [decide_eq_true hm]
    simp +contextual only [sZ,Nat.reduceEqDiff,↓reduceIte,reduceCtorEq]
    exact ⟨i + 1,⟨hl,dl hI fun _=>hm⟩,by omega,ay (by rw [aj i (by omega)]) rfl⟩
   ·rw [decide_eq_false hm]
    simp +contextual only [sZ,Nat.reduceEqDiff,↓reduceIte,reduceCtorEq]
    refine aK rfl ?_
    congr 1
    rw [abV,hd]
    exact ⟨fun h=>absurd h (by simp),fun h=>absurd (h _ (bj hl) hp) hm⟩
  ·simp +contextual only [l1,aN,zB,hp,decide_false,sZ,Nat.reduceEqDiff,↓reduceIte,reduceCtorEq]
   exact fun _=>⟨⟨by omega,by omega⟩,i + 1,⟨hl,dl hI fun h=>absurd h hp⟩,by omega,ay (by rw [aj i (by omega)]) rfl⟩
 ·have l1:decide ((i:Int) < l.length)=false:=decide_eq_false (by omega)
  simp +contextual only [l1,sZ,Nat.reduceEqDiff,↓reduceIte,reduceCtorEq]
  refine fun _=>aK rfl ?_
  congr 1
  rw [abV,hd]
  refine ⟨fun _ x hx=>?_,fun _=>rfl⟩
  obtain ⟨j,hj,rfl⟩:=fY hx
  exact hI j (by omega)
end Go.aI
end
section
set_option maxRecDepth 100000
set_option maxHeartbeats 0
namespace Go.aI
open Go Go.Proofs
noncomputable def abm:=aH Tryz.call98 Tryz.func98 Tryz.ntmps98 [(0,0,1),(5,3,2),(5,5,2),(6,3,2),(6,5,2),(12,0,3001)] [(0,[1,2,3,4,8]),(1,[1,2,3,4,8,9]),(2,[1,2,3,4,8,9,10]),(3,[1,2,3,4,8,9,10,18]),(4,[1,2,3,4,8,9,10]),(5,[1,2,3,4,8,9,10]),(6,[1,2,3,4,8,9,10]),(7,[1,2,3,8,9,11]),(8,[1,2,3,8,9,11,34]),(9,[1,2,3,8,9,11]),(10,[1,2,3,8,9,11]),(11,[1,2,3,8,9,11]),(12,[8])] [(10,(tkq 0 11 (.br 11 .done .nil))),(11,(tkq 0 11 (.br 11 .done .nil)))]
noncomputable def abn:=aH Tryz.call99 Tryz.func99 Tryz.ntmps99 [(1,0,2),(1,2,2),(7,0,3000),(9,0,3000)] [(0,[0,1,2]),(1,[1,2,8]),(2,[1,2,8,9]),(3,[1,2,8,9,17]),(4,[1,2,8,9]),(5,[1,2,8,9,25]),(6,[8]),(7,[6,7]),(8,[1,2,8,9]),(9,[6,7])] []
end Go.aI
end
section
set_option maxRecDepth 100000
set_option maxHeartbeats 1000000
namespace Go.aI
open Go Go.Proofs Go.dD
def lD (lo hi:Int) (l:List Int):Nat→Option (List Int)
 | 0=>none
 | k + 1=>if l.getD k 0 < hi then some (l.take k++(l.getD k 0 + 1)::List.replicate (l.length - 1 - k) lo) else lD lo hi l k
theorem E0 {lo hi x:Int} {r:List Int}:∀ {k:Nat},k≤r.length→lD lo hi (x::r) (k + 1)=(match lD lo hi r k with | some r'=>some (x::r') | none=>if x < hi then some ((x + 1)::List.replicate r.length lo) else none)
 | 0,h=>by simp [lD]
 | k + 1,h=>by
   have ih:=E0 (lo:=lo) (hi:=hi) (x:=x) (r:=r) (k:=k) (by omega)
   rw [lD,List.getD_cons_succ,ih,lD]
   by_cases hk:r.getD k 0 < hi
   ·rw [if_pos hk,if_pos hk]
    simp only [List.take_succ_cons,List.cons_append,List.length_cons]
    rw [show r.length + 1 - 1 - (k + 1)=r.length - 1 - k by omega]
   ·rw [if_neg hk,if_neg hk]
theorem wA {lo hi:Int} {l l':List Int}:∀ {k:Nat},k≤l.length→lD lo hi l k=some l'→l'.length=l.length
 | 0,_,h=>by cases h
 | k + 1,hk,h=>by
   rw [lD] at h
   split at h
   ·cases h;simp;omega
   ·exact wA (by omega) h
theorem Hg {lo hi:Int} (tn:lo≤hi) {l l':List Int} (hl:∀ x∈l,lo≤x∧x≤hi):∀ {k:Nat},k≤l.length→lD lo hi l k=some l'→∀ x∈l',lo≤x∧x≤hi
 | 0,_,h=>by cases h
 | k + 1,hk,h=>by
   rw [lD] at h
   split at h
   ·rename_i aM
    cases h
    intro x hx
    rcases abF.1 hx with hx | hx
    ·exact hl x (acs hx)
    ·rcases aak.1 hx with rfl | hx
     ·have:=hl _ (bj (show k < l.length by omega));omega
     ·rw [abX hx];exact ⟨afV _,tn⟩
   ·exact Hg tn hl (by omega) h
def rM (lo:Int) (m:Nat):List Int→List (List Int)
 | []=>[[]]
 | x::r=>(rM lo m r).map (x::·)++(cM (x + 1) (lo + m - 1 - x).toNat).flatMap fun y=>(iu (cM lo m) r.length).map (y::·)
theorem yD (lo:Int) (n:Nat):cM lo (n + 1)=lo::cM (lo + 1) n:=by
 simp only [cM,List.range_succ_eq_map,List.map_cons,acH]
 congr 1
 ·omega
 ·exact ab2 fun i _=>by simp;omega
theorem wB {lo:Int} {m:Nat}:∀ {n:Nat},(n=0∨0 < m)→rM lo m (List.replicate n lo)=iu (cM lo m) n
 | 0,_=>rfl
 | n + 1,h=>by
   have hm:0 < m:=by omega
   obtain ⟨q,rfl⟩:∃ q,m=q + 1:=⟨m - 1,by omega⟩
   rw [acE,rM,wB (.inr hm),ach,iu]
   generalize iu (cM lo (q + 1)) n=A
   rw [yD,List.flatMap_cons,show (lo + ((q + 1:Nat):Int) - 1 - lo).toNat=q by omega]
theorem s8 {lo:Int} {m:Nat}:∀ {l:List Int},(∀ x∈l,lo≤x∧x≤lo + m - 1)→rM lo m l=l::(match lD lo (lo + m - 1) l l.length with | some l'=>rM lo m l' | none=>[])
 | [],_=>rfl
 | x::r,h=>by
   have ih:=s8 (lo:=lo) (m:=m) (l:=r) fun y hy=>h y (by simp [hy])
   have hx:=h x (by simp)
   rw [rM,ih,List.length_cons,E0 (zy _)]
   cases hn:lD lo (lo + m - 1) r r.length with
   | some r'=>
     simp only [List.map_cons,List.cons_append]
     rw [rM,wA (zy _) hn]
   | none=>
     simp only [List.map_cons,List.map_nil,List.cons_append,List.nil_append]
     by_cases aM:x < lo + m - 1
     ·rw [if_pos aM]
      simp only
      rw [rM,wB (.inr (by omega)),ach]
      have e:(lo + m - 1 - x).toNat=(lo + m - 1 - (x + 1)).toNat + 1:=by omega
      rw [e,yD,List.flatMap_cons]
     ·rw [if_neg aM]
      have e:(lo + m - 1 - x).toNat=0:=by omega
      rw [e];rfl
def s9 (lo hi:Int) (l:List Int):List Int×Bool:=match lD lo hi l l.length with | some l'=>(l',true) | none=>(List.replicate l.length lo,false)
theorem abo {H:List aa} {l:List Int} (hb:l.length≤1000000000) {K:AV→List aa→Prop}
 (hK:∀ id cap G,H.length≤id→G[id]?=some (aX zI (ints l) cap)→l.length≤cap→G.take H.length=H→K (.aZ id 0 l.length cap) G) :
 b9 1 8 (.int .i64 0) (.aZ H.length 0 0 0) (.al 0 (ints l)) (H++[.cells []]) K:=by
 have hg:(H++[aa.cells []])[H.length]?=some (.cells []):=by simp
 have fl:flat (ints l)=ints l:=kI l
 have fu:(ints l).map AV.ab=ints l:=by simp [ints,AV.ab]
 unfold b9
 simp only [dK,hg,fl,fu]
 refine ⟨of_eq_true (jI l),by rw [ap];omega,zy _,by simp,fun hroom=>?_,fun jZ c8 hc _=>?_⟩
 ·have h0:l=[]:=abE.1 (by rw [ap] at hroom;omega)
  subst h0
  refine ⟨rfl,?_⟩
  have:=hK H.length 0 (H++[.cells []]) (zy _) (by rw [hg];rfl) (zy _) (by simp)
  simpa [ai,ints] using this
 ·refine ⟨?_,?_⟩
  ·simp only [List.drop_zero,afe,List.take_zero,List.map_nil,List.nil_append]
   rw [bw]
   refine ⟨aJ _ _,?_⟩
   rw [show cz (AV.int .i64 0) (c8 - (0 + (ints l).length))=ints (List.replicate (c8 - (0 + (ints l).length)) 0) from wm _]
   exact aJ _ _
  ·simp only [List.drop_zero,afe,List.take_zero,List.map_nil,List.nil_append,abK,ap]
   refine hK _ c8 _ (by simp) ?_ (by rw [ap] at hc;omega) (by simp)
   rw [abx (zy _),acG]
   rw [aX,kI,ap];rfl
theorem yE {u:List Int} {cap:Nat} {i:Nat} (hi:i < u.length):aX zI (ints u) cap=.cells (ints u++ints (List.replicate (cap - u.length) 0)):=by rw [lh];simp [ints]
theorem ldO {u:List Int} {cap i:Nat} (hi:i < u.length) (φ:AV→Prop):cS (some (aX zI (ints u) cap)) none (i * 1) φ=φ (.int .i64 (u.getD i 0)):=by
 rw [yE hi,sB]
 have e:(ints u++ints (List.replicate (cap - u.length) 0)).getD (i * 1) .any=.int .i64 (u.getD i 0):=by
  rw [abP,th,zz (by rw [ap];exact hi)]
  simp [ints,hi]
 rw [e]
 exact propext ⟨fun h=>h.2,fun h=>⟨by rw [aaj,ap];omega,h⟩⟩
theorem stO {u:List Int} {cap i:Nat} (hi:i < u.length) (x:Int) (id:Nat) (H:List aa) (K:List aa→Prop):hZ (some (aX zI (ints u) cap)) 1 id (i * 1) (.int .i64 x) H K=K (H.set id (aX zI (ints (u.set i x)) cap)):=by
 rw [yE hi,yE (u:=u.set i x) (i:=i) (by simpa using hi),pn]
 have e:ai (ints u++ints (List.replicate (cap - u.length) 0)) (i * 1) ((AV.int .i64 x).cells.map AV.ab)=ints (u.set i x)++ints (List.replicate (cap - (u.set i x).length) 0):=by
  rw [show (AV.int .i64 x).cells.map AV.ab=[.int .i64 x] from rfl,iE _ _ _ (by rw [aaj,ap];omega),abP,aed _ _ (by rw [ap];exact hi),ab7]
  simp [ints,ad6]
 rw [e]
 exact propext ⟨fun h=>h.2.2.2.2.2,fun h=>⟨rfl,rfl,by rw [aaj,ap];show i * 1 + 1≤_;omega,rfl,rfl,h⟩⟩
theorem abp (H:List aa) (K:AV→List aa→Prop):qC [] H K=K (.aZ H.length 0 0 0) (H++[.cells []]):=by
 simp only [qC,eq_iff_iff]
 exact ⟨fun h=>h.2,fun h=>⟨rfl,h⟩⟩
theorem VE {lo:Int} {l:List Int} {k:Nat} (hk:k≤l.length):(l.take k++List.replicate (l.length - k) lo).length=l.length:=by simp;omega
theorem VF {lo:Int} {l:List Int} {k:Nat} (hk:k + 1≤l.length):(l.take (k + 1)++List.replicate (l.length - (k + 1)) lo).getD k 0=l.getD k 0:=by
 rw [th,zz (by simp;omega),aaG,if_pos (by omega),← th]
theorem VG {lo x:Int} {l:List Int} {k:Nat} (hk:k + 1≤l.length):(l.take (k + 1)++List.replicate (l.length - (k + 1)) lo).set k x=l.take k++x::List.replicate (l.length - (k + 1)) lo:=by
 rw [abN (by omega),abe,acF _ _ (by simp;omega)]
 have e:k - (l.take k).length=0:=by simp;omega
 rw [e];rfl
theorem Sw {H G:List aa} {a b:Nat} {u v x y:AV} (tv:b≠a) (hx:u.ab=x) (hy:v.ab=y) (bx:x.bc H.length=true) (rP:y.bc H.length=true) (hG:G.take H.length=H):bP H.length [.t a,.t b] [(a,u),(b,v)] G fun r H'=>r=.tuple [x,y]∧H'=H:=by
 subst hx;subst hy
 refine ⟨H.length,zy _,[u.ab,v.ab],?_,by simp only [aw,bx,rP,acj],rfl,hG⟩
 simp only [aD,if_neg tv,if_true,List.map]
 exact da _
theorem fzI {id cap n:Nat} {l:List Int} {H:List aa} (h:H[id]?=some (aX zI (ints l) cap)) (hn:l.length=n) (hl:n≤cap) {K:AV→List aa→Prop} (hK:K (.al 0 (ints l)) (H.set id .dead)):jl 1 (.aZ id 0 n cap) H K:=by
 subst hn;exact BX h hl hK
theorem c99 {lo hi:Int} {l:List Int} (hb:l.length≤1000000) (hl:∀ x∈l,-1000000≤x∧x < 1000000):Pure Tryz.prog 99 [.al 0 (ints l),.int .i64 lo,.int .i64 hi] (.tuple [.al 0 (ints (s9 lo hi l).1),.bool (s9 lo hi l).2]):=by
 refine fun H=>abn.2.calls rfl ?_
 simp only [abn,aH]
 simp +contextual only [bs0,abp,sZ,Nat.reduceEqDiff,Nat.reduceAdd,↓reduceIte,reduceCtorEq]
 refine abo (by omega) fun id cap G bF hg bY hG=>?_
 simp +contextual only [sZ,Nat.reduceEqDiff,↓reduceIte,reduceCtorEq]
 refine aF l.length (fun i (G:List aa)=>G[id]?=some (aX zI (ints (l.take (l.length - i)++List.replicate i lo)) cap)∧G.take H.length=H∧lD lo hi l l.length=lD lo hi l (l.length - i))
  (fun i G=>[(1,.int .i64 lo),(2,.int .i64 hi),(8,.aZ id 0 l.length cap),(9,.int .i64 ((l.length:Int) - 1 - i))]) (fun i G=>G) G ⟨⟨by simpa using hg,hG,rfl⟩,ay (by rw [cp _ (by omega)];simp) rfl⟩ fun i G akh hI=>?_
 obtain ⟨g1,g2,g3⟩:=hI
 by_cases vA:i < l.length
 ·have l1:decide (0≤(l.length:Int) - 1 - i)=true:=decide_eq_true (by omega)
  obtain ⟨k,hk⟩:∃ k,l.length - i=k + 1:=⟨l.length - i - 1,by omega⟩
  have ID:i=l.length - (k + 1):=by omega
  have ek:((l.length:Int) - 1 - i)=(k:Int):=by omega
  rw [hk] at g1 g3
  have sg:k + 1≤l.length:=by omega
  rw [ID] at g1
  have ul:=VE (lo:=lo) sg
  have ug:=VF (lo:=lo) sg
  have us:∀ x,_:=fun x=>VG (lo:=lo) (x:=x) sg
  have hx:=hl _ (bj (show k < l.length by omega))
  have w1:IntKind.i64.wrap (l.getD k 0 + 1)=l.getD k 0 + 1:=cp _ (by omega)
  generalize l.take (k + 1)++List.replicate (l.length - (k + 1)) lo=u at g1 ul ug us
  have Cz:k < u.length:=by omega
  have hig:id < G.length:=by
   rcases aeQ id G.length with h | h
   ·exact h
   ·rw [abL h] at g1;cases g1
  rw [ek]
  by_cases aM:l.getD k 0 < hi
  ·simp +contextual only [jb,g1,ldO Cz,stO Cz,ug,aM,w1,decide_true,sZ,Nat.reduceEqDiff,↓reduceIte,reduceCtorEq]
   refine ⟨fun _=>⟨by omega,by omega,by omega,fzI (l:=u.set k (l.getD k 0 + 1)) (H:=G.set id _) (Sx hig) (by simp [ul]) (by omega) ?_⟩,fun h=>by omega⟩
   rw [us]
   have e1:s9 lo hi l=(l.take k++(l.getD k 0 + 1)::List.replicate (l.length - (k + 1)) lo,true):=by
    unfold s9;rw [g3,lD,if_pos aM,show l.length - 1 - k=l.length - (k + 1) by omega]
   rw [e1]
   simp +contextual only [sZ,Nat.reduceEqDiff,↓reduceIte,reduceCtorEq]
   exact Sw (by decide) rfl rfl (by rw [bA];exact aJ _ _) rfl (by rw [abz bF,abz bF];exact g2)
  ·rw [lD,if_neg aM] at g3
   simp +contextual only [jb,g1,ldO Cz,stO Cz,ug,aM,decide_true,sZ,Nat.reduceEqDiff,↓reduceIte,reduceCtorEq]
   refine ⟨fun _=>⟨by omega,by omega,i + 1,_,⟨by omega,?_,?_,?_⟩,by omega,ay (by rw [cp _ (by omega),show (k:Int) - 1=(l.length:Int) - 1 - ((i + 1:Nat):Int) by omega]) rfl⟩,fun h=>by omega⟩
   ·rw [Sx hig,us,show l.length - (i + 1)=k by omega,ID,show l.length - (k + 1) + 1=i + 1 by omega,acE,ID]
   ·rw [abz bF];exact g2
   ·rw [show l.length - (i + 1)=k by omega];exact g3
 ·have l1:decide (0≤(l.length:Int) - 1 - i)=false:=decide_eq_false (by omega)
  have lW:i=l.length:=by omega
  subst lW
  rw [acG,List.take_zero,List.nil_append] at g1
  rw [acG,lD] at g3
  have e1:s9 lo hi l=(List.replicate l.length lo,false):=by unfold s9;rw [g3]
  rw [e1]
  simp +contextual only [l1,sZ,Nat.reduceEqDiff,↓reduceIte]
  refine fzI (l:=List.replicate l.length lo) g1 (by simp) bY ?_
  simp +contextual only [sZ,Nat.reduceEqDiff,↓reduceIte,reduceCtorEq]
  exact Sw (by decide) rfl rfl (by rw [bA];exact aJ _ _) rfl (by rw [abz bF];exact g2)
end Go.aI
end
section
set_option maxRecDepth 100000
namespace Go.aI
open Go Go.Proofs Go.dD
def IV (ad:Nat→Nat) (tt:Nat) (v:AV) (o:Option aa) (l:List Int):Prop:=
 (l=[]∧v=.ag∧o=none)∨(l≠[]∧∃ cap,l.length≤cap∧v=.aZ (ad tt) 0 l.length cap∧o=some (aX zI (ints l) cap))
theorem IV.facts {ad:Nat→Nat} {tt:Nat} {v:AV} {o:Option aa} {l:List Int} (h:IV ad tt v o l):v.one=true∧v.val=true∧v.ab=v∧v.cells=[v]:=by
 rcases h with ⟨_,rfl,_⟩ | ⟨_,cap,_,rfl,_⟩ <;> exact ⟨rfl,rfl,rfl,rfl⟩
theorem apI {n0:Nat} {G:List aa} {ad:Nat→Nat} {ct:Nat→Option aa} {tt:Nat} {v:AV} {l:List Int} (hL:yK n0 G ad ct) (Ba:n0≤G.length) (hv:IV ad tt v (ct tt) l) (hb:l.length≤1000000) (x:Int) {K:AV→List aa→Prop}
 (hK:∀ ad' v' o' G',(∀ s,s≠tt→ad' s=ad s)→yK n0 G' ad' (fun s=>if s=tt then o' else ct s)→IV ad' tt v' o' (l++[x])→G'.take n0=G.take n0→n0≤G'.length→v'.bc G'.length=true→K v' G') :
 b9 1 8 (.int .i64 0) v (.al 0 [.int .i64 x]) G K:=by
 have fl:flat [AV.int .i64 x]=[.int .i64 x]:=rfl
 have fu:[AV.int .i64 x].map AV.ab=[.int .i64 x]:=rfl
 unfold b9
 simp only [dK]
 rcases hv with ⟨rfl,rfl,he⟩ | ⟨dP,cap,bY,rfl,he⟩
 ·refine ⟨of_eq_true (jI [x]),by simp,fun (e:[AV.int .i64 x]=[])=>(by simp at e),fun _ cap hc _=>?_⟩
  have e1:List.map AV.ab (flat [AV.int .i64 x])++cz (AV.int .i64 0) (cap - [AV.int .i64 x].length)=ints ([x]++List.replicate (cap - [x].length) 0):=by
   rw [show cz (AV.int .i64 0) (cap - [AV.int .i64 x].length)=ints (List.replicate (cap - [AV.int .i64 x].length) 0) from wm _];rfl
  rw [e1,← lh]
  refine ⟨aJ _ _,hK (fun s=>if s=tt then G.length else ad s) _ (some (aX zI (ints [x]) cap)) _ (fun s hs=>if_neg hs) (hL.new Ba tt _) (.inr ⟨by simp,cap,by simpa using hc,?_,rfl⟩) ?_ (by simp;omega) (by rw [eL];simp)⟩
  ·simp
  ·rw [abd Ba]
 ·have hg:=hL.get tt _ he
  have ht:ct tt≠none:=by rw [he];simp
  have bF:=hL.lt ht
  simp only [hg,fl,fu,lh,abP,abK,List.drop_zero]
  refine ⟨of_eq_true (jI [x]),by simp;omega,bY,by simp [ints];omega,fun hroom=>?_,fun jZ c8 hc _=>?_⟩
  ·have hroom:l.length < cap:=by simp only [aeR] at hroom;omega
   obtain ⟨r,hr⟩:∃ r,cap - l.length=r + 1:=⟨cap - l.length - 1,by omega⟩
   have e1:ai (ints (l++List.replicate (cap - l.length) 0)) l.length [AV.int .i64 x]=ints ((l++[x])++List.replicate (cap - (l++[x]).length) 0):=by
    rw [iE _ _ _ (by simp [ints];omega),hr,show cap - (l++[x]).length=r by simp;omega,acE]
    simp [ints]
   rw [e1,← lh]
   refine ⟨rfl,hK ad _ _ _ (fun s _=>rfl) (hL.set ht _) (.inr ⟨by simp,cap,by simp;omega,?_,rfl⟩) (abz (hL.lo tt ht)) (by simp;omega) (by rw [eL];simpa using bF)⟩
   simp
  ·have e1:List.map AV.ab (List.take l.length (ints (l++List.replicate (cap - l.length) 0)))++[AV.int .i64 x]++cz (AV.int .i64 0) (c8 - (l.length + [AV.int .i64 x].length))=ints ((l++[x])++List.replicate (c8 - (l++[x]).length) 0):=by
    rw [show cz (AV.int .i64 0) (c8 - (l.length + [AV.int .i64 x].length))=ints (List.replicate (c8 - (l.length + [AV.int .i64 x].length)) 0) from wm _,show ints (l++List.replicate (cap - l.length) 0)=ints l++ints (List.replicate (cap - l.length) 0) from by simp [ints],List.take_left' (ap l)]
    simp [ints,AV.ab]
   rw [e1,← lh]
   refine ⟨aJ _ _,hK (fun s=>if s=tt then G.length else ad s) _ (some (aX zI (ints (l++[x])) c8)) _ (fun s hs=>if_neg hs) (hL.new Ba tt _) (.inr ⟨by simp,c8,by simpa using hc,?_,rfl⟩) ?_ (by simp;omega) (by rw [eL];simp)⟩
   ·simp
   ·rw [abd Ba]
def OrI (H:List aa) (P S:List Int) (G:List aa):Prop:=
 ∃ ad ct vp vs,ad 0=H.length∧ad 1=H.length + 1∧G.take H.length=H∧H.length≤G.length∧yK H.length G ad ct∧
  ct 0=some (.cells [.ag,.ag])∧ct 1=some (.cells [vp,vs])∧IV ad 2 vp (ct 2) P∧IV ad 3 vs (ct 3) S
theorem c98 (t:Ty) (ops pl st:List Int) (tO:pl.length=ops.length) (lZ:st.length=ops.length) (hr:∀ i∈ops,0≤i∧i < t.s.ops.length) (hn:t.s.ops.length≤1000000) (jZ:ops.length≤1000000):Pure Tryz.prog 98 [t.av,.al 0 (ints ops),.al 0 (ints pl),.al 0 (ints st)] (dE (oq t.s.ops.length ops pl) (ot t.s.ops.length ops st)):=by
 refine fun H=>abm.2.xx rfl ?_
 simp only [abm,aH]
 obtain ⟨e1,e2,e3,e4,e5,e6⟩:=Ty.facts t
 simp +contextual only [e1,sZ,Nat.reduceEqDiff,Nat.reduceAdd,↓reduceIte,reduceCtorEq]
 obtain ⟨n,hn'⟩:∃ n,n=t.s.ops.length:=⟨_,rfl⟩
 rw [← hn'] at hn hr ⊢
 refine eY n (fun i G=>OrI H (List.replicate i 255) (List.replicate i 1) G) (fun i G=>[(1,.al 0 (ints ops)),(2,.al 0 (ints pl)),(3,.al 0 (ints st)),(4,.ah t.av),(8,.ptr H.length 0),(9,.ptr (H.length + 1) 0),(10,.int .i64 i)]) (fun i G=>G) _ ⟨?_,iD _ _ _⟩ fun i G ky hI=>?_
 ·refine ⟨fun s=>if s=0 then H.length else H.length + 1,fun s=>if s=0 then some (.cells [.ag,.ag]) else if s=1 then some (.cells [.ag,.ag]) else none,.ag,.ag,rfl,rfl,by simp,by simp,⟨?_,?_,?_⟩,rfl,rfl,.inl ⟨rfl,rfl,rfl⟩,.inl ⟨rfl,rfl,rfl⟩⟩
  ·intro s o hs
   by_cases h0:s=0
   ·subst h0;cases hs;simp
   ·by_cases h1:s=1
    ·subst h1;cases hs;simp;rfl
    ·simp [h0,h1] at hs
  ·intro s u hs hu e
   by_cases h0:s=0 <;> by_cases h1:u=0 <;> simp_all
  ·intro s hs
   by_cases h0:s=0 <;> simp_all
 ·obtain ⟨ad,ct,vp,vs,a0,a1,hG,KB,hL,c0,c1,hp,hs⟩:=hI
  have g1:G[H.length + 1]?=some (.cells [vp,vs]):=by rw [← a1];exact hL.get 1 _ c1
  by_cases hi:i < n
  ·have l1:decide ((i:Int) < n)=true:=decide_eq_true (by omega)
   obtain ⟨f1,f2,f3,f4⟩:=hp.facts
   simp +contextual only [vR,fS1,mX,← hn',l1,g1,sB,List.getD_cons_zero,f3,sZ,Nat.reduceEqDiff,Nat.reduceAdd,Nat.reduceLT,↓reduceIte]
   intro _
   refine apI hL KB hp (by simp;omega) 255 fun ad1 v1 o1 G1 m1 L1 I1 T1 n1 b1=>?_
   have y1:G1[H.length + 1]?=some (.cells [vp,vs]):=by rw [← a1,← m1 1 (by decide)];exact L1.get 1 _ c1
   obtain ⟨w1,w2,w3,w4⟩:=I1.facts
   obtain ⟨q1,q2,q3,q4⟩:=hs.facts
   have Xa:∀ (a b x:AV),ai [a,b] 0 [x]=[x,b]:=fun _ _ _=>rfl
   have sp2:∀ (a b x:AV),ai [a,b] 1 [x]=[a,x]:=fun _ _ _=>rfl
   have y2:(G1.set (H.length + 1) (.cells [v1,vs]))[H.length + 1]?=some (.cells [v1,vs]):=Sx (by
    have:=L1.lt (t:=1) (by simp [c1])
    rw [m1 1 (by decide),a1] at this;exact this)
   simp +contextual only [km,y1,y2,w1,w2,w3,w4,b1,Xa,q3,sB,List.getD_cons_succ,List.getD_cons_zero,sZ,Nat.reduceEqDiff,Nat.reduceAdd,Nat.reduceLT,Nat.reduceLeDiff,↓reduceIte]
   have hm1:ad1 1=H.length + 1:=by rw [m1 1 (by decide),a1]
   have L2:=L1.set (t:=1) (by simp [c1]) (.cells [v1,vs])
   rw [hm1] at L2
   have NX:IV ad1 3 vs (if (3:Nat)=1 then some (.cells [v1,vs]) else if (3:Nat)=2 then o1 else ct 3) (List.replicate i 1):=by
    unfold IV at hs ⊢;rw [m1 3 (by decide)];exact hs
   refine ⟨by omega,apI L2 (by simpa using n1) NX (by simp;omega) 1 fun ad2 v2 o2 G2 m2 L3 I2 T2 n2 b2=>?_⟩
   have VT:ad2 1=H.length + 1:=by rw [m2 1 (by decide),hm1]
   obtain ⟨x1,x2,x3,x4⟩:=I2.facts
   have y3:G2[H.length + 1]?=some (.cells [v1,vs]):=by rw [← VT];exact L3.get 1 _ rfl
   have L4:=L3.set (t:=1) (by simp) (.cells [v1,v2])
   rw [VT] at L4
   simp +contextual only [km,y3,x1,x2,x3,x4,b2,sp2,sZ,Nat.reduceEqDiff,Nat.reduceAdd,↓reduceIte]
   refine ⟨by omega,i + 1,_,⟨by omega,ad2,_,v1,v2,?_,VT,?_,?_,L4,?_,?_,?_,?_⟩,by omega,nV (by rw [aj _ (by omega)]) rfl⟩
   ·rw [m2 0 (by decide),m1 0 (by decide),a0]
   ·rw [abz (by omega),T2,abz (by omega),T1,hG]
   ·simpa using n2
   ·simp [c0]
   ·rfl
   ·have h:=I1
    unfold IV at h ⊢
    rw [m2 2 (by decide),afT]
    exact h
   ·rw [afT]
    exact I2
  ·have l1:decide ((i:Int) < n)=false:=decide_eq_false (by omega)
   simp +contextual only [vR,fS1,mX,← hn',l1,sZ,Nat.reduceEqDiff,↓reduceIte]
   intro _
   have VH:i=n:=by omega
   subst VH
   have stp:∀ (j:Nat) (P q:List Int),j < ops.length→q.length=ops.length→fO P (ops.drop j) (q.drop j)=fO (P.set (ops.getD j 0).toNat (q.getD j 0)) (ops.drop (j + 1)) (q.drop (j + 1)):=by
    intro j P q lA hq
    have e1:ops.drop j=ops.getD j 0::ops.drop (j + 1):=by rw [aav lA];simp [lA]
    have hjq:j < q.length:=by omega
    have e2:q.drop j=q.getD j 0::q.drop (j + 1):=by rw [aav hjq];simp [hjq]
    rw [e1,e2,fO]
   refine eY ops.length (fun j G=>∃ P Q,P.length=i∧Q.length=i∧OrI H P Q G∧fO P (ops.drop j) (pl.drop j)=oq i ops pl∧fO Q (ops.drop j) (st.drop j)=ot i ops st)
    (fun j G=>[(1,.al 0 (ints ops)),(2,.al 0 (ints pl)),(3,.al 0 (ints st)),(8,.ptr H.length 0),(9,.ptr (H.length + 1) 0),(11,.int .i64 j)]) (fun j G=>G) _ ⟨⟨_,_,by simp,by simp,⟨ad,ct,vp,vs,a0,a1,hG,KB,hL,c0,c1,hp,hs⟩,rfl,rfl⟩,iD _ _ _⟩ fun j G hjn hI=>?_
   clear hp hs g1 c1 c0 hL KB hG a1 a0 l1
   obtain ⟨P,Q,hP,hQ,⟨ad,ct,vp,vs,a0,a1,hG,KB,hL,c0,c1,hp,hs⟩,KD,Io⟩:=hI
   have g1:G[H.length + 1]?=some (.cells [vp,vs]):=by rw [← a1];exact hL.get 1 _ c1
   obtain ⟨f1,f2,f3,f4⟩:=hp.facts
   obtain ⟨q1,q2,q3,q4⟩:=hs.facts
   by_cases lA:j < ops.length
   ·have l1:decide ((j:Int) < ops.length)=true:=decide_eq_true (by omega)
    obtain ⟨x,hx⟩:∃ x:Nat,ops.getD j 0=(x:Int):=⟨(ops.getD j 0).toNat,by have:=(hr _ (bj lA)).1;omega⟩
    have hxn:=(hr _ (bj lA)).2
    rw [hx] at hxn
    have hxn:x < i:=by omega
    have hxP:x < P.length:=by omega
    have hxQ:x < Q.length:=by omega
    have hpn:P≠[]:=by rintro rfl;simp at hxP
    have hqn:Q≠[]:=by rintro rfl;simp at hxQ
    rcases hp with ⟨h,_⟩ | ⟨_,cap,bY,rfl,ep⟩
    ·exact absurd h hpn
    rcases hs with ⟨h,_⟩ | ⟨_,caq,afI,rfl,eq⟩
    ·exact absurd h hqn
    have y1:G[ad 2]?=some (aX zI (ints P) cap):=hL.get 2 _ ep
    have L1:=hL.set (t:=2) (by simp [ep]) (aX zI (ints (P.set x (pl.getD j 0))) cap)
    have y2:(G.set (ad 2) (aX zI (ints (P.set x (pl.getD j 0))) cap))[H.length + 1]?=some (.cells [.aZ (ad 2) 0 P.length cap,.aZ (ad 3) 0 Q.length caq]):=by rw [← a1];exact L1.get 1 _ c1
    have y3:(G.set (ad 2) (aX zI (ints (P.set x (pl.getD j 0))) cap))[ad 3]?=some (aX zI (ints Q) caq):=L1.get 3 _ eq
    have L2:=L1.set (t:=3) (by simp [eq]) (aX zI (ints (Q.set x (st.getD j 0))) caq)
    rw [stp j P pl lA tO,hx,zB] at KD
    rw [stp j Q st lA lZ,hx,zB] at Io
    simp +contextual only [l1,g1,sB,List.getD_cons_succ,List.getD_cons_zero,jb,aN,hx,y1,y2,y3,stO hxP,stO hxQ,zB,sZ,Nat.reduceEqDiff,Nat.reduceAdd,Nat.reduceLT,↓reduceIte,reduceCtorEq]
    refine fun _=>⟨⟨by omega,by omega⟩,⟨by omega,by omega⟩,hxP,⟨by omega,by omega⟩,⟨by omega,by omega⟩,hxQ,j + 1,_,⟨by omega,P.set x (pl.getD j 0),Q.set x (st.getD j 0),by simpa using hP,by simpa using hQ,⟨ad,_,_,_,a0,a1,?_,by simpa using KB,L2,c0,c1,.inr ⟨?_,cap,?_,?_,?_⟩,.inr ⟨?_,caq,?_,?_,?_⟩⟩,KD,Io⟩,by omega,nV (by rw [aj _ (by omega)]) rfl⟩
    ·rw [abz (hL.lo 3 (by simp [eq])),abz (hL.lo 2 (by simp [ep])),hG]
    ·exact fun h=>by rw [List.set_eq_nil_iff] at h;exact hpn h
    ·simpa using bY
    ·simp
    ·rfl
    ·exact fun h=>by rw [List.set_eq_nil_iff] at h;exact hqn h
    ·simpa using afI
    ·simp
    ·rfl
   ·have l1:decide ((j:Int) < ops.length)=false:=decide_eq_false (by omega)
    simp +contextual only [Gl,l1,g1,sZ,Nat.reduceEqDiff,↓reduceIte]
    have hj:j=ops.length:=by omega
    subst hj
    rw [List.drop_length] at KD Io
    have eP:P=oq i ops pl:=by rw [← KD];cases P <;> rfl
    have eQ:Q=ot i ops st:=by rw [← Io];cases Q <;> rfl
    rw [← eP,← eQ]
    intro _
    have fz:∀ {tt:Nat} {v:AV} {l:List Int} {G:List aa} {K:AV→List aa→Prop},IV ad tt v (ct tt) l→(∀ o,ct tt=some o→G[ad tt]?=some o)→(∀ G',(G'=G∨ct tt≠none∧G'=G.set (ad tt) .dead)→K (.al 0 (ints l)) G')→eK 1 v.drop G K:=by
     intro tt v l G K hv hg hK
     rcases hv with ⟨rfl,rfl,e⟩ | ⟨_,cap,hc,rfl,e⟩
     ·exact hK _ (.inl rfl)
     ·have:(AV.aZ (ad tt) 0 l.length cap).drop=.aZ (ad tt) 0 l.length cap:=rfl
      rw [this]
      exact BX (hg _ e) hc (hK _ (.inr ⟨by simp [e],rfl⟩))
    refine fz hp (fun o ho=>hL.get 2 o ho) fun G1 ZG=>?_
    have k1:∀ s,s≠2→∀ o,ct s=some o→G1[ad s]?=some o:=by
     intro s hs o ho
     rcases ZG with rfl | ⟨h2,rfl⟩
     ·exact hL.get s o ho
     ·rw [zA (fun e=>hs (hL.inj s 2 (by simp [ho]) h2 e.symm))];exact hL.get s o ho
    refine fz hs (fun o ho=>k1 3 (by decide) o ho) fun G2 Om=>?_
    have k2:G2[H.length]?=some (.cells [.ag,.ag]):=by
     have h0:=k1 0 (by decide) _ c0
     rw [a0] at h0
     rcases Om with rfl | ⟨h2,rfl⟩
     ·exact h0
     ·rw [zA (fun e=>by have:=hL.inj 0 3 (by simp [c0]) h2 (by rw [a0,e]);simp at this)];exact h0
    have k3:G2.take H.length=H:=by
     have h1:G1.take H.length=H:=by
      rcases ZG with rfl | ⟨h2,rfl⟩
      ·exact hG
      ·rw [abz (hL.lo 2 h2),hG]
     rcases Om with rfl | ⟨h2,rfl⟩
     ·exact h1
     ·rw [abz (hL.lo 3 h2),h1]
    have k4:H.length < G2.length:=(aa2.1 k2).1
    have k5:∀ o,(G2.set H.length o)[H.length]?=some o:=fun o=>Sx k4
    have fb:∀ m,aw m [AV.al 0 (ints P),.al 0 (ints Q)]=true:=fun m=>by simp [bL,cV,bA,aJ]
    have sp2:∀ (a b x y:AV),ai [a,b] 0 [x,y]=[x,y]:=fun _ _ _ _=>rfl
    simp +contextual only [k2,pn,fb,sp2,sZ,Nat.reduceEqDiff,Nat.reduceAdd,↓reduceIte,reduceCtorEq]
    rw [HM]
    have k6:((G2.set H.length (.cells [.al 0 (ints P),.al 0 (ints Q)])).take H.length)=H:=by rw [abz (zy _),k3]
    simp only [aD,if_true]
    simp +contextual only [k5,sZ]
    exact ⟨H.length,H,zy _,tW k6 rfl,dE P Q,le_refl _,(aR _ _).2.2.2.2.2 _,rfl,rfl⟩
end Go.aI
end
section
set_option maxRecDepth 100000
set_option maxHeartbeats 0
namespace Go.aI
open Go Go.Proofs
end Go.aI
end
section
set_option maxRecDepth 100000
set_option maxHeartbeats 1000000
namespace Go.aI
open Go Go.Proofs Go.dD
section
variable {e id i n cap:Nat}
end
end Go.aI
end
section
set_option maxRecDepth 100000
set_option maxHeartbeats 1000000
namespace Go.aI
open Go Go.Proofs Go.dD
theorem td (b:Nat) (vs:List T) (n m:T) (o:Nat) (ψ:List AV→Prop):bC 3 b (rj vs) (.al o [n.av,m.av]) ψ=((vs.length + 2) * b≤140737488355328∧ψ (bN (vs++[n,m]))):=by
 have kw:qR 3 [n.av,m.av]=True:=BR [n,m]
 cases vs with
 | nil=>simp only [rj,lK,kw];simp [bN]
 | cons v r=>
   show bC 3 b (.al 3 (bN (v::r))) _ ψ=_
   rw [jv,kw,sF,show bN (v::r)++[n.av,m.av]=bN ((v::r)++[n,m]) from (wo (v::r) [n,m]).symm]
   simp
theorem II (vs:List T) (n m:T):AV.al 3 (bN (vs++[n,m]))=rj (vs++[n,m]):=by cases vs <;> rfl
theorem c30 (t:Ty) (H:List aa):aA Tryz.prog 30 [t.av] H fun r H'=>(∃ b,r=.bool b)∧H'=H:=by
 refine k30.2.calls rfl ?_
 simp only [k30,aH]
 obtain ⟨e1,e2,e3,e4,e5,e6⟩:=Ty.facts t
 have fin (G:List aa) (hG:G.take H.length=H) (b:Bool):bP H.length [.t 2] [(2,.bool b)] G fun r H'=>(∃ b,r=.bool b)∧H'=H:=
  aT H.length (zy _) (by rw [aD,if_pos rfl];rfl) ⟨⟨b,by rw [aD,if_pos rfl]⟩,hG⟩
 by_cases h1:(30:Int) < t.es.length
 ·have f:((30:Int) < t.es.length)=True:=eq_true h1
  simp +contextual only [e1,Cg,dx,f,sZ,Nat.reduceEqDiff,Nat.reduceAdd,↓reduceIte,reduceCtorEq]
  exact fun _=>fin _ (by simp) _
 have f:((30:Int) < t.es.length)=False:=eq_false h1
 simp +contextual only [e1,Cg,dx,f,sZ,Nat.reduceEqDiff,Nat.reduceAdd,↓reduceIte]
 refine fun _=>aF t.es.length (fun i (l:List T)=>l.length≤42 * i) (fun i l=>[(1,.ah t.av),(3,rj l),(13,.al 0 (mq t.es)),(14,.int .i64 t.es.length),(15,.int .i64 i)]) (fun _ _=>H) [] ⟨by simp,ax _ _ _⟩ fun i l hi hI=>?_
 by_cases hl:i < t.es.length
 rotate_left
 ·have f1:((i:Int) < t.es.length)=False:=eq_false (by omega)
  simp +contextual only [aC,vR,f1,sZ,Nat.reduceEqDiff,Nat.reduceAdd,↓reduceIte]
  refine Dx (c18 t.s [] [] H) (ys:=[t.s.av,dE [] []]) ⟨.inl rfl,.inr (.inr (.inr (.inr ⟨_,rfl,rfl⟩))),trivial⟩ ?_
  rintro r G ⟨⟨b,rfl,_⟩,rfl⟩
  cases b with
  | false=>simp +contextual only [sZ,Nat.reduceEqDiff,↓reduceIte,reduceCtorEq];exact fin _ (by simp) _
  | true=>
    have e7:(rj l).ab.ab.le (.al 0 (bN l)):=by cases l with | nil=>exact .inr (.inr (.inr (.inl ⟨rfl,0,rfl⟩))) | cons x r=>exact .inl rfl
    simp +contextual only [sZ,Nat.reduceEqDiff,Nat.reduceAdd,↓reduceIte]
    refine Dx (c19 600 l G) (ys:=[.int .i64 600,.al 0 (bN l)]) ⟨.inl rfl,e7,trivial⟩ ?_
    rintro r G2 ⟨⟨b,rfl⟩,rfl⟩
    simp +contextual only [sZ,Nat.reduceEqDiff,↓reduceIte,reduceCtorEq]
    exact fin _ (by simp) _
 have f1:((i:Int) < t.es.length)=True:=eq_true (by omega)
 obtain ⟨q,hq⟩:∃ q,t.es.getD i default=q:=⟨_,rfl⟩
 obtain ⟨g1,g2,g3,g4,g5,g6⟩:=q.facts
 by_cases h2:(20:Int) < q.cs.length
 ·have f2:((20:Int) < q.cs.length)=True:=eq_true h2
  simp +contextual only [g1,g2,g3,fB,idx_eq,qP,CF,KC,zq,hq,f1,f2,hl,cL,td,II,decide_true,sZ,Nat.reduceEqDiff,↓reduceIte,reduceCtorEq]
  exact ⟨by omega,fun _=>fin _ (by simp) _⟩
 have f2:((20:Int) < q.cs.length)=False:=eq_false h2
 by_cases h3:(100:Int) < q.vs.length
 ·have f3:((100:Int) < q.vs.length)=True:=eq_true h3
  simp +contextual only [g1,g2,g3,fB,idx_eq,qP,CF,KC,zq,EA,hq,f1,f2,f3,hl,ap,cL,td,II,decide_true,decide_false,sZ,Nat.reduceEqDiff,↓reduceIte,reduceCtorEq]
  exact ⟨by omega,fun _ _=>fin _ (by simp) _⟩
 have f3:((100:Int) < q.vs.length)=False:=eq_false h3
 simp +contextual only [g1,g2,g3,fB,idx_eq,qP,CF,KC,zq,EA,hq,f1,f2,f3,hl,ap,cL,td,II,decide_false,sZ,Nat.reduceEqDiff,↓reduceIte]
 refine ⟨by omega,fun _ _=>aF q.cs.length (fun k (m:List T)=>m.length≤42 * i + 2 + 2 * k) (fun k m=>[(1,.ah t.av),(3,rj m),(13,.al 0 (mq t.es)),(14,.int .i64 t.es.length),(15,.int .i64 i),(37,.al 0 (rB q.cs)),(38,.int .i64 q.cs.length),(39,.int .i64 k)]) (fun _ _=>H) (l++[q.a,q.b]) ⟨by rw [aaj];show l.length + 2≤_;omega,ax _ _ _⟩ fun k m hk hK=>?_⟩
 by_cases sg:k < q.cs.length
 ·have f4:((k:Int) < q.cs.length)=True:=eq_true (by omega)
  obtain ⟨c1,c2,c3,c4,c5,c6⟩:=(q.cs.getD k default).facts
  simp +contextual only [c1,c2,c3,Qy,Qz,mn,jK,Ii,f4,sg,td,II,sZ,Nat.reduceEqDiff,↓reduceIte]
  exact ⟨by omega,k + 1,m++[(q.cs.getD k default).a,(q.cs.getD k default).b],⟨sg,by rw [aaj];show m.length + 2≤_;omega⟩,by omega,ay (by rw [aj k (by omega)]) rfl⟩
 ·have f4:((k:Int) < q.cs.length)=False:=eq_false (by omega)
  simp +contextual only [f4,sZ,Nat.reduceEqDiff,↓reduceIte]
  exact ⟨i + 1,m,⟨hl,by omega⟩,by omega,ay (by rw [aj i (by omega)]) rfl⟩
end Go.aI
end
section
set_option maxRecDepth 100000
set_option maxHeartbeats 2000000
namespace Go.aI
open Go Go.Proofs Go.dD
theorem Hh {l:List T} (h:∀ t∈l,t.tree=true):eh l=true:=by
 induction l with
 | nil=>rfl
 | cons x r ih=>
   simp only [eh,zC]
   exact ⟨((T.cI x).1 (h x (by simp))).2.2,ih fun t ht=>h t (by simp [ht])⟩
theorem IJ {v:Int}:∀ {l:List T},v∈Qg l↔∃ t∈l,v∈t.fv
 | []=>by simp [Qg]
 | x::r=>by simp [Qg,IJ (l:=r)]
theorem qk {l:List T} (h:∀ t∈l,t.tree=true) {v:Int}:v∈eU l↔∃ t∈l,v∈t.fv:=by
 have hb:kZ l=true:=abc.2 h
 rw [eU,if_pos hb,← sJ l [] (Hh h),rk,IJ];simp
theorem afJ {s:Sg} (hs:SmG s) (e:iL):Pure Tryz.prog 210 [s.av,e.av] (.bool (jh s e)):=by
 refine fun H=>Yz.2.calls rfl ?_
 simp only [Yz,aH]
 obtain ⟨g1,g2,g3,g4,g5,g6⟩:=e.facts
 have bad (h:jh s e=false):bP H.length [.t 4] [(4,.bool false)] H fun r H'=>r=.bool (jh s e)∧H'=H:=aK rfl (by rw [h])
 by_cases f1:(e.vs.length:Int)≤64
 rotate_left
 ·have f1':(64 < (e.vs.length:Int))=True:=eq_true (by omega)
  simp +contextual only [aC,g1,EA,ap,f1',decide_true,sZ,Nat.reduceEqDiff,Nat.reduceAdd,↓reduceIte,reduceCtorEq]
  exact fun _=>bad (by unfold jh;rw [decide_eq_false f1];rfl)
 have f1':(64 < (e.vs.length:Int))=False:=eq_false (by omega)
 by_cases f2:(e.cs.length:Int)≤8
 rotate_left
 ·have f2':(8 < (e.cs.length:Int))=True:=eq_true (by omega)
  simp +contextual only [aC,g1,EA,zq,ap,cL,f1',f2',decide_true,decide_false,sZ,Nat.reduceEqDiff,Nat.reduceAdd,↓reduceIte,reduceCtorEq]
  exact fun _ _=>bad (by unfold jh;rw [decide_eq_true f1,decide_eq_false f2];rfl)
 have f2':(8 < (e.cs.length:Int))=False:=eq_false (by omega)
 by_cases f3:e.a.k=2
 rotate_left
 ·simp +contextual only [aC,g1,EA,zq,CF,ap,cL,f1',f2',f3,decide_true,decide_false,not_false_eq_true,sZ,Nat.reduceEqDiff,Nat.reduceAdd,↓reduceIte,reduceCtorEq]
  exact fun _ _=>bad (by unfold jh;rw [decide_eq_true f1,decide_eq_true f2,decide_eq_false f3];rfl)
 have e0:jh s e=(!(e.vs.any (qw s)) && (dy s e.vs e.a e.b && ((e.cs.all fun c=>dy s e.vs c.a c.b) && ((e.b::oK e.cs).all fun t=>(eU [t]).all fun v=>decide (v∈eU [e.a]))))):=by
  unfold jh;rw [decide_eq_true f1,decide_eq_true f2,decide_eq_true f3];rfl
 simp +contextual only [aC,g1,EA,zq,CF,ap,cL,f1',f2',f3,decide_false,not_true_eq_false,sZ,Nat.reduceEqDiff,Nat.reduceAdd,↓reduceIte,reduceCtorEq]
 refine fun _ _=>aq e.vs.length (fun i=>∀ j,j < i→qw s (e.vs.getD j 0)=false) (fun i=>[(2,.ah s.av),(3,.ah e.av),(5,.int .i64 i)]) (fun _=>H) ⟨fun j hj=>(by cases hj),ax _ _ _⟩ fun i hi hI=>?_
 by_cases vA:i < e.vs.length
 ·have l1:decide ((i:Int) < e.vs.length)=true:=decide_eq_true (by omega)
  have anyb (h:qw s (e.vs.getD i 0)=true):jh s e=false:=by
   have:e.vs.any (qw s)=true:=afS.2 ⟨_,bj vA,h⟩
   rw [e0,this];rfl
  by_cases b1:e.vs.getD i 0 < 0
  ·have b1':(e.vs.getD i 0 < 0)=True:=eq_true b1
   simp +contextual only [l1,EA,ap,aN,zB,b1',decide_true,sZ,Nat.reduceEqDiff,↓reduceIte,reduceCtorEq]
   exact fun _=>⟨⟨by omega,by omega⟩,bad (anyb (by unfold qw;rw [decide_eq_true b1];rfl))⟩
  have b1':(e.vs.getD i 0 < 0)=False:=eq_false b1
  by_cases b2:(s.aU.length:Int)≤e.vs.getD i 0
  ·have b2':((s.aU.length:Int)≤e.vs.getD i 0)=True:=eq_true b2
   simp +contextual only [aC,l1,EA,ap,aN,zB,b1',b2',decide_true,decide_false,sZ,Nat.reduceEqDiff,↓reduceIte,reduceCtorEq]
   exact fun _=>⟨by omega,by omega,bad (anyb (by unfold qw;rw [decide_eq_true b2,Bool.or_true]))⟩
  have b2':((s.aU.length:Int)≤e.vs.getD i 0)=False:=eq_false b2
  simp +contextual only [aC,l1,EA,ap,aN,zB,b1',b2',decide_false,sZ,Nat.reduceEqDiff,↓reduceIte]
  exact fun _=>⟨by omega,by omega,i + 1,⟨vA,dl hI (by unfold qw;rw [decide_eq_false b1,decide_eq_false b2];rfl)⟩,by omega,ay (by rw [aj i (by omega)]) rfl⟩
 have l1:decide ((i:Int) < e.vs.length)=false:=decide_eq_false (by omega)
 have f4:e.vs.any (qw s)=false:=by
  rw [ac3]
  intro x hx
  obtain ⟨j,hj,rfl⟩:=fY hx
  rw [hI j (by omega)];simp
 have hv:jj s e.vs:=fun x hx=>by
  have:=ac3.1 f4 x hx
  simp only [qw,abU,decide_eq_true_eq] at this
  omega
 rw [f4,Bool.not_false,acB] at e0
 simp +contextual only [aC,l1,EA,ap,CF,KC,sZ,Nat.reduceEqDiff,Nat.reduceAdd,↓reduceIte]
 refine fun _=>ae (abk hs hv e.a e.b) ?_
 cases f5:dy s e.vs e.a e.b with
 | false=>
   simp +contextual only [sZ,Nat.reduceEqDiff,↓reduceIte,reduceCtorEq]
   exact bad (by rw [e0,f5];rfl)
 | true=>
 rw [f5,acB] at e0
 have ta:e.a.tree=true:=by
  unfold dy at f5
  simp only [zC] at f5
  exact f5.1
 have tb:e.b.tree=true:=by
  unfold dy at f5
  simp only [zC] at f5
  exact f5.2.1
 have szl (l:List T) (h:∀ t∈l,t.tree=true):lB l≤2000 * l.length:=by
  induction l with
  | nil=>simp [lB]
  | cons x r ih=>
    have:=((T.cI x).1 (h x (by simp))).1
    have:=ih fun t ht=>h t (by simp [ht])
    simp only [lB,List.length_cons];omega
 simp +contextual only [CF,sZ,Nat.reduceEqDiff,Nat.reduceAdd,↓reduceIte]
 refine ae (Zh [e.a] (by have:=szl [e.a] (by simpa using ta);simp at this;omega)) ?_
 generalize hva:eU [e.a]=va at *
 simp +contextual only [KC,sZ,Nat.reduceEqDiff,↓reduceIte]
 refine aq e.cs.length (fun i=>∀ j,j < i→dy s e.vs (e.cs.getD j default).a (e.cs.getD j default).b=true) (fun i=>[(2,.ah s.av),(3,.ah e.av),(7,.al 0 (ints va)),(8,.al 3 (bN (e.b::oK (e.cs.take i)))),(9,.int .i64 i)]) (fun _=>H) ⟨fun j hj=>(by cases hj),ax _ _ _⟩ fun i hi hI=>?_
 by_cases hl:i < e.cs.length
 ·have l2:decide ((i:Int) < e.cs.length)=true:=decide_eq_true (by omega)
  simp +contextual only [aC,l2,zq,EA,cL,jK,mn,Qy,Qz,sZ,Nat.reduceEqDiff,↓reduceIte]
  refine fun _=>⟨hl,hl,aB (abk hs hv _ _) ?_⟩
  cases f8:dy s e.vs (e.cs.getD i default).a (e.cs.getD i default).b with
  | false=>
    simp +contextual only [sZ,Nat.reduceEqDiff,↓reduceIte,reduceCtorEq]
    refine bad ?_
    have:(e.cs.all fun c=>dy s e.vs c.a c.b)=false:=ac4.2 ⟨_,oc hl,by rw [f8];simp⟩
    rw [e0,this];rfl
  | true=>
    simp +contextual only [zq,jK,mn,Qy,Qz,jv,sZ,Nat.reduceEqDiff,Nat.reduceAdd,↓reduceIte]
    exact ⟨hl,hl,by rw [oh,abS];omega,of_eq_true (BR [_,_]),i + 1,⟨hl,dl hI f8⟩,by omega,ay (by rw [aj i (by omega),yc hl,← List.cons_append,wo];rfl) rfl⟩
 have l2:decide ((i:Int) < e.cs.length)=false:=decide_eq_false (by omega)
 rw [aax (by omega)]
 have fU:(e.cs.all fun c=>dy s e.vs c.a c.b)=true:=abc.2 (lj fun j hj=>hI j (by omega))
 rw [fU,acB] at e0
 have Vl:∀ t∈e.b::oK e.cs,t.tree=true:=fun t ht=>by
  rcases aak.1 ht with rfl | ht
  ·exact tb
  ·obtain ⟨c,hc,ht⟩:=abY.1 ht
   have hp:=abc.1 fU c hc
   unfold dy at hp
   simp only [zC] at hp
   rcases aak.1 ht with rfl | ht
   ·exact hp.1
   ·rw [aay.1 ht];exact hp.2.1
 have hlen:(e.b::oK e.cs).length≤100:=by rw [List.length_cons,oh];omega
 generalize e.b::oK e.cs=ts at *
 have wP:jh s e=(eU ts).all fun v=>decide (v∈va):=by
  rw [e0,abV]
  simp only [abc,decide_eq_true_eq]
  constructor
  ·intro h v hm
   obtain ⟨t,ht,hv⟩:=(qk Vl).1 hm
   exact h t ht v ((qk (l:=[t]) (by simpa using Vl t ht)).2 ⟨t,by simp,hv⟩)
  ·intro h t ht v hm
   obtain ⟨u,hu,hv⟩:=(qk (l:=[t]) (by simpa using Vl t ht)).1 hm
   rw [aay.1 hu] at hv
   exact h v ((qk Vl).2 ⟨t,ht,hv⟩)
 rw [wP]
 simp +contextual only [l2,zq,cL,sZ,Nat.reduceEqDiff,Nat.reduceAdd,↓reduceIte]
 refine fun _=>ae (Zh ts (by have:=szl ts Vl;omega)) ?_
 generalize eU ts=us at *
 simp +contextual only [sZ,Nat.reduceEqDiff,↓reduceIte]
 refine aq us.length (fun i=>∀ j,j < i→us.getD j 0∈va) (fun i=>[(7,.al 0 (ints va)),(11,.al 0 (ints us)),(12,.int .i64 i)]) (fun _=>H) ⟨fun j hj=>(by cases hj),ax _ _ _⟩ fun i hi hI=>?_
 by_cases hl:i < us.length
 ·have l3:decide ((i:Int) < us.length)=true:=decide_eq_true (by omega)
  simp +contextual only [l3,aN,zB,sZ,Nat.reduceEqDiff,Nat.reduceAdd,↓reduceIte]
  refine fun _=>⟨⟨by omega,by omega⟩,ae (afG va _) ?_⟩
  by_cases hm:us.getD i 0∈va
  ·rw [decide_eq_true hm]
   simp +contextual only [sZ,Nat.reduceEqDiff,↓reduceIte]
   exact ⟨i + 1,⟨hl,dl hI hm⟩,by omega,ay (by rw [aj i (by omega)]) rfl⟩
  ·rw [decide_eq_false hm]
   simp +contextual only [sZ,Nat.reduceEqDiff,↓reduceIte,reduceCtorEq]
   refine aK rfl ?_
   have:(us.all fun v=>decide (v∈va))=false:=ac4.2 ⟨_,bj hl,by simpa using hm⟩
   rw [this]
 ·have l3:decide ((i:Int) < us.length)=false:=decide_eq_false (by omega)
  simp +contextual only [l3,sZ,Nat.reduceEqDiff,↓reduceIte,reduceCtorEq]
  refine fun _=>aK rfl ?_
  have:(us.all fun v=>decide (v∈va))=true:=abc.2 fun v hm=>by
   obtain ⟨j,hj,rfl⟩:=fY hm
   exact decide_eq_true (hI j (by omega))
  rw [this]
end Go.aI
end
section
set_option maxRecDepth 100000
namespace Go.aI
open Go Go.Proofs Go.dD
end Go.aI
end
section
set_option maxRecDepth 100000
set_option maxHeartbeats 2000000
namespace Go.aI
open Go Go.Proofs Go.dD
open Classical in
theorem afK {t:Ty} {ps ss:List Int} (hs:On t.s ps ss):Pure Tryz.prog 168 [t.av] (.bool (Is t)):=by
 have c209:Pure Tryz.prog 209 [t.s.av] (.bool (jw t.s)):=by
  refine fun H=>Yy.2.calls rfl ?_
  simp only [Yy,aH]
  simp +contextual only [aC,sZ,Nat.reduceEqDiff,Nat.reduceAdd,↓reduceIte]
  refine ae (c82 t.s hs.h5 hs.h6 hs.h1 hs.h2) ?_
  by_cases h:vS t.s
  ·rw [if_pos h]
   simp +contextual only [decide_true,sZ,↓reduceIte,reduceCtorEq]
   exact aK rfl (by rw [NG h])
  ·rw [if_neg h]
   simp +contextual only [sZ,↓reduceIte,reduceCtorEq,Int.reduceEq]
   refine aK rfl ?_
   cases hb:jw t.s with
   | true=>exact absurd (wz.2 hb) h
   | false=>rfl
 refine fun H=>X2.2.calls rfl ?_
 simp only [X2,aH]
 obtain ⟨e1,e2,e3,e4,e5,e6⟩:=Ty.facts t
 simp +contextual only [aC,e1,vR,sZ,Nat.reduceEqDiff,Nat.reduceAdd,↓reduceIte]
 refine ae c209 ?_
 cases h:jw t.s with
 | false=>
   simp +contextual only [sZ,Nat.reduceEqDiff,↓reduceIte,reduceCtorEq]
   exact aK rfl (by rw [Is,h];rfl)
 | true=>
 have hg:SmG t.s:=⟨wz.2 h,hs.h5,hs.h6,hs.h1,hs.h2⟩
 by_cases h2:(400:Int) < t.es.length
 ·simp +contextual only [Cg,dx,h2,decide_true,sZ,Nat.reduceEqDiff,↓reduceIte,reduceCtorEq]
  exact fun _=>aK rfl (by rw [Is,h,decide_eq_false (by omega)];rfl)
 simp +contextual only [Cg,dx,h2,decide_false,sZ,Nat.reduceEqDiff,↓reduceIte]
 have e0:Is t=t.es.all (jh t.s):=by rw [Is,h,decide_eq_true (by omega)];rfl
 refine fun _=>aq t.es.length (fun i=>∀ j,j < i→jh t.s (t.es.getD j default)=true) (fun i=>[(1,.ah t.av),(4,.int .i64 i)]) (fun _=>H) ⟨fun j hj=>(by cases hj),ax _ _ _⟩ fun i hi hI=>?_
 by_cases hl:i < t.es.length
 ·have l1:decide ((i:Int) < t.es.length)=true:=decide_eq_true (by omega)
  obtain ⟨g1,g2,g3,g4,g5,g6⟩:=(t.es.getD i default).facts
  simp +contextual only [aC,l1,vR,Cg,dx,fB,idx_eq,qP,g4,sZ,Nat.reduceEqDiff,↓reduceIte]
  refine fun _=>⟨hl,aB (afJ hg _) ?_⟩
  cases hq:jh t.s (t.es.getD i default) with
  | true=>
    simp +contextual only [sZ,Nat.reduceEqDiff,↓reduceIte]
    exact ⟨i + 1,⟨hl,dl hI hq⟩,by omega,ay (by rw [aj i (by omega)]) rfl⟩
  | false=>
    simp +contextual only [sZ,Nat.reduceEqDiff,↓reduceIte,reduceCtorEq]
    refine aK rfl ?_
    have:t.es.all (jh t.s)=false:=ac4.2 ⟨_,oc hl,by rw [hq];simp⟩
    rw [e0,this]
 ·have l1:decide ((i:Int) < t.es.length)=false:=decide_eq_false (by omega)
  simp +contextual only [l1,Cg,dx,sZ,Nat.reduceEqDiff,↓reduceIte,reduceCtorEq]
  refine fun _=>aK rfl ?_
  have:t.es.all (jh t.s)=true:=abc.2 (lj fun j hj=>hI j (by omega))
  rw [e0,this]
theorem c94 {t:Ty} {ps ss:List Int} (hs:On t.s ps ss):Pure Tryz.prog 94 [t.av] (.int .i64 (yJ t)):=by
 refine fun H=>k94.2.calls rfl ?_
 simp only [k94,aH]
 obtain ⟨e1,e2,e3,e4,e5,e6⟩:=Ty.facts t
 simp +contextual only [e1,e4,gl,sZ,Nat.reduceEqDiff,Nat.reduceAdd,↓reduceIte]
 refine ae (afK hs) ?_
 cases h:Is t with
 | true=>simp +contextual only [sZ,↓reduceIte,reduceCtorEq];exact aK rfl (by rw [yJ,h];rfl)
 | false=>simp +contextual only [sZ,↓reduceIte,reduceCtorEq];exact aK rfl (by rw [yJ,h];rfl)
theorem Cf.tt {ps:List Int} {e:iL} (h:Cf ps e):∀ t∈e.a::e.rest,Tt ps t:=fun t ht=>⟨h.tree t ht,h.ops t ht⟩
theorem E1 {ps ss:List Int} {e:iL}:oM ps ss e=true↔B6 ps ss e:=by simp [oM]
theorem afL {ps ss:List Int} (hv:Va ps ss) {e:iL} (he:Cf ps e):Pure Tryz.prog 164 [dE ps ss,e.av] (.bool (oM ps ss e)):=by
 have ht:=he.tt
 have hf:=he.few
 have ta:=ht e.a (by simp)
 have tb:=ht e.b (by simp [iL.rest])
 have tc:∀ i,i < e.cs.length→Tt ps (e.cs.getD i default).a∧Tt ps (e.cs.getD i default).b:=fun i hi=>by
  have hm:=oc hi
  exact ⟨ht _ (aaA _ (aaA _ (abY.2 ⟨_,hm,by simp⟩))),ht _ (aaA _ (aaA _ (abY.2 ⟨_,hm,by simp⟩)))⟩
 have hD:B6 ps ss e↔R (iq ps ss) e.a e.b∧∀ i,i < e.cs.length→R (iq ps ss) e.a (e.cs.getD i default).a∧R (iq ps ss) e.a (e.cs.getD i default).b:=by
  unfold B6 iL.rest
  constructor
  ·intro h
   refine ⟨h _ (by simp),fun i hi=>?_⟩
   have hm:=oc hi
   exact ⟨h _ (aaA _ (abY.2 ⟨_,hm,by simp⟩)),h _ (aaA _ (abY.2 ⟨_,hm,by simp⟩))⟩
  ·rintro ⟨h1,h2⟩ y hy
   rcases aak.1 hy with rfl | hy
   ·exact h1
   ·obtain ⟨c,hc,hy⟩:=abY.1 hy
    obtain ⟨n,hn,rfl⟩:=acg hc
    have:=h2 n hn
    rw [th,Hj hn,Option.getD_some] at this
    rcases aak.1 hy with rfl | hy
    ·exact this.1
    ·rw [aay.1 hy];exact this.2
 have yes (h:B6 ps ss e):oM ps ss e=true:=E1.2 h
 have no (h:¬ B6 ps ss e):oM ps ss e=false:=ab0.2 fun hh=>h (E1.1 hh)
 refine fun H=>XX.2.calls rfl ?_
 simp only [XX,aH]
 obtain ⟨q1,q2,q3,q4,q5,q6⟩:=aR ps ss
 obtain ⟨g1,g2,g3,g4,g5,g6⟩:=e.facts
 simp +contextual only [q1,g1,q4,bQ,CF,KC,sZ,Nat.reduceEqDiff,Nat.reduceAdd,↓reduceIte,reduceCtorEq]
 refine ae (c78 hv ta tb) ?_
 cases h1:oO ps ss e.a e.b with
 | false=>
   simp +contextual only [sZ,Nat.reduceEqDiff,↓reduceIte,reduceCtorEq]
   refine aK rfl ?_
   rw [no fun h=>by rw [dF.2 (hD.1 h).1] at h1;cases h1]
 | true=>
 have hE:=dF.1 h1
 simp +contextual only [sZ,Nat.reduceEqDiff,↓reduceIte]
 refine aq e.cs.length (fun i=>∀ j,j < i→R (iq ps ss) e.a (e.cs.getD j default).a∧R (iq ps ss) e.a (e.cs.getD j default).b) (fun i=>[(2,.ah (dE ps ss)),(3,.ah e.av),(6,.int .i64 i)]) (fun _=>H) ⟨fun j hj=>(by cases hj),ax _ _ _⟩ fun i hi hI=>?_
 by_cases hl:i < e.cs.length
 ·have l1:decide ((i:Int) < e.cs.length)=true:=decide_eq_true (by omega)
  obtain ⟨t1,t2⟩:=tc i hl
  simp +contextual only [q4,bQ,l1,CF,zq,cL,jK,mn,Qy,sZ,Nat.reduceEqDiff,↓reduceIte]
  refine fun _=>⟨hl,aB (c78 hv ta t1) ?_⟩
  simp +contextual only [q4,bQ,CF,zq,jK,mn,Qz,sZ,Nat.reduceEqDiff,↓reduceIte]
  refine ⟨hl,aB (c78 hv ta t2) ?_⟩
  cases x1:oO ps ss e.a (e.cs.getD i default).a with
  | false=>
    simp +contextual only [sZ,Nat.reduceEqDiff,↓reduceIte,reduceCtorEq]
    refine aK rfl ?_
    rw [no fun h=>by rw [dF.2 ((hD.1 h).2 i hl).1] at x1;cases x1]
  | true=>
    cases x2:oO ps ss e.a (e.cs.getD i default).b with
    | false=>
      simp +contextual only [sZ,Nat.reduceEqDiff,↓reduceIte,reduceCtorEq]
      refine aK rfl ?_
      rw [no fun h=>by rw [dF.2 ((hD.1 h).2 i hl).2] at x2;cases x2]
    | true=>
      simp +contextual only [sZ,Nat.reduceEqDiff,↓reduceIte]
      exact ⟨i + 1,⟨hl,dl hI ⟨dF.1 x1,dF.1 x2⟩⟩,by omega,ay (by rw [aj i (by omega)]) rfl⟩
 ·have l1:decide ((i:Int) < e.cs.length)=false:=decide_eq_false (by omega)
  simp +contextual only [l1,zq,cL,sZ,Nat.reduceEqDiff,↓reduceIte,reduceCtorEq]
  refine fun _=>aK rfl ?_
  rw [yes (hD.2 ⟨hE,fun j hj=>hI j (by omega)⟩)]
theorem c91 (t:Ty) {ps ss:List Int} (hv:Va ps ss) (he:∀ e∈t.es,Cf ps e) (KY:t.es.length≤1000000):Pure Tryz.prog 91 [t.av,dE ps ss] (.int .i64 (jr t ps ss)):=by
 refine fun H=>k91.2.calls rfl ?_
 simp only [k91,aH]
 obtain ⟨q1,q2,q3,q4,q5,q6⟩:=aR ps ss
 obtain ⟨e1,e2,e3,e4,e5,e6⟩:=Ty.facts t
 simp +contextual only [q1,e1,sZ,Nat.reduceEqDiff,Nat.reduceAdd,↓reduceIte,reduceCtorEq]
 unfold jr
 refine aq t.es.length (fun i=>m9 (fun e=>!oM ps ss e) (t.es.drop i) i=m9 (fun e=>!oM ps ss e) t.es 0) (fun i=>[(2,.ah t.av),(3,.ah (dE ps ss)),(5,.int .i64 i)]) (fun _=>H) ⟨rfl,ax _ _ _⟩ fun i hi hI=>?_
 by_cases hl:i < t.es.length
 ·have l1:decide ((i:Int) < t.es.length)=true:=decide_eq_true (by omega)
  obtain ⟨g1,g2,g3,g4,g5,g6⟩:=(t.es.getD i default).facts
  rw [qf hl] at hI
  simp +contextual only [q4,bQ,l1,Cg,dx,fB,idx_eq,qP,g4,sZ,Nat.reduceEqDiff,↓reduceIte]
  refine fun _=>⟨hl,aB (afL hv (he _ (oc hl))) ?_⟩
  cases hq:oM ps ss (t.es.getD i default) with
  | true=>
    rw [hq,if_neg (by simp)] at hI
    simp +contextual only [sZ,Nat.reduceEqDiff,↓reduceIte]
    exact ⟨i + 1,⟨hl,hI⟩,by omega,ay (by rw [aj i (by omega)]) rfl⟩
  | false=>
    rw [hq,if_pos (by rfl)] at hI
    simp +contextual only [sZ,Nat.reduceEqDiff,↓reduceIte,reduceCtorEq]
    exact aK rfl (by rw [← hI])
 ·have l1:decide ((i:Int) < t.es.length)=false:=decide_eq_false (by omega)
  rw [aap (by omega)] at hI
  simp +contextual only [l1,Cg,dx,sZ,Nat.reduceEqDiff,↓reduceIte,reduceCtorEq]
  exact fun _=>aK rfl (by rw [← hI];rfl)
end Go.aI
end
section
set_option maxRecDepth 100000
set_option maxHeartbeats 4000000
namespace Go.aI
open Go Go.Proofs Go.dD
theorem NT {t:Ty} (h:yJ t=0):jw t.s=true∧t.es.length≤400∧∀ e∈t.es,e.cs.length≤8∧∀ u∈e.a::e.rest,wt u≤2000:=by
 have hT:=Np h
 unfold yJ at h
 split at h
 ·rename_i hb
  unfold Is at hb
  simp only [zC,decide_eq_true_eq] at hb
  obtain ⟨h1,h2,h3⟩:=hb
  refine ⟨h1,by omega,fun e he=>?_⟩
  have:=abc.1 h3 e he
  unfold jh at this
  simp only [zC,decide_eq_true_eq] at this
  obtain ⟨_,j2,_⟩:=this
  refine ⟨by omega,fun u hu=>?_⟩
  have h5:=(hT.eq e he (List.replicate t.s.ops.length 0) (by simp)).tree u hu
  have h6:=((T.cI u).1 h5).1
  have h7:=Ic u
  omega
 ·cases h
open Classical in
theorem c36 {t:Ty} {ps ss:List Int} (hs:On t.s ps ss):Pure Tryz.prog 36 [t.av] (.tuple [foA (zx (yJ t) t (yI t)).1,.bool (zx (yJ t) t (yI t)).1.isSome,.int .i64 (zx (yJ t) t (yI t)).2]):=by
 refine fun H=>k36.2.calls rfl ?_
 simp only [k36,aH]
 obtain ⟨e1,e2,e3,e4,e5,e6⟩:=Ty.facts t
 have zf2:List.map AV.ab [AV.ag,.ag]=[.ag,.ag]:=rfl
 have zb2:∀ n,aw n [AV.ag,.ag]=true:=fun _=>rfl
 have sp2:∀ (a b x y:AV),ai [a,b] 0 [x,y]=[x,y]:=fun _ _ _ _=>rfl
 have gz:(H++[aa.cells [AV.ag,.ag]])[H.length]?=some (.cells [.ag,.ag]):=by simp
 simp +contextual only [e1,e4,gl,zf2,zb2,sZ,Nat.reduceEqDiff,Nat.reduceAdd,↓reduceIte]
 refine ae (c94 hs) ?_
 by_cases h0:yJ t=0
 rotate_left
 ·have hm:(yJ t=0)=False:=eq_false h0
  have e0:zx (yJ t) t (yI t)=(none,yJ t):=by unfold zx;rw [if_pos h0]
  rw [e0]
  simp +contextual only [zf2,zb2,hm,gz,gG,sp2,sZ,Nat.reduceEqDiff,Nat.reduceAdd,↓reduceIte,reduceCtorEq]
  exact yq ⟨rfl,rfl,rfl⟩ rfl rfl rfl
 have hT:=Np h0
 have hn:t.s.ops.length≤1000000:=by have:=hs.h1;omega
 have VS:(yI t).length≤1000000:=abW nc hn
 have hr:∀ i∈yI t,0≤i∧i < t.s.ops.length:=fun i hi=>by
  have:=IH.1 hi;exact ⟨this.1,this.2.1⟩
 obtain ⟨hsg,KY,yS⟩:=NT h0
 have h95:=c95 KY yS hn
 have f0:(yJ t=0)=True:=eq_true h0
 simp +contextual only [f0,e4,gl,sZ,Nat.reduceEqDiff,Nat.reduceAdd,↓reduceIte]
 refine ae h95 ?_
 by_cases h4:4 < (yI t).length
 ·have Vo:decide ((4:Int) < (yI t).length)=true:=decide_eq_true (by omega)
  have e0:zx (yJ t) t (yI t)=(none,2):=by unfold zx;rw [if_neg (by omega),if_pos h4]
  rw [e0]
  simp +contextual only [zf2,zb2,gz,Vo,gG,sp2,sZ,Nat.reduceEqDiff,Nat.reduceAdd,↓reduceIte,reduceCtorEq]
  exact fun _=>yq ⟨rfl,rfl,rfl⟩ rfl rfl rfl
 have Vo:decide ((4:Int) < (yI t).length)=false:=decide_eq_false (by omega)
 have e0:zx (yJ t) t (yI t)=(pG t (yI t),0):=by unfold zx;rw [if_neg (by omega),if_neg h4]
 rw [e0]
 simp +contextual only [Vo,sZ,Nat.reduceEqDiff,Nat.reduceAdd,↓reduceIte]
 generalize yI t=ops at *
 obtain ⟨n,Mj⟩:∃ n,n=ops.length:=⟨_,rfl⟩
 have hnn:((n:Nat):Int)=ops.length:=by rw [Mj]
 have hn4:n≤4:=by omega
 rw [← Mj]
 refine fun _=>ae (c96 n 0 (by omega)) ?_
 simp +contextual only [sZ,Nat.reduceEqDiff,↓reduceIte]
 have hF:pG t ops=(eG (ej t ops) (rM 0 n (List.replicate n 0)) none).1:=by
  rw [wB (by omega)];unfold pG;rw [Mj]
 refine xy (List Int×Bool) (fun q=>q.1.length=n∧(∀ x∈q.1,0≤x∧x≤0 + (n:Int) - 1)∧pG t ops=if q.2=true then (eG (ej t ops) (rM 0 n q.1) none).1 else none)
  (fun q=>[(1,.ah t.av),(2,.ptr H.length 0),(6,.al 0 (ints ops)),(7,.al 0 (ints q.1)),(8,.bool q.2)]) (fun _=>H++[.cells [.ag,.ag]]) (fun q=>if q.2=true then (rM 0 n q.1).length else 0) (List.replicate n 0,true) ⟨by simp,?_,hF⟩ (ay rfl rfl) fun q hq=>?_
 ·intro x hx
  obtain ⟨h1,rfl⟩:=af4.1 hx
  omega
 obtain ⟨pl,more⟩:=q
 obtain ⟨i1,i2,i3⟩:=hq
 simp only at i1 i2 i3 ⊢
 cases more with
 | false=>
   rw [if_neg (by simp)] at i3
   rw [i3]
   simp +contextual only [zf2,zb2,gz,gG,sp2,sZ,Nat.reduceEqDiff,Nat.reduceAdd,↓reduceIte,reduceCtorEq]
   exact yq ⟨rfl,rfl,rfl⟩ rfl rfl rfl
 | true=>
   rw [if_pos rfl,s8 i2,eG] at i3
   obtain ⟨R,hR⟩:∃ R,R=ej t ops none pl:=⟨_,rfl⟩
   rw [← hR] at i3
   have ya:∀ p,R=(some p,false)→pG t ops=some p:=fun p h=>by rw [i3,h];rfl
   have na:R=(none,true)→pG t ops=(eG (ej t ops) (match lD 0 (0 + (n:Int) - 1) pl pl.length with | some l'=>rM 0 n l' | none=>[]) none).1:=fun h=>by rw [i3,h];rfl
   clear i3
   simp +contextual only [← hnn,sZ,Nat.reduceEqDiff,Nat.reduceAdd,↓reduceIte]
   refine fun _=>ae (c96 n 1 (by omega)) ?_
   simp +contextual only [sZ,Nat.reduceEqDiff,Nat.reduceAdd,↓reduceIte]
   refine ae (c97 (fun x hx=>by have:=i2 x hx;omega)) ?_
   simp +contextual only [sZ,Nat.reduceEqDiff,↓reduceIte]
   refine xy (List Int×Bool) (fun q=>q.1.length=n∧(∀ x∈q.1,1≤x∧x≤1 + (3:Nat) - 1)∧if q.2=true then ji pl=true∧R=eG (df t ops pl) (rM 1 3 q.1) none else R=(none,true))
    (fun q=>[(1,.ah t.av),(2,.ptr H.length 0),(6,.al 0 (ints ops)),(7,.al 0 (ints pl)),(9,.al 0 (ints q.1)),(10,.bool q.2)]) (fun _=>H++[.cells [.ag,.ag]]) (fun q=>if q.2=true then (rM 1 3 q.1).length else 0) (List.replicate n 1,ji pl) ⟨by simp,?_,?_⟩ (ay rfl rfl) fun q hq=>?_
   ·intro x hx
    obtain ⟨h1,rfl⟩:=af4.1 hx
    omega
   ·cases hd:ji pl with
    | true=>
      rw [if_pos rfl,wB (.inr (by omega)),hR]
      unfold ej
      rw [if_pos hd,Mj]
      exact ⟨rfl,rfl⟩
    | false=>
      rw [if_neg (by simp),hR]
      unfold ej
      rw [if_neg (by simp [hd])]
   obtain ⟨st,m⟩:=q
   obtain ⟨j1,j2,j3⟩:=hq
   simp only at j1 j2 j3 ⊢
   cases m with
   | false=>
     rw [if_neg (by simp)] at j3
     have h:=na j3
     subst Mj
     have wr:IntKind.i64.wrap ((ops.length:Int) - 1)=0 + (ops.length:Int) - 1:=by rw [cp _ (by omega)];omega
     simp +contextual only [wr,sZ,Nat.reduceEqDiff,Nat.reduceAdd,↓reduceIte]
     refine fun _=>ae (c99 (by omega) (fun x hx=>by have:=i2 x hx;omega)) ?_
     have QX:=s8 i2
     cases hx:lD 0 (0 + (ops.length:Int) - 1) pl pl.length with
     | some l'=>
       have e:s9 0 (0 + (ops.length:Int) - 1) pl=(l',true):=by unfold s9;rw [hx]
       rw [hx] at h QX
       simp +contextual only [e,sZ,Nat.reduceEqDiff,Nat.reduceAdd,Nat.reduceLT,↓reduceIte]
       have h1:pl.length≠0:=fun h0=>by rw [h0] at hx;cases hx
       refine ⟨(l',true),⟨by rw [← i1];exact wA (zy _) hx,Hg (by omega) i2 (zy _) hx,by rw [if_pos rfl];exact h⟩,?_,ay rfl rfl⟩
       rw [if_pos rfl,QX]
       simp
     | none=>
       have e:s9 0 (0 + (ops.length:Int) - 1) pl=(List.replicate pl.length 0,false):=by unfold s9;rw [hx]
       rw [hx] at h QX
       simp +contextual only [e,sZ,Nat.reduceEqDiff,Nat.reduceAdd,Nat.reduceLT,↓reduceIte]
       refine ⟨(List.replicate pl.length 0,false),⟨by simp [i1],fun x hx=>?_,by rw [if_neg (by simp)];exact h⟩,?_,ay rfl rfl⟩
       ·obtain ⟨h1,rfl⟩:=af4.1 hx
        omega
       ·rw [if_neg (by simp),QX]
        simp
   | true=>
     rw [if_pos rfl,s8 j2,eG] at j3
     obtain ⟨hd,j3⟩:=j3
     subst Mj
     obtain ⟨P,hP⟩:∃ P,P=oq t.s.ops.length ops pl:=⟨_,rfl⟩
     obtain ⟨S,hS⟩:∃ S,S=ot t.s.ops.length ops st:=⟨_,rfl⟩
     have hPl:P.length=t.s.ops.length:=by rw [hP];exact ED _ _ _
     have hSl:S.length=t.s.ops.length:=by rw [hS];exact Nk _ _ _
     have h98:=c98 t ops pl st i1 j1 hr hn VS
     rw [← hP,← hS] at h98
     obtain ⟨q1,q2,q3,q4,q5,q6⟩:=aR P S
     have h40:=hs.h1
     simp +contextual only [e4,gl,sZ,Nat.reduceEqDiff,Nat.reduceAdd,↓reduceIte]
     refine ae h98 ?_
     simp +contextual only [aC,q1,q2,q3,q4,bQ,vR,sZ,Nat.reduceEqDiff,Nat.reduceAdd,↓reduceIte]
     refine ae (c83 t.s P S h40 (by omega) (by omega)) ?_
     have hcase:(dQ t.s P S∧jr t P S < 0)∨(dQ t.s P S∧¬ jr t P S < 0)∨¬ dQ t.s P S:=by
      by_cases hO:dQ t.s P S
      ·by_cases hb:jr t P S < 0
       ·exact .inl ⟨hO,hb⟩
       ·exact .inr (.inl ⟨hO,hb⟩)
      ·exact .inr (.inr hO)
     have bT:pF t ops pl st=decide (dQ t.s P S∧jr t P S < 0):=by
      unfold pF jy
      rw [← hP,← hS,if_pos hsg]
      by_cases hO:dQ t.s P S
      ·simp [hO]
      ·simp [hO]
     have h91 (hO:dQ t.s P S):Pure Tryz.prog 91 [t.av,dE P S] (.int .i64 (jr t P S)):=c91 t hO.va (fun e he=>hT.eq e he P hPl) (by omega)
     rcases hcase with ⟨hO,hb⟩ | ⟨hO,hb⟩ | hO
     case' inl=>
      have d1:decide (dQ t.s P S)=true:=decide_eq_true hO
      have d2:decide (jr t P S < 0)=true:=decide_eq_true hb
      simp +contextual only [d1,q4,e4,gl,bQ,sZ,Nat.reduceEqDiff,Nat.reduceAdd,↓reduceIte]
      refine ae (h91 hO) ?_
      simp +contextual only [d2,q1,q2,q3,bQ,gz,gG,sZ,Nat.reduceEqDiff,Nat.reduceAdd,↓reduceIte,reduceCtorEq]
      have zo:(dE P S).cells=[.al 0 (ints P),.al 0 (ints S)]:=rfl
      have hfd:pG t ops=some (P,S):=by
       refine ya _ ?_
       have:df t ops pl none st=(some (P,S),false):=by
        unfold df;rw [bT,decide_eq_true ⟨hO,hb⟩,if_pos rfl,hP,hS]
       rw [j3,this];rfl
      rw [hfd]
      simp +contextual only [zo,sp2,aJ,sZ,Nat.reduceEqDiff,↓reduceIte]
      exact yq ⟨q6 _,rfl,rfl⟩ rfl rfl rfl
     case' inr.inl=>
      have d1:decide (dQ t.s P S)=true:=decide_eq_true hO
      have d2:decide (jr t P S < 0)=false:=decide_eq_false hb
      have d3:pF t ops pl st=false:=by rw [bT];exact decide_eq_false (fun h=>hb h.2)
      simp +contextual only [d1,q4,e4,gl,bQ,sZ,Nat.reduceEqDiff,Nat.reduceAdd,↓reduceIte]
      refine ae (h91 hO) ?_
      simp +contextual only [d2,sZ,Nat.reduceEqDiff,Nat.reduceAdd,↓reduceIte]
     case' inr.inr=>
      have d1:decide (dQ t.s P S)=false:=decide_eq_false hO
      have d3:pF t ops pl st=false:=by rw [bT];exact decide_eq_false (fun h=>hO h.1)
      simp +contextual only [d1,sZ,Nat.reduceEqDiff,Nat.reduceAdd,↓reduceIte]
     all_goals
      have h:R=eG (df t ops pl) (match lD 1 (1 + ((3:Nat):Int) - 1) st st.length with | some l'=>rM 1 3 l' | none=>[]) none:=by
       have:df t ops pl none st=(none,true):=by unfold df;rw [d3];rfl
       rw [j3,this];rfl
      refine ae (c99 (by omega) (fun x hx=>by have:=j2 x hx;omega)) ?_
      have QX:=s8 j2
      cases hx:lD 1 (1 + ((3:Nat):Int) - 1) st st.length with
      | some l'=>
        have e:s9 1 3 st=(l',true):=by unfold s9;rw [show (3:Int)=1 + ((3:Nat):Int) - 1 by omega,hx]
        rw [hx] at h QX
        simp +contextual only [e,sZ,Nat.reduceEqDiff,Nat.reduceAdd,Nat.reduceLT,↓reduceIte]
        refine ⟨(l',true),⟨by rw [← j1];exact wA (zy _) hx,Hg (by omega) j2 (zy _) hx,by rw [if_pos rfl];exact ⟨hd,h⟩⟩,?_,ay rfl rfl⟩
        rw [if_pos rfl,QX]
        simp
      | none=>
        have e:s9 1 3 st=(List.replicate st.length 1,false):=by unfold s9;rw [show (3:Int)=1 + ((3:Nat):Int) - 1 by omega,hx]
        rw [hx] at h QX
        simp +contextual only [e,sZ,Nat.reduceEqDiff,Nat.reduceAdd,Nat.reduceLT,↓reduceIte]
        refine ⟨(List.replicate st.length 1,false),⟨by simp [j1],fun x hx=>?_,by rw [if_neg (by simp)];exact h⟩,?_,ay rfl rfl⟩
        ·obtain ⟨h1,rfl⟩:=af4.1 hx
         omega
        ·rw [if_neg (by simp),QX]
         simp
end Go.aI
end
section
set_option maxRecDepth 100000
namespace Go.aI
open Go Go.Proofs Go.dD
section
variable {r:T→T→Bool} (hi:∀ a,r a a=false) (ht:∀ a b c,r a b=true→r b c=true→r a c=true)
include hi ht
theorem IK {l:List T} (h:l≠[]):rA r l < l.length∧∀ x∈l,r (l.getD (rA r l) default) x=false:=by
 obtain ⟨a,ha,hm⟩:=MW (r:=fun a b=>r a b=true) (fun a h=>by rw [hi] at h;cases h) ht l h
 have h1:rA r l < l.length:=aet ⟨a,ha,abc.2 fun x hx=>by rw [ab0.2 (hm x hx)];rfl⟩
 refine ⟨h1,fun x hx=>?_⟩
 have h2:=afR (xs:=l) (p:=fun a=>l.all fun x=>!r a x) (w:=h1)
 have h3:=abc.1 h2 x hx
 have e:l.getD (rA r l) default=l[rA r l]:=by rw [th,Hj h1];rfl
 have h4:(!r l[rA r l] x)=true:=h3
 rw [e]
 simpa using h4
omit ht in
end
end Go.aI
end
