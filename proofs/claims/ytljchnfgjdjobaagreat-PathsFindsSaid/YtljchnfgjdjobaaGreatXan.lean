/- Part 14 of 20 of the proof. -/
import Derived.Test.YtljchnfgjdjobaaGreatXam
import Derived.Test.YtljchnfgjdjobaaGreatXai
import Derived.KernelRfl
set_option linter.unusedVariables false
set_option linter.unusedSimpArgs false
set_option linter.defProp false
set_option linter.unusedSectionVars false
section
set_option maxRecDepth 100000
namespace Go.aI
open Go Go.Proofs Go.dD
theorem Et {O:Od} {p:PP} {a b:T} (h:Sh O p a b):a.k=2:=(rD.1 h).1
theorem Sh1 {O:Od} {p:PP} {a b:T} (hr:p.r=1) (ha:a.k=2):Sh O p a b↔p.to=[]∧(0≤p.i∧p.i < a.l.length)∧((p.l=[]∧E O (a.l.getD p.i.toNat default) b)∨∃ q,p.l=[q]∧Sh O q (a.l.getD p.i.toNat default) b):=by
 rw [rD,Fs];simp [hr,ha]
theorem Sh2 {O:Od} {p:PP} {a b:T} (hr:p.r=2) (ha:a.k=2):Sh O p a b↔p.to=[]∧p.i=0∧b.k=2∧O.pl b.n < O.pl a.n∧mY (Sh O) p.l a b.l:=by
 rw [rD,Fs];simp [hr,ha]
theorem Sh3 {O:Od} {p:PP} {a b:T} (hr:p.r=3) (ha:a.k=2):Sh O p a b↔p.to=[]∧b.k=2∧O.pl a.n=O.pl b.n∧O.sp (O.pl a.n)≠3∧Em (E O) (Sh O) p.i p.l a (side (O.sp (O.pl a.n)) a.l) (side (O.sp (O.pl a.n)) b.l) b.l:=by
 rw [rD,Fs];simp [hr,ha]
theorem Sh4 {O:Od} {p:PP} {a b:T} (hr:p.r=4) (ha:a.k=2):Sh O p a b↔p.i=0∧b.k=2∧O.pl a.n=O.pl b.n∧O.sp (O.pl a.n)=3∧Sa (E O) (Sh O) p.to p.l a.l b.l:=by
 rw [rD,Fs];simp [hr,ha]
theorem Sh0 {O:Od} {p:PP} {a b:T} (h1:p.r≠1) (h2:p.r≠2) (h3:p.r≠3) (h4:p.r≠4):¬ Sh O p a b:=by
 rw [rD,Fs];simp [h1,h2,h3,h4]
theorem slT (l:List Int) (n:Int) (h:0≤n∧n≤l.length) (φ:AV→Prop):bH 1 (.al 0 (ints l)) none (some (.int .i64 n)) none φ=φ (.al 0 (ints (l.take n.toNat))):=by
 have er:dK (AV.al 0 (ints l))=some (ints l):=rfl
 have e2:((ints l).take n.toNat).drop 0=ints (l.take n.toNat):=by rw [List.drop_zero,mS]
 simp only [bH,gZ,er,eS,e2,eq_iff_iff]
 constructor
 ·intro h;exact h.2.2.2.2
 ·intro h'
  refine ⟨fun own xs he z hz=>?_,by omega,by omega,by have:=ap l;omega,h'⟩
  cases he
  obtain ⟨y,_,rfl⟩:=aaw.1 hz
  rfl
theorem Z9 (x:PP) (r:List PP) (φ:AV→Prop):bH 4 (.al 0 (eO (x::r))) (some (.int .i64 1)) none none φ=φ (.al 0 (eO r)):=by
 have er:dK (AV.al 0 (eO (x::r)))=some (eO (x::r)):=rfl
 have e1:(1:Int).toNat=1:=rfl
 have e2:((eO (x::r)).take (eO (x::r)).length).drop 1=eO r:=by rw [aby];rfl
 simp only [bH,gZ,er,eS,e1,e2,eq_iff_iff]
 constructor
 ·intro h;exact h.2.2.2.2
 ·intro h
  refine ⟨fun own xs he z hz=>of_eq_true (sV 0 (x::r)) own xs he z hz,by omega,by simp [fj],zy _,h⟩
theorem qe {s:Int} {l:List Int} {x:Int}:x∈bt s l↔x∈l:=by unfold bt;split <;> simp
theorem aaa {c:Cx} (hc:c.Ok) {p:PP} {i k:Int} (hi:c.eJ i) (hk:c.eJ k) (gS:∀ q∈p.l,∀ x y,c.eJ x→c.eJ y→kv c x y q) (Bl:p.r=1):kv c i k p:=by
 intro H hD
 refine zr.2.calls rfl ?_
 simp only [zr,aH]
 obtain ⟨p1,p2,p3,p4,p5,p6,p7,p8,p9⟩:=bf p
 have k2:∀ l,(bu l).ab=bu l:=fun l=>(aL l).2.1
 have ki:=hc.kids i hi
 have kk:=hc.kids k hk
 have l1:=hc.kl i hi
 have l2:=hc.kl k hk
 obtain ⟨a1,a2,a3,a4,a5⟩:=aL (c.kd i)
 obtain ⟨b1,b2,b3,b4,b5⟩:=aL (c.kd k)
 have ii:IL (bu (c.kd i)) (c.kd i):=.inl rfl
 have ik:IL (bu (c.kd k)) (c.kd k):=.inl rfl
 have ei:(c.nd.getD i.toNat default).snd=c.kd i:=rfl
 have ek:(c.nd.getD k.toNat default).snd=c.kd k:=rfl
 obtain ⟨m1,m2,m3⟩:=hD.lt
 have oJ:Du c (H++[.cells [bu (c.kd k)]]):=hD.ui _
 have fin:∀ G (b:Bool),Up c (H++[.cells [bu (c.kd k)]]) G→Du c G→(b=true↔Sh c.O p (c.tm i) (c.tm k))→bP H.length [.t 8] [(8,.bool b)] G (jJ c (Sh c.O p (c.tm i) (c.tm k)) H):=by
  intro G b u d hb
  refine aT H.length (zy _) (by rw [aD,if_pos rfl];rfl) ?_
  rw [aD,if_pos rfl]
  exact ⟨b,rfl,hb,u.take,d.take m1 m2 m3⟩
 have fin0:¬ Sh c.O p (c.tm i) (c.tm k)→bP H.length [.t 8] [(8,.bool false)] (H++[.cells [bu (c.kd k)]]) (jJ c (Sh c.O p (c.tm i) (c.tm k)) H):=
  fun h=>fin _ _ (Up.refl c _) oJ ⟨fun h=>by simp at h,fun h'=>absurd h' h⟩
 have spv:∀ x:AV,ai [AV.ag] 0 [x]=[x]:=fun x=>rfl
 simp +contextual only [p1,hD.d,n8,E9,cK,b7,k2,ei,ek,b1,b3,b4,b5,List.map_cons,List.map_nil,spv,List.all_cons,List.all_nil,acr,bL,cV,sZ,Nat.reduceEqDiff,Nat.reduceAdd,Nat.reduceLT,↓reduceIte,reduceCtorEq]
 refine ⟨hi,hk,af (rq hc hi oJ) ?_⟩
 rintro r H2 ⟨rfl,rfl⟩
 cases hb:tw c i with
 | false=>
   have ki2:¬ (c.tm i).k=2:=of_decide_eq_false hb
   simp +contextual only [dV,gg,gh,gk,hb,Bool.not_false,sZ,Nat.reduceEqDiff,↓reduceIte,reduceCtorEq]
   exact fin0 fun h=>ki2 (Et h)
 | true=>
 have ki2:(c.tm i).k=2:=of_decide_eq_true hb
 have Vd:∀ (j:Int),(0≤j∧j < (c.kd i).length)→(c.tm i).l.getD j.toNat default=c.tm ((c.kd i).getD j.toNat 0):=fun j hj=>by rw [← ki.1,cD (by omega)]
 have klen:(c.tm i).l.length=(c.kd i).length:=by rw [← ki.1];simp
 have kn:∀ (j:Int),(0≤j∧j < (c.kd i).length)→c.eJ ((c.kd i).getD j.toNat 0):=fun j hj=>ki.2 _ (aV (by omega))
 have lvun:(AV.tuple [.int .i64 (dU c i),.bool (vQ c i k)]).ab=.tuple [.int .i64 (dU c i),.bool (vQ c i k)]:=rfl
 have hS:=Sh1 (O:=c.O) (b:=c.tm k) Bl ki2
 rw [klen] at hS
 simp +contextual only [dV,gg,gh,gk,hb,Bool.not_true,Eo,QA,Bl,not_true_eq_false,not_false_eq_true,decide_true,decide_false,ap,sZ,Nat.reduceEqDiff,Nat.reduceAdd,↓reduceIte,reduceCtorEq,Int.reduceEq]
 refine fun _=>⟨fun h0=>?_,fun h0=>fin0 fun h=>?_⟩
 ·have CG:p.to=[]:=abE.1 (by omega)
  refine af (GB hc hi hk oJ) ?_
  rintro r H2 ⟨rfl,rfl⟩
  by_cases hI:0≤p.i∧p.i < (c.kd i).length
  ·have n1:(p.i < 0)=False:=eq_false (by omega)
   have n2:(((c.kd i).length:Int)≤p.i)=False:=eq_false (by omega)
   have hkn:=kn p.i hI
   rw [Vd p.i hI] at hS
   by_cases hL:p.l.length≤1
   ·have n3:(1 < (p.l.length:Int))=False:=eq_false (by omega)
    by_cases hL0:p.l.length=0
    ·have n4:((p.l.length:Int)=0)=True:=eq_true (by omega)
     simp +contextual only [k2,ii.aO,ii.len (by omega),ii.lens,ii.idx,Eo,Fa,MZ,fj,lvun,decide_true,decide_false,Bl,n1,n2,n3,n4,sZ,Nat.reduceEqDiff,Nat.reduceAdd,Nat.reduceLT,↓reduceIte,reduceCtorEq]
     refine fun _=>⟨hI,af (lf hc hkn hk _ oJ) ?_⟩
     rintro r G ⟨x,rfl,hx,hU,kA⟩
     simp +contextual only [sZ,↓reduceIte,reduceCtorEq]
     refine fin G x hU kA ?_
     rw [hx,hS]
     have:p.l=[]:=abE.1 hL0
     simp [CG,hI,this]
    ·have n4:((p.l.length:Int)=0)=False:=eq_false (by omega)
     have hm:p.l.getD 0 default∈p.l:=eN (by omega)
     obtain ⟨q1,q2,q3,q4,q5,q6,q7,q8,q9⟩:=bf (p.l.getD 0 default)
     have t0:(0:Int).toNat=0:=rfl
     simp +contextual only [k2,ii.aO,ii.len (by omega),ii.lens,ii.idx,Eo,Fa,MZ,B9,sV,sW,fj,lvun,decide_true,decide_false,Bl,n1,n2,n3,n4,t0,q4,sZ,Nat.reduceEqDiff,Nat.reduceAdd,Nat.reduceLT,↓reduceIte,reduceCtorEq]
     refine fun _=>⟨hI,⟨by omega,by omega⟩,af (gS _ hm _ _ hkn hk _ oJ) ?_⟩
     rintro r G ⟨x,rfl,hx,hU,kA⟩
     simp +contextual only [sZ,↓reduceIte,reduceCtorEq]
     refine fin G x hU kA ?_
     rw [hx,hS]
     obtain ⟨q,hq⟩:∃ q,p.l=[q]:=List.length_eq_one_iff.1 (by omega)
     simp [CG,hI,hq]
   ·have n3:(1 < (p.l.length:Int))=True:=eq_true (by omega)
    simp +contextual only [k2,ii.aO,ii.len (by omega),Eo,Fa,MZ,fj,lvun,decide_true,decide_false,Bl,n1,n2,n3,sZ,Nat.reduceEqDiff,Nat.reduceAdd,Nat.reduceLT,↓reduceIte,reduceCtorEq]
    refine fun _=>fin0 fun h=>?_
    rcases (hS.1 h).2.2 with h | ⟨q,h,_⟩
    ·rw [h.1] at hL;simp at hL
    ·rw [h] at hL;simp at hL
  ·by_cases hI0:p.i < 0
   ·simp +contextual only [Eo,Fa,lvun,decide_true,Bl,hI0,sZ,Nat.reduceEqDiff,Nat.reduceAdd,Nat.reduceLT,↓reduceIte,reduceCtorEq]
    exact fin0 fun h=>hI (hS.1 h).2.1
   ·have n2:(((c.kd i).length:Int)≤p.i)=True:=eq_true (by omega)
    simp +contextual only [k2,ii.aO,ii.len (by omega),Eo,Fa,lvun,decide_true,decide_false,Bl,hI0,n2,sZ,Nat.reduceEqDiff,Nat.reduceAdd,Nat.reduceLT,↓reduceIte,reduceCtorEq]
    exact fin0 fun h=>hI (hS.1 h).2.1
 ·rw [(hS.1 h).1] at h0;simp at h0
theorem aab {c:Cx} (hc:c.Ok) {p:PP} {i k:Int} (hi:c.eJ i) (hk:c.eJ k) (gS:∀ q∈p.l,∀ x y,c.eJ x→c.eJ y→kv c x y q) (tJ:p.r=2):kv c i k p:=by
 intro H hD
 refine zr.2.calls rfl ?_
 simp only [zr,aH]
 obtain ⟨p1,p2,p3,p4,p5,p6,p7,p8,p9⟩:=bf p
 have k2:∀ l,(bu l).ab=bu l:=fun l=>(aL l).2.1
 have ki:=hc.kids i hi
 have kk:=hc.kids k hk
 have l1:=hc.kl i hi
 have l2:=hc.kl k hk
 obtain ⟨a1,a2,a3,a4,a5⟩:=aL (c.kd i)
 obtain ⟨b1,b2,b3,b4,b5⟩:=aL (c.kd k)
 have ii:IL (bu (c.kd i)) (c.kd i):=.inl rfl
 have ik:IL (bu (c.kd k)) (c.kd k):=.inl rfl
 have ei:(c.nd.getD i.toNat default).snd=c.kd i:=rfl
 have ek:(c.nd.getD k.toNat default).snd=c.kd k:=rfl
 obtain ⟨m1,m2,m3⟩:=hD.lt
 have oJ:Du c (H++[.cells [bu (c.kd k)]]):=hD.ui _
 have fin:∀ G (b:Bool),Up c (H++[.cells [bu (c.kd k)]]) G→Du c G→(b=true↔Sh c.O p (c.tm i) (c.tm k))→bP H.length [.t 8] [(8,.bool b)] G (jJ c (Sh c.O p (c.tm i) (c.tm k)) H):=by
  intro G b u d hb
  refine aT H.length (zy _) (by rw [aD,if_pos rfl];rfl) ?_
  rw [aD,if_pos rfl]
  exact ⟨b,rfl,hb,u.take,d.take m1 m2 m3⟩
 have fin0:¬ Sh c.O p (c.tm i) (c.tm k)→bP H.length [.t 8] [(8,.bool false)] (H++[.cells [bu (c.kd k)]]) (jJ c (Sh c.O p (c.tm i) (c.tm k)) H):=
  fun h=>fin _ _ (Up.refl c _) oJ ⟨fun h=>by simp at h,fun h'=>absurd h' h⟩
 have spv:∀ x:AV,ai [AV.ag] 0 [x]=[x]:=fun x=>rfl
 simp +contextual only [p1,hD.d,n8,E9,cK,b7,k2,ei,ek,b1,b3,b4,b5,List.map_cons,List.map_nil,spv,List.all_cons,List.all_nil,acr,bL,cV,sZ,Nat.reduceEqDiff,Nat.reduceAdd,Nat.reduceLT,↓reduceIte,reduceCtorEq]
 refine ⟨hi,hk,af (rq hc hi oJ) ?_⟩
 rintro r H2 ⟨rfl,rfl⟩
 cases hb:tw c i with
 | false=>
   have ki2:¬ (c.tm i).k=2:=of_decide_eq_false hb
   simp +contextual only [dV,gg,gh,gk,hb,Bool.not_false,sZ,Nat.reduceEqDiff,↓reduceIte,reduceCtorEq]
   exact fin0 fun h=>ki2 (Et h)
 | true=>
 have ki2:(c.tm i).k=2:=of_decide_eq_true hb
 have Vd:∀ (j:Int),(0≤j∧j < (c.kd i).length)→(c.tm i).l.getD j.toNat default=c.tm ((c.kd i).getD j.toNat 0):=fun j hj=>by rw [← ki.1,cD (by omega)]
 have klen:(c.tm i).l.length=(c.kd i).length:=by rw [← ki.1];simp
 have kn:∀ (j:Int),(0≤j∧j < (c.kd i).length)→c.eJ ((c.kd i).getD j.toNat 0):=fun j hj=>ki.2 _ (aV (by omega))
 have lvun:(AV.tuple [.int .i64 (dU c i),.bool (vQ c i k)]).ab=.tuple [.int .i64 (dU c i),.bool (vQ c i k)]:=rfl
 have hS:=Sh2 (O:=c.O) (b:=c.tm k) tJ ki2
 have e1:((2:Int)=1)=False:=by simp
 simp +contextual only [dV,gg,gh,gk,hb,Bool.not_true,Eo,Fa,QA,tJ,not_true_eq_false,not_false_eq_true,decide_true,decide_false,ap,sZ,Nat.reduceEqDiff,Nat.reduceAdd,↓reduceIte,reduceCtorEq,Int.reduceEq]
 have fAll:∀ (G:List aa) (Q:Prop) (b0:Bool),True:=fun _ _ _=>trivial
 have hAS:mY (Sh c.O) p.l (c.tm i) ((c.kd k).map c.tm)↔mY (Sh c.O) p.l (c.tm i) (c.tm k).l:=by rw [kk.1]
 refine fun _=>⟨fun h0=>⟨fun vY=>fin0 fun h=>vY (hS.1 h).2.1,fun vY=>?_⟩,fun h0=>fin0 fun h=>?_⟩
 ·have CG:p.to=[]:=abE.1 (by omega)
  refine af (GB hc hi hk oJ) ?_
  rintro r H2 ⟨rfl,rfl⟩
  simp +contextual only [Eo,lvun,decide_true,decide_false,tJ,e1,sZ,Nat.reduceEqDiff,Nat.reduceAdd,Nat.reduceLT,↓reduceIte]
  refine af (rq hc hi oJ) ?_
  rintro r H2 ⟨rfl,rfl⟩
  simp +contextual only [dV,gg,gh,gk,sZ,Nat.reduceEqDiff,Nat.reduceAdd,↓reduceIte]
  refine af (rq hc hk oJ) ?_
  rintro r H2 ⟨rfl,rfl⟩
  have opi:rp c i=c.O.pl (c.tm i).n:=by rw [rp,if_pos ki2]
  cases GD:tw c k with
  | false=>
    have kk2:¬ (c.tm k).k=2:=of_decide_eq_false GD
    simp +contextual only [dV,gg,gh,gk,GD,sZ,Nat.reduceEqDiff,↓reduceIte,reduceCtorEq]
    exact fin0 fun h=>kk2 (hS.1 h).2.2.1
  | true=>
    have kk2:(c.tm k).k=2:=of_decide_eq_true GD
    have opk:rp c k=c.O.pl (c.tm k).n:=by rw [rp,if_pos kk2]
    by_cases aM:rp c k < rp c i
    ·simp +contextual only [MZ,decide_true,dV,gg,gh,gk,GD,aM,sZ,Nat.reduceEqDiff,Nat.reduceAdd,↓reduceIte,reduceCtorEq]
     refine af (Vc ik (by omega) (q:=H.length) ⟨by omega,by omega⟩ (fun j h1 h2=>gS _ (eN h2) _ _ hi (kk.2 _ (aV h1))) oJ (by simp)) ?_
     rintro r G ⟨x,rfl,hx,hU,kA⟩
     simp +contextual only [sZ,Nat.reduceEqDiff,↓reduceIte,reduceCtorEq]
     refine fin G x hU kA ?_
     rw [hx,hS,hAS]
     rw [opi,opk] at aM
     simp [CG,vY,kk2,aM]
    ·simp +contextual only [decide_false,dV,gg,gh,gk,GD,aM,sZ,Nat.reduceEqDiff,↓reduceIte,reduceCtorEq]
     refine fin0 fun h=>aM ?_
     rw [opi,opk]
     exact (hS.1 h).2.2.2.1
 ·rw [(hS.1 h).1] at h0;simp at h0
theorem aac {c:Cx} (hc:c.Ok) {p:PP} {i k:Int} (hi:c.eJ i) (hk:c.eJ k) (gS:∀ q∈p.l,∀ x y,c.eJ x→c.eJ y→kv c x y q) (QD:p.r=4):kv c i k p:=by
 intro H hD
 refine zr.2.calls rfl ?_
 simp only [zr,aH]
 obtain ⟨p1,p2,p3,p4,p5,p6,p7,p8,p9⟩:=bf p
 have k2:∀ l,(bu l).ab=bu l:=fun l=>(aL l).2.1
 have ki:=hc.kids i hi
 have kk:=hc.kids k hk
 have l1:=hc.kl i hi
 have l2:=hc.kl k hk
 obtain ⟨a1,a2,a3,a4,a5⟩:=aL (c.kd i)
 obtain ⟨b1,b2,b3,b4,b5⟩:=aL (c.kd k)
 have ii:IL (bu (c.kd i)) (c.kd i):=.inl rfl
 have ik:IL (bu (c.kd k)) (c.kd k):=.inl rfl
 have ei:(c.nd.getD i.toNat default).snd=c.kd i:=rfl
 have ek:(c.nd.getD k.toNat default).snd=c.kd k:=rfl
 obtain ⟨m1,m2,m3⟩:=hD.lt
 have oJ:Du c (H++[.cells [bu (c.kd k)]]):=hD.ui _
 have fin:∀ G (b:Bool),Up c (H++[.cells [bu (c.kd k)]]) G→Du c G→(b=true↔Sh c.O p (c.tm i) (c.tm k))→bP H.length [.t 8] [(8,.bool b)] G (jJ c (Sh c.O p (c.tm i) (c.tm k)) H):=by
  intro G b u d hb
  refine aT H.length (zy _) (by rw [aD,if_pos rfl];rfl) ?_
  rw [aD,if_pos rfl]
  exact ⟨b,rfl,hb,u.take,d.take m1 m2 m3⟩
 have fin0:¬ Sh c.O p (c.tm i) (c.tm k)→bP H.length [.t 8] [(8,.bool false)] (H++[.cells [bu (c.kd k)]]) (jJ c (Sh c.O p (c.tm i) (c.tm k)) H):=
  fun h=>fin _ _ (Up.refl c _) oJ ⟨fun h=>by simp at h,fun h'=>absurd h' h⟩
 have spv:∀ x:AV,ai [AV.ag] 0 [x]=[x]:=fun x=>rfl
 simp +contextual only [p1,hD.d,n8,E9,cK,b7,k2,ei,ek,b1,b3,b4,b5,List.map_cons,List.map_nil,spv,List.all_cons,List.all_nil,acr,bL,cV,sZ,Nat.reduceEqDiff,Nat.reduceAdd,Nat.reduceLT,↓reduceIte,reduceCtorEq]
 refine ⟨hi,hk,af (rq hc hi oJ) ?_⟩
 rintro r H2 ⟨rfl,rfl⟩
 cases hb:tw c i with
 | false=>
   have ki2:¬ (c.tm i).k=2:=of_decide_eq_false hb
   simp +contextual only [dV,gg,gh,gk,hb,Bool.not_false,sZ,Nat.reduceEqDiff,↓reduceIte,reduceCtorEq]
   exact fin0 fun h=>ki2 (Et h)
 | true=>
 have ki2:(c.tm i).k=2:=of_decide_eq_true hb
 have Vd:∀ (j:Int),(0≤j∧j < (c.kd i).length)→(c.tm i).l.getD j.toNat default=c.tm ((c.kd i).getD j.toNat 0):=fun j hj=>by rw [← ki.1,cD (by omega)]
 have klen:(c.tm i).l.length=(c.kd i).length:=by rw [← ki.1];simp
 have kn:∀ (j:Int),(0≤j∧j < (c.kd i).length)→c.eJ ((c.kd i).getD j.toNat 0):=fun j hj=>ki.2 _ (aV (by omega))
 have lvun:(AV.tuple [.int .i64 (dU c i),.bool (vQ c i k)]).ab=.tuple [.int .i64 (dU c i),.bool (vQ c i k)]:=rfl
 have hS:=Sh4 (O:=c.O) (b:=c.tm k) QD ki2
 have e1:((4:Int)=1)=False:=by simp
 simp +contextual only [dV,gg,gh,gk,hb,Bool.not_true,Eo,Fa,QD,not_true_eq_false,not_false_eq_true,decide_true,decide_false,sZ,Nat.reduceEqDiff,Nat.reduceAdd,↓reduceIte,reduceCtorEq,Int.reduceEq]
 refine ⟨fun vY=>fin0 fun h=>vY (hS.1 h).1,fun vY=>?_⟩
 refine af (GB hc hi hk oJ) ?_
 rintro r H2 ⟨rfl,rfl⟩
 have opi:rp c i=c.O.pl (c.tm i).n:=by rw [rp,if_pos ki2]
 have osi:dU c i=c.O.sp (c.O.pl (c.tm i).n):=by rw [dU,if_pos ki2]
 cases hl:vQ c i k with
 | false=>
   simp +contextual only [Eo,decide_true,decide_false,QD,e1,sZ,Nat.reduceEqDiff,Nat.reduceAdd,Nat.reduceLT,↓reduceIte,reduceCtorEq,Int.reduceEq]
   exact fin0 fun h=>by
    have:=hS.1 h
    rw [lO.2 ⟨ki2,this.2.1,this.2.2.1⟩] at hl
    cases hl
 | true=>
   have M8:=lO.1 hl
   by_cases Cc:dU c i=3
   ·simp +contextual only [p4,k2,Eo,sW,decide_true,decide_false,QD,e1,Cc,sZ,Nat.reduceEqDiff,Nat.reduceAdd,Nat.reduceLT,↓reduceIte,reduceCtorEq,Int.reduceEq]
    refine af (aer ii ik (by omega) (by omega) p (fun x hx y hy=>lf hc (ki.2 x hx) (kk.2 y hy)) (fun x hx y hy q hq=>gS q hq _ _ (ki.2 x hx) (kk.2 y hy)) oJ) ?_
    rintro r G ⟨x,rfl,hx,hU,kA⟩
    simp +contextual only [sZ,Nat.reduceEqDiff,↓reduceIte,reduceCtorEq]
    refine fin G x hU kA ?_
    rw [hx,hS,Er,ki.1,kk.1]
    rw [osi] at Cc
    exact ⟨fun h=>⟨vY,M8.2.1,M8.2.2,Cc,h⟩,fun h=>h.2.2.2.2⟩
   ·have Kh:(dU c i=3)=False:=eq_false Cc
    simp +contextual only [Eo,decide_true,decide_false,QD,e1,Kh,sZ,Nat.reduceEqDiff,Nat.reduceAdd,Nat.reduceLT,↓reduceIte,reduceCtorEq,Int.reduceEq]
    refine fin0 fun h=>Cc ?_
    rw [osi];exact (hS.1 h).2.2.2.1
theorem aad {c:Cx} (hc:c.Ok) {p:PP} {i k:Int} (hi:c.eJ i) (hk:c.eJ k) (gS:∀ q∈p.l,∀ x y,c.eJ x→c.eJ y→kv c x y q) (Bl:p.r≠1) (tJ:p.r≠2) (N2:p.r≠3) (QD:p.r≠4):kv c i k p:=by
 intro H hD
 refine zr.2.calls rfl ?_
 simp only [zr,aH]
 obtain ⟨p1,p2,p3,p4,p5,p6,p7,p8,p9⟩:=bf p
 have k2:∀ l,(bu l).ab=bu l:=fun l=>(aL l).2.1
 have ki:=hc.kids i hi
 have kk:=hc.kids k hk
 have l1:=hc.kl i hi
 have l2:=hc.kl k hk
 obtain ⟨a1,a2,a3,a4,a5⟩:=aL (c.kd i)
 obtain ⟨b1,b2,b3,b4,b5⟩:=aL (c.kd k)
 have ii:IL (bu (c.kd i)) (c.kd i):=.inl rfl
 have ik:IL (bu (c.kd k)) (c.kd k):=.inl rfl
 have ei:(c.nd.getD i.toNat default).snd=c.kd i:=rfl
 have ek:(c.nd.getD k.toNat default).snd=c.kd k:=rfl
 obtain ⟨m1,m2,m3⟩:=hD.lt
 have oJ:Du c (H++[.cells [bu (c.kd k)]]):=hD.ui _
 have fin:∀ G (b:Bool),Up c (H++[.cells [bu (c.kd k)]]) G→Du c G→(b=true↔Sh c.O p (c.tm i) (c.tm k))→bP H.length [.t 8] [(8,.bool b)] G (jJ c (Sh c.O p (c.tm i) (c.tm k)) H):=by
  intro G b u d hb
  refine aT H.length (zy _) (by rw [aD,if_pos rfl];rfl) ?_
  rw [aD,if_pos rfl]
  exact ⟨b,rfl,hb,u.take,d.take m1 m2 m3⟩
 have fin0:¬ Sh c.O p (c.tm i) (c.tm k)→bP H.length [.t 8] [(8,.bool false)] (H++[.cells [bu (c.kd k)]]) (jJ c (Sh c.O p (c.tm i) (c.tm k)) H):=
  fun h=>fin _ _ (Up.refl c _) oJ ⟨fun h=>by simp at h,fun h'=>absurd h' h⟩
 have spv:∀ x:AV,ai [AV.ag] 0 [x]=[x]:=fun x=>rfl
 simp +contextual only [p1,hD.d,n8,E9,cK,b7,k2,ei,ek,b1,b3,b4,b5,List.map_cons,List.map_nil,spv,List.all_cons,List.all_nil,acr,bL,cV,sZ,Nat.reduceEqDiff,Nat.reduceAdd,Nat.reduceLT,↓reduceIte,reduceCtorEq]
 refine ⟨hi,hk,af (rq hc hi oJ) ?_⟩
 rintro r H2 ⟨rfl,rfl⟩
 cases hb:tw c i with
 | false=>
   have ki2:¬ (c.tm i).k=2:=of_decide_eq_false hb
   simp +contextual only [dV,gg,gh,gk,hb,Bool.not_false,sZ,Nat.reduceEqDiff,↓reduceIte,reduceCtorEq]
   exact fin0 fun h=>ki2 (Et h)
 | true=>
 have ki2:(c.tm i).k=2:=of_decide_eq_true hb
 have Vd:∀ (j:Int),(0≤j∧j < (c.kd i).length)→(c.tm i).l.getD j.toNat default=c.tm ((c.kd i).getD j.toNat 0):=fun j hj=>by rw [← ki.1,cD (by omega)]
 have klen:(c.tm i).l.length=(c.kd i).length:=by rw [← ki.1];simp
 have kn:∀ (j:Int),(0≤j∧j < (c.kd i).length)→c.eJ ((c.kd i).getD j.toNat 0):=fun j hj=>ki.2 _ (aV (by omega))
 have lvun:(AV.tuple [.int .i64 (dU c i),.bool (vQ c i k)]).ab=.tuple [.int .i64 (dU c i),.bool (vQ c i k)]:=rfl
 have hS:=Sh0 (O:=c.O) (a:=c.tm i) (b:=c.tm k) Bl tJ N2 QD
 simp +contextual only [dV,gg,gh,gk,hb,Bool.not_true,Eo,Fa,QA,Bl,N2,QD,not_true_eq_false,not_false_eq_true,decide_true,decide_false,ap,sZ,Nat.reduceEqDiff,Nat.reduceAdd,↓reduceIte,reduceCtorEq]
 refine fun _=>⟨fun h0=>⟨fun vY=>fin0 hS,fun vY=>?_⟩,fun h0=>fin0 hS⟩
 refine af (GB hc hi hk oJ) ?_
 rintro r H2 ⟨rfl,rfl⟩
 simp +contextual only [Eo,lvun,decide_false,Bl,tJ,N2,QD,sZ,Nat.reduceEqDiff,Nat.reduceAdd,Nat.reduceLT,↓reduceIte,reduceCtorEq]
 exact fin0 hS
end Go.aI
end
section
set_option maxRecDepth 100000
namespace Go.aI
open Go Go.Proofs Go.dD
theorem aae {O:Od} {f:Int→T} {at':Int} {l:List PP} {a:T} {x y kd:List Int} {bl:List T} (hb:kd.map f=bl):Em (E O) (Sh O) at' l a (x.map f) (y.map f) bl ↔
 (0≤at'∧at' < x.length∧at'≤y.length)∧(∀ j,j < at'.toNat→E O (f (x.getD j 0)) (f (y.getD j 0)))∧
 (if at'=y.length then mY (Sh O) l a (kd.map f) else ∃ q r,l=q::r∧Sh O q (f (x.getD at'.toNat 0)) (f (y.getD at'.toNat 0))∧mY (Sh O) r a (kd.map f)):=by
 unfold Em
 rw [hb]
 simp only [acz]
 refine and_congr_right fun h=>?_
 have e:∀ j,j < at'.toNat→((x.map f).getD j default=f (x.getD j 0)∧(y.map f).getD j default=f (y.getD j 0)):=fun j hj=>⟨cD (by omega),cD (by omega)⟩
 refine and_congr ⟨fun k j hj=>?_,fun k j hj=>?_⟩ ?_
 ·have:=k j hj;rwa [(e j hj).1,(e j hj).2] at this
 ·rw [(e j hj).1,(e j hj).2];exact k j hj
 ·split
  ·exact Iff.rfl
  ·rw [cD (by omega),cD (by omega)]
theorem aaf {c:Cx} (hc:c.Ok) {p:PP} {i k:Int} (hi:c.eJ i) (hk:c.eJ k) (gS:∀ q∈p.l,∀ x y,c.eJ x→c.eJ y→kv c x y q) (N2:p.r=3):kv c i k p:=by
 intro H hD
 refine zr.2.calls rfl ?_
 simp only [zr,aH]
 obtain ⟨p1,p2,p3,p4,p5,p6,p7,p8,p9⟩:=bf p
 have k2:∀ l,(bu l).ab=bu l:=fun l=>(aL l).2.1
 have ki:=hc.kids i hi
 have kk:=hc.kids k hk
 have l1:=hc.kl i hi
 have l2:=hc.kl k hk
 obtain ⟨a1,a2,a3,a4,a5⟩:=aL (c.kd i)
 obtain ⟨b1,b2,b3,b4,b5⟩:=aL (c.kd k)
 have ii:IL (bu (c.kd i)) (c.kd i):=.inl rfl
 have ik:IL (bu (c.kd k)) (c.kd k):=.inl rfl
 have ei:(c.nd.getD i.toNat default).snd=c.kd i:=rfl
 have ek:(c.nd.getD k.toNat default).snd=c.kd k:=rfl
 obtain ⟨m1,m2,m3⟩:=hD.lt
 have oJ:Du c (H++[.cells [bu (c.kd k)]]):=hD.ui _
 have fin:∀ G (b:Bool),Up c (H++[.cells [bu (c.kd k)]]) G→Du c G→(b=true↔Sh c.O p (c.tm i) (c.tm k))→bP H.length [.t 8] [(8,.bool b)] G (jJ c (Sh c.O p (c.tm i) (c.tm k)) H):=by
  intro G b u d hb
  refine aT H.length (zy _) (by rw [aD,if_pos rfl];rfl) ?_
  rw [aD,if_pos rfl]
  exact ⟨b,rfl,hb,u.take,d.take m1 m2 m3⟩
 have fin0:¬ Sh c.O p (c.tm i) (c.tm k)→bP H.length [.t 8] [(8,.bool false)] (H++[.cells [bu (c.kd k)]]) (jJ c (Sh c.O p (c.tm i) (c.tm k)) H):=
  fun h=>fin _ _ (Up.refl c _) oJ ⟨fun h=>by simp at h,fun h'=>absurd h' h⟩
 have spv:∀ x:AV,ai [AV.ag] 0 [x]=[x]:=fun x=>rfl
 simp +contextual only [p1,hD.d,n8,E9,cK,b7,k2,ei,ek,b1,b3,b4,b5,List.map_cons,List.map_nil,spv,List.all_cons,List.all_nil,acr,bL,cV,sZ,Nat.reduceEqDiff,Nat.reduceAdd,Nat.reduceLT,↓reduceIte,reduceCtorEq]
 refine ⟨hi,hk,af (rq hc hi oJ) ?_⟩
 rintro r H2 ⟨rfl,rfl⟩
 cases hb:tw c i with
 | false=>
   have ki2:¬ (c.tm i).k=2:=of_decide_eq_false hb
   simp +contextual only [dV,gg,gh,gk,hb,Bool.not_false,sZ,Nat.reduceEqDiff,↓reduceIte,reduceCtorEq]
   exact fin0 fun h=>ki2 (Et h)
 | true=>
 have ki2:(c.tm i).k=2:=of_decide_eq_true hb
 have Vd:∀ (j:Int),(0≤j∧j < (c.kd i).length)→(c.tm i).l.getD j.toNat default=c.tm ((c.kd i).getD j.toNat 0):=fun j hj=>by rw [← ki.1,cD (by omega)]
 have klen:(c.tm i).l.length=(c.kd i).length:=by rw [← ki.1];simp
 have kn:∀ (j:Int),(0≤j∧j < (c.kd i).length)→c.eJ ((c.kd i).getD j.toNat 0):=fun j hj=>ki.2 _ (aV (by omega))
 have lvun:(AV.tuple [.int .i64 (dU c i),.bool (vQ c i k)]).ab=.tuple [.int .i64 (dU c i),.bool (vQ c i k)]:=rfl
 have hS:=Sh3 (O:=c.O) (b:=c.tm k) N2 ki2
 have e1:((3:Int)=1)=False:=by simp
 simp +contextual only [dV,gg,gh,gk,hb,Bool.not_true,Eo,QA,N2,not_true_eq_false,not_false_eq_true,decide_true,decide_false,ap,sZ,Nat.reduceEqDiff,Nat.reduceAdd,↓reduceIte,reduceCtorEq,Int.reduceEq]
 refine fun _=>⟨fun h0=>?_,fun h0=>fin0 fun h=>?_⟩
 ·have CG:p.to=[]:=abE.1 (by omega)
  refine af (GB hc hi hk oJ) ?_
  rintro r H2 ⟨rfl,rfl⟩
  simp +contextual only [k2,Eo,lvun,decide_true,decide_false,N2,e1,sZ,Nat.reduceEqDiff,Nat.reduceAdd,Nat.reduceLT,↓reduceIte,Int.reduceEq]
  refine aB (J4 (c.kd i) (dU c i) (by omega)) ?_
  simp +contextual only [k2,sZ,Nat.reduceEqDiff,Nat.reduceAdd,Nat.reduceLT,↓reduceIte]
  refine aB (J4 (c.kd k) (dU c i) (by omega)) ?_
  have opi:rp c i=c.O.pl (c.tm i).n:=by rw [rp,if_pos ki2]
  have osi:dU c i=c.O.sp (c.O.pl (c.tm i).n):=by rw [dU,if_pos ki2]
  have hx:side (c.O.sp (c.O.pl (c.tm i).n)) (c.tm i).l=(bt (dU c i) (c.kd i)).map c.tm:=by rw [← osi,← ki.1,iH]
  have hy:side (c.O.sp (c.O.pl (c.tm i).n)) (c.tm k).l=(bt (dU c i) (c.kd k)).map c.tm:=by rw [← osi,← kk.1,iH]
  rw [hx,hy,aae (kd:=c.kd k) kk.1] at hS
  have lx:(bt (dU c i) (c.kd i)).length=(c.kd i).length:=iF
  have ly:(bt (dU c i) (c.kd k)).length=(c.kd k).length:=iF
  have nx:∀ z∈bt (dU c i) (c.kd i),c.eJ z:=fun z hz=>ki.2 z (qe.1 hz)
  have ny:∀ z∈bt (dU c i) (c.kd k),c.eJ z:=fun z hz=>kk.2 z (qe.1 hz)
  generalize bt (dU c i) (c.kd i)=x at *
  generalize bt (dU c i) (c.kd k)=y at *
  have ix:IL (.al 0 (ints x)) x:=.inr rfl
  have iy:IL (.al 0 (ints y)) y:=.inr rfl
  cases hl:vQ c i k with
  | false=>
    simp +contextual only [Bool.not_false,sZ,Nat.reduceEqDiff,↓reduceIte,reduceCtorEq]
    exact fin0 fun h=>by
     have:=hS.1 h
     rw [lO.2 ⟨ki2,this.2.1,this.2.2.1⟩] at hl
     cases hl
  | true=>
  have M8:=lO.1 hl
  by_cases Cc:dU c i=3
  ·have aeu:(dU c i=3)=True:=eq_true Cc
   simp +contextual only [decide_true,Bool.not_true,aeu,sZ,Nat.reduceEqDiff,↓reduceIte,reduceCtorEq]
   refine fin0 fun h=>(hS.1 h).2.2.2.1 ?_
   rw [← osi];exact Cc
  ·have Kh:(dU c i=3)=False:=eq_false Cc
   have lvun':True:=trivial
   by_cases hI:0≤p.i∧p.i < x.length∧p.i≤y.length
   ·have n1:(p.i < 0)=False:=eq_false (by omega)
    have n2:((x.length:Int)≤p.i)=False:=eq_false (by omega)
    have n3:((y.length:Int) < p.i)=False:=eq_false (by omega)
    simp +contextual only [Option.map_some,Option.map_none,Fa,decide_false,Bool.not_true,Kh,n1,n2,n3,ix.aO,iy.aO,ix.xR,iy.xR,slT x p.i ⟨hI.1,by omega⟩,slT y p.i ⟨hI.1,by omega⟩,sZ,Nat.reduceEqDiff,Nat.reduceAdd,↓reduceIte,reduceCtorEq]
    refine af (Zv (SD.BZ c _) (.inr rfl:IL (.al 0 (ints (x.take p.i.toNat))) (x.take p.i.toNat)) (.inr rfl:IL (.al 0 (ints (y.take p.i.toNat))) (y.take p.i.toNat)) (by rw [abS];omega) (by rw [abS];omega) 79 [.ptr c.d 0] [] rfl rfl (Q:=fun x y=>E c.O (c.tm x) (c.tm y))
     (fun u hu v hv G hG=>(lf hc (nx u (acs hu)) (ny v (acs hv)) G hG.1).mono fun r H' hr=>hr.sb hG) ⟨oJ,Up.refl c _⟩) ?_
    rintro r G ⟨z,rfl,hz,hG⟩
    have xU:z=true↔∀ j,j < p.i.toNat→E c.O (c.tm (x.getD j 0)) (c.tm (y.getD j 0)):=by
     rw [hz]
     have lt1:(x.take p.i.toNat).length=p.i.toNat:=by rw [abS];omega
     have lt2:(y.take p.i.toNat).length=p.i.toNat:=by rw [abS];omega
     rw [lt1,lt2]
     have et:∀ (l:List Int) j,j < p.i.toNat→(l.take p.i.toNat).getD j 0=l.getD j 0:=fun l j hj=>by simp [th,hj]
     constructor
     ·rintro ⟨_,h⟩ j hj;have:=h j hj;rwa [et _ _ hj,et _ _ hj] at this
     ·intro h;exact ⟨rfl,fun j hj=>by rw [et _ _ hj,et _ _ hj];exact h j hj⟩
    have finG:∀ G' (b:Bool),Up c G G'→Du c G'→(b=true↔Sh c.O p (c.tm i) (c.tm k))→bP H.length [.t 8] [(8,.bool b)] G' (jJ c (Sh c.O p (c.tm i) (c.tm k)) H):=fun G' b u d hb=>fin G' b (hG.2.trans u) d hb
    have finG0:¬ Sh c.O p (c.tm i) (c.tm k)→bP H.length [.t 8] [(8,.bool false)] G (jJ c (Sh c.O p (c.tm i) (c.tm k)) H):=
     fun h=>finG _ _ (Up.refl c _) hG.1 ⟨fun h=>by simp at h,fun h'=>absurd h' h⟩
    have gq:G[H.length]?=some (.cells [bu (c.kd k)]):=by rw [hG.2.get H.length (by omega) (by omega)];simp
    cases z with
    | false=>
      simp +contextual only [Bool.not_false,sZ,Nat.reduceEqDiff,↓reduceIte,reduceCtorEq]
      exact finG0 fun h=>absurd (xU.2 (hS.1 h).2.2.2.2.2.1) (by simp)
    | true=>
      have hz1:=xU.1 rfl
      by_cases he:p.i=y.length
      ·have n4:(p.i=(y.length:Int))=True:=eq_true he
       simp +contextual only [Fa,MZ,decide_true,Bool.not_true,iy.len (by omega),iy.aO,n4,sZ,Nat.reduceEqDiff,Nat.reduceAdd,↓reduceIte,reduceCtorEq]
       refine af (Vc ik (by omega) (q:=H.length) ⟨by omega,by omega⟩ (fun j h1 h2=>gS _ (eN h2) _ _ hi (kk.2 _ (aV h1))) hG.1 gq) ?_
       rintro r G' ⟨w,rfl,hw,hU,kA⟩
       simp +contextual only [sZ,↓reduceIte,reduceCtorEq]
       refine finG G' w hU kA ?_
       rw [hw,hS]
       rw [if_pos he]
       rw [osi] at Cc
       exact ⟨fun h=>⟨CG,M8.2.1,M8.2.2,Cc,hI,hz1,h⟩,fun h=>h.2.2.2.2.2.2⟩
      ·have n4:(p.i=(y.length:Int))=False:=eq_false he
       rw [if_neg he] at hS
       cases vU:p.l with
       | nil=>
         have n5:(0 < ((0:Nat):Int))=False:=eq_false (by simp)
         simp +contextual only [Fa,MZ,fj,decide_false,Bool.not_true,iy.len (by omega),iy.aO,n4,vU,mL,n5,sZ,Nat.reduceEqDiff,↓reduceIte,reduceCtorEq]
         exact finG0 fun h=>by
          obtain ⟨q,r,e,_⟩:=(hS.1 h).2.2.2.2.2.2
          rw [vU] at e;cases e
       | cons q r=>
         have n5:(0 < ((r.length + 1:Nat):Int))=True:=eq_true (by omega)
         have n6:(q::r).getD (0:Int).toNat default=q:=rfl
         obtain ⟨q1,q2,q3,q4,q5,q6,q7,q8,q9⟩:=bf q
         simp only [vU] at hS gS
         simp +contextual only [Fa,MZ,B9,sV,sW,fj,decide_true,decide_false,Bool.not_true,iy.len (by omega),iy.aO,n4,vU,mL,n5,n6,ix.idx,iy.idx,ix.lens,iy.lens,q4,sZ,Nat.reduceEqDiff,Nat.reduceAdd,↓reduceIte,reduceCtorEq]
         refine ⟨by omega,by omega,by omega,af (gS q abD _ _ (nx _ (aV (by omega))) (ny _ (aV (by omega))) G hG.1) ?_⟩
         rintro r' G2 ⟨w,rfl,hw,hU,CD⟩
         cases w with
         | false=>
           simp +contextual only [sZ,Nat.reduceEqDiff,↓reduceIte,reduceCtorEq]
           refine finG G2 false hU CD ⟨fun h=>by simp at h,fun h=>?_⟩
           obtain ⟨q',r',e,h',_⟩:=(hS.1 h).2.2.2.2.2.2
           cases e
           exact hw.2 h'
         | true=>
           have gq2:G2[H.length]?=some (.cells [bu (c.kd k)]):=by rw [hU.get H.length (by omega) (by omega),gq]
           simp +contextual only [Option.map_some,Option.map_none,MZ,Z9,vU,sZ,Nat.reduceEqDiff,Nat.reduceAdd,↓reduceIte,reduceCtorEq]
           refine af (Vc ik (by omega) (q:=H.length) ⟨by omega,by omega⟩ (fun j h1 h2=>gS _ (aaA _ (eN h2)) _ _ hi (kk.2 _ (aV h1))) CD gq2) ?_
           rintro r' G3 ⟨v,rfl,hv,ZA,MG⟩
           simp +contextual only [sZ,Nat.reduceEqDiff,↓reduceIte,reduceCtorEq]
           refine finG G3 v (hU.trans ZA) MG ?_
           rw [hv,hS]
           rw [osi] at Cc
           constructor
           ·exact fun h=>⟨CG,M8.2.1,M8.2.2,Cc,hI,hz1,q,r,rfl,hw.1 rfl,h⟩
           ·rintro ⟨_,_,_,_,_,_,q',r',e,_,h⟩
            cases e
            exact h
   ·have bad:¬ Sh c.O p (c.tm i) (c.tm k):=fun h=>hI (hS.1 h).2.2.2.2.1
    by_cases m1':p.i < 0
    ·have n1:(p.i < 0)=True:=eq_true m1'
     simp +contextual only [Fa,decide_true,decide_false,Bool.not_true,Kh,n1,sZ,Nat.reduceEqDiff,↓reduceIte,reduceCtorEq]
     exact fin0 bad
    ·have n1:(p.i < 0)=False:=eq_false m1'
     by_cases m2':(x.length:Int)≤p.i
     ·have n2:((x.length:Int)≤p.i)=True:=eq_true m2'
      simp +contextual only [Fa,decide_true,decide_false,Bool.not_true,Kh,n1,n2,ix.aO,ix.xR,sZ,Nat.reduceEqDiff,↓reduceIte,reduceCtorEq]
      exact fin0 bad
     ·have n2:((x.length:Int)≤p.i)=False:=eq_false m2'
      have n3:((y.length:Int) < p.i)=True:=eq_true (by omega)
      simp +contextual only [Fa,decide_true,decide_false,Bool.not_true,Kh,n1,n2,n3,ix.aO,iy.aO,ix.xR,iy.xR,sZ,Nat.reduceEqDiff,↓reduceIte,reduceCtorEq]
      exact fin0 bad
 ·rw [(hS.1 h).1] at h0;simp at h0
end Go.aI
end
section
set_option maxRecDepth 100000
namespace Go.aI
open Go Go.Proofs Go.dD
theorem c87 {c:Cx} (hc:c.Ok):∀ (N:Nat) (p:PP) (i k:Int),pz p≤N→c.eJ i→c.eJ k→kv c i k p:=by
 intro N
 induction N with
 | zero=>intro p i k h;have:=B7 p;omega
 | succ N ih=>
 intro p i k hN hi hk
 have gS:∀ q∈p.l,∀ x y,c.eJ x→c.eJ y→kv c x y q:=fun q hq x y hx hy=>ih q x y (by have:=B8 hq;omega) hx hy
 by_cases h1:p.r=1
 ·exact aaa hc hi hk gS h1
 by_cases h2:p.r=2
 ·exact aab hc hi hk gS h2
 by_cases h3:p.r=3
 ·exact aaf hc hi hk gS h3
 by_cases h4:p.r=4
 ·exact aac hc hi hk gS h4
 exact aad hc hi hk gS h1 h2 h3 h4
theorem Ve {c:Cx} (hc:c.Ok) {p:PP} {i k:Int} (hi:c.eJ i) (hk:c.eJ k):kv c i k p:=c87 hc _ p i k (zy _) hi hk
open Classical in
noncomputable def Eu (s:Sg) (ps ss:List Int) (a b:T) (p:PP):Int:=if fF s ps ss [a,b]=0 then (if Sh (iq ps ss) p a b then 0 else 61) else fF s ps ss [a,b]
theorem c28 (s:Sg) (ps ss:List Int) (a b:T) (p:PP):Pure Tryz.prog 28 [s.av,dE ps ss,a.av,b.av,eT p] (.int .i64 (Eu s ps ss a b p)):=by
 refine fun H=>k28.2.calls rfl ?_
 simp only [k28,aH]
 obtain ⟨q1,q2,q3,q4,q5,q6⟩:=aR ps ss
 obtain ⟨p1,p2,p3,p4,p5,p6,p7,p8,p9⟩:=bf p
 simp +contextual only [aC,q1,q4,p1,bQ,sZ,Nat.reduceEqDiff,Nat.reduceAdd,↓reduceIte,reduceCtorEq]
 refine ae (ZY s ps ss [a,b]) ?_
 by_cases h0:fF s ps ss [a,b]=0
 ·have hr:=qc h0
  have hw:=lP hr.tree
  have hc:=hr.cx (by simp) (by simp) H.length
  have hd:=Ay ps ss (ts:=[a,b]) (by simp) H
  simp +contextual only [q4,bQ,h0,sZ,Nat.reduceEqDiff,Nat.reduceAdd,↓reduceIte]
  refine af (Zq ps ss [a,b] H (by simp at hw;omega)) ?_
  rintro r G ⟨rfl,rfl⟩
  have a0:=vr (ps:=ps) (ss:=ss) (ts:=[a,b]) (n:=H.length) (j:=0) (by simp)
  have a1:=vr (ps:=ps) (ss:=ss) (ts:=[a,b]) (n:=H.length) (j:=1) (by simp)
  have hl:=cJ [a,b] 0
  rw [Qx]
  generalize ba [a,b] 0=ks at a0 a1 hl ⊢
  have lZ:ks.length=2:=hl
  simp +contextual only [aN,lZ,dY,sW,p4,sZ,Nat.reduceEqDiff,Nat.reduceAdd,Nat.reduceLT,↓reduceIte,reduceCtorEq]
  refine ⟨by decide,by decide,af (Ve hc a0.1 a1.1 _ hd) ?_⟩
  rintro r G ⟨x,rfl,hx,hU,hD⟩
  rw [a0.2,a1.2] at hx
  have rN:x=true↔Sh (iq ps ss) p a b:=hx
  have aag:=hU.low (by simp [iK]) (by simp [iK])
  cases x with
  | true=>
    simp +contextual only [Bool.not_true,sZ,↓reduceIte,reduceCtorEq]
    exact P1 aag rfl rfl ⟨by rw [Eu,if_pos h0,if_pos (rN.1 rfl)],rfl⟩
  | false=>
    simp +contextual only [Bool.not_false,sZ,↓reduceIte,reduceCtorEq]
    exact P1 aag rfl rfl ⟨by rw [Eu,if_pos h0,if_neg (fun h=>absurd (rN.2 h) (by simp))],rfl⟩
 ·simp +contextual only [h0,sZ,Nat.reduceEqDiff,↓reduceIte,reduceCtorEq]
  exact aK rfl (by rw [Eu,if_neg h0])
end Go.aI
end
section
set_option maxRecDepth 100000
set_option maxHeartbeats 0
namespace Go.aI
open Go Go.Proofs
noncomputable def Ev:=aH Tryz.call86 Tryz.func86 Tryz.ntmps86 [(0,0,1),(0,1,1),(3,6,2000),(8,2,2000),(9,7,2000),(10,7,2000),(10,8,1),(10,10,1),(13,3,2000),(16,3,1000),(19,3,2000),(20,9,2000),(21,1,1),(21,6,1),(21,11,1),(21,13,1),(27,3,2000),(29,1,1),(29,13,2000),(29,17,1),(33,1,1),(33,5,2000),(33,9,1)] [(0,[1,3,5,6]),(1,[1,3,5,6,7,8]),(2,[1,3,5,6,7,8,9]),(3,[1,3,5,6,7,8,9,47]),(4,[1,3,5,6,7,8,9]),(5,[1,3,5,6,7,8,9,10]),(6,[1,3,5,6,7,8,10,52]),(7,[1,3,5,6,7,8,10,52,53]),(8,[3,5,6,7,10]),(9,[3,5,6,7,10,67]),(10,[6,10]),(11,[6]),(12,[1,3,6,7,8,10,52,79]),(13,[3,6,7,8,10,11,13]),(14,[3,6,7,8,10,11,89,90,91]),(15,[3,6,7,8,10,11,89,90,91,92]),(16,[3,6,7,8,10,11,14,15,89,90,91]),(17,[3,6,7,8,10,11,14,15,16,89,90,91]),(18,[3,6,7,8,10,11,14,15,16,89,90,91,97]),(19,[3,6,7,8,10,11,14,15,16,89,90,91]),(20,[3,6,7,8,10,11,15,16,89,90,91]),(21,[3,6,7,8,10,11,89,90,91]),(22,[3,6,7,8,10,11,89,90,91]),(23,[6]),(24,[1,3,6,7,8,10,128]),(25,[1,3,6,7,8,10,18]),(26,[1,3,6,8,10,20,21]),(27,[1,3,6,8,10,20,21]),(28,[1,3,6,8,10,20,21,152]),(29,[1,3,6,8,10]),(30,[1,3,6,10,170,171,172]),(31,[1,3,6,10,170,171,172,173]),(32,[1,3,6,10,23,170,171,172]),(33,[1,3,6,10,170,171,172]),(34,[1,3,6,10,170,171,172]),(35,[6])] [(1,(tkq 0 8 (.take 8 false (.take 9 false (.take 10 false (.take 12 false (.br 11 (.take 13 false (.take 14 false (.take 15 false (.br 16 (.br 17 (.br 18 (.br 19 .done .nil) .nil) .nil) (.br 17 (.br 16 (.br 18 (.br 19 .done .nil) .nil) .nil) .nil))))) (.br 16 (.br 11 (.take 13 false (.take 14 false (.take 15 false (.br 17 (.br 18 (.br 19 .done .nil) .nil) .nil)))) (.br 17 (.br 11 (.take 13 false (.take 14 false (.take 15 false (.br 18 (.br 19 .done .nil) .nil)))) (.br 18 (.take 11 true (tkq 13 3 (.br 19 .done .nil))) .nil)) .nil)) (.br 17 (.br 11 (.take 13 false (.take 14 false (.take 15 false (.br 16 (.br 18 (.br 19 .done .nil) .nil) .nil)))) (.br 16 (.br 11 (.take 13 false (.take 14 false (.take 15 false (.br 18 (.br 19 .done .nil) .nil)))) (.br 18 (.take 11 true (tkq 13 3 (.br 19 .done .nil))) .nil)) .nil)) .nil))))))))),(3,(tkq 0 6 (.br 6 (.take 7 true .done) .nil))),(9,(tkq 0 7 (.br 7 (.take 8 true .done) .nil))),(10,(tkq 0 7 (.br 7 (.take 8 true (.take 9 true (.br 10 .done .nil))) .nil))),(20,(tkq 0 9 (.br 9 (.br 10 .done .nil) .nil))),(21,(.take 0 false (.take 2 false (.take 3 false (.take 5 false (.br 1 (.br 4 (.br 6 (.take 7 true (.take 8 true (.take 10 true (.br 9 (.br 11 (.take 12 true (.br 13 .done .nil)) .nil) .nil)))) (.br 7 (.take 8 false (.br 6 (.take 10 true (.br 9 (.br 11 (.take 12 true (.br 13 .done .nil)) .nil) .nil)) .nil)) .nil)) (.br 6 (.take 7 true (.take 8 true (.br 4 (.take 10 true (.br 9 (.br 11 (.take 12 true (.br 13 .done .nil)) .nil) .nil)) .nil))) (.br 7 (.take 8 false (.br 4 (.br 6 (.take 10 true (.br 9 (.br 11 (.take 12 true (.br 13 .done .nil)) .nil) .nil)) .nil) (.br 6 (.br 4 (.take 10 true (.br 9 (.br 11 (.take 12 true (.br 13 .done .nil)) .nil) .nil)) .nil) .nil))) .nil))) (.br 6 (.br 1 (.take 7 true (.take 8 true (.br 4 (.take 10 true (.br 9 (.br 11 (.take 12 true (.br 13 .done .nil)) .nil) .nil)) .nil))) (.br 7 (.take 8 false (.br 1 (.br 4 (.take 10 true (.br 9 (.br 11 (.take 12 true (.br 13 .done .nil)) .nil) .nil)) .nil) .nil)) .nil)) (.br 7 (.take 8 false (.br 1 (.br 4 (.br 6 (.take 10 true (.br 9 (.br 11 (.take 12 true (.br 13 .done .nil)) .nil) .nil)) .nil) (.br 6 (.br 4 (.take 10 true (.br 9 (.br 11 (.take 12 true (.br 13 .done .nil)) .nil) .nil)) .nil) .nil)) (.br 6 (.br 1 (.br 4 (.take 10 true (.br 9 (.br 11 (.take 12 true (.br 13 .done .nil)) .nil) .nil)) .nil) .nil) .nil))) .nil)))))))),(26,(tkq 0 7 (.take 7 true .done))),(29,(.take 0 false (.take 2 false (.take 3 false (.take 4 false (.take 8 false (.take 9 false (.br 1 (tkq 5 3 (tkq 10 3 (.br 13 (.take 14 true (.br 15 (.take 16 true (.br 17 .done .nil)) .nil)) .nil))) (.br 5 (.take 6 false (.take 7 false (.br 1 (tkq 10 3 (.br 13 (.take 14 true (.br 15 (.take 16 true (.br 17 .done .nil)) .nil)) .nil)) (.br 10 (.take 11 false (.take 12 false (.br 1 (.br 13 (.take 14 true (.br 15 (.take 16 true (.br 17 .done .nil)) .nil)) .nil) (.br 13 (.take 14 false (.br 1 (.br 15 (.take 16 true (.br 17 .done .nil)) .nil) .nil)) .nil)))) .nil)))) (.br 10 (.take 11 false (.take 12 false (.br 1 (tkq 5 3 (.br 13 (.take 14 true (.br 15 (.take 16 true (.br 17 .done .nil)) .nil)) .nil)) (.br 5 (.take 6 false (.take 7 false (.br 1 (.br 13 (.take 14 true (.br 15 (.take 16 true (.br 17 .done .nil)) .nil)) .nil) (.br 13 (.take 14 false (.br 1 (.br 15 (.take 16 true (.br 17 .done .nil)) .nil) .nil)) .nil)))) .nil)))) .nil)))))))))),(33,(.take 0 false (.take 2 false (.take 3 false (.take 4 false (.br 1 (.br 5 (.take 6 true (.br 7 (.take 8 true (.br 9 .done .nil)) .nil)) .nil) (.br 5 (.take 6 false (.br 1 (.br 7 (.take 8 true (.br 9 .done .nil)) .nil) .nil)) .nil)))))))]
end Go.aI
end
section
set_option maxRecDepth 100000
namespace Go.aI
open Go Go.Proofs Go.dD
def qt (l:List PP):AV:=match l with | []=>.ag | _::_=>.al 4 (eO l)
def vv (l:List Int):AV:=match l with | []=>.ag | _::_=>.al 1 (ints l)
theorem jB (l:List PP):(qt l).val=true∧(qt l).cells=[qt l]∧(qt l).one=true∧(∀ n,(qt l).bc n=true)∧(qt l).drop=.al 0 (eO l)∧∀ n,(qt l).ab.bc n=true:=by
 cases l with
 | nil=>exact ⟨rfl,rfl,rfl,fun _=>rfl,rfl,fun _=>rfl⟩
 | cons x r=>exact ⟨rfl,rfl,rfl,fun n=>by rw [qt,bA];exact jU _ _,rfl,fun n=>by rw [qt,xp,bA];exact jU _ _⟩
theorem m8 (l:List Int):(vv l).val=true∧(vv l).cells=[vv l]∧(vv l).one=true∧(∀ n,(vv l).bc n=true)∧(vv l).drop=.al 0 (ints l)∧∀ n,(vv l).ab.bc n=true:=by
 cases l with
 | nil=>exact ⟨rfl,rfl,rfl,fun _=>rfl,rfl,fun _=>rfl⟩
 | cons x r=>exact ⟨rfl,rfl,rfl,fun n=>by rw [vv,bA];exact aJ _ _,rfl,fun n=>by rw [vv,xp,bA];exact aJ _ _⟩
theorem M9 (a b:List PP):eO (a++b)=eO a++eO b:=by simp [mZ]
theorem Ew (l:List PP) (q:PP) (h:l.length < 1000000000) (o:Nat) (ψ:List AV→Prop):bC 4 64 (qt l) (.al o [eT q]) ψ=ψ (eO (l++[q])):=by
 have kw:qR 4 [eT q]:=of_eq_true (U9 [q])
 rw [M9]
 cases l with
 | nil=>rw [qt,lK];simp [kw,eO]
 | cons x r=>
   rw [qt,jv,fj]
   have e:eO [q]=[eT q]:=rfl
   rw [e]
   simp only [kw,List.length_cons,List.length_nil,true_and,eq_iff_iff]
   simp only [List.length_cons] at h
   exact ⟨fun h=>h.2,fun k=>⟨by omega,k⟩⟩
theorem Se (l:List Int) (q:Int) (h:l.length < 1000000000) (o:Nat) (ψ:List AV→Prop):bC 1 8 (vv l) (.al o [.int .i64 q]) ψ=ψ (ints (l++[q])):=by
 have kw:qR 1 [AV.int .i64 q]:=of_eq_true (jI [q])
 have e:ints [q]=[AV.int .i64 q]:=rfl
 cases l with
 | nil=>rw [vv,lK];simp [kw,ints]
 | cons x r=>
   rw [vv,jv,ap,← mT,e]
   simp only [kw,List.length_cons,List.length_nil,true_and,eq_iff_iff]
   simp only [List.length_cons] at h
   exact ⟨fun h=>h.2,fun k=>⟨by omega,k⟩⟩
theorem kL (q:PP):a9 (eT q)=eT q:=by rw [pD];rfl
theorem sX (l:List PP) (q:PP):AV.al 4 (eO (l++[q]))=qt (l++[q]):=by cases l <;> rfl
theorem Ey (l:List Int) (q:Int):AV.al 1 (ints (l++[q]))=vv (l++[q]):=by cases l <;> rfl
theorem d3 {α:Type} (x y z u d:α) (r:List α):(x::y::z::u::r).getD 3 d=u:=by simp
theorem s3 {α:Type} (x y z w u:α) (r:List α):(x::y::z::w::r).set 3 u=x::y::z::u::r:=by simp
theorem Vf (a b c d y:AV):ai [a,b,c,d] 1 [y]=[a,y,c,d]:=by simp [ai]
theorem Ki (a b c d x y z u:AV):ai [a,b,c,d] 0 [x,y,z,u]=[x,y,z,u]:=by simp [ai]
theorem Sf (r i:Int) (to:List Int) (l:List PP) (φ:AV→Prop):cS (some (.cells [.int .i64 r,.int .i64 i,vv to,qt l])) (some 4) 0 φ=φ (eT (.mk r i to l)):=by
 have e:List.map AV.drop [AV.int .i64 r,.int .i64 i,vv to,qt l]=[.int .i64 r,.int .i64 i,.al 0 (ints to),.al 0 (eO l)]:=by
  simp only [List.map_cons,List.map_nil,(jB l).2.2.2.2.1,(m8 to).2.2.2.2.1];rfl
 simp only [cS,List.drop_zero,List.length_cons,List.length_nil,List.take_succ_cons,List.take_zero,e,eT]
 simp
def aah (c:Cx) (i k:Int) (H:List aa) (r:AV) (H':List aa):Prop:=∃ p,r=eT p∧Sh c.O p (c.tm i) (c.tm k)∧Up c H H'∧Du c H'
def qv (c:Cx) (i k:Int):Prop:=∀ H,Du c H→aA Tryz.prog 86 [.ptr c.d 0,.int .i64 i,.int .i64 k] H (aah c i k H)
structure PB (c:Cx) (H:List aa) (x y:Nat) (i k:Int) (es:List AV) (G:List aa):Prop where
 du:Du c G
 gx:G[x]?=some (.cells [bu (c.kd i)])
 gy:G[y]?=some (.cells [bu (c.kd k)])
 g6:G[H.length]?=some (.cells [.int .i64 0,.int .i64 0,.ag,.ag])
 gp:G[H.length + 3]?=some (.cells es)
 len:G.length=H.length + 4
 up:∀ j,j < H.length→j≠c.e→j≠c.g→G[j]?=H[j]?
structure XY (H:List aa) (x y:Nat):Prop where
 x1:H.length < x
 x2:x < H.length + 3
 y1:H.length < y
 y2:y < H.length + 3
theorem PB.call {c:Cx} {H G G':List aa} {x y:Nat} {i k:Int} {es:List AV} (hD:Du c H) (w:XY H x y) (h:PB c H x y i k es G) (hU:Up c G G') (kA:Du c G'):PB c H x y i k es G':=by
 obtain ⟨l1,l2,l3⟩:=hD.lt
 obtain ⟨w1,w2,w3,w4⟩:=w
 exact ⟨kA,by rw [hU.get x (by omega) (by omega),h.gx],by rw [hU.get y (by omega) (by omega),h.gy],by rw [hU.get _ (by omega) (by omega),h.g6],by rw [hU.get _ (by omega) (by omega),h.gp],by rw [hU.len,h.len],fun j h1 h2 h3=>by rw [hU.get j h2 h3,h.up j h1 h2 h3]⟩
theorem PB.set {c:Cx} {H G:List aa} {x y:Nat} {i k:Int} {es es':List AV} (hD:Du c H) (w:XY H x y) (h:PB c H x y i k es G):PB c H x y i k es' (G.set (H.length + 3) (.cells es')):=by
 obtain ⟨l1,l2,l3⟩:=hD.lt
 obtain ⟨w1,w2,w3,w4⟩:=w
 have hp:=aS h.gp
 exact ⟨h.du.set (by omega) (by omega) (by omega),by rw [zA (by omega),h.gx],by rw [zA (by omega),h.gy],by rw [zA (by omega),h.g6],by rw [Sx hp],by rw [ab7,h.len],fun j h1 h2 h3=>by rw [zA (by omega),h.up j h1 h2 h3]⟩
theorem aev {c:Cx} {k x:Int} (h1:lN c x k) (h2:jo c x k) {H:List aa} (hD:Du c H):aA Tryz.prog 147 [.int .i64 x,.ah (.ptr c.d 0),.ah (.int .i64 k)] H (jJ c (E c.O (c.tm x) (c.tm k)∨R c.O (c.tm x) (c.tm k)) H):=by
 refine XM.2.calls rfl ?_
 simp only [XM,aH]
 simp +contextual only [sZ,Nat.reduceEqDiff,Nat.reduceAdd,↓reduceIte,reduceCtorEq]
 refine af (h1 H hD) ?_
 rintro r H' ⟨b,rfl,hb,hU,kA⟩
 cases b with
 | true=>
   simp +contextual only [sZ,Nat.reduceEqDiff,↓reduceIte,reduceCtorEq]
   exact fc rfl ⟨fun _=>.inl (hb.1 rfl),fun _=>rfl⟩ hU kA
 | false=>
   simp +contextual only [sZ,Nat.reduceEqDiff,Nat.reduceAdd,↓reduceIte,reduceCtorEq]
   refine af (h2 H' kA) ?_
   rintro r H2 ⟨z,rfl,hz,R2,CD⟩
   simp +contextual only [sZ,Nat.reduceEqDiff,↓reduceIte,reduceCtorEq]
   refine fc rfl ⟨fun h=>.inr (hz.1 h),fun h=>hz.2 (h.resolve_left fun h=>absurd (hb.2 h) (by simp))⟩ (hU.trans R2) CD
theorem aew {c:Cx} {a b:List Int} {va vb:AV} (ha:IL va a) (hb:IL vb b) {p q:Nat} {x y:Int} (hx:0≤x∧x < a.length) (hy:0≤y∧y < b.length) (h:jo c (a.getD x.toNat 0) (b.getD y.toNat 0)) {G:List aa} (hD:Du c G) (gp:G[p]?=some (.cells [va])) (gq:G[q]?=some (.cells [vb])) :
 aA Tryz.prog 148 [.int .i64 x,.ah (.ptr c.d 0),.ptr p 0,.ptr q 0,.ah (.int .i64 y)] G (jJ c (R c.O (c.tm (a.getD x.toNat 0)) (c.tm (b.getD y.toNat 0))) G):=by
 refine XN.2.calls rfl ?_
 simp only [XN,aH]
 obtain ⟨a1,a2,a3,a4⟩:=ha.one
 obtain ⟨b1,b2,b3,b4⟩:=hb.one
 simp +contextual only [gp,gq,a2,b2,ha.lens,hb.lens,ha.idx,hb.idx,sZ,Nat.reduceEqDiff,Nat.reduceAdd,Nat.reduceLT,↓reduceIte,reduceCtorEq]
 refine ⟨hx,hy,af (h G hD) ?_⟩
 rintro r G' ⟨z,rfl,hz,hU,kA⟩
 simp +contextual only [sZ,↓reduceIte,reduceCtorEq]
 exact fc rfl hz hU kA
def Si:IR:=(.loop (.seq (.region [⟨none,some 173,(.bin .lss (.t 172) (.t 171))⟩] (.some [1,3,6,10,170,171,172,173])) (.seq (.cond (.t 173) .skip (.exit 5)) (.seq (.block 6 (.seq (.region [⟨none,some 174,(.indexAddr 1 (.t 170) (.t 172))⟩,⟨none,some 175,(.load .none (.t 174))⟩,⟨none,some 23,(.set (.t 175) false)⟩] (.some [1,3,6,10,23,170,171,172])) (.draw (.take .false ⟨none,some 176,(.fieldAddr 3 .none (.t 10))⟩ (.take .false ⟨none,some 178,(.load .none (.t 3))⟩ (.take .false ⟨none,some 179,(.set (.t 1) false)⟩ (.take .false ⟨none,some 180,(.set (.t 23) false)⟩ (.br ⟨none,some 177,(.gv (.t 176))⟩ (.br ⟨none,some 181,(.call (.c (.fn (.func 86) [] [])) [(.t 178),(.t 179),(.t 180)] (.some 1999))⟩ (.take .true ⟨none,some 182,(.buildSlice 0 4 (.agg [(.int .i64 0),(.int .i64 0),.ag,.ag]) 1 [(0,(.t 181))])⟩ (.br ⟨none,some 183,(.append 4 64 (.t 177) (.t 182))⟩ (.take .true ⟨none,some 184,(.fieldAddr 3 .none (.t 10))⟩ (.br ⟨none,none,(.iQ (.t 184) 183)⟩ .done .nil)) .nil)) .nil) (.br ⟨none,some 181,(.call (.c (.fn (.func 86) [] [])) [(.t 178),(.t 179),(.t 180)] (.some 1999))⟩ (.take .false ⟨none,some 182,(.buildSlice 0 4 (.agg [(.int .i64 0),(.int .i64 0),.ag,.ag]) 1 [(0,(.t 181))])⟩ (.br ⟨none,some 177,(.gv (.t 176))⟩ (.br ⟨none,some 183,(.append 4 64 (.t 177) (.t 182))⟩ (.take .true ⟨none,some 184,(.fieldAddr 3 .none (.t 10))⟩ (.br ⟨none,none,(.iQ (.t 184) 183)⟩ .done .nil)) .nil) .nil)) .nil)))))) (.some [1,3,6,10,170,171,172])))) (.region [⟨none,some 185,(.bin .add (.t 172) (.c (.int .i64 1)))⟩,⟨none,some 172,(.set (.t 185) false)⟩] (.some [1,3,6,10,170,171,172]))))))
theorem GQ {c:Cx} {H:List aa} (hD:Du c H) {x y:Nat} (w:XY H x y) {i k:Int} {rl at':Int} {l0:List PP} (A6:l0.length≤1) {b:List Int} {vb:AV} (hb:IL vb b) (lb:b.length≤100000000) (hp:∀ z∈b,qv c i z) {G:List aa} (h:PB c H x y i k [.int .i64 rl,.int .i64 at',.ag,qt l0] G) :
 mK ⟨Tryz.prog,none⟩ H.length Si [(1,.int .i64 i),(3,.ah (.ptr c.d 0)),(6,.ptr H.length 0),(10,.ptr (H.length + 3) 0),(170,vb),(171,.int .i64 b.length),(172,.int .i64 0)] G fun e aW G'=>
  e=.exit 5∧get aW 6=.ptr H.length 0∧get aW 10=.ptr (H.length + 3) 0∧∃ qs,mY (Sh c.O) qs (c.tm i) (b.map c.tm)∧PB c H x y i k [.int .i64 rl,.int .i64 at',.ag,qt (l0++qs)] G':=by
 obtain ⟨b1,b2,b3,b4⟩:=hb.one
 unfold Si
 refine aF b.length (fun j (s:List aa×List PP)=>PB c H x y i k [.int .i64 rl,.int .i64 at',.ag,qt (l0++s.2)] s.1∧s.2.length=j∧∀ j',j' < j→Sh c.O (s.2.getD j' default) (c.tm i) (c.tm (b.getD j' 0)))
  (fun j s=>[(1,.int .i64 i),(3,.ah (.ptr c.d 0)),(6,.ptr H.length 0),(10,.ptr (H.length + 3) 0),(170,vb),(171,.int .i64 b.length),(172,.int .i64 j)]) (fun j s=>s.1) (G,[]) ⟨⟨by rw [abJ];exact h,rfl,fun j h=>by omega⟩,ax _ _ _⟩ fun j s hj hI=>?_
 obtain ⟨G,qs⟩:=s
 obtain ⟨mg,hlen,Sy⟩:=hI
 simp only at mg hlen Sy
 by_cases M6:(j:Int) < b.length
 ·have lA:j < b.length:=by omega
  have gp:=mg.gp
  have hl:(l0++qs).length < 1000000000:=by rw [aaj];omega
  have oL:=fun es=>mg.set (es':=es) hD w
  simp +contextual only [M6,decide_true,hb.lens,hb.idx,zB,gp,d3,s3,sZ,Nat.reduceEqDiff,Nat.reduceAdd,Nat.reduceLT,↓reduceIte,reduceCtorEq]
  have fin:∀ (q:PP) (G':List aa),Sh c.O q (c.tm i) (c.tm (b.getD j 0))→PB c H x y i k [.int .i64 rl,.int .i64 at',.ag,qt (l0++(qs++[q]))] G'→∃ (j':Nat) (t:List aa×List PP),(j'≤b.length∧PB c H x y i k [.int .i64 rl,.int .i64 at',.ag,qt (l0++t.2)] t.1∧t.2.length=j'∧∀ j'',j'' < j'→Sh c.O (t.2.getD j'' default) (c.tm i) (c.tm (b.getD j'' 0)))∧b.length - j' < b.length - j∧
   sle H.length [(1,.int .i64 i),(3,.ah (.ptr c.d 0)),(6,.ptr H.length 0),(10,.ptr (H.length + 3) 0),(170,vb),(171,.int .i64 b.length),(172,.int .i64 (IntKind.i64.wrap (j + 1)))] G' [(1,.int .i64 i),(3,.ah (.ptr c.d 0)),(6,.ptr H.length 0),(10,.ptr (H.length + 3) 0),(170,vb),(171,.int .i64 b.length),(172,.int .i64 j')] t.1:=by
   intro q G' hq aex
   refine ⟨j + 1,(G',qs++[q]),⟨lA,aex,by simp [hlen],fun j'' ajo=>?_⟩,by omega,ay (by rw [aj j (by omega)]) rfl⟩
   by_cases e:j''=j
   ·subst e
    have:(qs++[q]).getD j'' default=q:=by rw [← hlen];simp
    rw [this];exact hq
   ·have:(qs++[q]).getD j'' default=qs.getD j'' default:=by
     rw [th,th,zz (by omega)]
    rw [this];exact Sy j'' (by omega)
  refine ⟨by omega,?_,?_⟩
  ·refine af (hp _ (aV lA) _ (oL _).du) ?_
   rintro r G2 ⟨q,rfl,hq,hU,CD⟩
   have Na:=(oL _).call hD w hU CD
   have gp2:=Na.gp
   have Cd:=fun es=>Na.set (es':=es) hD w
   obtain ⟨q1,q2,q3,q4,q5,q6,q7,q8,q9⟩:=bf q
   obtain ⟨v1,v2,v3,v4,v5,v6⟩:=jB (l0++(qs++[q]))
   simp +contextual only [q1,q2,kL,Ew _ _ hl,gp2,s3,abe,sZ,Nat.reduceEqDiff,Nat.reduceAdd,Nat.reduceLT,↓reduceIte]
   have el:AV.al 4 (eO (l0++(qs++[q])))=qt (l0++(qs++[q])):=by rw [← abe];exact sX _ _
   rw [el]
   exact ⟨jU _ _,fin q _ hq (Cd _)⟩
  ·refine af (hp _ (aV lA) _ mg.du) ?_
   rintro r G2 ⟨q,rfl,hq,hU,CD⟩
   have Na:=mg.call hD w hU CD
   have gp2:=Na.gp
   have Cd:=fun es=>Na.set (es':=es) hD w
   have gp3:=fun es=>(Cd es).gp
   have yi:=fun es es'=>(Cd es).set (es':=es') hD w
   obtain ⟨q1,q2,q3,q4,q5,q6,q7,q8,q9⟩:=bf q
   obtain ⟨v1,v2,v3,v4,v5,v6⟩:=jB (l0++(qs++[q]))
   simp +contextual only [q1,q2,kL,Ew _ _ hl,gp2,gp3,d3,s3,abe,sZ,Nat.reduceEqDiff,Nat.reduceAdd,Nat.reduceLT,↓reduceIte]
   have el:AV.al 4 (eO (l0++(qs++[q])))=qt (l0++(qs++[q])):=by rw [← abe];exact sX _ _
   rw [el]
   exact ⟨jU _ _,fin q _ hq (yi _ _)⟩
 ·have e:j=b.length:=by omega
  simp +contextual only [M6,decide_false,sZ,Nat.reduceEqDiff,↓reduceIte]
  refine ⟨qs,⟨by rw [hlen,e,acz],fun j' tx=>?_⟩,mg⟩
  rw [acz] at tx
  rw [cD tx];exact Sy j' (by omega)
end Go.aI
end
section
set_option maxRecDepth 100000
namespace Go.aI
open Go Go.Proofs Go.dD
structure PA (c:Cx) (H:List aa) (x y:Nat) (i k:Int) (G:List aa):Prop where
 du:Du c G
 gx:G[x]?=some (.cells [bu (c.kd i)])
 gy:G[y]?=some (.cells [bu (c.kd k)])
 g6:G[H.length]?=some (.cells [.int .i64 0,.int .i64 0,.ag,.ag])
 len:G.length=H.length + 3
 up:∀ j,j < H.length→j≠c.e→j≠c.g→G[j]?=H[j]?
theorem PA.call {c:Cx} {H G G':List aa} {x y:Nat} {i k:Int} (hD:Du c H) (w:XY H x y) (h:PA c H x y i k G) (hU:Up c G G') (kA:Du c G'):PA c H x y i k G':=by
 obtain ⟨l1,l2,l3⟩:=hD.lt
 obtain ⟨w1,w2,w3,w4⟩:=w
 exact ⟨kA,by rw [hU.get x (by omega) (by omega),h.gx],by rw [hU.get y (by omega) (by omega),h.gy],by rw [hU.get _ (by omega) (by omega),h.g6],by rw [hU.len,h.len],fun j h1 h2 h3=>by rw [hU.get j h2 h3,h.up j h1 h2 h3]⟩
theorem PA.ui {c:Cx} {H G:List aa} {x y:Nat} {i k:Int} (w:XY H x y) (h:PA c H x y i k G) (es:List AV):PB c H x y i k es (G++[.cells es]):=by
 obtain ⟨w1,w2,w3,w4⟩:=w
 have hl:=h.len
 exact ⟨h.du.ui _,by rw [zz (by omega),h.gx],by rw [zz (by omega),h.gy],by rw [zz (by omega),h.g6],by rw [← hl];simp,by simp [hl],fun j h1 h2 h3=>by rw [zz (by omega),h.up j h1 h2 h3]⟩
theorem bdP (r:Int) (φ:AV→Prop):cr [.int .i64 0,.int .i64 0,.ag,.ag] [(0,1,.int .i64 r)] φ=φ (.agg [.int .i64 r,.int .i64 0,.ag,.ag]):=by
 simp only [cr,gb,eq_iff_iff]
 constructor
 ·rintro ⟨_,_,_,h⟩;exact h
 ·exact fun h=>⟨rfl,rfl,by simp,h⟩
theorem PB.fin {c:Cx} {H G:List aa} {x y:Nat} {i k:Int} {r i':Int} {to:List Int} {l:List PP} (hD:Du c H) (h:PB c H x y i k [.int .i64 r,.int .i64 i',vv to,qt l] G) (hs:Sh c.O (.mk r i' to l) (c.tm i) (c.tm k)) :
 z9 H.length (eT (.mk r i' to l)) (G.set H.length (.cells (eT (.mk r i' to l)).cells)) (aah c i k H):=by
 obtain ⟨l1,l2,l3⟩:=hD.lt
 refine RF (G:=(G.set H.length (.cells (eT (.mk r i' to l)).cells)).take H.length) rfl (gO _ _) rfl ⟨_,rfl,hs,⟨?_,fun j h1 h2=>?_⟩,?_⟩
 ·have:=h.len;simp;omega
 ·rw [aaG]
  split
  ·rename_i hj;rw [zA (by omega),h.up j hj h1 h2]
  ·rename_i hj;rw [abL (by omega)]
 ·exact (h.du.set (by omega) (by omega) (by omega)).take l1 l2 l3
theorem Ez (p:PP) (φ:AV→Prop):cS (some (.cells (eT p).cells)) (some 4) 0 φ=φ (eT p):=by
 obtain ⟨_,h2,_,_,_,_,h7,h8,_⟩:=bf p
 simp only [cS,List.drop_zero,h2,aax (Nat.le_of_eq h2),h8,h7]
 simp
theorem Sj (p:PP):ai [AV.int .i64 0,.int .i64 0,.ag,.ag] 0 (eT p).cells=(eT p).cells:=by rw [pD];rfl
theorem wu {c:Cx} (hc:c.Ok) {i k:Int} (hi:c.eJ i) (hk:c.eJ k):H8 c i k:=by
 have ki:=hc.kids i hi
 have kk:=hc.kids k hk
 exact ⟨fun H hD=>Zw hc hi (fun x hx=>lf hc (ki.2 x hx) hk) (fun x hx=>lg hc (ki.2 x hx) hk) hD,fun H hD=>Zx hc hi hk (fun y hy=>lg hc hi (kk.2 y hy)) hD,
  fun H hD=>Zz hc hi hk (fun y hy=>lg hc hi (kk.2 y hy)) (fun x hx y hy=>lf hc (ki.2 x hx) (kk.2 y hy)) (fun x hx y hy=>lg hc (ki.2 x hx) (kk.2 y hy)) hD,
  fun H hD=>ZF hc hi hk (fun x hx y hy=>lf hc (ki.2 x hx) (kk.2 y hy)) (fun x hx y hy=>lg hc (ki.2 x hx) (kk.2 y hy)) hD⟩
theorem aai {c:Cx} (hc:c.Ok) {i k:Int} (hi:c.eJ i) (hk:c.eJ k) (hR:R c.O (c.tm i) (c.tm k)) (hr:jf c i k 1) (jZ:∀ m,m < 1→¬ jf c i k m) (hp:∀ x∈c.kd i,R c.O (c.tm x) (c.tm k)→qv c x k):qv c i k:=by
 intro H hD
 refine Ev.2.calls rfl ?_
 simp only [Ev,aH]
 have k2:∀ l,(bu l).ab=bu l:=fun l=>(aL l).2.1
 have ki:=hc.kids i hi
 have kk:=hc.kids k hk
 have l1:=hc.kl i hi
 have l2:=hc.kl k hk
 obtain ⟨a1,a2,a3,a4,a5⟩:=aL (c.kd i)
 obtain ⟨b1,b2,b3,b4,b5⟩:=aL (c.kd k)
 have ii:IL (bu (c.kd i)) (c.kd i):=.inl rfl
 have ik:IL (bu (c.kd k)) (c.kd k):=.inl rfl
 have ei:(c.nd.getD i.toNat default).snd=c.kd i:=rfl
 have ek:(c.nd.getD k.toNat default).snd=c.kd k:=rfl
 obtain ⟨m1,m2,m3⟩:=hD.lt
 have ed:∀ X:List aa,(H++X)[c.d]?=H[c.d]?:=fun X=>zz m1
 have spv:∀ x:AV,ai [AV.ag] 0 [x]=[x]:=fun x=>rfl
 have spq:ai [AV.int .i64 0,.int .i64 0,.ag,.ag] 0 [AV.int .i64 0,.int .i64 0,.ag,.ag]=[AV.int .i64 0,.int .i64 0,.ag,.ag]:=rfl
 simp +contextual only [sZ,Nat.reduceEqDiff,Nat.reduceAdd,↓reduceIte,reduceCtorEq]
 refine mW (K1:=fun e G=>get e 1=.int .i64 i∧get e 3=.ah (.ptr c.d 0)∧get e 5=.ah (.int .i64 k)∧get e 6=.ptr H.length 0∧∃ x y,get e 7=.ptr x 0∧get e 8=.ptr y 0∧XY H x y∧PA c H x y i k G) ?_ ?_
 ·have P0:aa:=.cells [.int .i64 0,.int .i64 0,.ag,.ag]
  have A:∃ x y,AV.ptr (H.length + 1) 0=.ptr x 0∧AV.ptr (H.length + 2) 0=.ptr y 0∧XY H x y∧PA c H x y i k (H++[.cells [.int .i64 0,.int .i64 0,.ag,.ag],.cells [bu (c.kd i)],.cells [bu (c.kd k)]]):=
   ⟨_,_,rfl,rfl,⟨by omega,by omega,by omega,by omega⟩,⟨hD.ui _,by simp,by simp,by simp,by simp,fun j hj _ _=>zz hj⟩⟩
  have B:∃ x y,AV.ptr (H.length + 2) 0=.ptr x 0∧AV.ptr (H.length + 1) 0=.ptr y 0∧XY H x y∧PA c H x y i k (H++[.cells [.int .i64 0,.int .i64 0,.ag,.ag],.cells [bu (c.kd k)],.cells [bu (c.kd i)]]):=
   ⟨_,_,rfl,rfl,⟨by omega,by omega,by omega,by omega⟩,⟨hD.ui _,by simp,by simp,by simp,by simp,fun j hj _ _=>zz hj⟩⟩
  simp +contextual only [ed,hD.d,n8,E9,cK,b7,k2,ei,ek,a1,a3,a4,a5,b1,b3,b4,b5,List.map_cons,List.map_nil,spv,List.all_cons,List.all_nil,acr,bL,cV,sZ,Nat.reduceEqDiff,Nat.reduceAdd,Nat.reduceLT,↓reduceIte]
  refine ⟨hi,?_⟩
  repeat' apply tg
  all_goals first | exact hk.1 | exact hk.2 | exact A | exact B
 ·rintro e G ⟨e1,e3,e5,e6,x,y,e7,e8,w,Ce⟩
  simp +contextual only [e1,e3,e5,e6,e7,e8,sZ,Nat.reduceEqDiff,↓reduceIte]
  refine aF 0 (fun m (G:List aa)=>PA c H x y i k G)
   (fun m G=>[(1,.int .i64 i),(3,.ah (.ptr c.d 0)),(5,.ah (.int .i64 k)),(6,.ptr H.length 0),(7,.ptr x 0),(8,.ptr y 0),(9,.int .i64 ((m + 1:Nat):Int))]) (fun m G=>G) G ⟨Ce,ax _ _ _⟩ fun m G hm Ce=>?_
  have hf:eM.cells[m + 1]?=some (.fn (.func (182 + (m + 1))) [] []):=by
   have:m=0∨m=1∨m=2∨m=3:=by omega
   rcases this with rfl | rfl | rfl | rfl <;> rfl
  have en:=Wb (m + 1) _ hf (by omega)
  simp +contextual only [sZ]
  refine aB MK ?_
  simp +contextual only [nU,en _ rfl,sZ,Nat.reduceEqDiff,Nat.reduceAdd,↓reduceIte,reduceCtorEq]
  refine af ((wu hc hi hk).at (n:=m + 1) (by omega) (by omega) Ce.du) ?_
  rintro r G1 ⟨z,rfl,hz,hU,oJ⟩
  have rE:=Ce.call hD w hU oJ
  by_cases RW:m=0
  rotate_left
  ·have:z=false:=by
    cases z with
    | false=>rfl
    | true=>exact absurd (hz.1 rfl) (jZ (m + 1) (by omega))
   subst this
   simp +contextual only [Bool.not_false,sZ,Nat.reduceEqDiff,↓reduceIte]
   exact ⟨m + 1,G1,⟨by omega,rE⟩,by omega,ay (by rw [aj (m + 1) (by omega)]) rfl⟩
  subst RW
  have:z=true:=hz.2 hr
  subst this
  have qM:=rE.len
  have mg:=fun es=>rE.ui w es
  have Vg:=fun es=>(mg es).gp
  have Qj:=fun es=>(mg es).gx
  have hgy:=fun es=>(mg es).gy
  have bT:∀ (o o':aa),(G1++[o]).set (H.length + 3) o'=G1++[o']:=fun o o'=>by rw [← qM];simp
  have ec:((1:Nat):Int)=1:=rfl
  have zf:List.map AV.ab [AV.int .i64 (1:Int),.int .i64 0,.ag,.ag]=[.int .i64 (1:Int),.int .i64 0,.ag,.ag]:=rfl
  have zf0:List.map AV.ab [AV.int .i64 0,.int .i64 0,.ag,.ag]=[.int .i64 0,.int .i64 0,.ag,.ag]:=rfl
  have e86:∀ a b:Int,decide (a=b)=decide (a=b):=fun _ _=>rfl
  simp +contextual only [k2,decide_true,Bool.not_true,Bool.not_true,bdP,qM,Vg,bT,ec,zf,zf0,Ki,Qj,sZ,Nat.reduceEqDiff,Nat.reduceAdd,Nat.reduceLT,↓reduceIte,reduceCtorEq]
  have om:=mg [.int .i64 1,.int .i64 0,.ag,.ag]
  generalize G1++[aa.cells [AV.int .i64 1,.int .i64 0,.ag,.ag]]=G2 at om ⊢
  have gS:∃ z∈c.kd i,E c.O (c.tm z) (c.tm k)∨R c.O (c.tm z) (c.tm k):=by
   rcases hr with h | h | h | h
   ·exact h.2
   all_goals (exact absurd h.1 (by decide))
  refine af (MF (SD.BZ c G2) ii (by omega) 147 [] [.ah (.ptr c.d 0),.ah (.int .i64 k)] rfl rfl (Q:=fun z=>E c.O (c.tm z) (c.tm k)∨R c.O (c.tm z) (c.tm k))
   (fun z hz G hG=>(aev (lf hc (ki.2 z hz) hk) (lg hc (ki.2 z hz) hk) hG.1).mono fun r H' hr=>hr.sb hG) ⟨om.du,Up.refl c _⟩) ?_
  rintro r G3 ⟨hG3,vM⟩
  rcases vM with ⟨_,vM⟩ | ⟨q,rfl,hq,hQ,_⟩
  ·obtain ⟨z,hz,h⟩:=gS
   exact absurd h (vM z hz)
  have Cd:=om.call hD w hG3.2 hG3.1
  have qD:=fun es=>Cd.set (es':=es) hD w
  have gp3:=Cd.gp
  have gps:=fun es=>(qD es).gp
  have gxs:=fun es=>(qD es).gx
  have g6s:=fun es=>(qD es).g6
  have j4:(c.kd i).getD q 0∈c.kd i:=aV hq
  have un1:List.map AV.ab [AV.int .i64 (q:Int)]=[.int .i64 (q:Int)]:=rfl
  simp +contextual only [k2,ii.lens,ii.idx,gp3,Vf,un1,gps,gxs,zB,sZ,Nat.reduceEqDiff,Nat.reduceAdd,Nat.reduceLT,Nat.reduceLeDiff,↓reduceIte,reduceCtorEq]
  refine ⟨by omega,?_⟩
  refine af (lf hc (ki.2 _ j4) hk _ (qD _).du) ?_
  rintro r G4 ⟨v,rfl,hv,V9,Wa⟩
  have yi:=(qD _).call hD w V9 Wa
  have gp4:=yi.gp
  have gx4:=yi.gx
  have g64:=yi.g6
  have cod:∀ l:List PP,((c.tm i).l.getD q default)=c.tm ((c.kd i).getD q 0):=fun _=>by rw [← ki.1,cD hq]
  have klen:(c.tm i).l.length=(c.kd i).length:=by rw [← ki.1];simp
  have ki2:(c.tm i).k=2:=by
   have:=(ur hc hi hk).1
   have hh:=(qK.1 (show R c.O (c.tm i) (c.tm k) from hR)).1
   exact hh
  cases v with
  | true=>
    have hs:Sh c.O (.mk 1 q [] []) (c.tm i) (c.tm k):=by
     rw [Sh1 rfl ki2]
     refine ⟨rfl,⟨by show (0:Int)≤q;omega,by show (q:Int) < _;omega⟩,.inl ⟨rfl,?_⟩⟩
     show E c.O ((c.tm i).l.getD (q:Int).toNat default) (c.tm k)
     rw [zB,cod []];exact hv.1 rfl
    have e4:(AV.int .i64 (q:Int))=AV.int .i64 (q:Int):=rfl
    have lp:=Sf 1 q [] []
    obtain ⟨q1,q2,q3,q4,q5,q6,q7,q8,q9⟩:=bf (.mk 1 q [] [])
    have lp2:=Ez (.mk 1 q [] [])
    have Nb:(G4.set H.length (.cells (eT (.mk 1 q [] [])).cells))[H.length]?=some (.cells (eT (.mk 1 q [] [])).cells):=by rw [Sx (aS g64)]
    change ∀ φ,cS (some (.cells [.int .i64 1,.int .i64 (q:Int),.ag,.ag])) (some 4) 0 φ=φ (eT (.mk 1 q [] [])) at lp
    simp +contextual only [Bool.not_true,gp4,lp,g64,q1,q2,q3,q9,Sj,Nb,lp2,sZ,Nat.reduceEqDiff,Nat.reduceAdd,↓reduceIte,reduceCtorEq]
    refine ⟨by first | exact cG (gO _ _) | omega,yi.fin hD hs⟩
  | false=>
    have hRx:R c.O (c.tm ((c.kd i).getD q 0)) (c.tm k):=hQ.resolve_left fun h=>absurd (hv.2 h) (by simp)
    simp +contextual only [k2,ii.lens,ii.idx,Bool.not_false,gp4,gx4,zB,sZ,Nat.reduceEqDiff,Nat.reduceAdd,Nat.reduceLT,↓reduceIte,reduceCtorEq]
    refine ⟨by omega,af (hp _ j4 hRx _ yi.du) ?_⟩
    rintro r G5 ⟨u,rfl,hu,hU5,hD5⟩
    have Nc:=yi.call hD w hU5 hD5
    have gp5:=Nc.gp
    have GR:=fun es=>Nc.set (es':=es) hD w
    have gp6:=fun es=>(GR es).gp
    have g66:=fun es=>(GR es).g6
    have hs:Sh c.O (.mk 1 q [] [u]) (c.tm i) (c.tm k):=by
     rw [Sh1 rfl ki2]
     refine ⟨rfl,⟨by show (0:Int)≤q;omega,by show (q:Int) < _;omega⟩,.inr ⟨u,rfl,?_⟩⟩
     show Sh c.O u ((c.tm i).l.getD (q:Int).toNat default) (c.tm k)
     rw [zB,cod []];exact hu
    have lp:=Sf 1 q [] [u]
    change ∀ φ,cS (some (.cells [.int .i64 1,.int .i64 (q:Int),.ag,.al 4 [eT u]])) (some 4) 0 φ=φ (eT (.mk 1 q [] [u])) at lp
    obtain ⟨q1,q2,q3,q4,q5,q6,q7,q8,q9⟩:=bf (.mk 1 q [] [u])
    obtain ⟨u1,u2,u3,u4,u5,u6,u7,u8,u9⟩:=bf u
    have lp2:=Ez (.mk 1 q [] [u])
    have Nb:=fun es=>Sx (a:=aa.cells (eT (.mk 1 q [] [u])).cells) (aS (g66 es))
    simp +contextual only [gp5,gp6,g66,lp,q1,q2,q3,q9,Sj,Nb,lp2,u1,u2,u6,kL,s3,sZ,Nat.reduceEqDiff,Nat.reduceAdd,Nat.reduceLT,↓reduceIte,reduceCtorEq]
    refine ⟨by first | exact cG (gO _ _) | omega,?_⟩
    exact PB.fin (to:=[]) (l:=[u]) hD (GR _) hs
end Go.aI
end
section
set_option maxRecDepth 100000
namespace Go.aI
open Go Go.Proofs Go.dD
theorem aam {c:Cx} (hc:c.Ok) {i k:Int} (hi:c.eJ i) (hk:c.eJ k) (hR:R c.O (c.tm i) (c.tm k)) (hr:jf c i k 2) (jZ:∀ m,m < 2→¬ jf c i k m) (hp:∀ y∈c.kd k,R c.O (c.tm i) (c.tm y)→qv c i y):qv c i k:=by
 intro H hD
 refine Ev.2.calls rfl ?_
 simp only [Ev,aH]
 have k2:∀ l,(bu l).ab=bu l:=fun l=>(aL l).2.1
 have ki:=hc.kids i hi
 have kk:=hc.kids k hk
 have l1:=hc.kl i hi
 have l2:=hc.kl k hk
 obtain ⟨a1,a2,a3,a4,a5⟩:=aL (c.kd i)
 obtain ⟨b1,b2,b3,b4,b5⟩:=aL (c.kd k)
 have ii:IL (bu (c.kd i)) (c.kd i):=.inl rfl
 have ik:IL (bu (c.kd k)) (c.kd k):=.inl rfl
 have ei:(c.nd.getD i.toNat default).snd=c.kd i:=rfl
 have ek:(c.nd.getD k.toNat default).snd=c.kd k:=rfl
 obtain ⟨m1,m2,m3⟩:=hD.lt
 have ed:∀ X:List aa,(H++X)[c.d]?=H[c.d]?:=fun X=>zz m1
 have spv:∀ x:AV,ai [AV.ag] 0 [x]=[x]:=fun x=>rfl
 have spq:ai [AV.int .i64 0,.int .i64 0,.ag,.ag] 0 [AV.int .i64 0,.int .i64 0,.ag,.ag]=[AV.int .i64 0,.int .i64 0,.ag,.ag]:=rfl
 simp +contextual only [sZ,Nat.reduceEqDiff,Nat.reduceAdd,↓reduceIte,reduceCtorEq]
 refine mW (K1:=fun e G=>get e 1=.int .i64 i∧get e 3=.ah (.ptr c.d 0)∧get e 5=.ah (.int .i64 k)∧get e 6=.ptr H.length 0∧∃ x y,get e 7=.ptr x 0∧get e 8=.ptr y 0∧XY H x y∧PA c H x y i k G) ?_ ?_
 ·have P0:aa:=.cells [.int .i64 0,.int .i64 0,.ag,.ag]
  have A:∃ x y,AV.ptr (H.length + 1) 0=.ptr x 0∧AV.ptr (H.length + 2) 0=.ptr y 0∧XY H x y∧PA c H x y i k (H++[.cells [.int .i64 0,.int .i64 0,.ag,.ag],.cells [bu (c.kd i)],.cells [bu (c.kd k)]]):=
   ⟨_,_,rfl,rfl,⟨by omega,by omega,by omega,by omega⟩,⟨hD.ui _,by simp,by simp,by simp,by simp,fun j hj _ _=>zz hj⟩⟩
  have B:∃ x y,AV.ptr (H.length + 2) 0=.ptr x 0∧AV.ptr (H.length + 1) 0=.ptr y 0∧XY H x y∧PA c H x y i k (H++[.cells [.int .i64 0,.int .i64 0,.ag,.ag],.cells [bu (c.kd k)],.cells [bu (c.kd i)]]):=
   ⟨_,_,rfl,rfl,⟨by omega,by omega,by omega,by omega⟩,⟨hD.ui _,by simp,by simp,by simp,by simp,fun j hj _ _=>zz hj⟩⟩
  simp +contextual only [ed,hD.d,n8,E9,cK,b7,k2,ei,ek,a1,a3,a4,a5,b1,b3,b4,b5,List.map_cons,List.map_nil,spv,List.all_cons,List.all_nil,acr,bL,cV,sZ,Nat.reduceEqDiff,Nat.reduceAdd,Nat.reduceLT,↓reduceIte]
  refine ⟨hi,?_⟩
  repeat' apply tg
  all_goals first | exact hk.1 | exact hk.2 | exact A | exact B
 ·rintro e G ⟨e1,e3,e5,e6,x,y,e7,e8,w,Ce⟩
  simp +contextual only [e1,e3,e5,e6,e7,e8,sZ,Nat.reduceEqDiff,↓reduceIte]
  refine aF 1 (fun m (G:List aa)=>PA c H x y i k G)
   (fun m G=>[(1,.int .i64 i),(3,.ah (.ptr c.d 0)),(5,.ah (.int .i64 k)),(6,.ptr H.length 0),(7,.ptr x 0),(8,.ptr y 0),(9,.int .i64 ((m + 1:Nat):Int))]) (fun m G=>G) G ⟨Ce,ax _ _ _⟩ fun m G hm Ce=>?_
  have hf:eM.cells[m + 1]?=some (.fn (.func (182 + (m + 1))) [] []):=by
   have:m=0∨m=1∨m=2∨m=3:=by omega
   rcases this with rfl | rfl | rfl | rfl <;> rfl
  have en:=Wb (m + 1) _ hf (by omega)
  simp +contextual only [sZ]
  refine aB MK ?_
  simp +contextual only [nU,en _ rfl,sZ,Nat.reduceEqDiff,Nat.reduceAdd,↓reduceIte,reduceCtorEq]
  refine af ((wu hc hi hk).at (n:=m + 1) (by omega) (by omega) Ce.du) ?_
  rintro r G1 ⟨z,rfl,hz,hU,oJ⟩
  have rE:=Ce.call hD w hU oJ
  by_cases RW:m=1
  rotate_left
  ·have:z=false:=by
    cases z with
    | false=>rfl
    | true=>exact absurd (hz.1 rfl) (jZ (m + 1) (by omega))
   subst this
   simp +contextual only [Bool.not_false,sZ,Nat.reduceEqDiff,↓reduceIte]
   exact ⟨m + 1,G1,⟨by omega,rE⟩,by omega,ay (by rw [aj (m + 1) (by omega)]) rfl⟩
  subst RW
  have:z=true:=hz.2 hr
  subst this
  have qM:=rE.len
  have mg:=fun es=>rE.ui w es
  have Vg:=fun es=>(mg es).gp
  have Qj:=fun es=>(mg es).gx
  have hgy:=fun es=>(mg es).gy
  have bT:∀ (o o':aa),(G1++[o]).set (H.length + 3) o'=G1++[o']:=fun o o'=>by rw [← qM];simp
  have ec:((2:Nat):Int)=2:=rfl
  have zf:List.map AV.ab [AV.int .i64 (2:Int),.int .i64 0,.ag,.ag]=[.int .i64 (2:Int),.int .i64 0,.ag,.ag]:=rfl
  have zf0:List.map AV.ab [AV.int .i64 0,.int .i64 0,.ag,.ag]=[.int .i64 0,.int .i64 0,.ag,.ag]:=rfl
  have e86:∀ a b:Int,decide (a=b)=decide (a=b):=fun _ _=>rfl
  simp +contextual only [k2,ik.aO,ik.len (by omega),decide_false,Bool.not_true,Bool.not_true,bdP,qM,Vg,bT,ec,zf,zf0,Ki,hgy,sZ,Nat.reduceEqDiff,Nat.reduceAdd,Nat.reduceLT,↓reduceIte,Int.reduceEq]
  have om:=mg [.int .i64 2,.int .i64 0,.ag,.ag]
  generalize G1++[aa.cells [AV.int .i64 2,.int .i64 0,.ag,.ag]]=G2 at om ⊢
  have ki2:(c.tm i).k=2:=(qK.1 hR).1
  have vU:uq c i k:=by
   rcases hr with h | h | h | h
   ·exact absurd h.1 (by decide)
   ·exact h.2
   all_goals (exact absurd h.1 (by decide))
  obtain ⟨GD,aM,hall0⟩:=vU
  have kk2:(c.tm k).k=2:=of_decide_eq_true GD
  have Vh:∀ qs,mY (Sh c.O) qs (c.tm i) ((c.kd k).map c.tm)→Sh c.O (.mk 2 0 [] qs) (c.tm i) (c.tm k):=by
   intro qs hq
   rw [Sh2 rfl ki2]
   rw [kk.1] at hq
   refine ⟨rfl,rfl,kk2,?_,hq⟩
   rw [rp,if_pos kk2,rp,if_pos ki2] at aM;exact aM
  refine mM (GQ hD w (l0:=[]) (by simp) ik l2 (fun z hz=>hp z hz (hall0 z hz)) om) ?_
  rintro e1 e G6 ⟨rfl,f6,f10,qs,fU,pE⟩
  replace pE:PB c H x y i k [.int .i64 2,.int .i64 0,.ag,qt qs] G6:=pE
  have gp6:=pE.gp
  have g66:=pE.g6
  have lp:=Sf 2 0 [] qs
  have tv0:vv []=AV.ag:=rfl
  rw [tv0] at lp
  have hs:Sh c.O (.mk 2 0 [] qs) (c.tm i) (c.tm k):=Vh qs fU
  obtain ⟨q1,q2,q3,q4,q5,q6,q7,q8,q9⟩:=bf (.mk 2 0 [] qs)
  have lp2:=Ez (.mk 2 0 [] qs)
  have Nb:=Sx (a:=aa.cells (eT (.mk 2 0 [] qs)).cells) (aS g66)
  have QE:aw (H.length + 1) (eT (.mk 2 0 [] qs)).cells=true:=cG (gO _ _)
  have mI:=PB.fin (to:=[]) (l:=qs) hD pE hs
  simp +contextual only [f6,f10,gp6,g66,lp,q1,q2,q3,q9,Sj,Nb,lp2,QE,sZ,Nat.reduceEqDiff,Nat.reduceAdd,↓reduceIte,reduceCtorEq]
  first | exact mI | exact ⟨by omega,mI⟩ | exact ⟨trivial,mI⟩
end Go.aI
end
section
set_option maxRecDepth 100000
namespace Go.aI
open Go Go.Proofs Go.dD
theorem aan {c:Cx} (hc:c.Ok) {i k:Int} (hi:c.eJ i) (hk:c.eJ k) (hR:R c.O (c.tm i) (c.tm k)) (hr:jf c i k 3) (jZ:∀ m,m < 3→¬ jf c i k m) (hp:∀ y∈c.kd k,R c.O (c.tm i) (c.tm y)→qv c i y) (Vi:∀ x∈c.kd i,∀ y∈c.kd k,R c.O (c.tm x) (c.tm y)→qv c x y):qv c i k:=by
 intro H hD
 refine Ev.2.calls rfl ?_
 simp only [Ev,aH]
 have k2:∀ l,(bu l).ab=bu l:=fun l=>(aL l).2.1
 have ki:=hc.kids i hi
 have kk:=hc.kids k hk
 have l1:=hc.kl i hi
 have l2:=hc.kl k hk
 obtain ⟨a1,a2,a3,a4,a5⟩:=aL (c.kd i)
 obtain ⟨b1,b2,b3,b4,b5⟩:=aL (c.kd k)
 have ii:IL (bu (c.kd i)) (c.kd i):=.inl rfl
 have ik:IL (bu (c.kd k)) (c.kd k):=.inl rfl
 have ei:(c.nd.getD i.toNat default).snd=c.kd i:=rfl
 have ek:(c.nd.getD k.toNat default).snd=c.kd k:=rfl
 obtain ⟨m1,m2,m3⟩:=hD.lt
 have ed:∀ X:List aa,(H++X)[c.d]?=H[c.d]?:=fun X=>zz m1
 have spv:∀ x:AV,ai [AV.ag] 0 [x]=[x]:=fun x=>rfl
 have spq:ai [AV.int .i64 0,.int .i64 0,.ag,.ag] 0 [AV.int .i64 0,.int .i64 0,.ag,.ag]=[AV.int .i64 0,.int .i64 0,.ag,.ag]:=rfl
 simp +contextual only [sZ,Nat.reduceEqDiff,Nat.reduceAdd,↓reduceIte,reduceCtorEq]
 refine mW (K1:=fun e G=>get e 1=.int .i64 i∧get e 3=.ah (.ptr c.d 0)∧get e 5=.ah (.int .i64 k)∧get e 6=.ptr H.length 0∧∃ x y,get e 7=.ptr x 0∧get e 8=.ptr y 0∧XY H x y∧PA c H x y i k G) ?_ ?_
 ·have P0:aa:=.cells [.int .i64 0,.int .i64 0,.ag,.ag]
  have A:∃ x y,AV.ptr (H.length + 1) 0=.ptr x 0∧AV.ptr (H.length + 2) 0=.ptr y 0∧XY H x y∧PA c H x y i k (H++[.cells [.int .i64 0,.int .i64 0,.ag,.ag],.cells [bu (c.kd i)],.cells [bu (c.kd k)]]):=
   ⟨_,_,rfl,rfl,⟨by omega,by omega,by omega,by omega⟩,⟨hD.ui _,by simp,by simp,by simp,by simp,fun j hj _ _=>zz hj⟩⟩
  have B:∃ x y,AV.ptr (H.length + 2) 0=.ptr x 0∧AV.ptr (H.length + 1) 0=.ptr y 0∧XY H x y∧PA c H x y i k (H++[.cells [.int .i64 0,.int .i64 0,.ag,.ag],.cells [bu (c.kd k)],.cells [bu (c.kd i)]]):=
   ⟨_,_,rfl,rfl,⟨by omega,by omega,by omega,by omega⟩,⟨hD.ui _,by simp,by simp,by simp,by simp,fun j hj _ _=>zz hj⟩⟩
  simp +contextual only [ed,hD.d,n8,E9,cK,b7,k2,ei,ek,a1,a3,a4,a5,b1,b3,b4,b5,List.map_cons,List.map_nil,spv,List.all_cons,List.all_nil,acr,bL,cV,sZ,Nat.reduceEqDiff,Nat.reduceAdd,Nat.reduceLT,↓reduceIte]
  refine ⟨hi,?_⟩
  repeat' apply tg
  all_goals first | exact hk.1 | exact hk.2 | exact A | exact B
 ·rintro e G ⟨e1,e3,e5,e6,x,y,e7,e8,w,Ce⟩
  simp +contextual only [e1,e3,e5,e6,e7,e8,sZ,Nat.reduceEqDiff,↓reduceIte]
  refine aF 2 (fun m (G:List aa)=>PA c H x y i k G)
   (fun m G=>[(1,.int .i64 i),(3,.ah (.ptr c.d 0)),(5,.ah (.int .i64 k)),(6,.ptr H.length 0),(7,.ptr x 0),(8,.ptr y 0),(9,.int .i64 ((m + 1:Nat):Int))]) (fun m G=>G) G ⟨Ce,ax _ _ _⟩ fun m G hm Ce=>?_
  have hf:eM.cells[m + 1]?=some (.fn (.func (182 + (m + 1))) [] []):=by
   have:m=0∨m=1∨m=2∨m=3:=by omega
   rcases this with rfl | rfl | rfl | rfl <;> rfl
  have en:=Wb (m + 1) _ hf (by omega)
  simp +contextual only [sZ]
  refine aB MK ?_
  simp +contextual only [nU,en _ rfl,sZ,Nat.reduceEqDiff,Nat.reduceAdd,↓reduceIte,reduceCtorEq]
  refine af ((wu hc hi hk).at (n:=m + 1) (by omega) (by omega) Ce.du) ?_
  rintro r G1 ⟨z,rfl,hz,hU,oJ⟩
  have rE:=Ce.call hD w hU oJ
  by_cases RW:m=2
  rotate_left
  ·have:z=false:=by
    cases z with
    | false=>rfl
    | true=>exact absurd (hz.1 rfl) (jZ (m + 1) (by omega))
   subst this
   simp +contextual only [Bool.not_false,sZ,Nat.reduceEqDiff,↓reduceIte]
   exact ⟨m + 1,G1,⟨by omega,rE⟩,by omega,ay (by rw [aj (m + 1) (by omega)]) rfl⟩
  subst RW
  have:z=true:=hz.2 hr
  subst this
  have qM:=rE.len
  have mg:=fun es=>rE.ui w es
  have Vg:=fun es=>(mg es).gp
  have Qj:=fun es=>(mg es).gx
  have hgy:=fun es=>(mg es).gy
  have bT:∀ (o o':aa),(G1++[o]).set (H.length + 3) o'=G1++[o']:=fun o o'=>by rw [← qM];simp
  have ec:((3:Nat):Int)=3:=rfl
  have zf:List.map AV.ab [AV.int .i64 (3:Int),.int .i64 0,.ag,.ag]=[.int .i64 (3:Int),.int .i64 0,.ag,.ag]:=rfl
  have zf0:List.map AV.ab [AV.int .i64 0,.int .i64 0,.ag,.ag]=[.int .i64 0,.int .i64 0,.ag,.ag]:=rfl
  have e86:∀ a b:Int,decide (a=b)=decide (a=b):=fun _ _=>rfl
  simp +contextual only [decide_true,decide_false,Bool.not_true,Bool.not_true,bdP,qM,Vg,bT,ec,zf,zf0,Ki,sZ,Nat.reduceEqDiff,Nat.reduceAdd,↓reduceIte,Int.reduceEq]
  have om:=mg [.int .i64 3,.int .i64 0,.ag,.ag]
  generalize G1++[aa.cells [AV.int .i64 3,.int .i64 0,.ag,.ag]]=G2 at om ⊢
  have ki2:(c.tm i).k=2:=(qK.1 hR).1
  have hlx:B0 c i k:=by
   rcases hr with h | h | h | h
   ·exact absurd h.1 (by decide)
   ·exact absurd h.1 (by decide)
   ·exact h.2
   ·exact absurd h.1 (by decide)
  obtain ⟨M8,Cc,hall0,n0,aey,hn1,Mj⟩:=hlx
  have Nf:=lO.1 M8
  have kk2:(c.tm k).k=2:=Nf.2.1
  have osi:dU c i=c.O.sp (c.O.pl (c.tm i).n):=by rw [dU,if_pos ki2]
  have hx:side (c.O.sp (c.O.pl (c.tm i).n)) (c.tm i).l=(bt (dU c i) (c.kd i)).map c.tm:=by rw [← osi,← ki.1,iH]
  have hy:side (c.O.sp (c.O.pl (c.tm i).n)) (c.tm k).l=(bt (dU c i) (c.kd k)).map c.tm:=by rw [← osi,← kk.1,iH]
  have lx:(bt (dU c i) (c.kd i)).length=(c.kd i).length:=iF
  have ly:(bt (dU c i) (c.kd k)).length=(c.kd k).length:=iF
  have nx:∀ z∈bt (dU c i) (c.kd i),z∈c.kd i:=fun z hz=>qe.1 hz
  have ny:∀ z∈bt (dU c i) (c.kd k),z∈c.kd k:=fun z hz=>qe.1 hz
  have hS:∀ (n:Nat) (l:List PP),Sh c.O (.mk 3 n [] l) (c.tm i) (c.tm k)↔Em (E c.O) (Sh c.O) n l (c.tm i) ((bt (dU c i) (c.kd i)).map c.tm) ((bt (dU c i) (c.kd k)).map c.tm) (c.tm k).l:=by
   intro n l
   rw [Sh3 rfl ki2,hx,hy]
   rw [osi] at Cc
   exact ⟨fun h=>h.2.2.2.2,fun h=>⟨rfl,kk2,Nf.2.2,Cc,h⟩⟩
  refine af (rq hc hi om.du) ?_
  rintro r G3 ⟨rfl,rfl⟩
  have gx0:=om.gx
  have gy0:=om.gy
  simp +contextual only [k2,dV,gg,gh,gk,gx0,sZ,Nat.reduceEqDiff,Nat.reduceAdd,Nat.reduceLT,↓reduceIte]
  refine aB (J4 (c.kd i) (dU c i) (by omega)) ?_
  simp +contextual only [k2,gy0,sZ,Nat.reduceEqDiff,Nat.reduceAdd,Nat.reduceLT,↓reduceIte]
  refine aB (J4 (c.kd k) (dU c i) (by omega)) ?_
  generalize bt (dU c i) (c.kd i)=xs at *
  generalize bt (dU c i) (c.kd k)=ys at *
  have ix:IL (.al 0 (ints xs)) xs:=.inr rfl
  have iy:IL (.al 0 (ints ys)) ys:=.inr rfl
  simp +contextual only [sZ,Nat.reduceEqDiff,Nat.reduceAdd,↓reduceIte,reduceCtorEq]
  refine af (Zy ix iy (by omega) (by omega) (fun z hz z' xU=>lf hc (ki.2 z (nx z hz)) (kk.2 z' (ny z' xU))) om.du) ?_
  rintro r G4 ⟨n,rfl,hn,V9,Wa⟩
  have en0:=hn.UQ aey
  subst en0
  have yi:=om.call hD w V9 Wa
  have gp4:=yi.gp
  have qD:=fun es=>yi.set (es':=es) hD w
  have gps:=fun es=>(qD es).gp
  have gxs:=fun es=>(qD es).gx
  have gys:=fun es=>(qD es).gy
  have un1:List.map AV.ab [AV.int .i64 (n:Int)]=[.int .i64 (n:Int)]:=rfl
  have hLS:∀ l,Em (E c.O) (Sh c.O) n l (c.tm i) (xs.map c.tm) (ys.map c.tm) (c.tm k).l↔(if (n:Int)=ys.length then mY (Sh c.O) l (c.tm i) ((c.kd k).map c.tm) else ∃ q r,l=q::r∧Sh c.O q (c.tm (xs.getD n 0)) (c.tm (ys.getD n 0))∧mY (Sh c.O) r (c.tm i) ((c.kd k).map c.tm)):=by
   intro l
   rw [aae (kd:=c.kd k) kk.1]
   have h1:(0:Int)≤n∧(n:Int) < xs.length∧(n:Int)≤ys.length:=⟨by omega,by omega,by have:=hn.lb;omega⟩
   have h2:∀ j,j < (n:Int).toNat→E c.O (c.tm (xs.getD j 0)) (c.tm (ys.getD j 0)):=fun j hj=>hn.eq j (by omega)
   rw [zB]
   exact ⟨fun h=>h.2.2,fun h=>⟨h1,h2,h⟩⟩
  by_cases hny:n < ys.length
  ·have n4:((n:Int) < ys.length)=True:=eq_true (by omega)
   simp +contextual only [decide_true,gp4,Vf,un1,gps,iy.aO,iy.len (by omega),n4,ix.idx,iy.idx,ix.lens,iy.lens,zB,d3,s3,afl,sZ,Nat.reduceEqDiff,Nat.reduceAdd,Nat.reduceLT,Nat.reduceLeDiff,↓reduceIte,reduceCtorEq]
   have mx:=nx _ (aV (l:=xs) (i:=n) (by omega))
   have my:=ny _ (aV hny)
   have FL:qv c (xs.getD n 0) (ys.getD n 0):=Vi _ mx _ my (Mj.resolve_left (by omega))
   have Vh:∀ u qs,Sh c.O u (c.tm (xs.getD n 0)) (c.tm (ys.getD n 0))→mY (Sh c.O) qs (c.tm i) ((c.kd k).map c.tm)→Sh c.O (.mk 3 n [] (u::qs)) (c.tm i) (c.tm k):=by
    intro u qs hu hq
    rw [hS,hLS,if_neg (by omega)];exact ⟨u,qs,rfl,hu,hq⟩
   repeat' apply tg
   all_goals first | omega | skip
   all_goals
    refine af (FL _ (qD _).du) ?_
    rintro r G5 ⟨u,rfl,hu,hU5,hD5⟩
    replace Vh:=fun qs=>Vh u qs hu
    have Nc:=(qD _).call hD w hU5 hD5
    have gp5:=Nc.gp
    have GR:=fun es=>Nc.set (es':=es) hD w
    have gps6:=fun es=>(GR es).gp
    have gys6:=fun es=>(GR es).gy
    obtain ⟨u1,u2,u3,u4,u5,u6,u7,u8,u9⟩:=bf u
    have ap1:∀ ψ,bC 4 64 .ag (.al 0 [eT u]) ψ=ψ (eO ([]++[u])):=fun ψ=>Ew [] u (by simp) 0 ψ
    have ea:eO ([]++[u])=[eT u]:=rfl
    rw [ea] at ap1
    simp +contextual only [k2,ik.aO,ik.len (by omega),u1,u2,u6,kL,ap1,gp5,gps6,gys6,d3,s3,afl,sZ,Nat.reduceEqDiff,Nat.reduceAdd,Nat.reduceLT,↓reduceIte]
    refine mM (GQ hD w (l0:=[u]) (by simp) ik l2 (fun z hz=>hp z hz (hall0 z hz)) (GR _)) ?_
    rintro e1 e G6 ⟨rfl,f6,f10,qs,fU,pE⟩
    replace pE:PB c H x y i k [.int .i64 3,.int .i64 n,.ag,qt (u::qs)] G6:=pE
    have gp6:=pE.gp
    have g66:=pE.g6
    have lp:=Sf 3 n [] (u::qs)
    have tv0:vv []=AV.ag:=rfl
    rw [tv0] at lp
    have hs:Sh c.O (.mk 3 n [] (u::qs)) (c.tm i) (c.tm k):=Vh qs fU
    obtain ⟨q1,q2,q3,q4,q5,q6,q7,q8,q9⟩:=bf (.mk 3 n [] (u::qs))
    have lp2:=Ez (.mk 3 n [] (u::qs))
    have Nb:=Sx (a:=aa.cells (eT (.mk 3 n [] (u::qs))).cells) (aS g66)
    have QE:aw (H.length + 1) (eT (.mk 3 n [] (u::qs))).cells=true:=cG (gO _ _)
    have mI:=PB.fin (to:=[]) (l:=(u::qs)) hD pE hs
    simp +contextual only [f6,f10,gp6,g66,lp,q1,q2,q3,q9,Sj,Nb,lp2,QE,sZ,Nat.reduceEqDiff,Nat.reduceAdd,↓reduceIte,reduceCtorEq]
    first | exact mI | exact ⟨by omega,mI⟩ | exact ⟨trivial,mI⟩
  ·have n4:((n:Int) < ys.length)=False:=eq_false (by omega)
   have Vh:∀ qs,mY (Sh c.O) qs (c.tm i) ((c.kd k).map c.tm)→Sh c.O (.mk 3 n [] qs) (c.tm i) (c.tm k):=by
    intro qs hq
    rw [hS,hLS,if_pos (by have:=hn.lb;omega)];exact hq
   simp +contextual only [k2,ik.aO,ik.len (by omega),decide_false,gp4,Vf,un1,gps,gys,iy.aO,iy.len (by omega),n4,sZ,Nat.reduceEqDiff,Nat.reduceAdd,Nat.reduceLT,Nat.reduceLeDiff,↓reduceIte]
   refine mM (GQ hD w (l0:=[]) (by simp) ik l2 (fun z hz=>hp z hz (hall0 z hz)) (qD _)) ?_
   rintro e1 e G6 ⟨rfl,f6,f10,qs,fU,pE⟩
   replace pE:PB c H x y i k [.int .i64 3,.int .i64 n,.ag,qt qs] G6:=pE
   have gp6:=pE.gp
   have g66:=pE.g6
   have lp:=Sf 3 n [] qs
   have tv0:vv []=AV.ag:=rfl
   rw [tv0] at lp
   have hs:Sh c.O (.mk 3 n [] qs) (c.tm i) (c.tm k):=Vh qs fU
   obtain ⟨q1,q2,q3,q4,q5,q6,q7,q8,q9⟩:=bf (.mk 3 n [] qs)
   have lp2:=Ez (.mk 3 n [] qs)
   have Nb:=Sx (a:=aa.cells (eT (.mk 3 n [] qs)).cells) (aS g66)
   have QE:aw (H.length + 1) (eT (.mk 3 n [] qs)).cells=true:=cG (gO _ _)
   have mI:=PB.fin (to:=[]) (l:=qs) hD pE hs
   simp +contextual only [f6,f10,gp6,g66,lp,q1,q2,q3,q9,Sj,Nb,lp2,QE,sZ,Nat.reduceEqDiff,Nat.reduceAdd,↓reduceIte,reduceCtorEq]
   first | exact mI | exact ⟨by omega,mI⟩ | exact ⟨trivial,mI⟩
end Go.aI
end
