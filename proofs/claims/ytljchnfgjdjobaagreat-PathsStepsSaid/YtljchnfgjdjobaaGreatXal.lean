/- Part 12 of 17 of the proof. -/
import Derived.Test.YtljchnfgjdjobaaGreatXak
import Derived.Test.YtljchnfgjdjobaaGreatXag
import Derived.KernelRfl
set_option linter.unusedVariables false
set_option linter.unusedSimpArgs false
set_option linter.defProp false
set_option linter.unusedSectionVars false
section
set_option maxRecDepth 100000
namespace Go.aK
open Go Go.Proofs Go.fo
theorem Fb {O:Od} {p:PP} {a b:T} (h:Sh O p a b):a.k=2:=(rb.1 h).1
theorem Sh1 {O:Od} {p:PP} {a b:T} (hr:p.r=1) (ha:a.k=2):Sh O p a b↔p.to=[]∧(0≤p.i∧p.i < a.l.length)∧((p.l=[]∧E O (a.l.getD p.i.toNat default) b)∨∃ q,p.l=[q]∧Sh O q (a.l.getD p.i.toNat default) b):=by
 rw [rb,Fs];simp [hr,ha]
theorem Sh2 {O:Od} {p:PP} {a b:T} (hr:p.r=2) (ha:a.k=2):Sh O p a b↔p.to=[]∧p.i=0∧b.k=2∧O.pl b.n < O.pl a.n∧mH (Sh O) p.l a b.l:=by
 rw [rb,Fs];simp [hr,ha]
theorem Sh3 {O:Od} {p:PP} {a b:T} (hr:p.r=3) (ha:a.k=2):Sh O p a b↔p.to=[]∧b.k=2∧O.pl a.n=O.pl b.n∧O.sp (O.pl a.n)≠3∧E5 (E O) (Sh O) p.i p.l a (side (O.sp (O.pl a.n)) a.l) (side (O.sp (O.pl a.n)) b.l) b.l:=by
 rw [rb,Fs];simp [hr,ha]
theorem Sh4 {O:Od} {p:PP} {a b:T} (hr:p.r=4) (ha:a.k=2):Sh O p a b↔p.i=0∧b.k=2∧O.pl a.n=O.pl b.n∧O.sp (O.pl a.n)=3∧TU (E O) (Sh O) p.to p.l a.l b.l:=by
 rw [rb,Fs];simp [hr,ha]
theorem Sh0 {O:Od} {p:PP} {a b:T} (h1:p.r≠1) (h2:p.r≠2) (h3:p.r≠3) (h4:p.r≠4):¬ Sh O p a b:=by
 rw [rb,Fs];simp [h1,h2,h3,h4]
theorem slT (l:List Int) (n:Int) (h:0≤n∧n≤l.length) (φ:AV→Prop):bo 1 (.ak 0 (ints l)) none (some (.int .i64 n)) none φ=φ (.ak 0 (ints (l.take n.toNat))):=by
 have er:dG (AV.ak 0 (ints l))=some (ints l):=rfl
 have e2:((ints l).take n.toNat).drop 0=ints (l.take n.toNat):=by rw [List.drop_zero,mC]
 simp only [bo,ff,er,dV,e2,eq_iff_iff]
 constructor
 ·intro h;exact h.2.2.2.2
 ·intro h'
  refine ⟨fun own xs he z hz=>?_,by omega,by omega,by have:=au l;omega,h'⟩
  cases he
  obtain ⟨y,_,rfl⟩:=aaR.1 hz
  rfl
theorem abd (x:PP) (r:List PP) (φ:AV→Prop):bo 4 (.ak 0 (eI (x::r))) (some (.int .i64 1)) none none φ=φ (.ak 0 (eI r)):=by
 have er:dG (AV.ak 0 (eI (x::r)))=some (eI (x::r)):=rfl
 have e1:(1:Int).toNat=1:=rfl
 have e2:((eI (x::r)).take (eI (x::r)).length).drop 1=eI r:=by rw [aby];rfl
 simp only [bo,ff,er,dV,e1,e2,eq_iff_iff]
 constructor
 ·intro h;exact h.2.2.2.2
 ·intro h
  refine ⟨fun own xs he z hz=>of_eq_true (sN 0 (x::r)) own xs he z hz,by omega,by simp [eZ],sU _,h⟩
theorem pU {s:Int} {l:List Int} {x:Int}:x∈bI s l↔x∈l:=by unfold bI;split <;> simp
theorem abe {c:Cx} (hc:c.Ok) {p:PP} {i k:Int} (hi:c.ee i) (hk:c.ee k) (gh:∀ q∈p.l,∀ x y,c.ee x→c.ee y→jY c x y q) (By:p.r=1):jY c i k p:=by
 intro H hD
 refine zq.2.calls rfl ?_
 simp only [zq,aH]
 obtain ⟨p1,p2,p3,p4,p5,p6,p7,p8,p9⟩:=bb p
 have k2:∀ l,(bA l).ab=bA l:=fun l=>(aJ l).2.1
 have ki:=hc.kids i hi
 have kk:=hc.kids k hk
 have l1:=hc.kl i hi
 have l2:=hc.kl k hk
 obtain ⟨a1,a2,a3,a4,a5⟩:=aJ (c.kd i)
 obtain ⟨b1,b2,b3,b4,b5⟩:=aJ (c.kd k)
 have ii:IL (bA (c.kd i)) (c.kd i):=.inl rfl
 have ik:IL (bA (c.kd k)) (c.kd k):=.inl rfl
 have ei:(c.nd.getD i.toNat default).snd=c.kd i:=rfl
 have ek:(c.nd.getD k.toNat default).snd=c.kd k:=rfl
 obtain ⟨m1,m2,m3⟩:=hD.lt
 have oq:Du c (H++[.cells [bA (c.kd k)]]):=hD.sl _
 have fin:∀ G (b:Bool),Up c (H++[.cells [bA (c.kd k)]]) G→Du c G→(b=true↔Sh c.O p (c.tm i) (c.tm k))→bT H.length [.t 8] [(8,.bool b)] G (jl c (Sh c.O p (c.tm i) (c.tm k)) H):=by
  intro G b u d hb
  refine aP H.length (sU _) (by rw [ay,if_pos rfl];rfl) ?_
  rw [ay,if_pos rfl]
  exact ⟨b,rfl,hb,u.take,d.take m1 m2 m3⟩
 have fin0:¬ Sh c.O p (c.tm i) (c.tm k)→bT H.length [.t 8] [(8,.bool false)] (H++[.cells [bA (c.kd k)]]) (jl c (Sh c.O p (c.tm i) (c.tm k)) H):=
  fun h=>fin _ _ (Up.refl c _) oq ⟨fun h=>by simp at h,fun h'=>absurd h' h⟩
 have spv:∀ x:AV,ai [AV.ag] 0 [x]=[x]:=fun x=>rfl
 simp +contextual only [p1,hD.d,nM,FO,cP,cb,k2,ei,ek,b1,b3,b4,b5,List.map_cons,List.map_nil,spv,List.all_cons,List.all_nil,acX,bJ,cV,sZ,Nat.reduceEqDiff,Nat.reduceAdd,Nat.reduceLT,↓reduceIte,reduceCtorEq]
 refine ⟨hi,hk,af (qY hc hi oq) ?_⟩
 rintro r H2 ⟨rfl,rfl⟩
 cases hb:sY c i with
 | false=>
   have ki2:¬ (c.tm i).k=2:=of_decide_eq_false hb
   simp +contextual only [dN,gb,gf,gg,hb,Bool.not_false,sZ,Nat.reduceEqDiff,↓reduceIte,reduceCtorEq]
   exact fin0 fun h=>ki2 (Fb h)
 | true=>
 have ki2:(c.tm i).k=2:=of_decide_eq_true hb
 have kid:∀ (j:Int),(0≤j∧j < (c.kd i).length)→(c.tm i).l.getD j.toNat default=c.tm ((c.kd i).getD j.toNat 0):=fun j hj=>by rw [← ki.1,cA (by omega)]
 have klen:(c.tm i).l.length=(c.kd i).length:=by rw [← ki.1];simp
 have kn:∀ (j:Int),(0≤j∧j < (c.kd i).length)→c.ee ((c.kd i).getD j.toNat 0):=fun j hj=>ki.2 _ (aQ (by omega))
 have lvun:(AV.tuple [.int .i64 (dM c i),.bool (vL c i k)]).ab=.tuple [.int .i64 (dM c i),.bool (vL c i k)]:=rfl
 have hS:=Sh1 (O:=c.O) (b:=c.tm k) By ki2
 rw [klen] at hS
 simp +contextual only [dN,gb,gf,gg,hb,Bool.not_true,E7,Sd,By,not_true_eq_false,not_false_eq_true,decide_true,decide_false,au,sZ,Nat.reduceEqDiff,Nat.reduceAdd,↓reduceIte,reduceCtorEq,Int.reduceEq]
 refine fun _=>⟨fun h0=>?_,fun h0=>fin0 fun h=>?_⟩
 ·have C6:p.to=[]:=acy.1 (by omega)
  refine af (Hr hc hi hk oq) ?_
  rintro r H2 ⟨rfl,rfl⟩
  by_cases hI:0≤p.i∧p.i < (c.kd i).length
  ·have n1:(p.i < 0)=False:=eq_false (by omega)
   have n2:(((c.kd i).length:Int)≤p.i)=False:=eq_false (by omega)
   have hkn:=kn p.i hI
   rw [kid p.i hI] at hS
   by_cases hL:p.l.length≤1
   ·have n3:(1 < (p.l.length:Int))=False:=eq_false (by omega)
    by_cases hL0:p.l.length=0
    ·have n4:((p.l.length:Int)=0)=True:=eq_true (by omega)
     simp +contextual only [k2,ii.aN,ii.len (by omega),ii.lens,ii.idx,E7,FQ,NW,eZ,lvun,decide_true,decide_false,By,n1,n2,n3,n4,sZ,Nat.reduceEqDiff,Nat.reduceAdd,Nat.reduceLT,↓reduceIte,reduceCtorEq]
     refine fun _=>⟨hI,af (kU hc hkn hk _ oq) ?_⟩
     rintro r G ⟨x,rfl,hx,hU,kg⟩
     simp +contextual only [sZ,↓reduceIte,reduceCtorEq]
     refine fin G x hU kg ?_
     rw [hx,hS]
     have:p.l=[]:=acy.1 hL0
     simp [C6,hI,this]
    ·have n4:((p.l.length:Int)=0)=False:=eq_false (by omega)
     have hm:p.l.getD 0 default∈p.l:=eH (by omega)
     obtain ⟨q1,q2,q3,q4,q5,q6,q7,q8,q9⟩:=bb (p.l.getD 0 default)
     have t0:(0:Int).toNat=0:=rfl
     simp +contextual only [k2,ii.aN,ii.len (by omega),ii.lens,ii.idx,E7,FQ,NW,CK,sN,sO,eZ,lvun,decide_true,decide_false,By,n1,n2,n3,n4,t0,q4,sZ,Nat.reduceEqDiff,Nat.reduceAdd,Nat.reduceLT,↓reduceIte,reduceCtorEq]
     refine fun _=>⟨hI,⟨by omega,by omega⟩,af (gh _ hm _ _ hkn hk _ oq) ?_⟩
     rintro r G ⟨x,rfl,hx,hU,kg⟩
     simp +contextual only [sZ,↓reduceIte,reduceCtorEq]
     refine fin G x hU kg ?_
     rw [hx,hS]
     obtain ⟨q,hq⟩:∃ q,p.l=[q]:=List.length_eq_one_iff.1 (by omega)
     simp [C6,hI,hq]
   ·have n3:(1 < (p.l.length:Int))=True:=eq_true (by omega)
    simp +contextual only [k2,ii.aN,ii.len (by omega),E7,FQ,NW,eZ,lvun,decide_true,decide_false,By,n1,n2,n3,sZ,Nat.reduceEqDiff,Nat.reduceAdd,Nat.reduceLT,↓reduceIte,reduceCtorEq]
    refine fun _=>fin0 fun h=>?_
    rcases (hS.1 h).2.2 with h | ⟨q,h,_⟩
    ·rw [h.1] at hL;simp at hL
    ·rw [h] at hL;simp at hL
  ·by_cases hI0:p.i < 0
   ·simp +contextual only [E7,FQ,lvun,decide_true,By,hI0,sZ,Nat.reduceEqDiff,Nat.reduceAdd,Nat.reduceLT,↓reduceIte,reduceCtorEq]
    exact fin0 fun h=>hI (hS.1 h).2.1
   ·have n2:(((c.kd i).length:Int)≤p.i)=True:=eq_true (by omega)
    simp +contextual only [k2,ii.aN,ii.len (by omega),E7,FQ,lvun,decide_true,decide_false,By,hI0,n2,sZ,Nat.reduceEqDiff,Nat.reduceAdd,Nat.reduceLT,↓reduceIte,reduceCtorEq]
    exact fin0 fun h=>hI (hS.1 h).2.1
 ·rw [(hS.1 h).1] at h0;simp at h0
theorem abf {c:Cx} (hc:c.Ok) {p:PP} {i k:Int} (hi:c.ee i) (hk:c.ee k) (gh:∀ q∈p.l,∀ x y,c.ee x→c.ee y→jY c x y q) (tg:p.r=2):jY c i k p:=by
 intro H hD
 refine zq.2.calls rfl ?_
 simp only [zq,aH]
 obtain ⟨p1,p2,p3,p4,p5,p6,p7,p8,p9⟩:=bb p
 have k2:∀ l,(bA l).ab=bA l:=fun l=>(aJ l).2.1
 have ki:=hc.kids i hi
 have kk:=hc.kids k hk
 have l1:=hc.kl i hi
 have l2:=hc.kl k hk
 obtain ⟨a1,a2,a3,a4,a5⟩:=aJ (c.kd i)
 obtain ⟨b1,b2,b3,b4,b5⟩:=aJ (c.kd k)
 have ii:IL (bA (c.kd i)) (c.kd i):=.inl rfl
 have ik:IL (bA (c.kd k)) (c.kd k):=.inl rfl
 have ei:(c.nd.getD i.toNat default).snd=c.kd i:=rfl
 have ek:(c.nd.getD k.toNat default).snd=c.kd k:=rfl
 obtain ⟨m1,m2,m3⟩:=hD.lt
 have oq:Du c (H++[.cells [bA (c.kd k)]]):=hD.sl _
 have fin:∀ G (b:Bool),Up c (H++[.cells [bA (c.kd k)]]) G→Du c G→(b=true↔Sh c.O p (c.tm i) (c.tm k))→bT H.length [.t 8] [(8,.bool b)] G (jl c (Sh c.O p (c.tm i) (c.tm k)) H):=by
  intro G b u d hb
  refine aP H.length (sU _) (by rw [ay,if_pos rfl];rfl) ?_
  rw [ay,if_pos rfl]
  exact ⟨b,rfl,hb,u.take,d.take m1 m2 m3⟩
 have fin0:¬ Sh c.O p (c.tm i) (c.tm k)→bT H.length [.t 8] [(8,.bool false)] (H++[.cells [bA (c.kd k)]]) (jl c (Sh c.O p (c.tm i) (c.tm k)) H):=
  fun h=>fin _ _ (Up.refl c _) oq ⟨fun h=>by simp at h,fun h'=>absurd h' h⟩
 have spv:∀ x:AV,ai [AV.ag] 0 [x]=[x]:=fun x=>rfl
 simp +contextual only [p1,hD.d,nM,FO,cP,cb,k2,ei,ek,b1,b3,b4,b5,List.map_cons,List.map_nil,spv,List.all_cons,List.all_nil,acX,bJ,cV,sZ,Nat.reduceEqDiff,Nat.reduceAdd,Nat.reduceLT,↓reduceIte,reduceCtorEq]
 refine ⟨hi,hk,af (qY hc hi oq) ?_⟩
 rintro r H2 ⟨rfl,rfl⟩
 cases hb:sY c i with
 | false=>
   have ki2:¬ (c.tm i).k=2:=of_decide_eq_false hb
   simp +contextual only [dN,gb,gf,gg,hb,Bool.not_false,sZ,Nat.reduceEqDiff,↓reduceIte,reduceCtorEq]
   exact fin0 fun h=>ki2 (Fb h)
 | true=>
 have ki2:(c.tm i).k=2:=of_decide_eq_true hb
 have kid:∀ (j:Int),(0≤j∧j < (c.kd i).length)→(c.tm i).l.getD j.toNat default=c.tm ((c.kd i).getD j.toNat 0):=fun j hj=>by rw [← ki.1,cA (by omega)]
 have klen:(c.tm i).l.length=(c.kd i).length:=by rw [← ki.1];simp
 have kn:∀ (j:Int),(0≤j∧j < (c.kd i).length)→c.ee ((c.kd i).getD j.toNat 0):=fun j hj=>ki.2 _ (aQ (by omega))
 have lvun:(AV.tuple [.int .i64 (dM c i),.bool (vL c i k)]).ab=.tuple [.int .i64 (dM c i),.bool (vL c i k)]:=rfl
 have hS:=Sh2 (O:=c.O) (b:=c.tm k) tg ki2
 have e1:((2:Int)=1)=False:=by simp
 simp +contextual only [dN,gb,gf,gg,hb,Bool.not_true,E7,FQ,Sd,tg,not_true_eq_false,not_false_eq_true,decide_true,decide_false,au,sZ,Nat.reduceEqDiff,Nat.reduceAdd,↓reduceIte,reduceCtorEq,Int.reduceEq]
 have fAll:∀ (G:List aa) (Q:Prop) (b0:Bool),True:=fun _ _ _=>trivial
 have hAS:mH (Sh c.O) p.l (c.tm i) ((c.kd k).map c.tm)↔mH (Sh c.O) p.l (c.tm i) (c.tm k).l:=by rw [kk.1]
 refine fun _=>⟨fun h0=>⟨fun vP=>fin0 fun h=>vP (hS.1 h).2.1,fun vP=>?_⟩,fun h0=>fin0 fun h=>?_⟩
 ·have C6:p.to=[]:=acy.1 (by omega)
  refine af (Hr hc hi hk oq) ?_
  rintro r H2 ⟨rfl,rfl⟩
  simp +contextual only [E7,lvun,decide_true,decide_false,tg,e1,sZ,Nat.reduceEqDiff,Nat.reduceAdd,Nat.reduceLT,↓reduceIte]
  refine af (qY hc hi oq) ?_
  rintro r H2 ⟨rfl,rfl⟩
  simp +contextual only [dN,gb,gf,gg,sZ,Nat.reduceEqDiff,Nat.reduceAdd,↓reduceIte]
  refine af (qY hc hk oq) ?_
  rintro r H2 ⟨rfl,rfl⟩
  have opi:qX c i=c.O.pl (c.tm i).n:=by rw [qX,if_pos ki2]
  cases Hu:sY c k with
  | false=>
    have kk2:¬ (c.tm k).k=2:=of_decide_eq_false Hu
    simp +contextual only [dN,gb,gf,gg,Hu,sZ,Nat.reduceEqDiff,↓reduceIte,reduceCtorEq]
    exact fin0 fun h=>kk2 (hS.1 h).2.2.1
  | true=>
    have kk2:(c.tm k).k=2:=of_decide_eq_true Hu
    have opk:qX c k=c.O.pl (c.tm k).n:=by rw [qX,if_pos kk2]
    by_cases aG:qX c k < qX c i
    ·simp +contextual only [NW,decide_true,dN,gb,gf,gg,Hu,aG,sZ,Nat.reduceEqDiff,Nat.reduceAdd,↓reduceIte,reduceCtorEq]
     refine af (W5 ik (by omega) (q:=H.length) ⟨by omega,by omega⟩ (fun j h1 h2=>gh _ (eH h2) _ _ hi (kk.2 _ (aQ h1))) oq (by simp)) ?_
     rintro r G ⟨x,rfl,hx,hU,kg⟩
     simp +contextual only [sZ,Nat.reduceEqDiff,↓reduceIte,reduceCtorEq]
     refine fin G x hU kg ?_
     rw [hx,hS,hAS]
     rw [opi,opk] at aG
     simp [C6,vP,kk2,aG]
    ·simp +contextual only [decide_false,dN,gb,gf,gg,Hu,aG,sZ,Nat.reduceEqDiff,↓reduceIte,reduceCtorEq]
     refine fin0 fun h=>aG ?_
     rw [opi,opk]
     exact (hS.1 h).2.2.2.1
 ·rw [(hS.1 h).1] at h0;simp at h0
theorem abg {c:Cx} (hc:c.Ok) {p:PP} {i k:Int} (hi:c.ee i) (hk:c.ee k) (gh:∀ q∈p.l,∀ x y,c.ee x→c.ee y→jY c x y q) (Si:p.r=4):jY c i k p:=by
 intro H hD
 refine zq.2.calls rfl ?_
 simp only [zq,aH]
 obtain ⟨p1,p2,p3,p4,p5,p6,p7,p8,p9⟩:=bb p
 have k2:∀ l,(bA l).ab=bA l:=fun l=>(aJ l).2.1
 have ki:=hc.kids i hi
 have kk:=hc.kids k hk
 have l1:=hc.kl i hi
 have l2:=hc.kl k hk
 obtain ⟨a1,a2,a3,a4,a5⟩:=aJ (c.kd i)
 obtain ⟨b1,b2,b3,b4,b5⟩:=aJ (c.kd k)
 have ii:IL (bA (c.kd i)) (c.kd i):=.inl rfl
 have ik:IL (bA (c.kd k)) (c.kd k):=.inl rfl
 have ei:(c.nd.getD i.toNat default).snd=c.kd i:=rfl
 have ek:(c.nd.getD k.toNat default).snd=c.kd k:=rfl
 obtain ⟨m1,m2,m3⟩:=hD.lt
 have oq:Du c (H++[.cells [bA (c.kd k)]]):=hD.sl _
 have fin:∀ G (b:Bool),Up c (H++[.cells [bA (c.kd k)]]) G→Du c G→(b=true↔Sh c.O p (c.tm i) (c.tm k))→bT H.length [.t 8] [(8,.bool b)] G (jl c (Sh c.O p (c.tm i) (c.tm k)) H):=by
  intro G b u d hb
  refine aP H.length (sU _) (by rw [ay,if_pos rfl];rfl) ?_
  rw [ay,if_pos rfl]
  exact ⟨b,rfl,hb,u.take,d.take m1 m2 m3⟩
 have fin0:¬ Sh c.O p (c.tm i) (c.tm k)→bT H.length [.t 8] [(8,.bool false)] (H++[.cells [bA (c.kd k)]]) (jl c (Sh c.O p (c.tm i) (c.tm k)) H):=
  fun h=>fin _ _ (Up.refl c _) oq ⟨fun h=>by simp at h,fun h'=>absurd h' h⟩
 have spv:∀ x:AV,ai [AV.ag] 0 [x]=[x]:=fun x=>rfl
 simp +contextual only [p1,hD.d,nM,FO,cP,cb,k2,ei,ek,b1,b3,b4,b5,List.map_cons,List.map_nil,spv,List.all_cons,List.all_nil,acX,bJ,cV,sZ,Nat.reduceEqDiff,Nat.reduceAdd,Nat.reduceLT,↓reduceIte,reduceCtorEq]
 refine ⟨hi,hk,af (qY hc hi oq) ?_⟩
 rintro r H2 ⟨rfl,rfl⟩
 cases hb:sY c i with
 | false=>
   have ki2:¬ (c.tm i).k=2:=of_decide_eq_false hb
   simp +contextual only [dN,gb,gf,gg,hb,Bool.not_false,sZ,Nat.reduceEqDiff,↓reduceIte,reduceCtorEq]
   exact fin0 fun h=>ki2 (Fb h)
 | true=>
 have ki2:(c.tm i).k=2:=of_decide_eq_true hb
 have kid:∀ (j:Int),(0≤j∧j < (c.kd i).length)→(c.tm i).l.getD j.toNat default=c.tm ((c.kd i).getD j.toNat 0):=fun j hj=>by rw [← ki.1,cA (by omega)]
 have klen:(c.tm i).l.length=(c.kd i).length:=by rw [← ki.1];simp
 have kn:∀ (j:Int),(0≤j∧j < (c.kd i).length)→c.ee ((c.kd i).getD j.toNat 0):=fun j hj=>ki.2 _ (aQ (by omega))
 have lvun:(AV.tuple [.int .i64 (dM c i),.bool (vL c i k)]).ab=.tuple [.int .i64 (dM c i),.bool (vL c i k)]:=rfl
 have hS:=Sh4 (O:=c.O) (b:=c.tm k) Si ki2
 have e1:((4:Int)=1)=False:=by simp
 simp +contextual only [dN,gb,gf,gg,hb,Bool.not_true,E7,FQ,Si,not_true_eq_false,not_false_eq_true,decide_true,decide_false,sZ,Nat.reduceEqDiff,Nat.reduceAdd,↓reduceIte,reduceCtorEq,Int.reduceEq]
 refine ⟨fun vP=>fin0 fun h=>vP (hS.1 h).1,fun vP=>?_⟩
 refine af (Hr hc hi hk oq) ?_
 rintro r H2 ⟨rfl,rfl⟩
 have opi:qX c i=c.O.pl (c.tm i).n:=by rw [qX,if_pos ki2]
 have osi:dM c i=c.O.sp (c.O.pl (c.tm i).n):=by rw [dM,if_pos ki2]
 cases hl:vL c i k with
 | false=>
   simp +contextual only [E7,decide_true,decide_false,Si,e1,sZ,Nat.reduceEqDiff,Nat.reduceAdd,Nat.reduceLT,↓reduceIte,reduceCtorEq,Int.reduceEq]
   exact fin0 fun h=>by
    have:=hS.1 h
    rw [lC.2 ⟨ki2,this.2.1,this.2.2.1⟩] at hl
    cases hl
 | true=>
   have N1:=lC.1 hl
   by_cases CN:dM c i=3
   ·simp +contextual only [p4,k2,E7,sO,decide_true,decide_false,Si,e1,CN,sZ,Nat.reduceEqDiff,Nat.reduceAdd,Nat.reduceLT,↓reduceIte,reduceCtorEq,Int.reduceEq]
    refine af (afa ii ik (by omega) (by omega) p (fun x hx y hy=>kU hc (ki.2 x hx) (kk.2 y hy)) (fun x hx y hy q hq=>gh q hq _ _ (ki.2 x hx) (kk.2 y hy)) oq) ?_
    rintro r G ⟨x,rfl,hx,hU,kg⟩
    simp +contextual only [sZ,Nat.reduceEqDiff,↓reduceIte,reduceCtorEq]
    refine fin G x hU kg ?_
    rw [hx,hS,E9,ki.1,kk.1]
    rw [osi] at CN
    exact ⟨fun h=>⟨vP,N1.2.1,N1.2.2,CN,h⟩,fun h=>h.2.2.2.2⟩
   ·have KR:(dM c i=3)=False:=eq_false CN
    simp +contextual only [E7,decide_true,decide_false,Si,e1,KR,sZ,Nat.reduceEqDiff,Nat.reduceAdd,Nat.reduceLT,↓reduceIte,reduceCtorEq,Int.reduceEq]
    refine fin0 fun h=>CN ?_
    rw [osi];exact (hS.1 h).2.2.2.1
theorem abh {c:Cx} (hc:c.Ok) {p:PP} {i k:Int} (hi:c.ee i) (hk:c.ee k) (gh:∀ q∈p.l,∀ x y,c.ee x→c.ee y→jY c x y q) (By:p.r≠1) (tg:p.r≠2) (OZ:p.r≠3) (Si:p.r≠4):jY c i k p:=by
 intro H hD
 refine zq.2.calls rfl ?_
 simp only [zq,aH]
 obtain ⟨p1,p2,p3,p4,p5,p6,p7,p8,p9⟩:=bb p
 have k2:∀ l,(bA l).ab=bA l:=fun l=>(aJ l).2.1
 have ki:=hc.kids i hi
 have kk:=hc.kids k hk
 have l1:=hc.kl i hi
 have l2:=hc.kl k hk
 obtain ⟨a1,a2,a3,a4,a5⟩:=aJ (c.kd i)
 obtain ⟨b1,b2,b3,b4,b5⟩:=aJ (c.kd k)
 have ii:IL (bA (c.kd i)) (c.kd i):=.inl rfl
 have ik:IL (bA (c.kd k)) (c.kd k):=.inl rfl
 have ei:(c.nd.getD i.toNat default).snd=c.kd i:=rfl
 have ek:(c.nd.getD k.toNat default).snd=c.kd k:=rfl
 obtain ⟨m1,m2,m3⟩:=hD.lt
 have oq:Du c (H++[.cells [bA (c.kd k)]]):=hD.sl _
 have fin:∀ G (b:Bool),Up c (H++[.cells [bA (c.kd k)]]) G→Du c G→(b=true↔Sh c.O p (c.tm i) (c.tm k))→bT H.length [.t 8] [(8,.bool b)] G (jl c (Sh c.O p (c.tm i) (c.tm k)) H):=by
  intro G b u d hb
  refine aP H.length (sU _) (by rw [ay,if_pos rfl];rfl) ?_
  rw [ay,if_pos rfl]
  exact ⟨b,rfl,hb,u.take,d.take m1 m2 m3⟩
 have fin0:¬ Sh c.O p (c.tm i) (c.tm k)→bT H.length [.t 8] [(8,.bool false)] (H++[.cells [bA (c.kd k)]]) (jl c (Sh c.O p (c.tm i) (c.tm k)) H):=
  fun h=>fin _ _ (Up.refl c _) oq ⟨fun h=>by simp at h,fun h'=>absurd h' h⟩
 have spv:∀ x:AV,ai [AV.ag] 0 [x]=[x]:=fun x=>rfl
 simp +contextual only [p1,hD.d,nM,FO,cP,cb,k2,ei,ek,b1,b3,b4,b5,List.map_cons,List.map_nil,spv,List.all_cons,List.all_nil,acX,bJ,cV,sZ,Nat.reduceEqDiff,Nat.reduceAdd,Nat.reduceLT,↓reduceIte,reduceCtorEq]
 refine ⟨hi,hk,af (qY hc hi oq) ?_⟩
 rintro r H2 ⟨rfl,rfl⟩
 cases hb:sY c i with
 | false=>
   have ki2:¬ (c.tm i).k=2:=of_decide_eq_false hb
   simp +contextual only [dN,gb,gf,gg,hb,Bool.not_false,sZ,Nat.reduceEqDiff,↓reduceIte,reduceCtorEq]
   exact fin0 fun h=>ki2 (Fb h)
 | true=>
 have ki2:(c.tm i).k=2:=of_decide_eq_true hb
 have kid:∀ (j:Int),(0≤j∧j < (c.kd i).length)→(c.tm i).l.getD j.toNat default=c.tm ((c.kd i).getD j.toNat 0):=fun j hj=>by rw [← ki.1,cA (by omega)]
 have klen:(c.tm i).l.length=(c.kd i).length:=by rw [← ki.1];simp
 have kn:∀ (j:Int),(0≤j∧j < (c.kd i).length)→c.ee ((c.kd i).getD j.toNat 0):=fun j hj=>ki.2 _ (aQ (by omega))
 have lvun:(AV.tuple [.int .i64 (dM c i),.bool (vL c i k)]).ab=.tuple [.int .i64 (dM c i),.bool (vL c i k)]:=rfl
 have hS:=Sh0 (O:=c.O) (a:=c.tm i) (b:=c.tm k) By tg OZ Si
 simp +contextual only [dN,gb,gf,gg,hb,Bool.not_true,E7,FQ,Sd,By,OZ,Si,not_true_eq_false,not_false_eq_true,decide_true,decide_false,au,sZ,Nat.reduceEqDiff,Nat.reduceAdd,↓reduceIte,reduceCtorEq]
 refine fun _=>⟨fun h0=>⟨fun vP=>fin0 hS,fun vP=>?_⟩,fun h0=>fin0 hS⟩
 refine af (Hr hc hi hk oq) ?_
 rintro r H2 ⟨rfl,rfl⟩
 simp +contextual only [E7,lvun,decide_false,By,tg,OZ,Si,sZ,Nat.reduceEqDiff,Nat.reduceAdd,Nat.reduceLT,↓reduceIte,reduceCtorEq]
 exact fin0 hS
end Go.aK
end
section
set_option maxRecDepth 100000
namespace Go.aK
open Go Go.Proofs Go.fo
theorem abi {O:Od} {f:Int→T} {at':Int} {l:List PP} {a:T} {x y kd:List Int} {bl:List T} (hb:kd.map f=bl):E5 (E O) (Sh O) at' l a (x.map f) (y.map f) bl ↔
 (0≤at'∧at' < x.length∧at'≤y.length)∧(∀ j,j < at'.toNat→E O (f (x.getD j 0)) (f (y.getD j 0)))∧
 (if at'=y.length then mH (Sh O) l a (kd.map f) else ∃ q r,l=q::r∧Sh O q (f (x.getD at'.toNat 0)) (f (y.getD at'.toNat 0))∧mH (Sh O) r a (kd.map f)):=by
 unfold E5
 rw [hb]
 simp only [ac1]
 refine and_congr_right fun h=>?_
 have e:∀ j,j < at'.toNat→((x.map f).getD j default=f (x.getD j 0)∧(y.map f).getD j default=f (y.getD j 0)):=fun j hj=>⟨cA (by omega),cA (by omega)⟩
 refine and_congr ⟨fun k j hj=>?_,fun k j hj=>?_⟩ ?_
 ·have:=k j hj;rwa [(e j hj).1,(e j hj).2] at this
 ·rw [(e j hj).1,(e j hj).2];exact k j hj
 ·split
  ·exact Iff.rfl
  ·rw [cA (by omega),cA (by omega)]
theorem abj {c:Cx} (hc:c.Ok) {p:PP} {i k:Int} (hi:c.ee i) (hk:c.ee k) (gh:∀ q∈p.l,∀ x y,c.ee x→c.ee y→jY c x y q) (OZ:p.r=3):jY c i k p:=by
 intro H hD
 refine zq.2.calls rfl ?_
 simp only [zq,aH]
 obtain ⟨p1,p2,p3,p4,p5,p6,p7,p8,p9⟩:=bb p
 have k2:∀ l,(bA l).ab=bA l:=fun l=>(aJ l).2.1
 have ki:=hc.kids i hi
 have kk:=hc.kids k hk
 have l1:=hc.kl i hi
 have l2:=hc.kl k hk
 obtain ⟨a1,a2,a3,a4,a5⟩:=aJ (c.kd i)
 obtain ⟨b1,b2,b3,b4,b5⟩:=aJ (c.kd k)
 have ii:IL (bA (c.kd i)) (c.kd i):=.inl rfl
 have ik:IL (bA (c.kd k)) (c.kd k):=.inl rfl
 have ei:(c.nd.getD i.toNat default).snd=c.kd i:=rfl
 have ek:(c.nd.getD k.toNat default).snd=c.kd k:=rfl
 obtain ⟨m1,m2,m3⟩:=hD.lt
 have oq:Du c (H++[.cells [bA (c.kd k)]]):=hD.sl _
 have fin:∀ G (b:Bool),Up c (H++[.cells [bA (c.kd k)]]) G→Du c G→(b=true↔Sh c.O p (c.tm i) (c.tm k))→bT H.length [.t 8] [(8,.bool b)] G (jl c (Sh c.O p (c.tm i) (c.tm k)) H):=by
  intro G b u d hb
  refine aP H.length (sU _) (by rw [ay,if_pos rfl];rfl) ?_
  rw [ay,if_pos rfl]
  exact ⟨b,rfl,hb,u.take,d.take m1 m2 m3⟩
 have fin0:¬ Sh c.O p (c.tm i) (c.tm k)→bT H.length [.t 8] [(8,.bool false)] (H++[.cells [bA (c.kd k)]]) (jl c (Sh c.O p (c.tm i) (c.tm k)) H):=
  fun h=>fin _ _ (Up.refl c _) oq ⟨fun h=>by simp at h,fun h'=>absurd h' h⟩
 have spv:∀ x:AV,ai [AV.ag] 0 [x]=[x]:=fun x=>rfl
 simp +contextual only [p1,hD.d,nM,FO,cP,cb,k2,ei,ek,b1,b3,b4,b5,List.map_cons,List.map_nil,spv,List.all_cons,List.all_nil,acX,bJ,cV,sZ,Nat.reduceEqDiff,Nat.reduceAdd,Nat.reduceLT,↓reduceIte,reduceCtorEq]
 refine ⟨hi,hk,af (qY hc hi oq) ?_⟩
 rintro r H2 ⟨rfl,rfl⟩
 cases hb:sY c i with
 | false=>
   have ki2:¬ (c.tm i).k=2:=of_decide_eq_false hb
   simp +contextual only [dN,gb,gf,gg,hb,Bool.not_false,sZ,Nat.reduceEqDiff,↓reduceIte,reduceCtorEq]
   exact fin0 fun h=>ki2 (Fb h)
 | true=>
 have ki2:(c.tm i).k=2:=of_decide_eq_true hb
 have kid:∀ (j:Int),(0≤j∧j < (c.kd i).length)→(c.tm i).l.getD j.toNat default=c.tm ((c.kd i).getD j.toNat 0):=fun j hj=>by rw [← ki.1,cA (by omega)]
 have klen:(c.tm i).l.length=(c.kd i).length:=by rw [← ki.1];simp
 have kn:∀ (j:Int),(0≤j∧j < (c.kd i).length)→c.ee ((c.kd i).getD j.toNat 0):=fun j hj=>ki.2 _ (aQ (by omega))
 have lvun:(AV.tuple [.int .i64 (dM c i),.bool (vL c i k)]).ab=.tuple [.int .i64 (dM c i),.bool (vL c i k)]:=rfl
 have hS:=Sh3 (O:=c.O) (b:=c.tm k) OZ ki2
 have e1:((3:Int)=1)=False:=by simp
 simp +contextual only [dN,gb,gf,gg,hb,Bool.not_true,E7,Sd,OZ,not_true_eq_false,not_false_eq_true,decide_true,decide_false,au,sZ,Nat.reduceEqDiff,Nat.reduceAdd,↓reduceIte,reduceCtorEq,Int.reduceEq]
 refine fun _=>⟨fun h0=>?_,fun h0=>fin0 fun h=>?_⟩
 ·have C6:p.to=[]:=acy.1 (by omega)
  refine af (Hr hc hi hk oq) ?_
  rintro r H2 ⟨rfl,rfl⟩
  simp +contextual only [k2,E7,lvun,decide_true,decide_false,OZ,e1,sZ,Nat.reduceEqDiff,Nat.reduceAdd,Nat.reduceLT,↓reduceIte,Int.reduceEq]
  refine aF (KB (c.kd i) (dM c i) (by omega)) ?_
  simp +contextual only [k2,sZ,Nat.reduceEqDiff,Nat.reduceAdd,Nat.reduceLT,↓reduceIte]
  refine aF (KB (c.kd k) (dM c i) (by omega)) ?_
  have opi:qX c i=c.O.pl (c.tm i).n:=by rw [qX,if_pos ki2]
  have osi:dM c i=c.O.sp (c.O.pl (c.tm i).n):=by rw [dM,if_pos ki2]
  have hx:side (c.O.sp (c.O.pl (c.tm i).n)) (c.tm i).l=(bI (dM c i) (c.kd i)).map c.tm:=by rw [← osi,← ki.1,ku]
  have hy:side (c.O.sp (c.O.pl (c.tm i).n)) (c.tm k).l=(bI (dM c i) (c.kd k)).map c.tm:=by rw [← osi,← kk.1,ku]
  rw [hx,hy,abi (kd:=c.kd k) kk.1] at hS
  have lx:(bI (dM c i) (c.kd i)).length=(c.kd i).length:=kq
  have ly:(bI (dM c i) (c.kd k)).length=(c.kd k).length:=kq
  have nx:∀ z∈bI (dM c i) (c.kd i),c.ee z:=fun z hz=>ki.2 z (pU.1 hz)
  have ny:∀ z∈bI (dM c i) (c.kd k),c.ee z:=fun z hz=>kk.2 z (pU.1 hz)
  generalize bI (dM c i) (c.kd i)=x at *
  generalize bI (dM c i) (c.kd k)=y at *
  have ix:IL (.ak 0 (ints x)) x:=.inr rfl
  have iy:IL (.ak 0 (ints y)) y:=.inr rfl
  cases hl:vL c i k with
  | false=>
    simp +contextual only [Bool.not_false,sZ,Nat.reduceEqDiff,↓reduceIte,reduceCtorEq]
    exact fin0 fun h=>by
     have:=hS.1 h
     rw [lC.2 ⟨ki2,this.2.1,this.2.2.1⟩] at hl
     cases hl
  | true=>
  have N1:=lC.1 hl
  by_cases CN:dM c i=3
  ·have afc:(dM c i=3)=True:=eq_true CN
   simp +contextual only [decide_true,Bool.not_true,afc,sZ,Nat.reduceEqDiff,↓reduceIte,reduceCtorEq]
   refine fin0 fun h=>(hS.1 h).2.2.2.1 ?_
   rw [← osi];exact CN
  ·have KR:(dM c i=3)=False:=eq_false CN
   have lvun':True:=trivial
   by_cases hI:0≤p.i∧p.i < x.length∧p.i≤y.length
   ·have n1:(p.i < 0)=False:=eq_false (by omega)
    have n2:((x.length:Int)≤p.i)=False:=eq_false (by omega)
    have n3:((y.length:Int) < p.i)=False:=eq_false (by omega)
    simp +contextual only [Option.map_some,Option.map_none,FQ,decide_false,Bool.not_true,KR,n1,n2,n3,ix.aN,iy.aN,ix.x9,iy.x9,slT x p.i ⟨hI.1,by omega⟩,slT y p.i ⟨hI.1,by omega⟩,sZ,Nat.reduceEqDiff,Nat.reduceAdd,↓reduceIte,reduceCtorEq]
    refine af (aaM (SD.Cv c _) (.inr rfl:IL (.ak 0 (ints (x.take p.i.toNat))) (x.take p.i.toNat)) (.inr rfl:IL (.ak 0 (ints (y.take p.i.toNat))) (y.take p.i.toNat)) (by rw [acJ];omega) (by rw [acJ];omega) 79 [.ptr c.d 0] [] rfl rfl (Q:=fun x y=>E c.O (c.tm x) (c.tm y))
     (fun u hu v hv G hG=>(kU hc (nx u (ac2 hu)) (ny v (ac2 hv)) G hG.1).mono fun r H' hr=>hr.sb hG) ⟨oq,Up.refl c _⟩) ?_
    rintro r G ⟨z,rfl,hz,hG⟩
    have FP:z=true↔∀ j,j < p.i.toNat→E c.O (c.tm (x.getD j 0)) (c.tm (y.getD j 0)):=by
     rw [hz]
     have lt1:(x.take p.i.toNat).length=p.i.toNat:=by rw [acJ];omega
     have lt2:(y.take p.i.toNat).length=p.i.toNat:=by rw [acJ];omega
     rw [lt1,lt2]
     have et:∀ (l:List Int) j,j < p.i.toNat→(l.take p.i.toNat).getD j 0=l.getD j 0:=fun l j hj=>by simp [sT,hj]
     constructor
     ·rintro ⟨_,h⟩ j hj;have:=h j hj;rwa [et _ _ hj,et _ _ hj] at this
     ·intro h;exact ⟨rfl,fun j hj=>by rw [et _ _ hj,et _ _ hj];exact h j hj⟩
    have finG:∀ G' (b:Bool),Up c G G'→Du c G'→(b=true↔Sh c.O p (c.tm i) (c.tm k))→bT H.length [.t 8] [(8,.bool b)] G' (jl c (Sh c.O p (c.tm i) (c.tm k)) H):=fun G' b u d hb=>fin G' b (hG.2.trans u) d hb
    have finG0:¬ Sh c.O p (c.tm i) (c.tm k)→bT H.length [.t 8] [(8,.bool false)] G (jl c (Sh c.O p (c.tm i) (c.tm k)) H):=
     fun h=>finG _ _ (Up.refl c _) hG.1 ⟨fun h=>by simp at h,fun h'=>absurd h' h⟩
    have gq:G[H.length]?=some (.cells [bA (c.kd k)]):=by rw [hG.2.get H.length (by omega) (by omega)];simp
    cases z with
    | false=>
      simp +contextual only [Bool.not_false,sZ,Nat.reduceEqDiff,↓reduceIte,reduceCtorEq]
      exact finG0 fun h=>absurd (FP.2 (hS.1 h).2.2.2.2.2.1) (by simp)
    | true=>
      have hz1:=FP.1 rfl
      by_cases he:p.i=y.length
      ·have n4:(p.i=(y.length:Int))=True:=eq_true he
       simp +contextual only [FQ,NW,decide_true,Bool.not_true,iy.len (by omega),iy.aN,n4,sZ,Nat.reduceEqDiff,Nat.reduceAdd,↓reduceIte,reduceCtorEq]
       refine af (W5 ik (by omega) (q:=H.length) ⟨by omega,by omega⟩ (fun j h1 h2=>gh _ (eH h2) _ _ hi (kk.2 _ (aQ h1))) hG.1 gq) ?_
       rintro r G' ⟨w,rfl,hw,hU,kg⟩
       simp +contextual only [sZ,↓reduceIte,reduceCtorEq]
       refine finG G' w hU kg ?_
       rw [hw,hS]
       rw [if_pos he]
       rw [osi] at CN
       exact ⟨fun h=>⟨C6,N1.2.1,N1.2.2,CN,hI,hz1,h⟩,fun h=>h.2.2.2.2.2.2⟩
      ·have n4:(p.i=(y.length:Int))=False:=eq_false he
       rw [if_neg he] at hS
       cases vM:p.l with
       | nil=>
         have n5:(0 < ((0:Nat):Int))=False:=eq_false (by simp)
         simp +contextual only [FQ,NW,eZ,decide_false,Bool.not_true,iy.len (by omega),iy.aN,n4,vM,mq,n5,sZ,Nat.reduceEqDiff,↓reduceIte,reduceCtorEq]
         exact finG0 fun h=>by
          obtain ⟨q,r,e,_⟩:=(hS.1 h).2.2.2.2.2.2
          rw [vM] at e;cases e
       | cons q r=>
         have n5:(0 < ((r.length + 1:Nat):Int))=True:=eq_true (by omega)
         have n6:(q::r).getD (0:Int).toNat default=q:=rfl
         obtain ⟨q1,q2,q3,q4,q5,q6,q7,q8,q9⟩:=bb q
         simp only [vM] at hS gh
         simp +contextual only [FQ,NW,CK,sN,sO,eZ,decide_true,decide_false,Bool.not_true,iy.len (by omega),iy.aN,n4,vM,mq,n5,n6,ix.idx,iy.idx,ix.lens,iy.lens,q4,sZ,Nat.reduceEqDiff,Nat.reduceAdd,↓reduceIte,reduceCtorEq]
         refine ⟨by omega,by omega,by omega,af (gh q abn _ _ (nx _ (aQ (by omega))) (ny _ (aQ (by omega))) G hG.1) ?_⟩
         rintro r' G2 ⟨w,rfl,hw,hU,C5⟩
         cases w with
         | false=>
           simp +contextual only [sZ,Nat.reduceEqDiff,↓reduceIte,reduceCtorEq]
           refine finG G2 false hU C5 ⟨fun h=>by simp at h,fun h=>?_⟩
           obtain ⟨q',r',e,h',_⟩:=(hS.1 h).2.2.2.2.2.2
           cases e
           exact hw.2 h'
         | true=>
           have gq2:G2[H.length]?=some (.cells [bA (c.kd k)]):=by rw [hU.get H.length (by omega) (by omega),gq]
           simp +contextual only [Option.map_some,Option.map_none,NW,abd,vM,sZ,Nat.reduceEqDiff,Nat.reduceAdd,↓reduceIte,reduceCtorEq]
           refine af (W5 ik (by omega) (q:=H.length) ⟨by omega,by omega⟩ (fun j h1 h2=>gh _ (aa6 _ (eH h2)) _ _ hi (kk.2 _ (aQ h1))) C5 gq2) ?_
           rintro r' G3 ⟨v,rfl,hv,hU3,NJ⟩
           simp +contextual only [sZ,Nat.reduceEqDiff,↓reduceIte,reduceCtorEq]
           refine finG G3 v (hU.trans hU3) NJ ?_
           rw [hv,hS]
           rw [osi] at CN
           constructor
           ·exact fun h=>⟨C6,N1.2.1,N1.2.2,CN,hI,hz1,q,r,rfl,hw.1 rfl,h⟩
           ·rintro ⟨_,_,_,_,_,_,q',r',e,_,h⟩
            cases e
            exact h
   ·have bad:¬ Sh c.O p (c.tm i) (c.tm k):=fun h=>hI (hS.1 h).2.2.2.2.1
    by_cases m1':p.i < 0
    ·have n1:(p.i < 0)=True:=eq_true m1'
     simp +contextual only [FQ,decide_true,decide_false,Bool.not_true,KR,n1,sZ,Nat.reduceEqDiff,↓reduceIte,reduceCtorEq]
     exact fin0 bad
    ·have n1:(p.i < 0)=False:=eq_false m1'
     by_cases m2':(x.length:Int)≤p.i
     ·have n2:((x.length:Int)≤p.i)=True:=eq_true m2'
      simp +contextual only [FQ,decide_true,decide_false,Bool.not_true,KR,n1,n2,ix.aN,ix.x9,sZ,Nat.reduceEqDiff,↓reduceIte,reduceCtorEq]
      exact fin0 bad
     ·have n2:((x.length:Int)≤p.i)=False:=eq_false m2'
      have n3:((y.length:Int) < p.i)=True:=eq_true (by omega)
      simp +contextual only [FQ,decide_true,decide_false,Bool.not_true,KR,n1,n2,n3,ix.aN,iy.aN,ix.x9,iy.x9,sZ,Nat.reduceEqDiff,↓reduceIte,reduceCtorEq]
      exact fin0 bad
 ·rw [(hS.1 h).1] at h0;simp at h0
end Go.aK
end
section
set_option maxRecDepth 100000
namespace Go.aK
open Go Go.Proofs Go.fo
theorem c87 {c:Cx} (hc:c.Ok):∀ (N:Nat) (p:PP) (i k:Int),pz p≤N→c.ee i→c.ee k→jY c i k p:=by
 intro N
 induction N with
 | zero=>intro p i k h;have:=CH p;omega
 | succ N ih=>
 intro p i k hN hi hk
 have gh:∀ q∈p.l,∀ x y,c.ee x→c.ee y→jY c x y q:=fun q hq x y hx hy=>ih q x y (by have:=CJ hq;omega) hx hy
 by_cases h1:p.r=1
 ·exact abe hc hi hk gh h1
 by_cases h2:p.r=2
 ·exact abf hc hi hk gh h2
 by_cases h3:p.r=3
 ·exact abj hc hi hk gh h3
 by_cases h4:p.r=4
 ·exact abg hc hi hk gh h4
 exact abh hc hi hk gh h1 h2 h3 h4
theorem W6 {c:Cx} (hc:c.Ok) {p:PP} {i k:Int} (hi:c.ee i) (hk:c.ee k):jY c i k p:=c87 hc _ p i k (sU _) hi hk
open Classical in
noncomputable def Fc (s:Sg) (ps ss:List Int) (a b:T) (p:PP):Int:=if gV s ps ss [a,b]=0 then (if Sh (jy ps ss) p a b then 0 else 61) else gV s ps ss [a,b]
theorem c28 (s:Sg) (ps ss:List Int) (a b:T) (p:PP):Pure Tryz.prog 28 [s.av,eT ps ss,a.av,b.av,eJ p] (.int .i64 (Fc s ps ss a b p)):=by
 refine fun H=>k28.2.calls rfl ?_
 simp only [k28,aH]
 obtain ⟨q1,q2,q3,q4,q5,q6⟩:=bt ps ss
 obtain ⟨p1,p2,p3,p4,p5,p6,p7,p8,p9⟩:=bb p
 simp +contextual only [aC,q1,q4,p1,cQ,sZ,Nat.reduceEqDiff,Nat.reduceAdd,↓reduceIte,reduceCtorEq]
 refine ae (c74 s ps ss [a,b]) ?_
 by_cases h0:gV s ps ss [a,b]=0
 ·have hr:=sJ h0
  have hw:=nP hr.tree
  have hc:=hr.cx (by simp) (by simp) H.length
  have hd:=AQ ps ss (ts:=[a,b]) (by simp) H
  simp +contextual only [q4,cQ,h0,sZ,Nat.reduceEqDiff,Nat.reduceAdd,↓reduceIte]
  refine af (c75 ps ss [a,b] H (by simp at hw;omega)) ?_
  rintro r G ⟨rfl,rfl⟩
  have a0:=vn (ps:=ps) (ss:=ss) (ts:=[a,b]) (n:=H.length) (j:=0) (by simp)
  have a1:=vn (ps:=ps) (ss:=ss) (ts:=[a,b]) (n:=H.length) (j:=1) (by simp)
  have hl:=cN [a,b] 0
  rw [Sb]
  generalize aZ [a,b] 0=ks at a0 a1 hl ⊢
  have lY:ks.length=2:=hl
  simp +contextual only [cR,lY,dQ,sO,p4,sZ,Nat.reduceEqDiff,Nat.reduceAdd,Nat.reduceLT,↓reduceIte,reduceCtorEq]
  refine ⟨by decide,by decide,af (W6 hc a0.1 a1.1 _ hd) ?_⟩
  rintro r G ⟨x,rfl,hx,hU,hD⟩
  rw [a0.2,a1.2] at hx
  have yH:x=true↔Sh (jy ps ss) p a b:=hx
  have abk:=hU.low (by simp [ic]) (by simp [ic])
  cases x with
  | true=>
    simp +contextual only [Bool.not_true,sZ,↓reduceIte,reduceCtorEq]
    exact xH abk rfl rfl ⟨by rw [Fc,if_pos h0,if_pos (yH.1 rfl)],rfl⟩
  | false=>
    simp +contextual only [Bool.not_false,sZ,↓reduceIte,reduceCtorEq]
    exact xH abk rfl rfl ⟨by rw [Fc,if_pos h0,if_neg (fun h=>absurd (yH.2 h) (by simp))],rfl⟩
 ·simp +contextual only [h0,sZ,Nat.reduceEqDiff,↓reduceIte,reduceCtorEq]
  exact aS rfl (by rw [Fc,if_neg h0])
end Go.aK
end
section
set_option maxRecDepth 100000
set_option maxHeartbeats 0
namespace Go.aK
open Go Go.Proofs
noncomputable def Fe:=aH Tryz.call86 Tryz.func86 Tryz.ntmps86 [(0,0,1),(0,1,1),(3,6,2000),(8,2,2000),(9,7,2000),(10,7,2000),(10,8,1),(10,10,1),(13,3,2000),(16,3,1000),(19,3,2000),(20,9,2000),(21,1,1),(21,6,1),(21,11,1),(21,13,1),(27,3,2000),(29,1,1),(29,13,2000),(29,17,1),(33,1,1),(33,5,2000),(33,9,1)] [(0,[1,3,5,6]),(1,[1,3,5,6,7,8]),(2,[1,3,5,6,7,8,9]),(3,[1,3,5,6,7,8,9,47]),(4,[1,3,5,6,7,8,9]),(5,[1,3,5,6,7,8,9,10]),(6,[1,3,5,6,7,8,10,52]),(7,[1,3,5,6,7,8,10,52,53]),(8,[3,5,6,7,10]),(9,[3,5,6,7,10,67]),(10,[6,10]),(11,[6]),(12,[1,3,6,7,8,10,52,79]),(13,[3,6,7,8,10,11,13]),(14,[3,6,7,8,10,11,89,90,91]),(15,[3,6,7,8,10,11,89,90,91,92]),(16,[3,6,7,8,10,11,14,15,89,90,91]),(17,[3,6,7,8,10,11,14,15,16,89,90,91]),(18,[3,6,7,8,10,11,14,15,16,89,90,91,97]),(19,[3,6,7,8,10,11,14,15,16,89,90,91]),(20,[3,6,7,8,10,11,15,16,89,90,91]),(21,[3,6,7,8,10,11,89,90,91]),(22,[3,6,7,8,10,11,89,90,91]),(23,[6]),(24,[1,3,6,7,8,10,128]),(25,[1,3,6,7,8,10,18]),(26,[1,3,6,8,10,20,21]),(27,[1,3,6,8,10,20,21]),(28,[1,3,6,8,10,20,21,152]),(29,[1,3,6,8,10]),(30,[1,3,6,10,170,171,172]),(31,[1,3,6,10,170,171,172,173]),(32,[1,3,6,10,23,170,171,172]),(33,[1,3,6,10,170,171,172]),(34,[1,3,6,10,170,171,172]),(35,[6])] [(1,(.take 0 true (.take 1 true (.take 2 true (.take 3 true (.take 4 true (.take 5 true (.take 6 true (.take 7 true (.take 8 false (.take 9 false (.take 10 false (.take 12 false (.br 11 (.take 13 false (.take 14 false (.take 15 false (.br 16 (.br 17 (.br 18 (.br 19 .done .nil) .nil) .nil) (.br 17 (.br 16 (.br 18 (.br 19 .done .nil) .nil) .nil) .nil))))) (.br 16 (.br 11 (.take 13 false (.take 14 false (.take 15 false (.br 17 (.br 18 (.br 19 .done .nil) .nil) .nil)))) (.br 17 (.br 11 (.take 13 false (.take 14 false (.take 15 false (.br 18 (.br 19 .done .nil) .nil)))) (.br 18 (.take 11 true (.take 13 true (.take 14 true (.take 15 true (.br 19 .done .nil))))) .nil)) .nil)) (.br 17 (.br 11 (.take 13 false (.take 14 false (.take 15 false (.br 16 (.br 18 (.br 19 .done .nil) .nil) .nil)))) (.br 16 (.br 11 (.take 13 false (.take 14 false (.take 15 false (.br 18 (.br 19 .done .nil) .nil)))) (.br 18 (.take 11 true (.take 13 true (.take 14 true (.take 15 true (.br 19 .done .nil))))) .nil)) .nil)) .nil)))))))))))))))),(3,(.take 0 true (.take 1 true (.take 2 true (.take 3 true (.take 4 true (.take 5 true (.br 6 (.take 7 true .done) .nil)))))))),(9,(.take 0 true (.take 1 true (.take 2 true (.take 3 true (.take 4 true (.take 5 true (.take 6 true (.br 7 (.take 8 true .done) .nil))))))))),(10,(.take 0 true (.take 1 true (.take 2 true (.take 3 true (.take 4 true (.take 5 true (.take 6 true (.br 7 (.take 8 true (.take 9 true (.br 10 .done .nil))) .nil))))))))),(20,(.take 0 true (.take 1 true (.take 2 true (.take 3 true (.take 4 true (.take 5 true (.take 6 true (.take 7 true (.take 8 true (.br 9 (.br 10 .done .nil) .nil))))))))))),(21,(.take 0 false (.take 2 false (.take 3 false (.take 5 false (.br 1 (.br 4 (.br 6 (.take 7 true (.take 8 true (.take 10 true (.br 9 (.br 11 (.take 12 true (.br 13 .done .nil)) .nil) .nil)))) (.br 7 (.take 8 false (.br 6 (.take 10 true (.br 9 (.br 11 (.take 12 true (.br 13 .done .nil)) .nil) .nil)) .nil)) .nil)) (.br 6 (.take 7 true (.take 8 true (.br 4 (.take 10 true (.br 9 (.br 11 (.take 12 true (.br 13 .done .nil)) .nil) .nil)) .nil))) (.br 7 (.take 8 false (.br 4 (.br 6 (.take 10 true (.br 9 (.br 11 (.take 12 true (.br 13 .done .nil)) .nil) .nil)) .nil) (.br 6 (.br 4 (.take 10 true (.br 9 (.br 11 (.take 12 true (.br 13 .done .nil)) .nil) .nil)) .nil) .nil))) .nil))) (.br 6 (.br 1 (.take 7 true (.take 8 true (.br 4 (.take 10 true (.br 9 (.br 11 (.take 12 true (.br 13 .done .nil)) .nil) .nil)) .nil))) (.br 7 (.take 8 false (.br 1 (.br 4 (.take 10 true (.br 9 (.br 11 (.take 12 true (.br 13 .done .nil)) .nil) .nil)) .nil) .nil)) .nil)) (.br 7 (.take 8 false (.br 1 (.br 4 (.br 6 (.take 10 true (.br 9 (.br 11 (.take 12 true (.br 13 .done .nil)) .nil) .nil)) .nil) (.br 6 (.br 4 (.take 10 true (.br 9 (.br 11 (.take 12 true (.br 13 .done .nil)) .nil) .nil)) .nil) .nil)) (.br 6 (.br 1 (.br 4 (.take 10 true (.br 9 (.br 11 (.take 12 true (.br 13 .done .nil)) .nil) .nil)) .nil) .nil) .nil))) .nil)))))))),(26,(.take 0 true (.take 1 true (.take 2 true (.take 3 true (.take 4 true (.take 5 true (.take 6 true (.take 7 true .done))))))))),(29,(.take 0 false (.take 2 false (.take 3 false (.take 4 false (.take 8 false (.take 9 false (.br 1 (.take 5 true (.take 6 true (.take 7 true (.take 10 true (.take 11 true (.take 12 true (.br 13 (.take 14 true (.br 15 (.take 16 true (.br 17 .done .nil)) .nil)) .nil))))))) (.br 5 (.take 6 false (.take 7 false (.br 1 (.take 10 true (.take 11 true (.take 12 true (.br 13 (.take 14 true (.br 15 (.take 16 true (.br 17 .done .nil)) .nil)) .nil)))) (.br 10 (.take 11 false (.take 12 false (.br 1 (.br 13 (.take 14 true (.br 15 (.take 16 true (.br 17 .done .nil)) .nil)) .nil) (.br 13 (.take 14 false (.br 1 (.br 15 (.take 16 true (.br 17 .done .nil)) .nil) .nil)) .nil)))) .nil)))) (.br 10 (.take 11 false (.take 12 false (.br 1 (.take 5 true (.take 6 true (.take 7 true (.br 13 (.take 14 true (.br 15 (.take 16 true (.br 17 .done .nil)) .nil)) .nil)))) (.br 5 (.take 6 false (.take 7 false (.br 1 (.br 13 (.take 14 true (.br 15 (.take 16 true (.br 17 .done .nil)) .nil)) .nil) (.br 13 (.take 14 false (.br 1 (.br 15 (.take 16 true (.br 17 .done .nil)) .nil) .nil)) .nil)))) .nil)))) .nil)))))))))),(33,(.take 0 false (.take 2 false (.take 3 false (.take 4 false (.br 1 (.br 5 (.take 6 true (.br 7 (.take 8 true (.br 9 .done .nil)) .nil)) .nil) (.br 5 (.take 6 false (.br 1 (.br 7 (.take 8 true (.br 9 .done .nil)) .nil) .nil)) .nil)))))))]
end Go.aK
end
section
set_option maxRecDepth 100000
namespace Go.aK
open Go Go.Proofs Go.fo
def qc (l:List PP):AV:=match l with | []=>.ag | _::_=>.ak 4 (eI l)
def vr (l:List Int):AV:=match l with | []=>.ag | _::_=>.ak 1 (ints l)
theorem jf (l:List PP):(qc l).val=true∧(qc l).cells=[qc l]∧(qc l).one=true∧(∀ n,(qc l).aW n=true)∧(qc l).drop=.ak 0 (eI l)∧∀ n,(qc l).ab.aW n=true:=by
 cases l with
 | nil=>exact ⟨rfl,rfl,rfl,fun _=>rfl,rfl,fun _=>rfl⟩
 | cons x r=>exact ⟨rfl,rfl,rfl,fun n=>by rw [qc,bZ];exact jz _ _,rfl,fun n=>by rw [qc,xy,bZ];exact jz _ _⟩
theorem mJ (l:List Int):(vr l).val=true∧(vr l).cells=[vr l]∧(vr l).one=true∧(∀ n,(vr l).aW n=true)∧(vr l).drop=.ak 0 (ints l)∧∀ n,(vr l).ab.aW n=true:=by
 cases l with
 | nil=>exact ⟨rfl,rfl,rfl,fun _=>rfl,rfl,fun _=>rfl⟩
 | cons x r=>exact ⟨rfl,rfl,rfl,fun n=>by rw [vr,bZ];exact aT _ _,rfl,fun n=>by rw [vr,xy,bZ];exact aT _ _⟩
theorem N2 (a b:List PP):eI (a++b)=eI a++eI b:=by simp [mI]
theorem Ff (l:List PP) (q:PP) (h:l.length < 1000000000) (o:Nat) (ψ:List AV→Prop):bp 4 64 (qc l) (.ak o [eJ q]) ψ=ψ (eI (l++[q])):=by
 have jo:sV 4 [eJ q]:=of_eq_true (W3 [q])
 rw [N2]
 cases l with
 | nil=>rw [qc,ln];simp [jo,eI]
 | cons x r=>
   rw [qc,kM,eZ]
   have e:eI [q]=[eJ q]:=rfl
   rw [e]
   simp only [jo,List.length_cons,List.length_nil,true_and,eq_iff_iff]
   simp only [List.length_cons] at h
   exact ⟨fun h=>h.2,fun k=>⟨by omega,k⟩⟩
theorem TX (l:List Int) (q:Int) (h:l.length < 1000000000) (o:Nat) (ψ:List AV→Prop):bp 1 8 (vr l) (.ak o [.int .i64 q]) ψ=ψ (ints (l++[q])):=by
 have jo:sV 1 [AV.int .i64 q]:=of_eq_true (lr [q])
 have e:ints [q]=[AV.int .i64 q]:=rfl
 cases l with
 | nil=>rw [vr,ln];simp [jo,ints]
 | cons x r=>
   rw [vr,kM,au,← mD,e]
   simp only [jo,List.length_cons,List.length_nil,true_and,eq_iff_iff]
   simp only [List.length_cons] at h
   exact ⟨fun h=>h.2,fun k=>⟨by omega,k⟩⟩
theorem kv (q:PP):aR (eJ q)=eJ q:=by rw [pi];rfl
theorem sP (l:List PP) (q:PP):AV.ak 4 (eI (l++[q]))=qc (l++[q]):=by cases l <;> rfl
theorem Fg (l:List Int) (q:Int):AV.ak 1 (ints (l++[q]))=vr (l++[q]):=by cases l <;> rfl
theorem d3 {α:Type} (x y z u d:α) (r:List α):(x::y::z::u::r).getD 3 d=u:=by simp
theorem s3 {α:Type} (x y z w u:α) (r:List α):(x::y::z::w::r).set 3 u=x::y::z::u::r:=by simp
theorem W7 (a b c d y:AV):ai [a,b,c,d] 1 [y]=[a,y,c,d]:=by simp [ai]
theorem KS (a b c d x y z u:AV):ai [a,b,c,d] 0 [x,y,z,u]=[x,y,z,u]:=by simp [ai]
theorem TY (r i:Int) (to:List Int) (l:List PP) (φ:AV→Prop):cw (some (.cells [.int .i64 r,.int .i64 i,vr to,qc l])) (some 4) 0 φ=φ (eJ (.mk r i to l)):=by
 have e:List.map AV.drop [AV.int .i64 r,.int .i64 i,vr to,qc l]=[.int .i64 r,.int .i64 i,.ak 0 (ints to),.ak 0 (eI l)]:=by
  simp only [List.map_cons,List.map_nil,(jf l).2.2.2.2.1,(mJ to).2.2.2.2.1];rfl
 simp only [cw,List.drop_zero,List.length_cons,List.length_nil,List.take_succ_cons,List.take_zero,e,eJ]
 simp
def abl (c:Cx) (i k:Int) (H:List aa) (r:AV) (H':List aa):Prop:=∃ p,r=eJ p∧Sh c.O p (c.tm i) (c.tm k)∧Up c H H'∧Du c H'
def qd (c:Cx) (i k:Int):Prop:=∀ H,Du c H→aw Tryz.prog 86 [.ptr c.d 0,.int .i64 i,.int .i64 k] H (abl c i k H)
structure PB (c:Cx) (H:List aa) (x y:Nat) (i k:Int) (es:List AV) (G:List aa):Prop where
 du:Du c G
 gx:G[x]?=some (.cells [bA (c.kd i)])
 gy:G[y]?=some (.cells [bA (c.kd k)])
 g6:G[H.length]?=some (.cells [.int .i64 0,.int .i64 0,.ag,.ag])
 gp:G[H.length + 3]?=some (.cells es)
 len:G.length=H.length + 4
 up:∀ j,j < H.length→j≠c.e→j≠c.g→G[j]?=H[j]?
structure XY (H:List aa) (x y:Nat):Prop where
 x1:H.length < x
 x2:x < H.length + 3
 y1:H.length < y
 y2:y < H.length + 3
theorem PB.call {c:Cx} {H G G':List aa} {x y:Nat} {i k:Int} {es:List AV} (hD:Du c H) (w:XY H x y) (h:PB c H x y i k es G) (hU:Up c G G') (kg:Du c G'):PB c H x y i k es G':=by
 obtain ⟨l1,l2,l3⟩:=hD.lt
 obtain ⟨w1,w2,w3,w4⟩:=w
 exact ⟨kg,by rw [hU.get x (by omega) (by omega),h.gx],by rw [hU.get y (by omega) (by omega),h.gy],by rw [hU.get _ (by omega) (by omega),h.g6],by rw [hU.get _ (by omega) (by omega),h.gp],by rw [hU.len,h.len],fun j h1 h2 h3=>by rw [hU.get j h2 h3,h.up j h1 h2 h3]⟩
theorem PB.set {c:Cx} {H G:List aa} {x y:Nat} {i k:Int} {es es':List AV} (hD:Du c H) (w:XY H x y) (h:PB c H x y i k es G):PB c H x y i k es' (G.set (H.length + 3) (.cells es')):=by
 obtain ⟨l1,l2,l3⟩:=hD.lt
 obtain ⟨w1,w2,w3,w4⟩:=w
 have hp:=aO h.gp
 exact ⟨h.du.set (by omega) (by omega) (by omega),by rw [zC (by omega),h.gx],by rw [zC (by omega),h.gy],by rw [zC (by omega),h.g6],by rw [zD hp],by rw [acI,h.len],fun j h1 h2 h3=>by rw [zC (by omega),h.up j h1 h2 h3]⟩
theorem afd {c:Cx} {k x:Int} (h1:lB c x k) (h2:iU c x k) {H:List aa} (hD:Du c H):aw Tryz.prog 147 [.int .i64 x,.ah (.ptr c.d 0),.ah (.int .i64 k)] H (jl c (E c.O (c.tm x) (c.tm k)∨R c.O (c.tm x) (c.tm k)) H):=by
 refine Zr.2.calls rfl ?_
 simp only [Zr,aH]
 simp +contextual only [sZ,Nat.reduceEqDiff,Nat.reduceAdd,↓reduceIte,reduceCtorEq]
 refine af (h1 H hD) ?_
 rintro r H' ⟨b,rfl,hb,hU,kg⟩
 cases b with
 | true=>
   simp +contextual only [sZ,Nat.reduceEqDiff,↓reduceIte,reduceCtorEq]
   exact eO rfl ⟨fun _=>.inl (hb.1 rfl),fun _=>rfl⟩ hU kg
 | false=>
   simp +contextual only [sZ,Nat.reduceEqDiff,Nat.reduceAdd,↓reduceIte,reduceCtorEq]
   refine af (h2 H' kg) ?_
   rintro r H2 ⟨z,rfl,hz,TP,C5⟩
   simp +contextual only [sZ,Nat.reduceEqDiff,↓reduceIte,reduceCtorEq]
   refine eO rfl ⟨fun h=>.inr (hz.1 h),fun h=>hz.2 (h.resolve_left fun h=>absurd (hb.2 h) (by simp))⟩ (hU.trans TP) C5
theorem afe {c:Cx} {a b:List Int} {va vb:AV} (ha:IL va a) (hb:IL vb b) {p q:Nat} {x y:Int} (hx:0≤x∧x < a.length) (hy:0≤y∧y < b.length) (h:iU c (a.getD x.toNat 0) (b.getD y.toNat 0)) {G:List aa} (hD:Du c G) (gp:G[p]?=some (.cells [va])) (gq:G[q]?=some (.cells [vb])) :
 aw Tryz.prog 148 [.int .i64 x,.ah (.ptr c.d 0),.ptr p 0,.ptr q 0,.ah (.int .i64 y)] G (jl c (R c.O (c.tm (a.getD x.toNat 0)) (c.tm (b.getD y.toNat 0))) G):=by
 refine Zs.2.calls rfl ?_
 simp only [Zs,aH]
 obtain ⟨a1,a2,a3,a4⟩:=ha.one
 obtain ⟨b1,b2,b3,b4⟩:=hb.one
 simp +contextual only [gp,gq,a2,b2,ha.lens,hb.lens,ha.idx,hb.idx,sZ,Nat.reduceEqDiff,Nat.reduceAdd,Nat.reduceLT,↓reduceIte,reduceCtorEq]
 refine ⟨hx,hy,af (h G hD) ?_⟩
 rintro r G' ⟨z,rfl,hz,hU,kg⟩
 simp +contextual only [sZ,↓reduceIte,reduceCtorEq]
 exact eO rfl hz hU kg
def TZ:IR:=(.loop (.seq (.region [⟨none,some 173,(.bin .lss (.t 172) (.t 171))⟩] (.some [1,3,6,10,170,171,172,173])) (.seq (.cond (.t 173) .skip (.exit 5)) (.seq (.block 6 (.seq (.region [⟨none,some 174,(.indexAddr 1 (.t 170) (.t 172))⟩,⟨none,some 175,(.load .none (.t 174))⟩,⟨none,some 23,(.set (.t 175) false)⟩] (.some [1,3,6,10,23,170,171,172])) (.draw (.take .false ⟨none,some 176,(.fieldAddr 3 .none (.t 10))⟩ (.take .false ⟨none,some 178,(.load .none (.t 3))⟩ (.take .false ⟨none,some 179,(.set (.t 1) false)⟩ (.take .false ⟨none,some 180,(.set (.t 23) false)⟩ (.br ⟨none,some 177,(.eU (.t 176))⟩ (.br ⟨none,some 181,(.call (.c (.fn (.func 86) [] [])) [(.t 178),(.t 179),(.t 180)] (.some 1999))⟩ (.take .true ⟨none,some 182,(.buildSlice 0 4 (.agg [(.int .i64 0),(.int .i64 0),.ag,.ag]) 1 [(0,(.t 181))])⟩ (.br ⟨none,some 183,(.append 4 64 (.t 177) (.t 182))⟩ (.take .true ⟨none,some 184,(.fieldAddr 3 .none (.t 10))⟩ (.br ⟨none,none,(.fS (.t 184) 183)⟩ .done .nil)) .nil)) .nil) (.br ⟨none,some 181,(.call (.c (.fn (.func 86) [] [])) [(.t 178),(.t 179),(.t 180)] (.some 1999))⟩ (.take .false ⟨none,some 182,(.buildSlice 0 4 (.agg [(.int .i64 0),(.int .i64 0),.ag,.ag]) 1 [(0,(.t 181))])⟩ (.br ⟨none,some 177,(.eU (.t 176))⟩ (.br ⟨none,some 183,(.append 4 64 (.t 177) (.t 182))⟩ (.take .true ⟨none,some 184,(.fieldAddr 3 .none (.t 10))⟩ (.br ⟨none,none,(.fS (.t 184) 183)⟩ .done .nil)) .nil) .nil)) .nil)))))) (.some [1,3,6,10,170,171,172])))) (.region [⟨none,some 185,(.bin .add (.t 172) (.c (.int .i64 1)))⟩,⟨none,some 172,(.set (.t 185) false)⟩] (.some [1,3,6,10,170,171,172]))))))
theorem HE {c:Cx} {H:List aa} (hD:Du c H) {x y:Nat} (w:XY H x y) {i k:Int} {rl at':Int} {l0:List PP} (yQ:l0.length≤1) {b:List Int} {vb:AV} (hb:IL vb b) (lb:b.length≤100000000) (hp:∀ z∈b,qd c i z) {G:List aa} (h:PB c H x y i k [.int .i64 rl,.int .i64 at',.ag,qc l0] G) :
 mO ⟨Tryz.prog,none⟩ H.length TZ [(1,.int .i64 i),(3,.ah (.ptr c.d 0)),(6,.ptr H.length 0),(10,.ptr (H.length + 3) 0),(170,vb),(171,.int .i64 b.length),(172,.int .i64 0)] G fun e aI G'=>
  e=.exit 5∧get aI 6=.ptr H.length 0∧get aI 10=.ptr (H.length + 3) 0∧∃ qs,mH (Sh c.O) qs (c.tm i) (b.map c.tm)∧PB c H x y i k [.int .i64 rl,.int .i64 at',.ag,qc (l0++qs)] G':=by
 obtain ⟨b1,b2,b3,b4⟩:=hb.one
 unfold TZ
 refine aD b.length (fun j (s:List aa×List PP)=>PB c H x y i k [.int .i64 rl,.int .i64 at',.ag,qc (l0++s.2)] s.1∧s.2.length=j∧∀ j',j' < j→Sh c.O (s.2.getD j' default) (c.tm i) (c.tm (b.getD j' 0)))
  (fun j s=>[(1,.int .i64 i),(3,.ah (.ptr c.d 0)),(6,.ptr H.length 0),(10,.ptr (H.length + 3) 0),(170,vb),(171,.int .i64 b.length),(172,.int .i64 j)]) (fun j s=>s.1) (G,[]) ⟨⟨by rw [acA];exact h,rfl,fun j h=>by omega⟩,ax _ _ _⟩ fun j s hj hI=>?_
 obtain ⟨G,qs⟩:=s
 obtain ⟨lV,hlen,Ug⟩:=hI
 simp only at lV hlen Ug
 by_cases NZ:(j:Int) < b.length
 ·have rp:j < b.length:=by omega
  have gp:=lV.gp
  have hl:(l0++qs).length < 1000000000:=by rw [aaz];omega
  have ot:=fun es=>lV.set (es':=es) hD w
  simp +contextual only [NZ,decide_true,hb.lens,hb.idx,aad,gp,d3,s3,sZ,Nat.reduceEqDiff,Nat.reduceAdd,Nat.reduceLT,↓reduceIte,reduceCtorEq]
  have fin:∀ (q:PP) (G':List aa),Sh c.O q (c.tm i) (c.tm (b.getD j 0))→PB c H x y i k [.int .i64 rl,.int .i64 at',.ag,qc (l0++(qs++[q]))] G'→∃ (j':Nat) (t:List aa×List PP),(j'≤b.length∧PB c H x y i k [.int .i64 rl,.int .i64 at',.ag,qc (l0++t.2)] t.1∧t.2.length=j'∧∀ j'',j'' < j'→Sh c.O (t.2.getD j'' default) (c.tm i) (c.tm (b.getD j'' 0)))∧b.length - j' < b.length - j∧
   sle H.length [(1,.int .i64 i),(3,.ah (.ptr c.d 0)),(6,.ptr H.length 0),(10,.ptr (H.length + 3) 0),(170,vb),(171,.int .i64 b.length),(172,.int .i64 (IntKind.i64.wrap (j + 1)))] G' [(1,.int .i64 i),(3,.ah (.ptr c.d 0)),(6,.ptr H.length 0),(10,.ptr (H.length + 3) 0),(170,vb),(171,.int .i64 b.length),(172,.int .i64 j')] t.1:=by
   intro q G' hq aff
   refine ⟨j + 1,(G',qs++[q]),⟨rp,aff,by simp [hlen],fun j'' ajN=>?_⟩,by omega,aE (by rw [aq j (by omega)]) rfl⟩
   by_cases e:j''=j
   ·subst e
    have:(qs++[q]).getD j'' default=q:=by rw [← hlen];simp
    rw [this];exact hq
   ·have:(qs++[q]).getD j'' default=qs.getD j'' default:=by
     rw [sT,sT,zA (by omega)]
    rw [this];exact Ug j'' (by omega)
  refine ⟨by omega,?_,?_⟩
  ·refine af (hp _ (aQ rp) _ (ot _).du) ?_
   rintro r G2 ⟨q,rfl,hq,hU,C5⟩
   have N3:=(ot _).call hD w hU C5
   have gp2:=N3.gp
   have CO:=fun es=>N3.set (es':=es) hD w
   obtain ⟨q1,q2,q3,q4,q5,q6,q7,q8,q9⟩:=bb q
   obtain ⟨v1,v2,v3,v4,v5,v6⟩:=jf (l0++(qs++[q]))
   simp +contextual only [q1,q2,kv,Ff _ _ hl,gp2,s3,abb,sZ,Nat.reduceEqDiff,Nat.reduceAdd,Nat.reduceLT,↓reduceIte]
   have el:AV.ak 4 (eI (l0++(qs++[q])))=qc (l0++(qs++[q])):=by rw [← abb];exact sP _ _
   rw [el]
   exact ⟨jz _ _,fin q _ hq (CO _)⟩
  ·refine af (hp _ (aQ rp) _ lV.du) ?_
   rintro r G2 ⟨q,rfl,hq,hU,C5⟩
   have N3:=lV.call hD w hU C5
   have gp2:=N3.gp
   have CO:=fun es=>N3.set (es':=es) hD w
   have gp3:=fun es=>(CO es).gp
   have yn:=fun es es'=>(CO es).set (es':=es') hD w
   obtain ⟨q1,q2,q3,q4,q5,q6,q7,q8,q9⟩:=bb q
   obtain ⟨v1,v2,v3,v4,v5,v6⟩:=jf (l0++(qs++[q]))
   simp +contextual only [q1,q2,kv,Ff _ _ hl,gp2,gp3,d3,s3,abb,sZ,Nat.reduceEqDiff,Nat.reduceAdd,Nat.reduceLT,↓reduceIte]
   have el:AV.ak 4 (eI (l0++(qs++[q])))=qc (l0++(qs++[q])):=by rw [← abb];exact sP _ _
   rw [el]
   exact ⟨jz _ _,fin q _ hq (yn _ _)⟩
 ·have e:j=b.length:=by omega
  simp +contextual only [NZ,decide_false,sZ,Nat.reduceEqDiff,↓reduceIte]
  refine ⟨qs,⟨by rw [hlen,e,ac1],fun j' wz=>?_⟩,lV⟩
  rw [ac1] at wz
  rw [cA wz];exact Ug j' (by omega)
end Go.aK
end
section
set_option maxRecDepth 100000
namespace Go.aK
open Go Go.Proofs Go.fo
structure PA (c:Cx) (H:List aa) (x y:Nat) (i k:Int) (G:List aa):Prop where
 du:Du c G
 gx:G[x]?=some (.cells [bA (c.kd i)])
 gy:G[y]?=some (.cells [bA (c.kd k)])
 g6:G[H.length]?=some (.cells [.int .i64 0,.int .i64 0,.ag,.ag])
 len:G.length=H.length + 3
 up:∀ j,j < H.length→j≠c.e→j≠c.g→G[j]?=H[j]?
theorem PA.call {c:Cx} {H G G':List aa} {x y:Nat} {i k:Int} (hD:Du c H) (w:XY H x y) (h:PA c H x y i k G) (hU:Up c G G') (kg:Du c G'):PA c H x y i k G':=by
 obtain ⟨l1,l2,l3⟩:=hD.lt
 obtain ⟨w1,w2,w3,w4⟩:=w
 exact ⟨kg,by rw [hU.get x (by omega) (by omega),h.gx],by rw [hU.get y (by omega) (by omega),h.gy],by rw [hU.get _ (by omega) (by omega),h.g6],by rw [hU.len,h.len],fun j h1 h2 h3=>by rw [hU.get j h2 h3,h.up j h1 h2 h3]⟩
theorem PA.sl {c:Cx} {H G:List aa} {x y:Nat} {i k:Int} (w:XY H x y) (h:PA c H x y i k G) (es:List AV):PB c H x y i k es (G++[.cells es]):=by
 obtain ⟨w1,w2,w3,w4⟩:=w
 have hl:=h.len
 exact ⟨h.du.sl _,by rw [zA (by omega),h.gx],by rw [zA (by omega),h.gy],by rw [zA (by omega),h.g6],by rw [← hl];simp,by simp [hl],fun j h1 h2 h3=>by rw [zA (by omega),h.up j h1 h2 h3]⟩
theorem bdP (r:Int) (φ:AV→Prop):cE [.int .i64 0,.int .i64 0,.ag,.ag] [(0,1,.int .i64 r)] φ=φ (.agg [.int .i64 r,.int .i64 0,.ag,.ag]):=by
 simp only [cE,iu,eq_iff_iff]
 constructor
 ·rintro ⟨_,_,_,h⟩;exact h
 ·exact fun h=>⟨rfl,rfl,by simp,h⟩
theorem PB.fin {c:Cx} {H G:List aa} {x y:Nat} {i k:Int} {r i':Int} {to:List Int} {l:List PP} (hD:Du c H) (h:PB c H x y i k [.int .i64 r,.int .i64 i',vr to,qc l] G) (hs:Sh c.O (.mk r i' to l) (c.tm i) (c.tm k)) :
 Ak H.length (eJ (.mk r i' to l)) (G.set H.length (.cells (eJ (.mk r i' to l)).cells)) (abl c i k H):=by
 obtain ⟨l1,l2,l3⟩:=hD.lt
 refine Tm (G:=(G.set H.length (.cells (eJ (.mk r i' to l)).cells)).take H.length) rfl (gL _ _) rfl ⟨_,rfl,hs,⟨?_,fun j h1 h2=>?_⟩,?_⟩
 ·have:=h.len;simp;omega
 ·rw [aa7]
  split
  ·rename_i hj;rw [zC (by omega),h.up j hj h1 h2]
  ·rename_i hj;rw [acB (by omega)]
 ·exact (h.du.set (by omega) (by omega) (by omega)).take l1 l2 l3
theorem Fh (p:PP) (φ:AV→Prop):cw (some (.cells (eJ p).cells)) (some 4) 0 φ=φ (eJ p):=by
 obtain ⟨_,h2,_,_,_,_,h7,h8,_⟩:=bb p
 simp only [cw,List.drop_zero,h2,Ue (Nat.le_of_eq h2),h8,h7]
 simp
theorem T1 (p:PP):ai [AV.int .i64 0,.int .i64 0,.ag,.ag] 0 (eJ p).cells=(eJ p).cells:=by rw [pi];rfl
theorem wB {c:Cx} (hc:c.Ok) {i k:Int} (hi:c.ee i) (hk:c.ee k):IS c i k:=by
 have ki:=hc.kids i hi
 have kk:=hc.kids k hk
 exact ⟨fun H hD=>aaN hc hi (fun x hx=>kU hc (ki.2 x hx) hk) (fun x hx=>kV hc (ki.2 x hx) hk) hD,fun H hD=>aaO hc hi hk (fun y hy=>kV hc hi (kk.2 y hy)) hD,
  fun H hD=>aaQ hc hi hk (fun y hy=>kV hc hi (kk.2 y hy)) (fun x hx y hy=>kU hc (ki.2 x hx) (kk.2 y hy)) (fun x hx y hy=>kV hc (ki.2 x hx) (kk.2 y hy)) hD,
  fun H hD=>aaW hc hi hk (fun x hx y hy=>kU hc (ki.2 x hx) (kk.2 y hy)) (fun x hx y hy=>kV hc (ki.2 x hx) (kk.2 y hy)) hD⟩
theorem abm {c:Cx} (hc:c.Ok) {i k:Int} (hi:c.ee i) (hk:c.ee k) (hR:R c.O (c.tm i) (c.tm k)) (hr:iG c i k 1) (kB:∀ m,m < 1→¬ iG c i k m) (hp:∀ x∈c.kd i,R c.O (c.tm x) (c.tm k)→qd c x k):qd c i k:=by
 intro H hD
 refine Fe.2.calls rfl ?_
 simp only [Fe,aH]
 have k2:∀ l,(bA l).ab=bA l:=fun l=>(aJ l).2.1
 have ki:=hc.kids i hi
 have kk:=hc.kids k hk
 have l1:=hc.kl i hi
 have l2:=hc.kl k hk
 obtain ⟨a1,a2,a3,a4,a5⟩:=aJ (c.kd i)
 obtain ⟨b1,b2,b3,b4,b5⟩:=aJ (c.kd k)
 have ii:IL (bA (c.kd i)) (c.kd i):=.inl rfl
 have ik:IL (bA (c.kd k)) (c.kd k):=.inl rfl
 have ei:(c.nd.getD i.toNat default).snd=c.kd i:=rfl
 have ek:(c.nd.getD k.toNat default).snd=c.kd k:=rfl
 obtain ⟨m1,m2,m3⟩:=hD.lt
 have ed:∀ X:List aa,(H++X)[c.d]?=H[c.d]?:=fun X=>zA m1
 have spv:∀ x:AV,ai [AV.ag] 0 [x]=[x]:=fun x=>rfl
 have spq:ai [AV.int .i64 0,.int .i64 0,.ag,.ag] 0 [AV.int .i64 0,.int .i64 0,.ag,.ag]=[AV.int .i64 0,.int .i64 0,.ag,.ag]:=rfl
 simp +contextual only [sZ,Nat.reduceEqDiff,Nat.reduceAdd,↓reduceIte,reduceCtorEq]
 refine mF (K1:=fun e G=>get e 1=.int .i64 i∧get e 3=.ah (.ptr c.d 0)∧get e 5=.ah (.int .i64 k)∧get e 6=.ptr H.length 0∧∃ x y,get e 7=.ptr x 0∧get e 8=.ptr y 0∧XY H x y∧PA c H x y i k G) ?_ ?_
 ·have P0:aa:=.cells [.int .i64 0,.int .i64 0,.ag,.ag]
  have A:∃ x y,AV.ptr (H.length + 1) 0=.ptr x 0∧AV.ptr (H.length + 2) 0=.ptr y 0∧XY H x y∧PA c H x y i k (H++[.cells [.int .i64 0,.int .i64 0,.ag,.ag],.cells [bA (c.kd i)],.cells [bA (c.kd k)]]):=
   ⟨_,_,rfl,rfl,⟨by omega,by omega,by omega,by omega⟩,⟨hD.sl _,by simp,by simp,by simp,by simp,fun j hj _ _=>zA hj⟩⟩
  have B:∃ x y,AV.ptr (H.length + 2) 0=.ptr x 0∧AV.ptr (H.length + 1) 0=.ptr y 0∧XY H x y∧PA c H x y i k (H++[.cells [.int .i64 0,.int .i64 0,.ag,.ag],.cells [bA (c.kd k)],.cells [bA (c.kd i)]]):=
   ⟨_,_,rfl,rfl,⟨by omega,by omega,by omega,by omega⟩,⟨hD.sl _,by simp,by simp,by simp,by simp,fun j hj _ _=>zA hj⟩⟩
  simp +contextual only [ed,hD.d,nM,FO,cP,cb,k2,ei,ek,a1,a3,a4,a5,b1,b3,b4,b5,List.map_cons,List.map_nil,spv,List.all_cons,List.all_nil,acX,bJ,cV,sZ,Nat.reduceEqDiff,Nat.reduceAdd,Nat.reduceLT,↓reduceIte]
  refine ⟨hi,?_⟩
  repeat' apply hV
  all_goals first | exact hk.1 | exact hk.2 | exact A | exact B
 ·rintro e G ⟨e1,e3,e5,e6,x,y,e7,e8,w,CP⟩
  simp +contextual only [e1,e3,e5,e6,e7,e8,sZ,Nat.reduceEqDiff,↓reduceIte]
  refine aD 0 (fun m (G:List aa)=>PA c H x y i k G)
   (fun m G=>[(1,.int .i64 i),(3,.ah (.ptr c.d 0)),(5,.ah (.int .i64 k)),(6,.ptr H.length 0),(7,.ptr x 0),(8,.ptr y 0),(9,.int .i64 ((m + 1:Nat):Int))]) (fun m G=>G) G ⟨CP,ax _ _ _⟩ fun m G hm CP=>?_
  have hf:eG.cells[m + 1]?=some (.fn (.func (182 + (m + 1))) [] []):=by
   have:m=0∨m=1∨m=2∨m=3:=by omega
   rcases this with rfl | rfl | rfl | rfl <;> rfl
  have en:=X0 (m + 1) _ hf (by omega)
  simp +contextual only [sZ]
  refine aF NM ?_
  simp +contextual only [nA,en _ rfl,sZ,Nat.reduceEqDiff,Nat.reduceAdd,↓reduceIte,reduceCtorEq]
  refine af ((wB hc hi hk).at (n:=m + 1) (by omega) (by omega) CP.du) ?_
  rintro r G1 ⟨z,rfl,hz,hU,oq⟩
  have rc:=CP.call hD w hU oq
  by_cases TA:m=0
  rotate_left
  ·have:z=false:=by
    cases z with
    | false=>rfl
    | true=>exact absurd (hz.1 rfl) (kB (m + 1) (by omega))
   subst this
   simp +contextual only [Bool.not_false,sZ,Nat.reduceEqDiff,↓reduceIte]
   exact ⟨m + 1,G1,⟨by omega,rc⟩,by omega,aE (by rw [aq (m + 1) (by omega)]) rfl⟩
  subst TA
  have:z=true:=hz.2 hr
  subst this
  have zr:=rc.len
  have lV:=fun es=>rc.sl w es
  have W8:=fun es=>(lV es).gp
  have RZ:=fun es=>(lV es).gx
  have hgy:=fun es=>(lV es).gy
  have b7:∀ (o o':aa),(G1++[o]).set (H.length + 3) o'=G1++[o']:=fun o o'=>by rw [← zr];simp
  have ec:((1:Nat):Int)=1:=rfl
  have zf:List.map AV.ab [AV.int .i64 (1:Int),.int .i64 0,.ag,.ag]=[.int .i64 (1:Int),.int .i64 0,.ag,.ag]:=rfl
  have zf0:List.map AV.ab [AV.int .i64 0,.int .i64 0,.ag,.ag]=[.int .i64 0,.int .i64 0,.ag,.ag]:=rfl
  have e86:∀ a b:Int,decide (a=b)=decide (a=b):=fun _ _=>rfl
  simp +contextual only [k2,decide_true,Bool.not_true,Bool.not_true,bdP,zr,W8,b7,ec,zf,zf0,KS,RZ,sZ,Nat.reduceEqDiff,Nat.reduceAdd,Nat.reduceLT,↓reduceIte,reduceCtorEq]
  have nR:=lV [.int .i64 1,.int .i64 0,.ag,.ag]
  generalize G1++[aa.cells [AV.int .i64 1,.int .i64 0,.ag,.ag]]=G2 at nR ⊢
  have gh:∃ z∈c.kd i,E c.O (c.tm z) (c.tm k)∨R c.O (c.tm z) (c.tm k):=by
   rcases hr with h | h | h | h
   ·exact h.2
   all_goals (exact absurd h.1 (by decide))
  refine af (NI (SD.Cv c G2) ii (by omega) 147 [] [.ah (.ptr c.d 0),.ah (.int .i64 k)] rfl rfl (Q:=fun z=>E c.O (c.tm z) (c.tm k)∨R c.O (c.tm z) (c.tm k))
   (fun z hz G hG=>(afd (kU hc (ki.2 z hz) hk) (kV hc (ki.2 z hz) hk) hG.1).mono fun r H' hr=>hr.sb hG) ⟨nR.du,Up.refl c _⟩) ?_
  rintro r G3 ⟨hG3,vI⟩
  rcases vI with ⟨_,vI⟩ | ⟨q,rfl,hq,hQ,_⟩
  ·obtain ⟨z,hz,h⟩:=gh
   exact absurd h (vI z hz)
  have CO:=nR.call hD w hG3.2 hG3.1
  have oO:=fun es=>CO.set (es':=es) hD w
  have gp3:=CO.gp
  have gps:=fun es=>(oO es).gp
  have gxs:=fun es=>(oO es).gx
  have g6s:=fun es=>(oO es).g6
  have jF:(c.kd i).getD q 0∈c.kd i:=aQ hq
  have un1:List.map AV.ab [AV.int .i64 (q:Int)]=[.int .i64 (q:Int)]:=rfl
  simp +contextual only [k2,ii.lens,ii.idx,gp3,W7,un1,gps,gxs,aad,sZ,Nat.reduceEqDiff,Nat.reduceAdd,Nat.reduceLT,Nat.reduceLeDiff,↓reduceIte,reduceCtorEq]
  refine ⟨by omega,?_⟩
  refine af (kU hc (ki.2 _ jF) hk _ (oO _).du) ?_
  rintro r G4 ⟨v,rfl,hv,XW,XX⟩
  have yn:=(oO _).call hD w XW XX
  have gp4:=yn.gp
  have gx4:=yn.gx
  have g64:=yn.g6
  have cod:∀ l:List PP,((c.tm i).l.getD q default)=c.tm ((c.kd i).getD q 0):=fun _=>by rw [← ki.1,cA hq]
  have klen:(c.tm i).l.length=(c.kd i).length:=by rw [← ki.1];simp
  have ki2:(c.tm i).k=2:=by
   have:=(uf hc hi hk).1
   have hh:=(sA.1 (show R c.O (c.tm i) (c.tm k) from hR)).1
   exact hh
  cases v with
  | true=>
    have hs:Sh c.O (.mk 1 q [] []) (c.tm i) (c.tm k):=by
     rw [Sh1 rfl ki2]
     refine ⟨rfl,⟨by show (0:Int)≤q;omega,by show (q:Int) < _;omega⟩,.inl ⟨rfl,?_⟩⟩
     show E c.O ((c.tm i).l.getD (q:Int).toNat default) (c.tm k)
     rw [aad,cod []];exact hv.1 rfl
    have e4:(AV.int .i64 (q:Int))=AV.int .i64 (q:Int):=rfl
    have lp:=TY 1 q [] []
    obtain ⟨q1,q2,q3,q4,q5,q6,q7,q8,q9⟩:=bb (.mk 1 q [] [])
    have lp2:=Fh (.mk 1 q [] [])
    have N4:(G4.set H.length (.cells (eJ (.mk 1 q [] [])).cells))[H.length]?=some (.cells (eJ (.mk 1 q [] [])).cells):=by rw [zD (aO g64)]
    change ∀ φ,cw (some (.cells [.int .i64 1,.int .i64 (q:Int),.ag,.ag])) (some 4) 0 φ=φ (eJ (.mk 1 q [] [])) at lp
    simp +contextual only [Bool.not_true,gp4,lp,g64,q1,q2,q3,q9,T1,N4,lp2,sZ,Nat.reduceEqDiff,Nat.reduceAdd,↓reduceIte,reduceCtorEq]
    refine ⟨by first | exact cH (gL _ _) | omega,yn.fin hD hs⟩
  | false=>
    have hRx:R c.O (c.tm ((c.kd i).getD q 0)) (c.tm k):=hQ.resolve_left fun h=>absurd (hv.2 h) (by simp)
    simp +contextual only [k2,ii.lens,ii.idx,Bool.not_false,gp4,gx4,aad,sZ,Nat.reduceEqDiff,Nat.reduceAdd,Nat.reduceLT,↓reduceIte,reduceCtorEq]
    refine ⟨by omega,af (hp _ jF hRx _ yn.du) ?_⟩
    rintro r G5 ⟨u,rfl,hu,hU5,hD5⟩
    have N5:=yn.call hD w hU5 hD5
    have gp5:=N5.gp
    have HF:=fun es=>N5.set (es':=es) hD w
    have gp6:=fun es=>(HF es).gp
    have g66:=fun es=>(HF es).g6
    have hs:Sh c.O (.mk 1 q [] [u]) (c.tm i) (c.tm k):=by
     rw [Sh1 rfl ki2]
     refine ⟨rfl,⟨by show (0:Int)≤q;omega,by show (q:Int) < _;omega⟩,.inr ⟨u,rfl,?_⟩⟩
     show Sh c.O u ((c.tm i).l.getD (q:Int).toNat default) (c.tm k)
     rw [aad,cod []];exact hu
    have lp:=TY 1 q [] [u]
    change ∀ φ,cw (some (.cells [.int .i64 1,.int .i64 (q:Int),.ag,.ak 4 [eJ u]])) (some 4) 0 φ=φ (eJ (.mk 1 q [] [u])) at lp
    obtain ⟨q1,q2,q3,q4,q5,q6,q7,q8,q9⟩:=bb (.mk 1 q [] [u])
    obtain ⟨u1,u2,u3,u4,u5,u6,u7,u8,u9⟩:=bb u
    have lp2:=Fh (.mk 1 q [] [u])
    have N4:=fun es=>zD (a:=aa.cells (eJ (.mk 1 q [] [u])).cells) (aO (g66 es))
    simp +contextual only [gp5,gp6,g66,lp,q1,q2,q3,q9,T1,N4,lp2,u1,u2,u6,kv,s3,sZ,Nat.reduceEqDiff,Nat.reduceAdd,Nat.reduceLT,↓reduceIte,reduceCtorEq]
    refine ⟨by first | exact cH (gL _ _) | omega,?_⟩
    exact PB.fin (to:=[]) (l:=[u]) hD (HF _) hs
end Go.aK
end
section
set_option maxRecDepth 100000
namespace Go.aK
open Go Go.Proofs Go.fo
theorem abq {c:Cx} (hc:c.Ok) {i k:Int} (hi:c.ee i) (hk:c.ee k) (hR:R c.O (c.tm i) (c.tm k)) (hr:iG c i k 2) (kB:∀ m,m < 2→¬ iG c i k m) (hp:∀ y∈c.kd k,R c.O (c.tm i) (c.tm y)→qd c i y):qd c i k:=by
 intro H hD
 refine Fe.2.calls rfl ?_
 simp only [Fe,aH]
 have k2:∀ l,(bA l).ab=bA l:=fun l=>(aJ l).2.1
 have ki:=hc.kids i hi
 have kk:=hc.kids k hk
 have l1:=hc.kl i hi
 have l2:=hc.kl k hk
 obtain ⟨a1,a2,a3,a4,a5⟩:=aJ (c.kd i)
 obtain ⟨b1,b2,b3,b4,b5⟩:=aJ (c.kd k)
 have ii:IL (bA (c.kd i)) (c.kd i):=.inl rfl
 have ik:IL (bA (c.kd k)) (c.kd k):=.inl rfl
 have ei:(c.nd.getD i.toNat default).snd=c.kd i:=rfl
 have ek:(c.nd.getD k.toNat default).snd=c.kd k:=rfl
 obtain ⟨m1,m2,m3⟩:=hD.lt
 have ed:∀ X:List aa,(H++X)[c.d]?=H[c.d]?:=fun X=>zA m1
 have spv:∀ x:AV,ai [AV.ag] 0 [x]=[x]:=fun x=>rfl
 have spq:ai [AV.int .i64 0,.int .i64 0,.ag,.ag] 0 [AV.int .i64 0,.int .i64 0,.ag,.ag]=[AV.int .i64 0,.int .i64 0,.ag,.ag]:=rfl
 simp +contextual only [sZ,Nat.reduceEqDiff,Nat.reduceAdd,↓reduceIte,reduceCtorEq]
 refine mF (K1:=fun e G=>get e 1=.int .i64 i∧get e 3=.ah (.ptr c.d 0)∧get e 5=.ah (.int .i64 k)∧get e 6=.ptr H.length 0∧∃ x y,get e 7=.ptr x 0∧get e 8=.ptr y 0∧XY H x y∧PA c H x y i k G) ?_ ?_
 ·have P0:aa:=.cells [.int .i64 0,.int .i64 0,.ag,.ag]
  have A:∃ x y,AV.ptr (H.length + 1) 0=.ptr x 0∧AV.ptr (H.length + 2) 0=.ptr y 0∧XY H x y∧PA c H x y i k (H++[.cells [.int .i64 0,.int .i64 0,.ag,.ag],.cells [bA (c.kd i)],.cells [bA (c.kd k)]]):=
   ⟨_,_,rfl,rfl,⟨by omega,by omega,by omega,by omega⟩,⟨hD.sl _,by simp,by simp,by simp,by simp,fun j hj _ _=>zA hj⟩⟩
  have B:∃ x y,AV.ptr (H.length + 2) 0=.ptr x 0∧AV.ptr (H.length + 1) 0=.ptr y 0∧XY H x y∧PA c H x y i k (H++[.cells [.int .i64 0,.int .i64 0,.ag,.ag],.cells [bA (c.kd k)],.cells [bA (c.kd i)]]):=
   ⟨_,_,rfl,rfl,⟨by omega,by omega,by omega,by omega⟩,⟨hD.sl _,by simp,by simp,by simp,by simp,fun j hj _ _=>zA hj⟩⟩
  simp +contextual only [ed,hD.d,nM,FO,cP,cb,k2,ei,ek,a1,a3,a4,a5,b1,b3,b4,b5,List.map_cons,List.map_nil,spv,List.all_cons,List.all_nil,acX,bJ,cV,sZ,Nat.reduceEqDiff,Nat.reduceAdd,Nat.reduceLT,↓reduceIte]
  refine ⟨hi,?_⟩
  repeat' apply hV
  all_goals first | exact hk.1 | exact hk.2 | exact A | exact B
 ·rintro e G ⟨e1,e3,e5,e6,x,y,e7,e8,w,CP⟩
  simp +contextual only [e1,e3,e5,e6,e7,e8,sZ,Nat.reduceEqDiff,↓reduceIte]
  refine aD 1 (fun m (G:List aa)=>PA c H x y i k G)
   (fun m G=>[(1,.int .i64 i),(3,.ah (.ptr c.d 0)),(5,.ah (.int .i64 k)),(6,.ptr H.length 0),(7,.ptr x 0),(8,.ptr y 0),(9,.int .i64 ((m + 1:Nat):Int))]) (fun m G=>G) G ⟨CP,ax _ _ _⟩ fun m G hm CP=>?_
  have hf:eG.cells[m + 1]?=some (.fn (.func (182 + (m + 1))) [] []):=by
   have:m=0∨m=1∨m=2∨m=3:=by omega
   rcases this with rfl | rfl | rfl | rfl <;> rfl
  have en:=X0 (m + 1) _ hf (by omega)
  simp +contextual only [sZ]
  refine aF NM ?_
  simp +contextual only [nA,en _ rfl,sZ,Nat.reduceEqDiff,Nat.reduceAdd,↓reduceIte,reduceCtorEq]
  refine af ((wB hc hi hk).at (n:=m + 1) (by omega) (by omega) CP.du) ?_
  rintro r G1 ⟨z,rfl,hz,hU,oq⟩
  have rc:=CP.call hD w hU oq
  by_cases TA:m=1
  rotate_left
  ·have:z=false:=by
    cases z with
    | false=>rfl
    | true=>exact absurd (hz.1 rfl) (kB (m + 1) (by omega))
   subst this
   simp +contextual only [Bool.not_false,sZ,Nat.reduceEqDiff,↓reduceIte]
   exact ⟨m + 1,G1,⟨by omega,rc⟩,by omega,aE (by rw [aq (m + 1) (by omega)]) rfl⟩
  subst TA
  have:z=true:=hz.2 hr
  subst this
  have zr:=rc.len
  have lV:=fun es=>rc.sl w es
  have W8:=fun es=>(lV es).gp
  have RZ:=fun es=>(lV es).gx
  have hgy:=fun es=>(lV es).gy
  have b7:∀ (o o':aa),(G1++[o]).set (H.length + 3) o'=G1++[o']:=fun o o'=>by rw [← zr];simp
  have ec:((2:Nat):Int)=2:=rfl
  have zf:List.map AV.ab [AV.int .i64 (2:Int),.int .i64 0,.ag,.ag]=[.int .i64 (2:Int),.int .i64 0,.ag,.ag]:=rfl
  have zf0:List.map AV.ab [AV.int .i64 0,.int .i64 0,.ag,.ag]=[.int .i64 0,.int .i64 0,.ag,.ag]:=rfl
  have e86:∀ a b:Int,decide (a=b)=decide (a=b):=fun _ _=>rfl
  simp +contextual only [k2,ik.aN,ik.len (by omega),decide_false,Bool.not_true,Bool.not_true,bdP,zr,W8,b7,ec,zf,zf0,KS,hgy,sZ,Nat.reduceEqDiff,Nat.reduceAdd,Nat.reduceLT,↓reduceIte,Int.reduceEq]
  have nR:=lV [.int .i64 2,.int .i64 0,.ag,.ag]
  generalize G1++[aa.cells [AV.int .i64 2,.int .i64 0,.ag,.ag]]=G2 at nR ⊢
  have ki2:(c.tm i).k=2:=(sA.1 hR).1
  have vM:ue c i k:=by
   rcases hr with h | h | h | h
   ·exact absurd h.1 (by decide)
   ·exact h.2
   all_goals (exact absurd h.1 (by decide))
  obtain ⟨Hu,aG,hall0⟩:=vM
  have kk2:(c.tm k).k=2:=of_decide_eq_true Hu
  have W9:∀ qs,mH (Sh c.O) qs (c.tm i) ((c.kd k).map c.tm)→Sh c.O (.mk 2 0 [] qs) (c.tm i) (c.tm k):=by
   intro qs hq
   rw [Sh2 rfl ki2]
   rw [kk.1] at hq
   refine ⟨rfl,rfl,kk2,?_,hq⟩
   rw [qX,if_pos kk2,qX,if_pos ki2] at aG;exact aG
  refine mr (HE hD w (l0:=[]) (by simp) ik l2 (fun z hz=>hp z hz (hall0 z hz)) nR) ?_
  rintro e1 e G6 ⟨rfl,f6,f10,qs,jn,pj⟩
  replace pj:PB c H x y i k [.int .i64 2,.int .i64 0,.ag,qc qs] G6:=pj
  have gp6:=pj.gp
  have g66:=pj.g6
  have lp:=TY 2 0 [] qs
  have tv0:vr []=AV.ag:=rfl
  rw [tv0] at lp
  have hs:Sh c.O (.mk 2 0 [] qs) (c.tm i) (c.tm k):=W9 qs jn
  obtain ⟨q1,q2,q3,q4,q5,q6,q7,q8,q9⟩:=bb (.mk 2 0 [] qs)
  have lp2:=Fh (.mk 2 0 [] qs)
  have N4:=zD (a:=aa.cells (eJ (.mk 2 0 [] qs)).cells) (aO g66)
  have Sj:aj (H.length + 1) (eJ (.mk 2 0 [] qs)).cells=true:=cH (gL _ _)
  have mh:=PB.fin (to:=[]) (l:=qs) hD pj hs
  simp +contextual only [f6,f10,gp6,g66,lp,q1,q2,q3,q9,T1,N4,lp2,Sj,sZ,Nat.reduceEqDiff,Nat.reduceAdd,↓reduceIte,reduceCtorEq]
  first | exact mh | exact ⟨by omega,mh⟩ | exact ⟨trivial,mh⟩
end Go.aK
end
section
set_option maxRecDepth 100000
namespace Go.aK
open Go Go.Proofs Go.fo
theorem abr {c:Cx} (hc:c.Ok) {i k:Int} (hi:c.ee i) (hk:c.ee k) (hR:R c.O (c.tm i) (c.tm k)) (hr:iG c i k 3) (kB:∀ m,m < 3→¬ iG c i k m) (hp:∀ y∈c.kd k,R c.O (c.tm i) (c.tm y)→qd c i y) (Xa:∀ x∈c.kd i,∀ y∈c.kd k,R c.O (c.tm x) (c.tm y)→qd c x y):qd c i k:=by
 intro H hD
 refine Fe.2.calls rfl ?_
 simp only [Fe,aH]
 have k2:∀ l,(bA l).ab=bA l:=fun l=>(aJ l).2.1
 have ki:=hc.kids i hi
 have kk:=hc.kids k hk
 have l1:=hc.kl i hi
 have l2:=hc.kl k hk
 obtain ⟨a1,a2,a3,a4,a5⟩:=aJ (c.kd i)
 obtain ⟨b1,b2,b3,b4,b5⟩:=aJ (c.kd k)
 have ii:IL (bA (c.kd i)) (c.kd i):=.inl rfl
 have ik:IL (bA (c.kd k)) (c.kd k):=.inl rfl
 have ei:(c.nd.getD i.toNat default).snd=c.kd i:=rfl
 have ek:(c.nd.getD k.toNat default).snd=c.kd k:=rfl
 obtain ⟨m1,m2,m3⟩:=hD.lt
 have ed:∀ X:List aa,(H++X)[c.d]?=H[c.d]?:=fun X=>zA m1
 have spv:∀ x:AV,ai [AV.ag] 0 [x]=[x]:=fun x=>rfl
 have spq:ai [AV.int .i64 0,.int .i64 0,.ag,.ag] 0 [AV.int .i64 0,.int .i64 0,.ag,.ag]=[AV.int .i64 0,.int .i64 0,.ag,.ag]:=rfl
 simp +contextual only [sZ,Nat.reduceEqDiff,Nat.reduceAdd,↓reduceIte,reduceCtorEq]
 refine mF (K1:=fun e G=>get e 1=.int .i64 i∧get e 3=.ah (.ptr c.d 0)∧get e 5=.ah (.int .i64 k)∧get e 6=.ptr H.length 0∧∃ x y,get e 7=.ptr x 0∧get e 8=.ptr y 0∧XY H x y∧PA c H x y i k G) ?_ ?_
 ·have P0:aa:=.cells [.int .i64 0,.int .i64 0,.ag,.ag]
  have A:∃ x y,AV.ptr (H.length + 1) 0=.ptr x 0∧AV.ptr (H.length + 2) 0=.ptr y 0∧XY H x y∧PA c H x y i k (H++[.cells [.int .i64 0,.int .i64 0,.ag,.ag],.cells [bA (c.kd i)],.cells [bA (c.kd k)]]):=
   ⟨_,_,rfl,rfl,⟨by omega,by omega,by omega,by omega⟩,⟨hD.sl _,by simp,by simp,by simp,by simp,fun j hj _ _=>zA hj⟩⟩
  have B:∃ x y,AV.ptr (H.length + 2) 0=.ptr x 0∧AV.ptr (H.length + 1) 0=.ptr y 0∧XY H x y∧PA c H x y i k (H++[.cells [.int .i64 0,.int .i64 0,.ag,.ag],.cells [bA (c.kd k)],.cells [bA (c.kd i)]]):=
   ⟨_,_,rfl,rfl,⟨by omega,by omega,by omega,by omega⟩,⟨hD.sl _,by simp,by simp,by simp,by simp,fun j hj _ _=>zA hj⟩⟩
  simp +contextual only [ed,hD.d,nM,FO,cP,cb,k2,ei,ek,a1,a3,a4,a5,b1,b3,b4,b5,List.map_cons,List.map_nil,spv,List.all_cons,List.all_nil,acX,bJ,cV,sZ,Nat.reduceEqDiff,Nat.reduceAdd,Nat.reduceLT,↓reduceIte]
  refine ⟨hi,?_⟩
  repeat' apply hV
  all_goals first | exact hk.1 | exact hk.2 | exact A | exact B
 ·rintro e G ⟨e1,e3,e5,e6,x,y,e7,e8,w,CP⟩
  simp +contextual only [e1,e3,e5,e6,e7,e8,sZ,Nat.reduceEqDiff,↓reduceIte]
  refine aD 2 (fun m (G:List aa)=>PA c H x y i k G)
   (fun m G=>[(1,.int .i64 i),(3,.ah (.ptr c.d 0)),(5,.ah (.int .i64 k)),(6,.ptr H.length 0),(7,.ptr x 0),(8,.ptr y 0),(9,.int .i64 ((m + 1:Nat):Int))]) (fun m G=>G) G ⟨CP,ax _ _ _⟩ fun m G hm CP=>?_
  have hf:eG.cells[m + 1]?=some (.fn (.func (182 + (m + 1))) [] []):=by
   have:m=0∨m=1∨m=2∨m=3:=by omega
   rcases this with rfl | rfl | rfl | rfl <;> rfl
  have en:=X0 (m + 1) _ hf (by omega)
  simp +contextual only [sZ]
  refine aF NM ?_
  simp +contextual only [nA,en _ rfl,sZ,Nat.reduceEqDiff,Nat.reduceAdd,↓reduceIte,reduceCtorEq]
  refine af ((wB hc hi hk).at (n:=m + 1) (by omega) (by omega) CP.du) ?_
  rintro r G1 ⟨z,rfl,hz,hU,oq⟩
  have rc:=CP.call hD w hU oq
  by_cases TA:m=2
  rotate_left
  ·have:z=false:=by
    cases z with
    | false=>rfl
    | true=>exact absurd (hz.1 rfl) (kB (m + 1) (by omega))
   subst this
   simp +contextual only [Bool.not_false,sZ,Nat.reduceEqDiff,↓reduceIte]
   exact ⟨m + 1,G1,⟨by omega,rc⟩,by omega,aE (by rw [aq (m + 1) (by omega)]) rfl⟩
  subst TA
  have:z=true:=hz.2 hr
  subst this
  have zr:=rc.len
  have lV:=fun es=>rc.sl w es
  have W8:=fun es=>(lV es).gp
  have RZ:=fun es=>(lV es).gx
  have hgy:=fun es=>(lV es).gy
  have b7:∀ (o o':aa),(G1++[o]).set (H.length + 3) o'=G1++[o']:=fun o o'=>by rw [← zr];simp
  have ec:((3:Nat):Int)=3:=rfl
  have zf:List.map AV.ab [AV.int .i64 (3:Int),.int .i64 0,.ag,.ag]=[.int .i64 (3:Int),.int .i64 0,.ag,.ag]:=rfl
  have zf0:List.map AV.ab [AV.int .i64 0,.int .i64 0,.ag,.ag]=[.int .i64 0,.int .i64 0,.ag,.ag]:=rfl
  have e86:∀ a b:Int,decide (a=b)=decide (a=b):=fun _ _=>rfl
  simp +contextual only [decide_true,decide_false,Bool.not_true,Bool.not_true,bdP,zr,W8,b7,ec,zf,zf0,KS,sZ,Nat.reduceEqDiff,Nat.reduceAdd,↓reduceIte,Int.reduceEq]
  have nR:=lV [.int .i64 3,.int .i64 0,.ag,.ag]
  generalize G1++[aa.cells [AV.int .i64 3,.int .i64 0,.ag,.ag]]=G2 at nR ⊢
  have ki2:(c.tm i).k=2:=(sA.1 hR).1
  have hlx:Cw c i k:=by
   rcases hr with h | h | h | h
   ·exact absurd h.1 (by decide)
   ·exact absurd h.1 (by decide)
   ·exact h.2
   ·exact absurd h.1 (by decide)
  obtain ⟨N1,CN,hall0,n0,afg,Z8,hn2⟩:=hlx
  have N6:=lC.1 N1
  have kk2:(c.tm k).k=2:=N6.2.1
  have osi:dM c i=c.O.sp (c.O.pl (c.tm i).n):=by rw [dM,if_pos ki2]
  have hx:side (c.O.sp (c.O.pl (c.tm i).n)) (c.tm i).l=(bI (dM c i) (c.kd i)).map c.tm:=by rw [← osi,← ki.1,ku]
  have hy:side (c.O.sp (c.O.pl (c.tm i).n)) (c.tm k).l=(bI (dM c i) (c.kd k)).map c.tm:=by rw [← osi,← kk.1,ku]
  have lx:(bI (dM c i) (c.kd i)).length=(c.kd i).length:=kq
  have ly:(bI (dM c i) (c.kd k)).length=(c.kd k).length:=kq
  have nx:∀ z∈bI (dM c i) (c.kd i),z∈c.kd i:=fun z hz=>pU.1 hz
  have ny:∀ z∈bI (dM c i) (c.kd k),z∈c.kd k:=fun z hz=>pU.1 hz
  have hS:∀ (n:Nat) (l:List PP),Sh c.O (.mk 3 n [] l) (c.tm i) (c.tm k)↔E5 (E c.O) (Sh c.O) n l (c.tm i) ((bI (dM c i) (c.kd i)).map c.tm) ((bI (dM c i) (c.kd k)).map c.tm) (c.tm k).l:=by
   intro n l
   rw [Sh3 rfl ki2,hx,hy]
   rw [osi] at CN
   exact ⟨fun h=>h.2.2.2.2,fun h=>⟨rfl,kk2,N6.2.2,CN,h⟩⟩
  refine af (qY hc hi nR.du) ?_
  rintro r G3 ⟨rfl,rfl⟩
  have gx0:=nR.gx
  have gy0:=nR.gy
  simp +contextual only [k2,dN,gb,gf,gg,gx0,sZ,Nat.reduceEqDiff,Nat.reduceAdd,Nat.reduceLT,↓reduceIte]
  refine aF (KB (c.kd i) (dM c i) (by omega)) ?_
  simp +contextual only [k2,gy0,sZ,Nat.reduceEqDiff,Nat.reduceAdd,Nat.reduceLT,↓reduceIte]
  refine aF (KB (c.kd k) (dM c i) (by omega)) ?_
  generalize bI (dM c i) (c.kd i)=xs at *
  generalize bI (dM c i) (c.kd k)=ys at *
  have ix:IL (.ak 0 (ints xs)) xs:=.inr rfl
  have iy:IL (.ak 0 (ints ys)) ys:=.inr rfl
  simp +contextual only [sZ,Nat.reduceEqDiff,Nat.reduceAdd,↓reduceIte,reduceCtorEq]
  refine af (aaP ix iy (by omega) (by omega) (fun z hz z' FP=>kU hc (ki.2 z (nx z hz)) (kk.2 z' (ny z' FP))) nR.du) ?_
  rintro r G4 ⟨n,rfl,hn,XW,XX⟩
  have en0:=hn.WL afg
  subst en0
  have yn:=nR.call hD w XW XX
  have gp4:=yn.gp
  have oO:=fun es=>yn.set (es':=es) hD w
  have gps:=fun es=>(oO es).gp
  have gxs:=fun es=>(oO es).gx
  have gys:=fun es=>(oO es).gy
  have un1:List.map AV.ab [AV.int .i64 (n:Int)]=[.int .i64 (n:Int)]:=rfl
  have hLS:∀ l,E5 (E c.O) (Sh c.O) n l (c.tm i) (xs.map c.tm) (ys.map c.tm) (c.tm k).l↔(if (n:Int)=ys.length then mH (Sh c.O) l (c.tm i) ((c.kd k).map c.tm) else ∃ q r,l=q::r∧Sh c.O q (c.tm (xs.getD n 0)) (c.tm (ys.getD n 0))∧mH (Sh c.O) r (c.tm i) ((c.kd k).map c.tm)):=by
   intro l
   rw [abi (kd:=c.kd k) kk.1]
   have h1:(0:Int)≤n∧(n:Int) < xs.length∧(n:Int)≤ys.length:=⟨by omega,by omega,by have:=hn.lb;omega⟩
   have h2:∀ j,j < (n:Int).toNat→E c.O (c.tm (xs.getD j 0)) (c.tm (ys.getD j 0)):=fun j hj=>hn.eq j (by omega)
   rw [aad]
   exact ⟨fun h=>h.2.2,fun h=>⟨h1,h2,h⟩⟩
  by_cases hny:n < ys.length
  ·have n4:((n:Int) < ys.length)=True:=eq_true (by omega)
   simp +contextual only [decide_true,gp4,W7,un1,gps,iy.aN,iy.len (by omega),n4,ix.idx,iy.idx,ix.lens,iy.lens,aad,d3,s3,adL,sZ,Nat.reduceEqDiff,Nat.reduceAdd,Nat.reduceLT,Nat.reduceLeDiff,↓reduceIte,reduceCtorEq]
   have mx:=nx _ (aQ (l:=xs) (i:=n) (by omega))
   have my:=ny _ (aQ hny)
   have Gp:qd c (xs.getD n 0) (ys.getD n 0):=Xa _ mx _ my (hn2.resolve_left (by omega))
   have W9:∀ u qs,Sh c.O u (c.tm (xs.getD n 0)) (c.tm (ys.getD n 0))→mH (Sh c.O) qs (c.tm i) ((c.kd k).map c.tm)→Sh c.O (.mk 3 n [] (u::qs)) (c.tm i) (c.tm k):=by
    intro u qs hu hq
    rw [hS,hLS,if_neg (by omega)];exact ⟨u,qs,rfl,hu,hq⟩
   repeat' apply hV
   all_goals first | omega | skip
   all_goals
    refine af (Gp _ (oO _).du) ?_
    rintro r G5 ⟨u,rfl,hu,hU5,hD5⟩
    replace W9:=fun qs=>W9 u qs hu
    have N5:=(oO _).call hD w hU5 hD5
    have gp5:=N5.gp
    have HF:=fun es=>N5.set (es':=es) hD w
    have gps6:=fun es=>(HF es).gp
    have gys6:=fun es=>(HF es).gy
    obtain ⟨u1,u2,u3,u4,u5,u6,u7,u8,u9⟩:=bb u
    have ap1:∀ ψ,bp 4 64 .ag (.ak 0 [eJ u]) ψ=ψ (eI ([]++[u])):=fun ψ=>Ff [] u (by simp) 0 ψ
    have ea:eI ([]++[u])=[eJ u]:=rfl
    rw [ea] at ap1
    simp +contextual only [k2,ik.aN,ik.len (by omega),u1,u2,u6,kv,ap1,gp5,gps6,gys6,d3,s3,adL,sZ,Nat.reduceEqDiff,Nat.reduceAdd,Nat.reduceLT,↓reduceIte]
    refine mr (HE hD w (l0:=[u]) (by simp) ik l2 (fun z hz=>hp z hz (hall0 z hz)) (HF _)) ?_
    rintro e1 e G6 ⟨rfl,f6,f10,qs,jn,pj⟩
    replace pj:PB c H x y i k [.int .i64 3,.int .i64 n,.ag,qc (u::qs)] G6:=pj
    have gp6:=pj.gp
    have g66:=pj.g6
    have lp:=TY 3 n [] (u::qs)
    have tv0:vr []=AV.ag:=rfl
    rw [tv0] at lp
    have hs:Sh c.O (.mk 3 n [] (u::qs)) (c.tm i) (c.tm k):=W9 qs jn
    obtain ⟨q1,q2,q3,q4,q5,q6,q7,q8,q9⟩:=bb (.mk 3 n [] (u::qs))
    have lp2:=Fh (.mk 3 n [] (u::qs))
    have N4:=zD (a:=aa.cells (eJ (.mk 3 n [] (u::qs))).cells) (aO g66)
    have Sj:aj (H.length + 1) (eJ (.mk 3 n [] (u::qs))).cells=true:=cH (gL _ _)
    have mh:=PB.fin (to:=[]) (l:=(u::qs)) hD pj hs
    simp +contextual only [f6,f10,gp6,g66,lp,q1,q2,q3,q9,T1,N4,lp2,Sj,sZ,Nat.reduceEqDiff,Nat.reduceAdd,↓reduceIte,reduceCtorEq]
    first | exact mh | exact ⟨by omega,mh⟩ | exact ⟨trivial,mh⟩
  ·have n4:((n:Int) < ys.length)=False:=eq_false (by omega)
   have W9:∀ qs,mH (Sh c.O) qs (c.tm i) ((c.kd k).map c.tm)→Sh c.O (.mk 3 n [] qs) (c.tm i) (c.tm k):=by
    intro qs hq
    rw [hS,hLS,if_pos (by have:=hn.lb;omega)];exact hq
   simp +contextual only [k2,ik.aN,ik.len (by omega),decide_false,gp4,W7,un1,gps,gys,iy.aN,iy.len (by omega),n4,sZ,Nat.reduceEqDiff,Nat.reduceAdd,Nat.reduceLT,Nat.reduceLeDiff,↓reduceIte]
   refine mr (HE hD w (l0:=[]) (by simp) ik l2 (fun z hz=>hp z hz (hall0 z hz)) (oO _)) ?_
   rintro e1 e G6 ⟨rfl,f6,f10,qs,jn,pj⟩
   replace pj:PB c H x y i k [.int .i64 3,.int .i64 n,.ag,qc qs] G6:=pj
   have gp6:=pj.gp
   have g66:=pj.g6
   have lp:=TY 3 n [] qs
   have tv0:vr []=AV.ag:=rfl
   rw [tv0] at lp
   have hs:Sh c.O (.mk 3 n [] qs) (c.tm i) (c.tm k):=W9 qs jn
   obtain ⟨q1,q2,q3,q4,q5,q6,q7,q8,q9⟩:=bb (.mk 3 n [] qs)
   have lp2:=Fh (.mk 3 n [] qs)
   have N4:=zD (a:=aa.cells (eJ (.mk 3 n [] qs)).cells) (aO g66)
   have Sj:aj (H.length + 1) (eJ (.mk 3 n [] qs)).cells=true:=cH (gL _ _)
   have mh:=PB.fin (to:=[]) (l:=qs) hD pj hs
   simp +contextual only [f6,f10,gp6,g66,lp,q1,q2,q3,q9,T1,N4,lp2,Sj,sZ,Nat.reduceEqDiff,Nat.reduceAdd,↓reduceIte,reduceCtorEq]
   first | exact mh | exact ⟨by omega,mh⟩ | exact ⟨trivial,mh⟩
end Go.aK
end
