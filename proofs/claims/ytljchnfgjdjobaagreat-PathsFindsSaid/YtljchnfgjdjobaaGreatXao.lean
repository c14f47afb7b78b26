/- Part 15 of 20 of the proof. -/
import Derived.Test.YtljchnfgjdjobaaGreatXan
import Derived.Test.YtljchnfgjdjobaaGreatXam
import Derived.Test.YtljchnfgjdjobaaGreatXai
import Derived.KernelRfl
set_option linter.unusedVariables false
set_option linter.unusedSimpArgs false
set_option linter.defProp false
set_option linter.unusedSectionVars false
section
set_option maxRecDepth 100000
namespace Go.aI
open Go Go.Proofs Go.dD
structure PC (c:Cx) (H:List aa) (x y:Nat) (i k:Int) (es:List AV) (o:aa) (G:List aa):Prop where
 du:Du c G
 gx:G[x]?=some (.cells [bu (c.kd i)])
 gy:G[y]?=some (.cells [bu (c.kd k)])
 g6:G[H.length]?=some (.cells [.int .i64 0,.int .i64 0,.ag,.ag])
 gp:G[H.length + 3]?=some (.cells es)
 go:G[H.length + 4]?=some o
 len:G.length=H.length + 5
 up:∀ j,j < H.length→j≠c.e→j≠c.g→G[j]?=H[j]?
theorem PB.aez {c:Cx} {H G:List aa} {x y:Nat} {i k:Int} {es:List AV} (w:XY H x y) (h:PB c H x y i k es G) (o:aa):PC c H x y i k es o (G++[o]):=by
 obtain ⟨w1,w2,w3,w4⟩:=w
 have hl:=h.len
 exact ⟨h.du.ui _,by rw [zz (by omega),h.gx],by rw [zz (by omega),h.gy],by rw [zz (by omega),h.g6],by rw [zz (by omega),h.gp],by rw [← hl];simp,by simp [hl],fun j h1 h2 h3=>by rw [zz (by omega),h.up j h1 h2 h3]⟩
theorem PC.call {c:Cx} {H G G':List aa} {x y:Nat} {i k:Int} {es:List AV} {o:aa} (hD:Du c H) (w:XY H x y) (h:PC c H x y i k es o G) (hU:Up c G G') (kA:Du c G'):PC c H x y i k es o G':=by
 obtain ⟨l1,l2,l3⟩:=hD.lt
 obtain ⟨w1,w2,w3,w4⟩:=w
 exact ⟨kA,by rw [hU.get x (by omega) (by omega),h.gx],by rw [hU.get y (by omega) (by omega),h.gy],by rw [hU.get _ (by omega) (by omega),h.g6],by rw [hU.get _ (by omega) (by omega),h.gp],by rw [hU.get _ (by omega) (by omega),h.go],by rw [hU.len,h.len],fun j h1 h2 h3=>by rw [hU.get j h2 h3,h.up j h1 h2 h3]⟩
theorem PC.set {c:Cx} {H G:List aa} {x y:Nat} {i k:Int} {es es':List AV} {o:aa} (hD:Du c H) (w:XY H x y) (h:PC c H x y i k es o G):PC c H x y i k es' o (G.set (H.length + 3) (.cells es')):=by
 obtain ⟨l1,l2,l3⟩:=hD.lt
 obtain ⟨w1,w2,w3,w4⟩:=w
 have hp:=aS h.gp
 exact ⟨h.du.set (by omega) (by omega) (by omega),by rw [zA (by omega),h.gx],by rw [zA (by omega),h.gy],by rw [zA (by omega),h.g6],by rw [Sx hp],by rw [zA (by omega),h.go],by rw [ab7,h.len],fun j h1 h2 h3=>by rw [zA (by omega),h.up j h1 h2 h3]⟩
theorem PC.aeA {c:Cx} {H G:List aa} {x y:Nat} {i k:Int} {es:List AV} {o o':aa} (hD:Du c H) (w:XY H x y) (h:PC c H x y i k es o G):PC c H x y i k es o' (G.set (H.length + 4) o'):=by
 obtain ⟨l1,l2,l3⟩:=hD.lt
 obtain ⟨w1,w2,w3,w4⟩:=w
 have hp:=aS h.go
 exact ⟨h.du.set (by omega) (by omega) (by omega),by rw [zA (by omega),h.gx],by rw [zA (by omega),h.gy],by rw [zA (by omega),h.g6],by rw [zA (by omega),h.gp],by rw [Sx hp],by rw [ab7,h.len],fun j h1 h2 h3=>by rw [zA (by omega),h.up j h1 h2 h3]⟩
theorem PC.drop {c:Cx} {H G:List aa} {x y:Nat} {i k:Int} {es:List AV} {o:aa} (hD:Du c H) (w:XY H x y) (h:PC c H x y i k es o G):PB c H x y i k es (G.take (H.length + 4))∧G=G.take (H.length + 4)++[o]:=by
 obtain ⟨l1,l2,l3⟩:=hD.lt
 obtain ⟨w1,w2,w3,w4⟩:=w
 have hl:=h.len
 have t:∀ j,j < H.length + 4→(G.take (H.length + 4))[j]?=G[j]?:=fun j h1=>by rw [aaG,if_pos h1]
 refine ⟨⟨h.du.take (by omega) (by omega) (by omega),by rw [t x (by omega),h.gx],by rw [t y (by omega),h.gy],by rw [t _ (by omega),h.g6],by rw [t _ (by omega),h.gp],by simp;omega,fun j h1 h2 h3=>by rw [t j (by omega),h.up j h1 h2 h3]⟩,?_⟩
 have e:G.drop (H.length + 4)=[o]:=by
  have h1:=h.go
  have aM:H.length + 4 < G.length:=by omega
  rw [aav aM]
  rw [Hj aM] at h1
  simp only [Option.some.injEq] at h1
  rw [h1,aap (by omega)]
 rw [← e,aff]
structure MI (c:Cx) (a b:List Int) (us:List Bool) (to:List Int) (j:Nat) (ts:List Int) (ls:List PP):Prop where
 lt:ts.length=j
 ll:ls.length=j
 pa:∀ j',j' < j→0≤to.getD j' 0→ts.getD j' 0=to.getD j' 0∧(ls.getD j' default).nil
 ov:∀ j',j' < j→to.getD j' 0 < 0→(¬ (ls.getD j' default).nil∧Sh c.O (ls.getD j' default) (c.tm (a.getD (ts.getD j' 0).toNat 0)) (c.tm (b.getD j' 0)))∧∃ u:Nat,ts.getD j' 0=u∧u < a.length∧us.getD u false=false
theorem MI.snoc {c:Cx} {a b:List Int} {us:List Bool} {to:List Int} {j:Nat} {ts:List Int} {ls:List PP} (h:MI c a b us to j ts ls) (v:Int) (q:PP)
 (h1:0≤to.getD j 0→v=to.getD j 0∧q.nil) (h2:to.getD j 0 < 0→(¬ q.nil∧Sh c.O q (c.tm (a.getD v.toNat 0)) (c.tm (b.getD j 0)))∧∃ u:Nat,v=u∧u < a.length∧us.getD u false=false):MI c a b us to (j + 1) (ts++[v]) (ls++[q]):=by
 obtain ⟨k1,k2,k3,k4⟩:=h
 have e1:∀ j',j' < j→(ts++[v]).getD j' 0=ts.getD j' 0∧(ls++[q]).getD j' default=ls.getD j' default:=fun j' tx=>by
  constructor
  ·rw [th,th,zz (by omega)]
  ·rw [th,th,zz (by omega)]
 have e2:(ts++[v]).getD j 0=v∧(ls++[q]).getD j default=q:=by
  constructor
  ·rw [← k1];simp
  ·rw [← k2];simp
 refine ⟨by simp [k1],by simp [k2],fun j' tx h0=>?_,fun j' tx h0=>?_⟩
 ·by_cases e:j'=j
  ·subst e;rw [e2.1,e2.2];exact h1 h0
  ·have aM:j' < j:=by omega
   rw [(e1 j' aM).1,(e1 j' aM).2];exact k3 j' aM h0
 ·by_cases e:j'=j
  ·subst e;rw [e2.1,e2.2];exact h2 h0
  ·have aM:j' < j:=by omega
   rw [(e1 j' aM).1,(e1 j' aM).2];exact k4 j' aM h0
theorem yj {to:List Int} {x:Int}:∀ {n:Nat},(∀ j j',j < n→j' < n→to.getD j 0=x→to.getD j' 0=x→j=j')→dN to x n≤1
 | 0,_=>by simp [dN]
 | n + 1,h=>by
   rw [dN]
   have ih:=yj (n:=n) fun j j' h1 h2=>h j j' (by omega) (by omega)
   by_cases e:to.getD n 0=x
   ·rw [if_pos e]
    have:dN to x n=0:=by
     have h0:∀ m,m≤n→dN to x m=0:=by
      intro m
      induction m with
      | zero=>intro _;rfl
      | succ m ihm=>
        intro hm
        rw [dN,ihm (by omega),if_neg (fun e'=>by have:=h m n (by omega) (by omega) e' e;omega)]
     exact h0 n (zy _)
    omega
   ·rw [if_neg e];omega
theorem MI.cov {c:Cx} {a b:List Int} {us:List Bool} {to ts:List Int} {ls:List PP} (h:MI c a b us to b.length ts ls) (B2:Pr (fun x y=>E c.O (c.tm x) (c.tm y)) a b b.length us to) (hl:∃ u:Nat,u < a.length∧us.getD u false=false):Ke c ts ls a b:=by
 obtain ⟨k1,k2,k3,k4⟩:=h
 have cas:∀ j,j < b.length→(∃ u:Nat,to.getD j 0=u∧u < a.length∧us.getD u false=true∧E c.O (c.tm (a.getD u 0)) (c.tm (b.getD j 0)))∨to.getD j 0 < 0:=fun j hj=>by
  rcases B2.t1 j hj with h | ⟨u,h1,h2,h3,h4⟩
  ·exact .inr (by omega)
  ·exact .inl ⟨u,h1,h2,h3,h4⟩
 refine ⟨k1,k2,fun j hj=>?_,fun x hx hp=>?_,?_⟩
 ·rcases cas j hj with ⟨u,h1,h2,h3,h4⟩ | hn
  ·obtain ⟨e1,e2⟩:=k3 j hj (by omega)
   rw [if_pos e2,e1,h1]
   exact ⟨by omega,by rw [zB];exact h4⟩
  ·obtain ⟨⟨e1,e2⟩,u,h1,h2,h3⟩:=k4 j hj hn
   rw [if_neg e1]
   exact ⟨by omega,e2⟩
 ·obtain ⟨j,hj,e1,e2⟩:=jA.1 hp
  have CG:∀ j',j' < b.length→ts.getD j' 0=(x:Int)→us.getD x false=true→to.getD j' 0=(x:Int):=by
   intro j' tx e ht
   rcases cas j' tx with ⟨u,h1,_⟩ | hn
   ·rw [← (k3 j' tx (by omega)).1];exact e
   ·obtain ⟨_,u,h1,h2,h3⟩:=k4 j' tx hn
    have:u=x:=by omega
    subst this;rw [h3] at ht;cases ht
  have hux:us.getD x false=true:=by
   rcases cas j hj with ⟨u,h1,h2,h3,_⟩ | hn
   ·have:=(k3 j hj (by omega)).1
    have:u=x:=by omega
    subst this;exact h3
   ·exact absurd e2 (k4 j hj hn).1.1
  refine yj fun j1 j2 h1 h2 e1 e2=>?_
  have t1:=CG j1 h1 e1 hux
  have t2:=CG j2 h2 e2 hux
  exact B2.inj j1 j2 h1 h2 (by omega) (by omega)
 ·obtain ⟨u,hu,hf⟩:=hl
  refine ⟨u,hu,?_⟩
  by_cases h0:0 < dG ts ls u b.length
  ·obtain ⟨j,hj,e1,e2⟩:=jA.1 h0
   rcases cas j hj with ⟨u',h1,h2,h3,_⟩ | hn
   ·have:=(k3 j hj (by omega)).1
    have:u'=u:=by omega
    subst this;rw [hf] at h3;cases h3
   ·exact absurd e2 (k4 j hj hn).1.1
  ·omega
theorem Sh.ne_nil {O:Od} {p:PP} {a b:T} (h:Sh O p a b):¬ p.nil:=by
 rintro ⟨h1,_⟩
 exact Sh0 (by omega) (by omega) (by omega) (by omega) h
theorem aao {c:Cx} (hc:c.Ok) {i k:Int} (hi:c.eJ i) (hk:c.eJ k) (hR:R c.O (c.tm i) (c.tm k)) (hr:jf c i k 4) (jZ:∀ m,m < 4→¬ jf c i k m) (Vi:∀ x∈c.kd i,∀ y∈c.kd k,R c.O (c.tm x) (c.tm y)→qv c x y):qv c i k:=by
 intro H hD
 refine Ev.2.calls rfl ?_
 simp only [Ev,aH]
 have k2:∀ l,(bu l).ab=bu l:=fun l=>(aL l).2.1
 have ki:=hc.kids i hi
 have kk:=hc.kids k hk
 have l1:=hc.kl i hi
 have l2:=hc.kl k hk
 obtain ⟨a1,a2,a3,a4,a5⟩:=aL (c.kd i)
 obtain ⟨b1,b2,b3,b4,b5⟩:=aL (c.kd k)
 have ii:IL (bu (c.kd i)) (c.kd i):=.inl rfl
 have ik:IL (bu (c.kd k)) (c.kd k):=.inl rfl
 have ei:(c.nd.getD i.toNat default).snd=c.kd i:=rfl
 have ek:(c.nd.getD k.toNat default).snd=c.kd k:=rfl
 obtain ⟨m1,m2,m3⟩:=hD.lt
 have ed:∀ X:List aa,(H++X)[c.d]?=H[c.d]?:=fun X=>zz m1
 have spv:∀ x:AV,ai [AV.ag] 0 [x]=[x]:=fun x=>rfl
 have spq:ai [AV.int .i64 0,.int .i64 0,.ag,.ag] 0 [AV.int .i64 0,.int .i64 0,.ag,.ag]=[AV.int .i64 0,.int .i64 0,.ag,.ag]:=rfl
 simp +contextual only [sZ,Nat.reduceEqDiff,Nat.reduceAdd,↓reduceIte,reduceCtorEq]
 refine mW (K1:=fun e G=>get e 1=.int .i64 i∧get e 3=.ah (.ptr c.d 0)∧get e 5=.ah (.int .i64 k)∧get e 6=.ptr H.length 0∧∃ x y,get e 7=.ptr x 0∧get e 8=.ptr y 0∧XY H x y∧PA c H x y i k G) ?_ ?_
 ·have P0:aa:=.cells [.int .i64 0,.int .i64 0,.ag,.ag]
  have A:∃ x y,AV.ptr (H.length + 1) 0=.ptr x 0∧AV.ptr (H.length + 2) 0=.ptr y 0∧XY H x y∧PA c H x y i k (H++[.cells [.int .i64 0,.int .i64 0,.ag,.ag],.cells [bu (c.kd i)],.cells [bu (c.kd k)]]):=
   ⟨_,_,rfl,rfl,⟨by omega,by omega,by omega,by omega⟩,⟨hD.ui _,by simp,by simp,by simp,by simp,fun j hj _ _=>zz hj⟩⟩
  have B:∃ x y,AV.ptr (H.length + 2) 0=.ptr x 0∧AV.ptr (H.length + 1) 0=.ptr y 0∧XY H x y∧PA c H x y i k (H++[.cells [.int .i64 0,.int .i64 0,.ag,.ag],.cells [bu (c.kd k)],.cells [bu (c.kd i)]]):=
   ⟨_,_,rfl,rfl,⟨by omega,by omega,by omega,by omega⟩,⟨hD.ui _,by simp,by simp,by simp,by simp,fun j hj _ _=>zz hj⟩⟩
  simp +contextual only [ed,hD.d,n8,E9,cK,b7,k2,ei,ek,a1,a3,a4,a5,b1,b3,b4,b5,List.map_cons,List.map_nil,spv,List.all_cons,List.all_nil,acr,bL,cV,sZ,Nat.reduceEqDiff,Nat.reduceAdd,Nat.reduceLT,↓reduceIte]
  refine ⟨hi,?_⟩
  repeat' apply tg
  all_goals first | exact hk.1 | exact hk.2 | exact A | exact B
 ·rintro e G ⟨e1,e3,e5,e6,x,y,e7,e8,w,Ce⟩
  simp +contextual only [e1,e3,e5,e6,e7,e8,sZ,Nat.reduceEqDiff,↓reduceIte]
  refine aF 3 (fun m (G:List aa)=>PA c H x y i k G)
   (fun m G=>[(1,.int .i64 i),(3,.ah (.ptr c.d 0)),(5,.ah (.int .i64 k)),(6,.ptr H.length 0),(7,.ptr x 0),(8,.ptr y 0),(9,.int .i64 ((m + 1:Nat):Int))]) (fun m G=>G) G ⟨Ce,ax _ _ _⟩ fun m G hm Ce=>?_
  have hf:eM.cells[m + 1]?=some (.fn (.func (182 + (m + 1))) [] []):=by
   have:m=0∨m=1∨m=2∨m=3:=by omega
   rcases this with rfl | rfl | rfl | rfl <;> rfl
  have en:=Wb (m + 1) _ hf (by omega)
  simp +contextual only [sZ]
  refine aB MK ?_
  simp +contextual only [nU,en _ rfl,sZ,Nat.reduceEqDiff,Nat.reduceAdd,↓reduceIte,reduceCtorEq]
  refine af ((wu hc hi hk).at (n:=m + 1) (by omega) (by omega) Ce.du) ?_
  rintro r G1 ⟨z,rfl,hz,hU,oJ⟩
  have rE:=Ce.call hD w hU oJ
  by_cases RW:m=3
  rotate_left
  ·have:z=false:=by
    cases z with
    | false=>rfl
    | true=>exact absurd (hz.1 rfl) (jZ (m + 1) (by omega))
   subst this
   simp +contextual only [Bool.not_false,sZ,Nat.reduceEqDiff,↓reduceIte]
   exact ⟨m + 1,G1,⟨by omega,rE⟩,by omega,ay (by rw [aj (m + 1) (by omega)]) rfl⟩
  subst RW
  have:z=true:=hz.2 hr
  subst this
  have qM:=rE.len
  have mg:=fun es=>rE.ui w es
  have Vg:=fun es=>(mg es).gp
  have Qj:=fun es=>(mg es).gx
  have hgy:=fun es=>(mg es).gy
  have bT:∀ (o o':aa),(G1++[o]).set (H.length + 3) o'=G1++[o']:=fun o o'=>by rw [← qM];simp
  have ec:((4:Nat):Int)=4:=rfl
  have zf:List.map AV.ab [AV.int .i64 (4:Int),.int .i64 0,.ag,.ag]=[.int .i64 (4:Int),.int .i64 0,.ag,.ag]:=rfl
  have zf0:List.map AV.ab [AV.int .i64 0,.int .i64 0,.ag,.ag]=[.int .i64 0,.int .i64 0,.ag,.ag]:=rfl
  have e86:∀ a b:Int,decide (a=b)=decide (a=b):=fun _ _=>rfl
  simp +contextual only [k2,decide_true,decide_false,Bool.not_true,Bool.not_true,bdP,qM,Vg,bT,ec,zf,zf0,Ki,Qj,hgy,sZ,Nat.reduceEqDiff,Nat.reduceAdd,Nat.reduceLT,↓reduceIte,reduceCtorEq,Int.reduceEq]
  have om:=mg [.int .i64 4,.int .i64 0,.ag,.ag]
  generalize G1++[aa.cells [AV.int .i64 4,.int .i64 0,.ag,.ag]]=G2 at om ⊢
  have ki2:(c.tm i).k=2:=(qK.1 hR).1
  have hmq:zk c i k:=by
   rcases hr with h | h | h | h
   ·exact absurd h.1 (by decide)
   ·exact absurd h.1 (by decide)
   ·exact absurd h.1 (by decide)
   ·exact h.2
  obtain ⟨M8,Cc,UW⟩:=hmq
  have Nf:=lO.1 M8
  have kk2:(c.tm k).k=2:=Nf.2.1
  have osi:dU c i=c.O.sp (c.O.pl (c.tm i).n):=by rw [dU,if_pos ki2]
  have gx0:=om.gx
  have gy0:=om.gy
  simp +contextual only [sZ]
  refine af (UU ii ik (by omega) (by omega) (fun z hz z' xU=>lf hc (ki.2 z hz) (kk.2 z' xU)) om.du) ?_
  rintro r G3 ⟨us,to,B2,rfl,ZA,MG⟩
  have Cd:=om.call hD w ZA MG
  have VV:=(Pr.mu (f:=nf c) (G:=Gt c.O.sp) B2).1 UW
  have lbl:=kK (c.kd i).length fun z=>!us.getD z false
  have il:IL (bu (below (c.kd i).length fun z=>!us.getD z false)) (below (c.kd i).length fun z=>!us.getD z false):=.inl rfl
  have mml:∀ {z:Int},z∈below (c.kd i).length (fun z=>!us.getD z false)→∃ u:Nat,z=u∧u < (c.kd i).length∧us.getD u false=false:=by
   intro z hz;obtain ⟨u,h1,h2,h3⟩:=iG.1 hz;exact ⟨u,h1,h2,by simpa using h3⟩
  have mmo:∀ {j:Nat},j < (c.kd k).length→to.getD j 0 < 0→∃ z∈below (c.kd i).length (fun z=>!us.getD z false),R c.O (c.tm ((c.kd i).getD z.toNat 0)) (c.tm ((c.kd k).getD j 0)):=by
   intro j hj hn
   exact VV.2 (j:Int) (iG.2 ⟨j,rfl,hj,by simpa using hn⟩)
  have aeB:=VV.1
  generalize (below (c.kd i).length fun z=>!us.getD z false)=L at *
  have lto:=B2.lt
  obtain ⟨v1,v2,v3,v4,v5⟩:=aL L
  simp +contextual only [k2,ap,sZ,Nat.reduceEqDiff,Nat.reduceAdd,Nat.reduceLT,↓reduceIte]
  intro _
  have hlne2:∃ u:Nat,u < (c.kd i).length∧us.getD u false=false:=by
   cases L with
   | nil=>exact absurd rfl aeB
   | cons z r=>
     obtain ⟨u,_,h2,h3⟩:=mml (abD (a:=z) (l:=r))
     exact ⟨u,h2,h3⟩
  refine aF (c.kd k).length (fun j (s:List aa×List Int×List PP)=>PB c H x y i k [.int .i64 4,.int .i64 0,vv s.2.1,qt s.2.2] s.1∧MI c (c.kd i) (c.kd k) us to j s.2.1 s.2.2)
   (fun j s=>[(3,.ah (.ptr c.d 0)),(6,.ptr H.length 0),(7,.ptr x 0),(8,.ptr y 0),(10,.ptr (H.length + 3) 0),(11,bu L),(89,.al 0 (ints to)),(90,.int .i64 to.length),(91,.int .i64 j)]) (fun j s=>s.1) (G3,[],[])
   ⟨⟨Cd,rfl,rfl,fun j h=>by omega,fun j h=>by omega⟩,ax _ _ _⟩ fun j s hj hI=>?_
  obtain ⟨G,ts,ls⟩:=s
  obtain ⟨mg,HC⟩:=hI
  simp only at mg HC
  have hlen:=mg.len
  by_cases M6:(j:Int) < to.length
  ·have lA:j < (c.kd k).length:=by omega
   have zf4:∀ n,aw n (List.map AV.ab [AV.int .i64 0,.int .i64 0,.ag,.ag])=true:=fun _=>rfl
   have zf5:List.map AV.ab [AV.int .i64 0,.int .i64 0,.ag,.ag]=[AV.int .i64 0,.int .i64 0,.ag,.ag]:=rfl
   obtain ⟨tj,htj⟩:∃ tj,to.getD j 0=tj:=⟨_,rfl⟩
   have hpc:=mg.aez w (.cells [.int .i64 0,.int .i64 0,.ag,.ag])
   by_cases yQ:tj < 0
   ·simp +contextual only [k2,decide_true,M6,aN,dY,zB,htj,yQ,hlen,zf5,sZ,Nat.reduceEqDiff,Nat.reduceAdd,↓reduceIte,reduceCtorEq]
    have mz:=fun (G':List aa) (fa:SD c (G++[aa.cells [AV.int .i64 0,.int .i64 0,.ag,.ag]]) G')=>hpc.call hD w fa.2 fa.1
    have hjz:(0:Int)≤j∧(j:Int) < (c.kd k).length:=⟨by omega,by omega⟩
    refine ⟨by omega,af (MF (SD.BZ c (G++[.cells [.int .i64 0,.int .i64 0,.ag,.ag]])) il (by omega) 148 [] [.ah (.ptr c.d 0),.ptr x 0,.ptr y 0,.ah (.int .i64 j)] rfl rfl (Q:=fun z=>R c.O (c.tm ((c.kd i).getD z.toNat 0)) (c.tm ((c.kd k).getD (j:Int).toNat 0)))
     (fun z hz G' fa=>?_) ⟨hpc.du,Up.refl c _⟩) ?_⟩
    ·obtain ⟨u,rfl,hu,_⟩:=mml hz
     refine (aew ii ik ⟨by omega,by omega⟩ hjz (lg hc (ki.2 _ (aV (by omega))) (kk.2 _ (aV (by omega)))) fa.1 (mz G' fa).gx (mz G' fa).gy).mono fun r H' hr=>hr.sb fa
    rintro r G4 ⟨hG4,vM⟩
    rcases vM with ⟨_,vM⟩ | ⟨m,rfl,hm,hQ,_⟩
    ·obtain ⟨z,hz,h⟩:=mmo lA (by rw [htj];exact yQ)
     exact absurd h (vM z hz)
    obtain ⟨u,hu,A8,huf⟩:=mml (aV hm)
    have QF:=mz G4 hG4
    have gx4:=QF.gx
    have gy4:=QF.gy
    rw [hu,zB,zB] at hQ
    simp +contextual only [k2,ii.lens,ik.lens,ii.idx,ik.idx,il.lens,il.idx,zB,hu,gx4,gy4,sZ,Nat.reduceEqDiff,Nat.reduceAdd,Nat.reduceLT,↓reduceIte,reduceCtorEq]
    refine ⟨by omega,⟨by omega,by omega⟩,by omega,?_⟩
    refine af (Vi _ (aV A8) _ (aV lA) hQ _ QF.du) ?_
    rintro r G5 ⟨q,rfl,hq,hU5,hD5⟩
    have aaq:=QF.call hD w hU5 hD5
    have go5:=aaq.go
    have hpo:=fun o=>aaq.aeA (o':=o) hD w
    have nC:=fun o es=>(hpo o).set (es':=es) hD w
    have gq5:=fun o=>(hpo o).go
    have gp5:=fun o=>(hpo o).gp
    have gqs:=fun o es=>(nC o es).go
    have gps:=fun o es=>(nC o es).gp
    obtain ⟨u1,u2,u3,u4,u5,u6,u7,u8,u9⟩:=bf q
    have bq:aw (H.length + 4 + 1) (eT q).cells=true:=cG (gO _ _)
    have Vj:=HC.snoc (u:Int) q (fun h=>by omega) (fun _=>⟨⟨Sh.ne_nil hq,by rw [zB];exact hq⟩,u,rfl,A8,huf⟩)
    have t1:=HC.lt
    have t2:=HC.ll
    have VY:∀ ψ,bC 1 8 (vv ts) (.al 0 [.int .i64 (u:Int)]) ψ=ψ (ints (ts++[(u:Int)])):=fun ψ=>Se ts _ (by omega) 0 ψ
    have apl:∀ ψ,bC 4 64 (qt ls) (.al 0 [eT q]) ψ=ψ (eO (ls++[q])):=fun ψ=>Ew ls q (by omega) 0 ψ
    have lpq:=Ez q
    obtain ⟨x1,x2,x3,x4,x5,x6⟩:=m8 (ts++[(u:Int)])
    obtain ⟨y1,y2,y3,y4,y5,y6⟩:=jB (ls++[q])
    obtain ⟨x1',x2',x3',x4',x5',x6'⟩:=m8 ts
    obtain ⟨y1',y2',y3',y4',y5',y6'⟩:=jB ls
    have lvb:∀ n,aw n (eO (ls++[q]))=true:=fun n=>jU _ _
    have tvb:∀ n,aw n (ints (ts++[(u:Int)]))=true:=fun n=>aJ _ _
    have sv:∀ G',PC c H x y i k [.int .i64 4,.int .i64 0,vv (ts++[(u:Int)]),qt (ls++[q])] (.cells (eT q).cells) G'→∃ (j':Nat) (t:List aa×List Int×List PP),(j'≤(c.kd k).length∧PB c H x y i k [.int .i64 4,.int .i64 0,vv t.2.1,qt t.2.2] t.1∧MI c (c.kd i) (c.kd k) us to j' t.2.1 t.2.2)∧(c.kd k).length - j' < (c.kd k).length - j∧
     sle H.length [(3,.ah (.ptr c.d 0)),(6,.ptr H.length 0),(7,.ptr x 0),(8,.ptr y 0),(10,.ptr (H.length + 3) 0),(11,bu L),(89,.al 0 (ints to)),(90,.int .i64 to.length),(91,.int .i64 (IntKind.i64.wrap (j + 1)))] G' [(3,.ah (.ptr c.d 0)),(6,.ptr H.length 0),(7,.ptr x 0),(8,.ptr y 0),(10,.ptr (H.length + 3) 0),(11,bu L),(89,.al 0 (ints to)),(90,.int .i64 to.length),(91,.int .i64 j')] t.1:=by
     intro G' fa
     obtain ⟨z1,z2⟩:=fa.drop hD w
     have zl:=z1.len
     have Wv:=v3
     refine ⟨j + 1,(G'.take (H.length + 4),ts++[(u:Int)],ls++[q]),⟨lA,z1,Vj⟩,by omega,sx (by rw [aj j (by omega)]) (by rw [zl];omega) ?_ _ z2⟩
     obtain ⟨w1,w2,w3,w4⟩:=w
     rw [zl]
     simp only [pk,List.all_cons,List.all_nil,BA,ra,ja,bA,v3,aJ,acr,zC,decide_eq_true_eq]
     omega
    simp +contextual only [go5,Sj,u1,u2,u3,u9,bq,gq5,gp5,gqs,gps,d2,d3,s2,s3,afl,kL,VY,apl,lpq,Ey,sX,x3,x4,y3,y4,sZ,Nat.reduceEqDiff,Nat.reduceAdd,Nat.reduceLT,↓reduceIte]
    repeat' apply tg
    all_goals exact sv _ (nC _ _)
   ·have t1:=HC.lt
    have t2:=HC.ll
    obtain ⟨q0,hq0⟩:∃ q0,q0=PP.mk 0 0 [] []:=⟨_,rfl⟩
    have vE:q0.nil:=by rw [hq0];exact ⟨rfl,rfl,rfl,rfl⟩
    have lpz:∀ φ,cS (some (.cells [.int .i64 0,.int .i64 0,.ag,.ag])) (some 4) 0 φ=φ (eT q0):=by rw [hq0];exact Sf 0 0 [] []
    obtain ⟨u1,u2,u3,u4,u5,u6,u7,u8,u9⟩:=bf q0
    have Vj:=HC.snoc tj q0 (fun h=>⟨htj.symm,vE⟩) (fun h=>by omega)
    have VY:∀ ψ,bC 1 8 (vv ts) (.al 0 [.int .i64 tj]) ψ=ψ (ints (ts++[tj])):=fun ψ=>Se ts _ (by omega) 0 ψ
    have apl:∀ ψ,bC 4 64 (qt ls) (.al 0 [eT q0]) ψ=ψ (eO (ls++[q0])):=fun ψ=>Ew ls q0 (by omega) 0 ψ
    have nC:=fun es=>hpc.set (es':=es) hD w
    have gp5:=hpc.gp
    have go5:=hpc.go
    have gqs:=fun es=>(nC es).go
    have gps:=fun es=>(nC es).gp
    obtain ⟨x1,x2,x3,x4,x5,x6⟩:=m8 (ts++[tj])
    obtain ⟨y1,y2,y3,y4,y5,y6⟩:=jB (ls++[q0])
    obtain ⟨x1',x2',x3',x4',x5',x6'⟩:=m8 ts
    obtain ⟨y1',y2',y3',y4',y5',y6'⟩:=jB ls
    have lvb:∀ n,aw n (eO (ls++[q0]))=true:=fun n=>jU _ _
    have tvb:∀ n,aw n (ints (ts++[tj]))=true:=fun n=>aJ _ _
    have sv:∀ G',PC c H x y i k [.int .i64 4,.int .i64 0,vv (ts++[tj]),qt (ls++[q0])] (.cells [.int .i64 0,.int .i64 0,.ag,.ag]) G'→∃ (j':Nat) (t:List aa×List Int×List PP),(j'≤(c.kd k).length∧PB c H x y i k [.int .i64 4,.int .i64 0,vv t.2.1,qt t.2.2] t.1∧MI c (c.kd i) (c.kd k) us to j' t.2.1 t.2.2)∧(c.kd k).length - j' < (c.kd k).length - j∧
     sle H.length [(3,.ah (.ptr c.d 0)),(6,.ptr H.length 0),(7,.ptr x 0),(8,.ptr y 0),(10,.ptr (H.length + 3) 0),(11,bu L),(89,.al 0 (ints to)),(90,.int .i64 to.length),(91,.int .i64 (IntKind.i64.wrap (j + 1)))] G' [(3,.ah (.ptr c.d 0)),(6,.ptr H.length 0),(7,.ptr x 0),(8,.ptr y 0),(10,.ptr (H.length + 3) 0),(11,bu L),(89,.al 0 (ints to)),(90,.int .i64 to.length),(91,.int .i64 j')] t.1:=by
     intro G' fa
     obtain ⟨z1,z2⟩:=fa.drop hD w
     have zl:=z1.len
     have Wv:=v3
     refine ⟨j + 1,(G'.take (H.length + 4),ts++[tj],ls++[q0]),⟨lA,z1,Vj⟩,by omega,sx (by rw [aj j (by omega)]) (by rw [zl];omega) ?_ _ z2⟩
     obtain ⟨w1,w2,w3,w4⟩:=w
     rw [zl]
     simp only [pk,List.all_cons,List.all_nil,BA,ra,ja,bA,v3,aJ,acr,zC,decide_eq_true_eq]
     omega
    simp +contextual only [decide_true,decide_false,M6,aN,dY,zB,htj,yQ,hlen,zf5,u1,u2,gp5,go5,gqs,gps,d2,d3,s2,s3,afl,kL,VY,apl,lpz,Ey,sX,x3,x4,y3,y4,sZ,Nat.reduceEqDiff,Nat.reduceAdd,Nat.reduceLT,↓reduceIte]
    refine ⟨by omega,?_⟩
    repeat' apply tg
    all_goals exact sv _ (nC _)
  ·have Z8:j=(c.kd k).length:=by omega
   subst Z8
   have hs:Sh c.O (.mk 4 0 ts ls) (c.tm i) (c.tm k):=by
    rw [Sh4 rfl ki2]
    rw [osi] at Cc
    refine ⟨rfl,kk2,Nf.2.2,Cc,?_⟩
    show Sa (E c.O) (Sh c.O) ts ls (c.tm i).l (c.tm k).l
    rw [← ki.1,← kk.1,← Er]
    exact HC.cov B2 hlne2
   have gp6:=mg.gp
   have g66:=mg.g6
   have lp:=Sf 4 0 ts ls
   obtain ⟨q1,q2,q3,q4,q5,q6,q7,q8,q9⟩:=bf (.mk 4 0 ts ls)
   have lp2:=Ez (.mk 4 0 ts ls)
   have Nb:=Sx (a:=aa.cells (eT (.mk 4 0 ts ls)).cells) (aS g66)
   have QE:aw (H.length + 1) (eT (.mk 4 0 ts ls)).cells=true:=cG (gO _ _)
   have mI:=PB.fin hD mg hs
   simp +contextual only [decide_false,M6,gp6,g66,lp,q1,q2,q3,q9,Sj,Nb,lp2,QE,sZ,Nat.reduceEqDiff,Nat.reduceAdd,↓reduceIte,reduceCtorEq]
   first | exact mI | exact ⟨by omega,mI⟩
end Go.aI
end
section
set_option maxRecDepth 100000
namespace Go.aI
open Go Go.Proofs Go.dD
theorem Ng {P:Nat→Prop}:∀ {n:Nat},P n→∃ m,m≤n∧P m∧∀ j,j < m→¬ P j:=by
 intro n
 induction n using Nat.strongRecOn with
 | _ n ih=>
   intro h
   by_cases hx:∃ j,j < n∧P j
   ·obtain ⟨j,hj,hp⟩:=hx
    obtain ⟨m,h1,h2,h3⟩:=ih j hj hp
    exact ⟨m,by omega,h2,h3⟩
   ·exact ⟨n,zy _,h,fun j hj hp=>hx ⟨j,hj,hp⟩⟩
theorem c86 {c:Cx} (hc:c.Ok):∀ (N:Nat) (i k:Int),c.eJ i→c.eJ k→wt (c.tm i) + wt (c.tm k)≤N→R c.O (c.tm i) (c.tm k)→qv c i k:=by
 intro N
 induction N with
 | zero=>intro i k _ _ h;have:=dt (c.tm i);omega
 | succ N ih=>
 intro i k hi hk hN hR
 have hx:∀ {j:Int},c.eJ j→∀ x∈c.kd j,c.eJ x∧wt (c.tm x) < wt (c.tm j):=fun {j} hj x hx=>by
  have h1:=hc.kids j hj
  exact ⟨h1.2 x hx,ch (by rw [← h1.1];exact aaw.2 ⟨x,hx,rfl⟩)⟩
 have p1:∀ x∈c.kd i,R c.O (c.tm x) (c.tm k)→qv c x k:=fun x h r=>ih x k (hx hi x h).1 hk (by have:=(hx hi x h).2;omega) r
 have p2:∀ y∈c.kd k,R c.O (c.tm i) (c.tm y)→qv c i y:=fun y h r=>ih i y hi (hx hk y h).1 (by have:=(hx hk y h).2;omega) r
 have p3:∀ x∈c.kd i,∀ y∈c.kd k,R c.O (c.tm x) (c.tm y)→qv c x y:=fun x h y h' r=>ih x y (hx hi x h).1 (hx hk y h').1 (by have:=(hx hi x h).2;have:=(hx hk y h').2;omega) r
 obtain ⟨_,n,hn,hr⟩:=(ur hc hi hk).2 hR
 obtain ⟨m,hm,hr,jZ⟩:=Ng (P:=fun n=>jf c i k n) hr
 have:m=1∨m=2∨m=3∨m=4:=by
  rcases hr with h | h | h | h
  ·exact .inl h.1
  ·exact .inr (.inl h.1)
  ·exact .inr (.inr (.inl h.1))
  ·exact .inr (.inr (.inr h.1))
 rcases this with rfl | rfl | rfl | rfl
 ·exact aai hc hi hk hR hr jZ p1
 ·exact aam hc hi hk hR hr jZ p2
 ·exact aan hc hi hk hR hr jZ p2 p3
 ·exact aao hc hi hk hR hr jZ p3
theorem aar {c:Cx} (hc:c.Ok) {i k:Int} (hi:c.eJ i) (hk:c.eJ k) (hR:R c.O (c.tm i) (c.tm k)):qv c i k:=c86 hc _ i k hi hk (zy _) hR
def QG:PP:=.mk 0 0 [] []
def Vk (s:Sg) (ps ss:List Int) (a b:T) (r:AV):Prop:=
 (fF s ps ss [a,b]≠0∧r=.tuple [eT QG,.bool false,.int .i64 (fF s ps ss [a,b])])∨
 (fF s ps ss [a,b]=0∧¬ R (iq ps ss) a b∧r=.tuple [eT QG,.bool false,.int .i64 0])∨
 (fF s ps ss [a,b]=0∧∃ p,Sh (iq ps ss) p a b∧r=.tuple [eT p,.bool true,.int .i64 0])
theorem Up.mv {c:Cx} {G0 G:List aa} (h:Up c G0 G) {n:Nat} (he:n≤c.e) (hg:n≤c.g):G.take n=G0.take n:=by
 apply abT
 intro j
 rw [aaG,aaG]
 split
 ·rename_i hj;exact h.get j (by omega) (by omega)
 ·rfl
theorem gG (n0 s s' s'':Nat) (sz:Option Nat) (env:Env) (H:List aa) (R:AV→List aa→Prop):bP n0 [.c s sz,.t s',.t s''] env H R=a8 sz (get env s) H fun x=>vh n0 [x,get env s',get env s''] H R:=agq
theorem Il {Hs G:List aa} {n0:Nat} {u v w:AV} {R:AV→List aa→Prop} (hH:Hs.take n0=G) (hb:aw n0 [u,v,w]=true) (hu:[u,v,w].map AV.ab=[u,v,w]) (hR:R (.tuple [u,v,w]) G):vh n0 [u,v,w] Hs R:=by
 subst hH
 exact ⟨n0,zy _,_,by rw [hu];exact da _,hb,hR⟩
theorem wv {H G:List aa} {o:aa} (h:G.take H.length=H):(G.set H.length o).take H.length=H:=by
 rw [abz (zy _),h]
theorem c27 (s:Sg) (ps ss:List Int) (a b:T) (H:List aa):aA Tryz.prog 27 [s.av,dE ps ss,a.av,b.av] H fun r H'=>Vk s ps ss a b r∧H'=H:=by
 refine k27.2.calls rfl ?_
 simp only [k27,aH]
 obtain ⟨q1,q2,q3,q4,q5,q6⟩:=aR ps ss
 have zf4:∀ n,aw n (List.map AV.ab [AV.int .i64 0,.int .i64 0,.ag,.ag])=true:=fun _=>rfl
 have zf5:List.map AV.ab [AV.int .i64 0,.int .i64 0,.ag,.ag]=[AV.int .i64 0,.int .i64 0,.ag,.ag]:=rfl
 simp +contextual only [aC,q1,q4,bQ,zf5,sZ,Nat.reduceEqDiff,Nat.reduceAdd,↓reduceIte,reduceCtorEq]
 have g0:(H++[aa.cells [AV.int .i64 0,.int .i64 0,.ag,.ag]])[H.length]?=some (.cells [.int .i64 0,.int .i64 0,.ag,.ag]):=by simp
 have tO:(H++[aa.cells [AV.int .i64 0,.int .i64 0,.ag,.ag]]).length=H.length + 1:=by simp
 have UM:(H++[aa.cells [AV.int .i64 0,.int .i64 0,.ag,.ag]]).take H.length=H:=by simp
 refine ae (ZY s ps ss [a,b]) ?_
 generalize H++[aa.cells [AV.int .i64 0,.int .i64 0,.ag,.ag]]=H1 at g0 tO UM ⊢
 have ldz:∀ φ,cS (some (.cells [.int .i64 0,.int .i64 0,.ag,.ag])) (some 4) 0 φ=φ (eT QG):=Sf 0 0 [] []
 have zb:∀ p b n,aw H.length [eT p,.bool b,.int .i64 n]=true:=fun p b n=>by simp [bL,cV,gO,sw,ja]
 have zu:∀ p b n,[eT p,AV.bool b,.int .i64 n].map AV.ab=[eT p,.bool b,.int .i64 n]:=fun p b n=>by simp [(bf p).2.2.2.1,pS,pj]
 by_cases h0:fF s ps ss [a,b]=0
 ·have hr:=qc h0
  have hw:=lP hr.tree
  have hc:=hr.cx (by simp) (by simp) H1.length
  have hd:=Ay ps ss (ts:=[a,b]) (by simp) H1
  simp +contextual only [q4,bQ,h0,sZ,Nat.reduceEqDiff,Nat.reduceAdd,↓reduceIte]
  refine af (Zq ps ss [a,b] _ (by simp at hw;omega)) ?_
  rintro r G ⟨rfl,rfl⟩
  have a0:=vr (ps:=ps) (ss:=ss) (ts:=[a,b]) (n:=H1.length) (j:=0) (by simp)
  have a1:=vr (ps:=ps) (ss:=ss) (ts:=[a,b]) (n:=H1.length) (j:=1) (by simp)
  have hl:=cJ [a,b] 0
  rw [Qx]
  generalize ba [a,b] 0=ks at a0 a1 hl ⊢
  have lZ:ks.length=2:=hl
  simp +contextual only [aN,lZ,dY,sZ,Nat.reduceEqDiff,Nat.reduceAdd,Nat.reduceLT,↓reduceIte,reduceCtorEq]
  refine ⟨by decide,by decide,af (lg hc a0.1 a1.1 _ hd) ?_⟩
  rintro r G ⟨x,rfl,hx,hU,hD⟩
  rw [a0.2,a1.2] at hx
  have rN:x=true↔R (iq ps ss) a b:=hx
  have he:(iK ps ss [a,b] H1.length).e=H.length + 1:=tO
  have hg:(iK ps ss [a,b] H1.length).g=H.length + 2:=by show H1.length + 1=_;omega
  have low:∀ G',Up (iK ps ss [a,b] H1.length) G G'→G'[H.length]?=some (.cells [.int .i64 0,.int .i64 0,.ag,.ag])∧G'.take H.length=H:=by
   intro G' hU'
   have R2:=hU.trans hU'
   refine ⟨by rw [R2.get _ (by omega) (by omega),zz (by omega)];exact g0,?_⟩
   rw [R2.mv (n:=H.length) (by omega) (by omega),abd (by omega),UM]
  have gz:=low G (Up.refl _ _)
  have gz1:=gz.1
  have gzs:=fun o=>Sx (a:=o) (aS gz1)
  have nilc:(eT QG).cells=[AV.int .i64 0,.int .i64 0,.al 0 [],.al 0 []]:=rfl
  cases x with
  | false=>
    simp +contextual only [Bool.not_false,gz1,gzs,zf5,Ki,gG,ldz,sZ,Nat.reduceEqDiff,Nat.reduceAdd,↓reduceIte,reduceCtorEq]
    refine Il (wv gz.2) (zb _ _ _) (zu _ _ _) ⟨.inr (.inl ⟨h0,fun h=>absurd (rN.2 h) (by simp),rfl⟩),rfl⟩
  | true=>
    simp +contextual only [Bool.not_true,aN,lZ,dY,sZ,Nat.reduceEqDiff,Nat.reduceAdd,↓reduceIte,reduceCtorEq]
    refine ⟨by decide,by decide,af (aar hc a0.1 a1.1 (by rw [a0.2,a1.2];exact rN.1 rfl) _ hD) ?_⟩
    rintro r G2 ⟨p,rfl,hp,R2,CD⟩
    rw [a0.2,a1.2] at hp
    obtain ⟨gy1,gy2⟩:=low G2 R2
    have gys:=fun o=>Sx (a:=o) (aS gy1)
    obtain ⟨u1,u2,u3,u4,u5,u6,u7,u8,u9⟩:=bf p
    have lpq:=Ez p
    have QE:aw (H.length + 1) (eT p).cells=true:=cG (gO _ _)
    simp +contextual only [gy1,gys,u1,u2,u3,u9,Sj,lpq,QE,gG,sZ,Nat.reduceEqDiff,Nat.reduceAdd,↓reduceIte,reduceCtorEq]
    first | exact Il (wv gy2) (zb _ _ _) (zu _ _ _) ⟨.inr (.inr ⟨h0,p,hp,rfl⟩),rfl⟩ | exact ⟨by omega,Il (wv gy2) (zb _ _ _) (zu _ _ _) ⟨.inr (.inr ⟨h0,p,hp,rfl⟩),rfl⟩⟩
 ·have gs:∀ o,(H1.set H.length o)[H.length]?=some o:=fun o=>Sx (by omega)
  simp +contextual only [h0,g0,gs,zf5,Ki,gG,ldz,sZ,Nat.reduceEqDiff,Nat.reduceAdd,↓reduceIte,reduceCtorEq]
  refine Il (wv UM) (zb _ _ _) (zu _ _ _) ⟨.inl ⟨h0,rfl⟩,rfl⟩
end Go.aI
end
section
set_option maxRecDepth 100000
namespace Go.aI
open Go Go.Proofs Go.dD
def mq (l:List iL):List AV:=l.map iL.av
theorem dx (l:List iL):(mq l).length=l.length:=by simp [mq]
theorem Nh (n:Nat) (l:List iL):aw n (mq l)=true:=by
 rw [bg];intro x hx;obtain ⟨y,_,rfl⟩:=aaw.1 hx
 exact y.facts.2.2.2.2.2 n
theorem fB (o:Nat) (l:List iL):(∀ (own:Nat) (xs:List AV),AV.al o (mq l)=AV.al own xs→∀ z∈xs,z.cells.length=8)=True:=by
 simp only [eq_iff_iff,iff_true]
 intro own xs e z hz
 cases e
 obtain ⟨y,_,rfl⟩:=aaw.1 hz;rfl
theorem idx_eq (e o:Nat) (l:List iL) (k:IntKind) (i:Nat) (φ:AV→Prop):aG e (.al o (mq l)) (.int k (i:Int)) φ=(i < l.length∧φ (.ah (l.getD i default).av)):=by
 simp only [aG,dx,zB,eq_iff_iff]
 constructor
 ·rintro ⟨_,h,h2⟩;refine ⟨h,?_⟩;simpa [mq,h] using h2
 ·rintro ⟨h,h2⟩;refine ⟨by omega,h,?_⟩;simpa [mq,h] using h2
theorem qP (e:iL) (H:List aa) (φ:AV→Prop):a8 (some 8) (.ah e.av) H φ=φ e.av:=by simp [a8,iL.av,AV.cells]
structure Cf (ps:List Int) (e:iL):Prop where
 few:e.cs.length≤1000
 tree:∀ t∈e.a::e.rest,t.tree=true
 ops:∀ t∈e.a::e.rest,vO (fun n=>0≤n∧n < ps.length) t
open Classical in
noncomputable def oM (ps ss:List Int) (e:iL):Bool:=decide (B6 ps ss e)
theorem aas (ps ss:List Int) (e:iL) (hv:Va ps ss) (he:Cf ps e):Pure Tryz.prog 163 [dE ps ss,e.av] (.bool (oM ps ss e)):=by
 intro H
 refine (aeh ps ss e hv he.few he.tree he.ops H).mono ?_
 rintro r H' ⟨⟨b,rfl,hb⟩,rfl⟩
 refine ⟨?_,rfl⟩
 congr 1
 rw [abV,hb]
 simp [oM]
theorem aeD (ps ss:List Int) (e:iL) (hv:Va ps ss) (he:Cf ps e):Pure Tryz.prog 162 [e.av,.ah (dE ps ss)] (.bool (!oM ps ss e)):=by
 refine fun H=>XW.2.calls rfl ?_
 simp only [XW,aH]
 obtain ⟨q1,q2,q3,q4,q5,q6⟩:=aR ps ss
 obtain ⟨e1,e2,e3,e4,e5,e6⟩:=iL.facts e
 simp +contextual only [q4,e1,e4,bQ,qP,sZ,Nat.reduceEqDiff,Nat.reduceAdd,↓reduceIte,reduceCtorEq]
 refine ae (aas ps ss e hv he) ?_
 simp +contextual only [sZ,↓reduceIte,reduceCtorEq]
 exact aK rfl rfl
def m9 {α:Type} (p:α→Bool):List α→Nat→Int
 | [],_=>-1
 | x::r,i=>if p x=true then (i:Int) else m9 p r (i + 1)
theorem qf {α:Type} [Inhabited α] {p:α→Bool} {l:List α} {i:Nat} (h:i < l.length):m9 p (l.drop i) i=if p (l.getD i default)=true then (i:Int) else m9 p (l.drop (i + 1)) (i + 1):=by
 have e:l.getD i default=l[i]:=by simp [h]
 rw [aav h,m9,e]
theorem aeE (ps ss:List Int) (l:List iL) (hv:Va ps ss) (he:∀ e∈l,Cf ps e):Pure Tryz.prog 161 [.al 0 (mq l),.fn (.func 162) [] [.ah (dE ps ss)]] (.int .i64 (m9 (fun e=>!oM ps ss e) l 0)):=by
 refine fun H=>P5.2.calls rfl ?_
 simp only [P5,aH]
 simp +contextual only [dx,sZ,Nat.reduceEqDiff,Nat.reduceAdd,↓reduceIte,reduceCtorEq]
 intro hl
 refine aq l.length (fun i=>m9 (fun e=>!oM ps ss e) (l.drop i) i=m9 (fun e=>!oM ps ss e) l 0) (fun i=>[(0,.al 0 (mq l)),(1,.fn (.func 162) [] [.ah (dE ps ss)]),(7,.int .i64 l.length),(8,.int .i64 i)]) (fun _=>H) ⟨rfl,ax _ _ _⟩ fun i hi hI=>?_
 obtain ⟨e1,e2,e3,e4,e5,e6⟩:=iL.facts (l.getD i default)
 simp +contextual only [fB,idx_eq,qP,e4,sZ,Nat.reduceEqDiff,Nat.reduceAdd,↓reduceIte,reduceCtorEq]
 refine ⟨fun aM=>?_,fun fV=>?_⟩
 ·have aM:=bp aM
  have hm:l.getD i default∈l:=by
   rw [th,Hj aM];exact acA aM
  rw [qf aM] at hI
  refine ⟨aM,ae (aeD ps ss _ hv (he _ hm)) ?_⟩
  cases hb:oM ps ss (l.getD i default) with
  | false=>
    rw [if_pos (by rw [hb];rfl)] at hI
    simp +contextual only [Bool.not_false,sZ,Nat.reduceEqDiff,↓reduceIte,reduceCtorEq]
    exact aK rfl (by rw [← hI])
  | true=>
    rw [if_neg (by rw [hb];simp)] at hI
    simp +contextual only [Bool.not_true,sZ,Nat.reduceEqDiff,↓reduceIte,reduceCtorEq]
    exact ⟨i + 1,⟨aM,hI⟩,by omega,ay (by rw [aj i (by omega)]) rfl⟩
 ·rw [aap (bZ fV)] at hI
  exact aK rfl (by rw [← hI];rfl)
structure Ty where
 s:Sg
 es:List iL
deriving Inhabited
def Ty.av (t:Ty):AV:=.agg [.al 0 (strs t.s.aU),.al 0 (pw t.s.ops),.al 0 (mq t.es)]
theorem Ty.facts (t:Ty):t.av.val=true∧t.av.cells.length=3∧t.av.cells.all AV.one=true∧t.av.ab=t.av∧t.av.drop=t.av∧∀ n,t.av.bc n=true:=
 ⟨rfl,rfl,rfl,rfl,rfl,fun n=>by simp [Ty.av,AV.bc,aw,x7,xZ,Nh]⟩
theorem vR (t:Ty) (φ:AV→Prop):au 0 (some 2) (.ah t.av) φ=φ (.ah t.s.av):=by simp [au,apart,Ty.av,Sg.av,AV.cells]
theorem Cg (t:Ty) (φ:AV→Prop):au 2 none (.ah t.av) φ=φ (.ah (.al 0 (mq t.es))):=by simp [au,apart,Ty.av,AV.cells,AV.one]
theorem fS1 (s:Sg) (φ:AV→Prop):au 1 none (.ah s.av) φ=φ (.ah (.al 0 (pw s.ops))):=by simp [au,apart,Sg.av,AV.cells,AV.one]
theorem gl (t:Ty) (H:List aa) (φ:AV→Prop):a8 (some 3) (.ah t.av) H φ=φ t.av:=by simp [a8,Ty.av,AV.cells]
noncomputable def jr (t:Ty) (ps ss:List Int):Int:=m9 (fun e=>!oM ps ss e) t.es 0
theorem c89 (t:Ty) (ps ss:List Int) (hv:Va ps ss) (he:∀ e∈t.es,Cf ps e):Pure Tryz.prog 89 [t.av,dE ps ss] (.int .i64 (jr t ps ss)):=by
 refine fun H=>k89.2.calls rfl ?_
 simp only [k89,aH]
 obtain ⟨q1,q2,q3,q4,q5,q6⟩:=aR ps ss
 obtain ⟨e1,e2,e3,e4,e5,e6⟩:=Ty.facts t
 simp +contextual only [q1,e1,Cg,sZ,Nat.reduceEqDiff,Nat.reduceAdd,↓reduceIte,reduceCtorEq]
 refine ae (aeE ps ss t.es hv he) ?_
 simp +contextual only [sZ,↓reduceIte,reduceCtorEq]
 exact aK rfl rfl
end Go.aI
end
section
set_option maxRecDepth 100000
set_option maxHeartbeats 1000000
namespace Go.aI
open Go Go.Proofs Go.dD
theorem EA (e:iL) (φ:AV→Prop):au 0 none (.ah e.av) φ=φ (.ah (.al 0 (ints e.vs))):=by simp [au,apart,iL.av,AV.cells,AV.one]
def qw (s:Sg) (x:Int):Bool:=decide (x < 0) || decide ((s.aU.length:Int)≤x)
theorem aeG (s:Sg) (x:Int):Pure Tryz.prog 216 ([.int .i64 x]++[.ah s.av]) (.bool (qw s x)):=by
 refine fun H=>YE.2.calls rfl ?_
 simp only [YE,aH]
 by_cases h:x < 0
 ·have f1:(x < 0)=True:=eq_true h
  simp +contextual only [f1,decide_true,sZ,Nat.reduceEqDiff,Nat.reduceAdd,↓reduceIte,reduceCtorEq]
  exact aK rfl (by simp [qw,h])
 ·have f1:(x < 0)=False:=eq_false h
  simp +contextual only [aC,f1,decide_false,sZ,Nat.reduceEqDiff,Nat.reduceAdd,↓reduceIte,reduceCtorEq]
  exact fun _=>aK rfl (by simp [qw,h])
def dy (s:Sg) (vs:List Int) (a b:T):Bool:=a.tree && (b.tree && ((ln s vs a).isSome && ((ln s vs b).isSome && decide ((ln s vs a).getD 0=(ln s vs b).getD 0))))
theorem aat (s:Sg) (e:iL) (a b:T):Pure Tryz.prog 217 [a.av,b.av,.ah s.av,.ah e.av] (.bool (dy s e.vs a b)):=by
 refine fun H=>YF.2.calls rfl ?_
 simp only [YF,aH]
 obtain ⟨g1,g2,g3,g4,g5,g6⟩:=e.facts
 simp +contextual only [sZ,Nat.reduceEqDiff,Nat.reduceAdd,↓reduceIte,reduceCtorEq]
 refine ae (U5 a) ?_
 cases ha:a.tree with
 | false=>simp +contextual only [abI,sZ,Nat.reduceEqDiff,↓reduceIte,reduceCtorEq,Int.reduceEq];exact aK rfl (by rw [dy,ha];rfl)
 | true=>
 simp +contextual only [sZ,Nat.reduceEqDiff,Nat.reduceAdd,↓reduceIte]
 refine ae (U5 b) ?_
 cases hb:b.tree with
 | false=>simp +contextual only [abI,sZ,Nat.reduceEqDiff,↓reduceIte,reduceCtorEq,Int.reduceEq];exact aK rfl (by rw [dy,ha,hb];rfl)
 | true=>
 have e1:=Z3 s e.vs a ((T.cI a).1 ha).2.2
 have e2:=Z3 s e.vs b ((T.cI b).1 hb).2.2
 unfold CE at e1 e2
 have hp:dy s e.vs a b=((ln s e.vs a).isSome && ((ln s e.vs b).isSome && decide ((ln s e.vs a).getD 0=(ln s e.vs b).getD 0))):=by rw [dy,ha,hb];rfl
 rw [hp]
 generalize ln s e.vs a=x at *
 generalize ln s e.vs b=y at *
 simp +contextual only [aC,EA,sZ,Nat.reduceEqDiff,Nat.reduceAdd,↓reduceIte]
 refine ae e1 ?_
 simp +contextual only [aC,EA,sZ,Nat.reduceEqDiff,Nat.reduceAdd,Nat.reduceLT,↓reduceIte]
 refine ae e2 ?_
 cases h1:x.isSome <;> cases h2:y.isSome
 all_goals
  simp +contextual only [sZ,Nat.reduceEqDiff,Nat.reduceAdd,Nat.reduceLT,↓reduceIte,reduceCtorEq]
  exact aK rfl rfl
theorem Ni (n:Int):∀ (vs:List Int) (i:Nat),(∃ j,vs[j]?=some n∧dL 0 (.int .i64 n) (ents vs) i=some (some (i + j,.bool true)))∨(n∉vs∧dL 0 (.int .i64 n) (ents vs) i=some none)
 | [],i=>.inr ⟨(fun h=>by cases h),rfl⟩
 | a::r,i=>by
   have ih:=Ni n r (i + 1)
   simp only [ents,List.map_cons,dL,de,if_true]
   by_cases h:n=a
   ·subst h
    exact .inl ⟨0,rfl,by simp⟩
   ·simp only [decide_eq_false h]
    rcases ih with ⟨j,h1,h2⟩ | ⟨h1,h2⟩
    ·exact .inl ⟨j + 1,h1,by rw [show i + (j + 1)=i + 1 + j by omega];exact h2⟩
    ·exact .inr ⟨fun hm=>(aak.1 hm).elim h h1,h2⟩
def rF (vs:List Int) (n:Int):List Int:=if n∈vs then vs else vs++[n]
theorem EB {vs:List Int} {n x:Int}:x∈rF vs n↔x∈vs∨x=n:=by
 unfold rF
 split
 ·rename_i h;exact ⟨.inl,fun h'=>h'.elim _root_.id fun e=>e ▸ h⟩
 ·simp
theorem Im (n:Int) (vs:List Int) (id:Nat) (H:List aa) (K:List aa→Prop):fy (some (.map (ents vs))) 0 id (.int .i64 n) (.bool true) H K=K (H.set id (.map (ents (rF vs n)))):=by
 have ec:a9 (.bool true)=.bool true:=rfl
 rcases Ni n vs 0 with ⟨j,h1,h2⟩ | ⟨h1,h2⟩
 ·have hm:n∈vs:=abB h1
  have e:(ents vs).set j (.int .i64 n,.bool true)=ents vs:=by
   refine abT fun k=>?_
   rw [ab4]
   split
   ·rename_i hk;subst hk
    split
    ·simp [ents,h1]
    ·rename_i hl
     rw [abL (by omega)]
   ·rfl
  unfold fy rF
  rw [if_pos hm]
  simp only [h2,ec,abK,e]
  simp [ja,sw,v8]
 ·rw [HS h1];unfold rF;rw [if_neg h1]
def jh (s:Sg) (e:iL):Bool:=
 decide ((e.vs.length:Int)≤64) && (decide ((e.cs.length:Int)≤8) && (decide (e.a.k=2) && (!(e.vs.any (qw s)) && (dy s e.vs e.a e.b && ((e.cs.all fun c=>dy s e.vs c.a c.b) && ((e.b::oK e.cs).all fun t=>(eU [t]).all fun v=>decide (v∈eU [e.a])))))))
theorem aeH (s:Sg) (e:iL):Pure Tryz.prog 181 [s.av,e.av] (.bool (jh s e)):=by
 refine fun H=>Yc.2.calls rfl ?_
 simp only [Yc,aH]
 obtain ⟨g1,g2,g3,g4,g5,g6⟩:=e.facts
 have bad (G:List aa) (hG:G.take H.length=H) (h:jh s e=false):bP H.length [.t 4] [(4,.bool false)] G fun r H'=>r=.bool (jh s e)∧H'=H:=by
  rw [h];exact aT H.length (zy _) (by rw [aD,if_pos rfl];rfl) ⟨by rw [aD,if_pos rfl],hG⟩
 by_cases f1:(e.vs.length:Int)≤64
 rotate_left
 ·have f1':(64 < (e.vs.length:Int))=True:=eq_true (by omega)
  simp +contextual only [aC,g1,EA,ap,f1',decide_true,sZ,Nat.reduceEqDiff,Nat.reduceAdd,↓reduceIte,reduceCtorEq]
  exact fun _=>bad _ (by simp) (by unfold jh;rw [decide_eq_false f1];rfl)
 have f1':(64 < (e.vs.length:Int))=False:=eq_false (by omega)
 by_cases f2:(e.cs.length:Int)≤8
 rotate_left
 ·have f2':(8 < (e.cs.length:Int))=True:=eq_true (by omega)
  simp +contextual only [aC,g1,EA,zq,ap,cL,f1',f2',decide_true,decide_false,sZ,Nat.reduceEqDiff,Nat.reduceAdd,↓reduceIte,reduceCtorEq]
  exact fun _ _=>bad _ (by simp) (by unfold jh;rw [decide_eq_true f1,decide_eq_false f2];rfl)
 have f2':(8 < (e.cs.length:Int))=False:=eq_false (by omega)
 by_cases f3:e.a.k=2
 rotate_left
 ·simp +contextual only [aC,g1,EA,zq,CF,ap,cL,f1',f2',f3,decide_true,decide_false,not_false_eq_true,sZ,Nat.reduceEqDiff,Nat.reduceAdd,↓reduceIte,reduceCtorEq]
  exact fun _ _=>bad _ (by simp) (by unfold jh;rw [decide_eq_true f1,decide_eq_true f2,decide_eq_false f3];rfl)
 have e0:jh s e=(!(e.vs.any (qw s)) && (dy s e.vs e.a e.b && ((e.cs.all fun c=>dy s e.vs c.a c.b) && ((e.b::oK e.cs).all fun t=>(eU [t]).all fun v=>decide (v∈eU [e.a]))))):=by
  unfold jh;rw [decide_eq_true f1,decide_eq_true f2,decide_eq_true f3];rfl
 simp +contextual only [aC,g1,EA,zq,CF,ap,cL,f1',f2',f3,decide_false,not_true_eq_false,sZ,Nat.reduceEqDiff,Nat.reduceAdd,↓reduceIte,reduceCtorEq]
 refine fun _ _=>ae (ZR 216 [.ah s.av] rfl (by simp [aw,AV.bc,Sg.mh]) (qw s) e.vs fun x _=>aeG s x) ?_
 cases f4:e.vs.any (qw s) with
 | true=>
   simp +contextual only [sZ,Nat.reduceEqDiff,↓reduceIte,reduceCtorEq]
   exact bad _ (by simp) (by rw [e0,f4];rfl)
 | false=>
 rw [f4,Bool.not_false,acB] at e0
 simp +contextual only [CF,KC,sZ,Nat.reduceEqDiff,Nat.reduceAdd,↓reduceIte,reduceCtorEq]
 refine ae (aat s e e.a e.b) ?_
 cases f5:dy s e.vs e.a e.b with
 | false=>
   simp +contextual only [sZ,Nat.reduceEqDiff,↓reduceIte,reduceCtorEq]
   exact bad _ (by simp) (by rw [e0,f5];rfl)
 | true=>
 rw [f5,acB] at e0
 have ta:e.a.tree=true:=by
  unfold dy at f5
  simp only [zC] at f5
  exact f5.1
 have tb:e.b.tree=true:=by
  unfold dy at f5
  simp only [zC] at f5
  exact f5.2.1
 have small (t:T) (h:t.tree=true):lB [t]≤1000000:=by
  have:=((T.cI t).1 h).1
  simp only [lB];omega
 simp +contextual only [CF,sZ,Nat.reduceEqDiff,Nat.reduceAdd,↓reduceIte]
 refine ae (Zk [e.a] (small _ ta)) ?_
 simp +contextual only [ap,sZ,Nat.reduceEqDiff,↓reduceIte]
 intro rO
 generalize hva:eU [e.a]=va at *
 refine aF va.length (fun i (w:List Int)=>∀ x,x∈w↔x∈va.take i) (fun i w=>[(3,.ah e.av),(5,.map H.length),(6,.fn (.func 217) [] [.ah s.av,.ah e.av]),(48,.al 0 (ints va)),(49,.int .i64 va.length),(50,.int .i64 i)]) (fun i w=>H++[.map (ents w)]) [] ⟨by simp,ax _ _ _⟩ fun i w hi hw=>?_
 by_cases hl:i < va.length
 ·have f6:((i:Int) < va.length)=True:=eq_true (by omega)
  simp +contextual only [f6,hl,Im,sZ,Nat.reduceEqDiff,↓reduceIte]
  refine ⟨i + 1,rF w (va.getD i 0),⟨hl,fun x=>?_⟩,by omega,ay (by rw [aj i (by omega)]) (by simp)⟩
  rw [EB,hw,adC,abF,th,Hj hl]
  simp
 have f6:((i:Int) < va.length)=False:=eq_false (by omega)
 rw [aax (by omega)] at hw
 have e1:jh s e=((e.cs.all fun c=>dy s e.vs c.a c.b) && ((e.b::oK e.cs).all fun t=>(eU [t]).all fun v=>decide (v∈w))):=by
  rw [e0];simp only [hw]
 clear e0
 simp +contextual only [zq,KC,cL,f6,sZ,Nat.reduceEqDiff,↓reduceIte]
 refine fun _=>aq e.cs.length (fun i=>∀ j,j < i→dy s e.vs (e.cs.getD j default).a (e.cs.getD j default).b=true) (fun i=>[(5,.map H.length),(6,.fn (.func 217) [] [.ah s.av,.ah e.av]),(9,.al 3 (bN (e.b::oK (e.cs.take i)))),(61,.al 0 (rB e.cs)),(62,.int .i64 e.cs.length),(63,.int .i64 i)]) (fun _=>H++[.map (ents w)]) ⟨fun j h=>by omega,ax _ _ _⟩ fun i hi hI=>?_
 by_cases hl:i < e.cs.length
 ·have f7:((i:Int) < e.cs.length)=True:=eq_true (by omega)
  obtain ⟨c1,c2,c3,c4,c5,c6⟩:=(e.cs.getD i default).facts
  simp +contextual only [c1,c2,c3,Qy,Qz,mn,jK,Ii,f7,hl,sZ,Nat.reduceEqDiff,Nat.reduceAdd,↓reduceIte,reduceCtorEq]
  refine ae (aat s e _ _) ?_
  cases f8:dy s e.vs (e.cs.getD i default).a (e.cs.getD i default).b with
  | false=>
    simp +contextual only [sZ,Nat.reduceEqDiff,↓reduceIte,reduceCtorEq]
    refine bad _ (by simp) ?_
    have:(e.cs.all fun c=>dy s e.vs c.a c.b)=false:=ac4.2 ⟨_,oc hl,by rw [f8];simp⟩
    rw [e1,this];rfl
  | true=>
    simp +contextual only [Qy,Qz,jv,sZ,Nat.reduceEqDiff,Nat.reduceAdd,↓reduceIte]
    exact ⟨by rw [oh,abS];omega,of_eq_true (BR [_,_]),i + 1,⟨hl,dl hI f8⟩,by omega,ay (by rw [aj i (by omega),yc hl,← List.cons_append,wo];rfl) rfl⟩
 have f7:((i:Int) < e.cs.length)=False:=eq_false (by omega)
 rw [aax (by omega)]
 have fU:(e.cs.all fun c=>dy s e.vs c.a c.b)=true:=abc.2 (lj fun j hj=>hI j (by omega))
 rw [fU,acB] at e1
 have Vl:∀ t∈e.b::oK e.cs,t.tree=true:=fun t ht=>by
  rcases aak.1 ht with rfl | ht
  ·exact tb
  ·obtain ⟨c,hc,ht⟩:=abY.1 ht
   have hp:=abc.1 fU c hc
   unfold dy at hp
   simp only [zC] at hp
   rcases aak.1 ht with rfl | ht
   ·exact hp.1
   ·rw [aay.1 ht];exact hp.2.1
 have hlen:(e.b::oK e.cs).length≤100:=by rw [List.length_cons,oh];omega
 generalize e.b::oK e.cs=ts at *
 simp +contextual only [f7,sZ,Nat.reduceEqDiff,↓reduceIte]
 refine fun _=>aq ts.length (fun i=>∀ j,j < i→((eU [ts.getD j default]).all fun v=>decide (v∈w))=true) (fun i=>[(5,.map H.length),(82,.al 0 (bN ts)),(83,.int .i64 ts.length),(84,.int .i64 i)]) (fun _=>H++[.map (ents w)]) ⟨fun j h=>by omega,ax _ _ _⟩ fun i hi hI=>?_
 by_cases hl:i < ts.length
 rotate_left
 ·have f8:((i:Int) < ts.length)=False:=eq_false (by omega)
  simp +contextual only [f8,sZ,Nat.reduceEqDiff,↓reduceIte,reduceCtorEq]
  have:(ts.all fun t=>(eU [t]).all fun v=>decide (v∈w))=true:=abc.2 (lj fun j hj=>hI j (by omega))
  refine aT H.length (zy _) (by rw [aD,if_pos rfl];rfl) ⟨by rw [aD,if_pos rfl,e1,this],by simp⟩
 have f8:((i:Int) < ts.length)=True:=eq_true (by omega)
 have hv:=Zk [ts.getD i default] (small _ (Vl _ (oc hl)))
 simp +contextual only [f8,hl,sZ,Nat.reduceEqDiff,Nat.reduceAdd,↓reduceIte]
 refine ae hv ?_
 have bad2 (h:((eU [ts.getD i default]).all fun v=>decide (v∈w))=false):jh s e=false:=by
  rw [e1];exact ac4.2 ⟨_,oc hl,by rw [h];simp⟩
 have good2 (h:((eU [ts.getD i default]).all fun v=>decide (v∈w))=true):=dl hI h
 generalize eU [ts.getD i default]=vt at *
 simp +contextual only [ap,sZ,Nat.reduceEqDiff,↓reduceIte]
 refine fun _=>aq vt.length (fun m=>∀ j,j < m→vt.getD j 0∈w) (fun m=>[(5,.map H.length),(82,.al 0 (bN ts)),(83,.int .i64 ts.length),(84,.int .i64 i),(90,.al 0 (ints vt)),(91,.int .i64 vt.length),(92,.int .i64 m)]) (fun _=>H++[.map (ents w)]) ⟨fun j h=>by omega,ax _ _ _⟩ fun m hm hM=>?_
 by_cases Qw:m < vt.length
 ·have f9:((m:Int) < vt.length)=True:=eq_true (by omega)
  by_cases ky:vt.getD m 0∈w
  ·simp +contextual only [f9,Qw,sH,ky,decide_true,sZ,Nat.reduceEqDiff,↓reduceIte]
   exact ⟨m + 1,⟨Qw,dl hM ky⟩,by omega,ay (by rw [aj m (by omega)]) rfl⟩
  ·simp +contextual only [f9,Qw,sH,ky,decide_false,sZ,Nat.reduceEqDiff,↓reduceIte,reduceCtorEq]
   exact bad _ (by simp) (bad2 (ac4.2 ⟨_,aV Qw,by simpa using ky⟩))
 ·have f9:((m:Int) < vt.length)=False:=eq_false (by omega)
  have hal:(vt.all fun v=>decide (v∈w))=true:=abc.2 fun v hv=>by
   obtain ⟨j,hj,rfl⟩:=acg hv
   have:=hM j (by omega)
   rw [th,Hj hj] at this
   exact decide_eq_true this
  simp +contextual only [f9,sZ,Nat.reduceEqDiff,↓reduceIte]
  exact ⟨i + 1,⟨hl,good2 hal⟩,by omega,ay (by rw [aj i (by omega)]) rfl⟩
end Go.aI
end
section
set_option maxRecDepth 100000
set_option maxHeartbeats 1000000
namespace Go.aI
open Go Go.Proofs Go.dD
mutual
def lq (vs:List Int):T→List Int
 | .mk k n l=>opsL (if k=2 then rF vs n else vs) l
def opsL (vs:List Int):List T→List Int
 | []=>vs
 | x::r=>opsL (lq vs x) r
end
def opF (m a:Nat):AV:=.fn (.func 165) [] [.ah (.map m),.ptr a 0]
theorem Kj {l:List T} {i:Nat} (h:i < l.length) (vs:List Int):opsL vs (l.drop i)=opsL (lq vs (l.getD i default)) (l.drop (i + 1)):=by
 rw [aav h,opsL]
 have e:l.getD i default=l[i]:=by simp [h]
 rw [e]
theorem T.Sk (k n:Int) (l:List T):(T.mk k n l).k=k:=rfl
theorem aau {S:List Int→List aa} {a id n:Nat} (F:Xe S id (fun vs=>.map (ents vs)) n) (hA:∀ vs,(S vs)[a]?=some (.cells [opF id a])):∀ (t:T) (vs:List Int) (e:List aa),
 aA Tryz.prog 165 [.al 0 (bN t.l),.ah (.map id),.ptr a 0] (S vs++e) fun r H'=>r=.tuple []∧H'=S (opsL vs t.l)++e:=by
 intro t vs e
 have ih:∀ y∈t.l,∀ (vs:List Int) (e:List aa),aA Tryz.prog 165 [.al 0 (bN y.l),.ah (.map id),.ptr a 0] (S vs++e) fun r H'=>r=.tuple []∧H'=S (opsL vs y.l)++e:=fun y hy vs e=>aau F hA y vs e
 have fg:∀ s e,(S s++e)[id]?=some (.map (ents s)):=F.get'
 have fs:∀ s s' e,(S s++e).set id (.map (ents s'))=S s'++e:=F.acW
 have fA:∀ s e,(S s++e)[a]?=some (.cells [opF id a]):=fun s e=>by rw [zz (aa2.1 (hA s)).1];exact hA s
 have hlen:∀ s (e:List aa),(S s++e).length=n + e.length:=fun s e=>by rw [aaj,F.len]
 refine XZ.2.calls rfl ?_
 rw [hlen]
 simp only [XZ,aH]
 simp +contextual only [sZ,Nat.reduceEqDiff,Nat.reduceAdd,↓reduceIte,reduceCtorEq]
 have hg0:∀ s x,(S s++(e++[x]))[n + e.length]?=some x:=fun s x=>by rw [← abe,← hlen s e,abx (zy _)];simp
 have V0:∀ s x y,(S s++(e++[x])).set (n + e.length) y=S s++(e++[y]):=fun s x y=>by rw [← abe,← hlen s e,acF _ _ (zy _)];simp
 have tk0:∀ s,(S s++e).take (n + e.length)=S s++e:=fun s=>aax (by rw [hlen];exact zy _)
 have ha0:a < n:=by rw [← F.len vs];exact (aa2.1 (hA vs)).1
 intro hl
 refine aF t.l.length (fun i (q:List Int)=>opsL q (t.l.drop i)=opsL vs t.l)
  (fun i q=>[(1,.ah (.map id)),(2,.ptr a 0),(6,.al 0 (bN t.l)),(7,.int .i64 t.l.length),(8,.int .i64 i)]) (fun i q=>S q++e) vs ⟨rfl,ax _ _ _⟩ fun i q hi hI=>?_
 have fA':∀ s e,(S s++e)[a]?=some (.cells [.fn (.func 165) [] [.ah (.map id),.ptr a 0]]):=fA
 by_cases aM:i < t.l.length
 rotate_left
 ·have f1:((i:Int) < t.l.length)=False:=eq_false (by omega)
  simp +contextual only [f1,sZ,Nat.reduceEqDiff,↓reduceIte,reduceCtorEq]
  rw [aap (by omega),opsL] at hI
  subst hI
  exact ⟨n + e.length,zy _,[],trivial,rfl,rfl,tk0 _⟩
 have f1:((i:Int) < t.l.length)=True:=eq_true (by omega)
 have hy:=dM aM
 rw [Kj aM] at hI
 have nxt:∀ (q':List Int),opsL q' (t.l.getD i default).l=lq q (t.l.getD i default)→∃ (k:Nat) (s:List Int),(k≤t.l.length∧opsL s (t.l.drop k)=opsL vs t.l)∧t.l.length - k < t.l.length - i∧sle (n + e.length) [(1,.ah (.map id)),(2,.ptr a 0),(6,.al 0 (bN t.l)),(7,.int .i64 t.l.length),(8,.int .i64 ((i + 1:Nat):Int))] (S (opsL q' (t.l.getD i default).l)++e) [(1,.ah (.map id)),(2,.ptr a 0),(6,.al 0 (bN t.l)),(7,.int .i64 t.l.length),(8,.int .i64 k)] (S s++e):=fun q' hq=>⟨i + 1,_,⟨aM,hI⟩,by omega,ay rfl (by rw [hq])⟩
 have wj:=aj i (by omega)
 by_cases h2:(t.l.getD i default).k=2
 ·have f2:((t.l.getD i default).k=2)=True:=eq_true h2
  simp +contextual only [f1,f2,aM,fA',L8,fg,fs,Im,decide_true,sZ,Nat.reduceEqDiff,Nat.reduceAdd,Nat.reduceLT,↓reduceIte,reduceCtorEq]
  refine af (ih _ hy _ _) ?_
  rintro r H' ⟨rfl,rfl⟩
  simp +contextual only [wj,sZ,Nat.reduceEqDiff,↓reduceIte]
  refine nxt _ ?_
  generalize t.l.getD i default=y at *
  cases y
  simp only [T.Sk] at h2
  rw [lq,if_pos h2];rfl
 ·have f2:((t.l.getD i default).k=2)=False:=eq_false h2
  simp +contextual only [f1,f2,aM,fA',decide_false,sZ,Nat.reduceEqDiff,Nat.reduceAdd,Nat.reduceLT,↓reduceIte,reduceCtorEq]
  refine af (ih _ hy _ _) ?_
  rintro r H' ⟨rfl,rfl⟩
  simp +contextual only [wj,sZ,Nat.reduceEqDiff,↓reduceIte]
  refine nxt _ ?_
  generalize t.l.getD i default=y at *
  cases y
  simp only [T.Sk] at h2
  rw [lq,if_neg h2];rfl
termination_by t=>SizeOf.sizeOf t
decreasing_by exact T.lt hy
def yl (vs:List Int) (e:iL):List Int:=e.cs.foldl (fun vs c=>opsL vs [c.a,c.b]) (opsL vs [e.a,e.b])
def lr (l:List iL) (vs:List Int):List Int:=l.foldl yl vs
def lQ (vs:List Int):Nat→List Int
 | 0=>[]
 | i + 1=>if ((i:Nat):Int)∈vs then lQ vs i++[(i:Int)] else lQ vs i
theorem uB {vs:List Int} {x:Int}:∀ {n:Nat},x∈lQ vs n↔0≤x∧x < n∧x∈vs
 | 0=>by simp [lQ];omega
 | n + 1=>by
   rw [lQ]
   split
   ·rename_i h
    rw [abF,uB (n:=n),aay]
    constructor
    ·rintro (⟨a,b,c⟩ | rfl)
     ·exact ⟨a,by omega,c⟩
     ·exact ⟨by omega,by omega,h⟩
    ·rintro ⟨a,b,c⟩
     by_cases e:x=n
     ·exact .inr e
     ·exact .inl ⟨a,by omega,c⟩
   ·rename_i h
    rw [uB (n:=n)]
    constructor
    ·rintro ⟨a,b,c⟩;exact ⟨a,by omega,c⟩
    ·rintro ⟨a,b,c⟩
     by_cases e:x=n
     ·subst e;exact absurd c h
     ·exact ⟨a,by omega,c⟩
theorem nc {vs:List Int}:∀ {n:Nat},(lQ vs n).length≤n
 | 0=>zy _
 | n + 1=>by
   rw [lQ];have:=nc (vs:=vs) (n:=n)
   split
   ·rw [aaj];simp only [List.length_cons,List.length_nil];omega
   ·omega
def yI (t:Ty):List Int:=lQ (lr t.es []) t.s.ops.length
theorem c92 (t:Ty) (hn:t.s.ops.length≤1000000):Pure Tryz.prog 92 [t.av] (.al 0 (ints (yI t))):=by
 refine fun H=>k92.2.calls rfl ?_
 simp only [k92,aH]
 obtain ⟨e1,e2,e3,e4,e5,e6⟩:=Ty.facts t
 let S:List Int→List aa:=fun vs=>H++[.map (ents vs),.cells [opF H.length (H.length + 1)]]
 have F:Xe S H.length (fun vs=>.map (ents vs)) (H.length + 2):=⟨fun s=>by simp [S],fun s s'=>by simp [S],fun s=>by simp [S]⟩
 have hA:∀ vs,(S vs)[H.length + 1]?=some (.cells [opF H.length (H.length + 1)]):=fun ps=>by simp [S]
 have hc:=fun l vs=>aau F hA (.mk 0 0 l) vs []
 have hb:(decide (H.length < H.length + 1 + 1) && decide (H.length + 1 < H.length + 1 + 1))=true:=by simp;omega
 have hA':∀ vs,(S vs)[H.length + 1]?=some (.cells [.fn (.func 165) [] [.ah (.map H.length),.ptr (H.length + 1) 0]]):=hA
 have E8:∀ l vs,aA Tryz.prog 165 [.al 0 (bN l),.ah (.map H.length),.ptr (H.length + 1) 0] (S vs) fun r H'=>r=.tuple []∧H'=S (opsL vs l):=fun l vs=>by
  have:=hc l vs
  simp only [abJ] at this
  exact this
 have fg:∀ s,(S s)[H.length]?=some (.map (ents s)):=F.get
 simp +contextual only [e1,hb,Cg,dx,sZ,Nat.reduceEqDiff,Nat.reduceAdd,↓reduceIte]
 intro hl
 refine aF t.es.length (fun i (vs:List Int)=>lr (t.es.drop i) vs=lr t.es []) (fun i vs=>[(1,.ah t.av),(3,.ah (.map H.length)),(4,.ptr (H.length + 1) 0),(14,.al 0 (mq t.es)),(15,.int .i64 t.es.length),(16,.int .i64 i)]) (fun i vs=>S vs) [] ⟨rfl,ax _ _ _⟩ fun i vs hi hI=>?_
 by_cases aM:i < t.es.length
 rotate_left
 ·have f1:((i:Int) < t.es.length)=False:=eq_false (by omega)
  simp +contextual only [f1,vR,fs1,mX,sZ,Nat.reduceEqDiff,↓reduceIte]
  intro lZ
  rw [aap (by omega)] at hI
  have hV:vs=lr t.es []:=hI
  subst hV
  refine aF t.s.ops.length (fun i (l:List Int)=>l=lQ (lr t.es []) i) (fun i l=>[(3,.ah (.map H.length)),(9,cC l),(46,.int .i64 t.s.ops.length),(47,.int .i64 i)]) (fun i l=>S (lr t.es [])) [] ⟨rfl,ax _ _ _⟩ fun i l hi hI=>?_
  have on:=xJ l
  by_cases aM:i < t.s.ops.length
  rotate_left
  ·have f1:((i:Int) < t.s.ops.length)=False:=eq_false (by omega)
   have hn:i=t.s.ops.length:=by omega
   subst hn
   have hr:l=yI t:=hI
   simp +contextual only [f1,sZ,Nat.reduceEqDiff,↓reduceIte,reduceCtorEq]
   rw [← hr]
   exact ⟨H.length,zy _,.al 0 (ints l),by rw [aD,if_pos rfl,show (cC l).ab.ab=(cC l).ab by cases l <;> rfl];exact ri l,by rw [bA];exact aJ _ _,rfl,by simp [S]⟩
  have f1:((i:Int) < t.s.ops.length)=True:=eq_true (by omega)
  have wj:=aj i (by omega)
  by_cases ky:(i:Int)∈lr t.es []
  ·have f2:((i:Int)∈lr t.es [])=True:=eq_true ky
   simp +contextual only [f1,fg,sH,f2,decide_true,kq,dZ,wj,sZ,Nat.reduceEqDiff,Nat.reduceAdd,↓reduceIte]
   have qM:=nc (vs:=lr t.es []) (n:=i)
   rw [← hI] at qM
   refine ⟨by omega,i + 1,l++[(i:Int)],⟨aM,?_⟩,by omega,ay rfl rfl⟩
   rw [lQ,if_pos ky,← hI]
  ·have f2:((i:Int)∈lr t.es [])=False:=eq_false ky
   simp +contextual only [f1,fg,sH,f2,decide_false,wj,sZ,Nat.reduceEqDiff,↓reduceIte]
   refine ⟨i + 1,l,⟨aM,?_⟩,by omega,ay rfl rfl⟩
   rw [lQ,if_neg ky,← hI]
 have f1:((i:Int) < t.es.length)=True:=eq_true (by omega)
 obtain ⟨e,he⟩:∃ e,t.es.getD i default=e:=⟨_,rfl⟩
 obtain ⟨g1,g2,g3,g4,g5,g6⟩:=e.facts
 have Io:lr (t.es.drop (i + 1)) (yl vs e)=lr t.es []:=by
  rw [aav aM] at hI
  have:t.es[i]=e:=by rw [← he];simp [aM]
  rw [this] at hI
  exact hI
 simp +contextual only [f1,aM,he,fB,idx_eq,qP,g1,g2,g3,CF,KC,hA',sZ,Nat.reduceEqDiff,Nat.reduceAdd,Nat.reduceLT,↓reduceIte,reduceCtorEq]
 refine af (E8 [e.a,e.b] vs) ?_
 rintro r G ⟨rfl,rfl⟩
 simp +contextual only [zq,cL,sZ,Nat.reduceEqDiff,↓reduceIte]
 intro zK
 have wi:=aj i (by omega)
 refine aF e.cs.length (fun k (ws:List Int)=>(e.cs.drop k).foldl (fun vs c=>opsL vs [c.a,c.b]) ws=yl vs e) (fun k ws=>[(1,.ah t.av),(3,.ah (.map H.length)),(4,.ptr (H.length + 1) 0),(14,.al 0 (mq t.es)),(15,.int .i64 t.es.length),(16,.int .i64 i),(28,.al 0 (rB e.cs)),(29,.int .i64 e.cs.length),(30,.int .i64 k)]) (fun k ws=>S ws) (opsL vs [e.a,e.b]) ⟨rfl,ax _ _ _⟩ fun k ws hk hK=>?_
 by_cases ZH:k < e.cs.length
 rotate_left
 ·have f3:((k:Int) < e.cs.length)=False:=eq_false (by omega)
  simp +contextual only [f3,wi,sZ,Nat.reduceEqDiff,↓reduceIte]
  rw [aap (by omega)] at hK
  have hK:ws=yl vs e:=hK
  subst hK
  exact ⟨i + 1,_,⟨aM,Io⟩,by omega,ay rfl rfl⟩
 have f3:((k:Int) < e.cs.length)=True:=eq_true (by omega)
 have wk:=aj k (by omega)
 obtain ⟨c,Kt⟩:∃ c,e.cs.getD k default=c:=⟨_,rfl⟩
 obtain ⟨p1,p2,p3,p4,p5,p6⟩:=c.facts
 have hK2:(e.cs.drop (k + 1)).foldl (fun vs c=>opsL vs [c.a,c.b]) (opsL ws [c.a,c.b])=yl vs e:=by
  rw [aav ZH] at hK
  have:e.cs[k]=c:=by rw [← Kt];simp [ZH]
  rw [this] at hK
  exact hK
 simp +contextual only [f3,ZH,Kt,jK,mn,Ii,p1,p2,p3,Qy,Qz,hA',sZ,Nat.reduceEqDiff,Nat.reduceAdd,Nat.reduceLT,↓reduceIte,reduceCtorEq]
 refine af (E8 [c.a,c.b] ws) ?_
 rintro r G ⟨rfl,rfl⟩
 simp +contextual only [wk,sZ,Nat.reduceEqDiff,↓reduceIte]
 exact ⟨k + 1,_,⟨ZH,hK2⟩,by omega,ay rfl rfl⟩
end Go.aI
end
section
set_option maxRecDepth 100000
set_option maxHeartbeats 0
namespace Go.aI
open Go Go.Proofs
noncomputable def Sl:=aH Tryz.call112 Tryz.func112 Tryz.ntmps112 [(0,0,1),(8,0,3001)] [(0,[1,2,3,4,8]),(1,[1,2,3,8,9]),(2,[1,2,3,8,10]),(3,[2,3,8,10,24,25,26]),(4,[2,3,8,10,24,25,26,27]),(5,[2,3,8,10,11,12,24,25,26]),(6,[2,3,8,10,24,25,26]),(7,[2,3,8,10,24,25,26]),(8,[8])] [(6,(tkq 0 3 (tkq 6 9 (.take 3 false (.take 5 false (.br 4 (.br 15 (.take 16 true (.br 17 .done .nil)) .nil) (.br 15 (.take 4 true (.take 16 true (.br 17 .done .nil))) .nil)))))))]
end Go.aI
end
section
set_option maxRecDepth 100000
namespace Go.aI
open Go Go.Proofs Go.dD
def fO:List Int→List Int→List Int→List Int
 | l,i::r,x::s=>fO (l.set i.toNat x) r s
 | l,_,_=>l
def oq (n:Nat) (ops pl:List Int):List Int:=fO (List.replicate n 255) ops pl
def ot (n:Nat) (ops st:List Int):List Int:=fO (List.replicate n 1) ops st
theorem rG:∀ (l r s:List Int),(fO l r s).length=l.length
 | l,[],_=>by cases l <;> rfl
 | l,_::_,[]=>rfl
 | l,i::r,x::s=>by rw [fO,rG];simp
theorem aeI (t:Ty) (ops pl st:List Int) {vo vp vs:AV} (ho:IL vo ops) (hp:IL vp pl) (hs:IL vs st) (tO:pl.length=ops.length) (lZ:st.length=ops.length) (hr:∀ i∈ops,0≤i∧i < t.s.ops.length) (hn:t.s.ops.length≤1000000000) (jZ:ops.length≤1000000000):Pure Tryz.prog 112 [t.av,vo,vp,vs] (dE (oq t.s.ops.length ops pl) (ot t.s.ops.length ops st)):=by
 refine fun H=>Sl.2.calls rfl ?_
 simp only [Sl,aH]
 obtain ⟨e1,e2,e3,e4,e5,e6⟩:=Ty.facts t
 obtain ⟨a1,a2,a3,a4⟩:=ho.one
 obtain ⟨b1,b2,b3,b4⟩:=hp.one
 obtain ⟨c1,c2,c3,c4⟩:=hs.one
 simp +contextual only [e1,vR,fS1,mX,sZ,Nat.reduceEqDiff,Nat.reduceAdd,↓reduceIte,reduceCtorEq]
 intro _
 refine af (UT 0 255 t.s.ops.length hn _) ?_
 rintro r G ⟨rfl,rfl⟩
 simp +contextual only [sZ,Nat.reduceEqDiff,Nat.reduceAdd,↓reduceIte]
 refine af (UT 0 1 t.s.ops.length hn _) ?_
 rintro r G ⟨rfl,rfl⟩
 simp +contextual only [sZ,Nat.reduceEqDiff,Nat.reduceAdd,↓reduceIte]
 obtain ⟨n,hn'⟩:∃ n,n=t.s.ops.length:=⟨_,rfl⟩
 rw [← hn'] at hn hr ⊢
 have va:∀ a b c d,(AV.aZ a b c d).val=true:=fun _ _ _ _=>rfl
 have vc:∀ a b c d,(AV.aZ a b c d).cells=[.aZ a b c d]:=fun _ _ _ _=>rfl
 have vo':∀ a b c d,(AV.aZ a b c d).one=true:=fun _ _ _ _=>rfl
 have vd:∀ a b c d,(AV.aZ a b c d).drop=.aZ a b c d:=fun _ _ _ _=>rfl
 have bdA:∀ (a1 b1 c1 d1 a2 b2 c2 d2:Nat) (φ:AV→Prop),cr [AV.ag,AV.ag] [(0,1,.aZ a1 b1 c1 d1),(1,1,.aZ a2 b2 c2 d2)] φ=φ (.agg [.aZ a1 b1 c1 d1,.aZ a2 b2 c2 d2]):=by
  intro a1 b1 c1 d1 a2 b2 c2 d2 φ
  simp only [cr,gb,eq_iff_iff]
  constructor
  ·rintro ⟨_,_,_,_,_,_,h⟩;exact h
  ·exact fun h=>⟨rfl,rfl,by simp,rfl,rfl,by simp [ai,AV.cells],h⟩
 have g3:∀ (a b c d:aa),[a,b,c,d][3]?=some d:=fun _ _ _ _=>rfl
 have sp2:∀ (a b x y:AV),ai [a,b] 0 [x,y]=[x,y]:=fun _ _ _ _=>rfl
 have lt1:∀ m:Nat,decide (m + 1 < m + 3 + 1)=true:=fun m=>by simp
 have lt2:∀ m:Nat,decide (m + 2 < m + 3 + 1)=true:=fun m=>by simp
 let S:List Int→List Int→List aa:=fun P Q=>H++[.cells [.ag,.ag],dh P,dh Q,.cells [.aZ (H.length + 1) 0 n n,.aZ (H.length + 2) 0 n n]]
 simp +contextual only [bdA,vo',g3,sp2,s3,lt1,lt2,acj,a2,ho.aO,ho.len (by omega),sZ,Nat.reduceEqDiff,Nat.reduceAdd,↓reduceIte]
 refine aF ops.length (fun j (s:List Int×List Int)=>s.1.length=n∧s.2.length=n∧fO s.1 (ops.drop j) (pl.drop j)=oq n ops pl∧fO s.2 (ops.drop j) (st.drop j)=ot n ops st)
  (fun j s=>[(2,vp),(3,vs),(8,.ptr H.length 0),(10,.ptr (H.length + 3) 0),(24,vo),(25,.int .i64 ops.length),(26,.int .i64 j)]) (fun j s=>S s.1 s.2) (List.replicate n 255,List.replicate n 1) ⟨⟨by simp,by simp,rfl,rfl⟩,ax _ _ _⟩ fun j s hj hI=>?_
 obtain ⟨P,Q⟩:=s
 obtain ⟨hP,hQ,KD,Io⟩:=hI
 simp only at hP hQ KD Io
 by_cases hjo:(j:Int) < ops.length
 ·have lA:j < ops.length:=by omega
  have hri:=hr _ (aV lA)
  obtain ⟨x,hx⟩:=ab1 hri.1
  have hxn:x < n:=by omega
  have hxP:x < P.length:=by omega
  have hxQ:x < Q.length:=by omega
  simp +contextual only [S,hjo,decide_true,b2,c2,ho.lens,ho.idx,hp.lens,hp.idx,hs.lens,hs.idx,zB,hx,jb,g3,MH hxP,MH hxQ,sZ,Nat.reduceEqDiff,Nat.reduceAdd,Nat.reduceLT,↓reduceIte,reduceCtorEq]
  have stp:∀ (P q:List Int),q.length=ops.length→fO P (ops.drop j) (q.drop j)=fO (P.set x (q.getD j 0)) (ops.drop (j + 1)) (q.drop (j + 1)):=by
   intro P q hq
   have e1:ops.drop j=ops.getD j 0::ops.drop (j + 1):=by rw [aav lA];simp [lA]
   have hjq:j < q.length:=by omega
   have e2:q.drop j=q.getD j 0::q.drop (j + 1):=by rw [aav hjq];simp [hjq]
   rw [e1,e2,fO,hx,zB]
  rw [stp P pl tO] at KD
  rw [stp Q st lZ] at Io
  have hgo:∃ (j':Nat) (t:List Int×List Int),(j'≤ops.length∧t.1.length=n∧t.2.length=n∧fO t.1 (ops.drop j') (pl.drop j')=oq n ops pl∧fO t.2 (ops.drop j') (st.drop j')=ot n ops st)∧ops.length - j' < ops.length - j∧
   sle H.length [(2,vp),(3,vs),(8,.ptr H.length 0),(10,.ptr (H.length + 3) 0),(24,vo),(25,.int .i64 ops.length),(26,.int .i64 (IntKind.i64.wrap (j + 1)))]
    (H++[.cells [.ag,.ag],dh (P.set x (pl.getD j 0)),dh (Q.set x (st.getD j 0)),.cells [.aZ (H.length + 1) 0 n n,.aZ (H.length + 2) 0 n n]])
    [(2,vp),(3,vs),(8,.ptr H.length 0),(10,.ptr (H.length + 3) 0),(24,vo),(25,.int .i64 ops.length),(26,.int .i64 j')]
    (H++[.cells [.ag,.ag],dh t.1,dh t.2,.cells [.aZ (H.length + 1) 0 n n,.aZ (H.length + 2) 0 n n]]):=
   ⟨j + 1,(P.set x (pl.getD j 0),Q.set x (st.getD j 0)),⟨lA,by simp [hP],by simp [hQ],KD,Io⟩,by omega,ay (by rw [aj j (by omega)]) rfl⟩
  repeat' apply tg
  all_goals first | omega | exact hgo
 ·have Z8:j=ops.length:=by omega
  subst Z8
  rw [List.drop_length] at KD Io
  have eP:P=oq n ops pl:=by rw [← KD];cases P <;> rfl
  have eQ:Q=ot n ops st:=by rw [← Io];cases Q <;> rfl
  simp +contextual only [Gl,S,hjo,decide_false,g3,vd,sZ,Nat.reduceEqDiff,↓reduceIte]
  have f1:(H++[aa.cells [AV.ag,.ag],dh P,dh Q,.cells [.aZ (H.length + 1) 0 n n,.aZ (H.length + 2) 0 n n]])[H.length + 1]?=some (dh P):=by simp
  have f2:((H++[aa.cells [AV.ag,.ag],dh P,dh Q,.cells [.aZ (H.length + 1) 0 n n,.aZ (H.length + 2) 0 n n]]).set (H.length + 1) .dead)[H.length + 2]?=some (dh Q):=by rw [zA (by omega)];simp
  have fz1:∀ {id n:Nat} {l:List Int} {H:List aa} (h:H[id]?=some (dh l)) (hn:l.length=n) {K:AV→List aa→Prop} (hK:K (.al 0 (ints l)) (H.set id .dead)),eK 1 (.aZ id 0 n n) H K:=fun h hn K hK=>by subst hn;exact Ee h hK
  refine fz1 f1 hP ?_
  refine fz1 f2 hQ ?_
  have es:((H++[aa.cells [AV.ag,.ag],dh P,dh Q,.cells [.aZ (H.length + 1) 0 n n,.aZ (H.length + 2) 0 n n]]).set (H.length + 1) .dead).set (H.length + 2) .dead=H++[aa.cells [AV.ag,.ag],.dead,.dead,.cells [.aZ (H.length + 1) 0 n n,.aZ (H.length + 2) 0 n n]]:=by simp []
  rw [es]
  have fb:∀ m,aw m [AV.al 0 (ints P),.al 0 (ints Q)]=true:=fun m=>by simp [bL,cV,bA,aJ]
  simp +contextual only [fb,sp2,acj,sZ,Nat.reduceEqDiff,Nat.reduceAdd,↓reduceIte,reduceCtorEq]
  rw [eP,eQ]
  exact HL ((aR _ _).2.2.2.2.2 _) rfl
end Go.aI
end
section
set_option maxRecDepth 100000
namespace Go.aI
open Go Go.Proofs Go.dD
def iu (vals:List Int):Nat→List (List Int)
 | 0=>[[]]
 | n + 1=>vals.flatMap fun x=>(iu vals n).map (x::·)
def eG {σ:Type} (step:σ→List Int→σ×Bool):List (List Int)→σ→σ×Bool
 | [],s=>(s,true)
 | l::r,s=>if (step s l).2=true then eG step r (step s l).1 else ((step s l).1,false)
theorem ym {σ:Type} {step:σ→List Int→σ×Bool}:∀ (a b:List (List Int)) (s:σ),eG step (a++b) s=if (eG step a s).2=true then eG step b (eG step a s).1 else ((eG step a s).1,false)
 | [],b,s=>by simp [eG]
 | x::a,b,s=>by
   rw [List.cons_append,eG,eG]
   split
   ·exact ym a b _
   ·simp
def cM (lo:Int) (n:Nat):List Int:=(List.range n).map fun i=>lo + (i:Nat)
theorem GS (lo:Int) (n:Nat):cM lo (n + 1)=cM lo n++[lo + (n:Nat)]:=by simp [cM,adp]
theorem AL {lo x:Int} {n:Nat}:x∈cM lo n↔lo≤x∧x < lo + n:=by
 simp only [cM,aaw,abG]
 constructor
 ·rintro ⟨j,h,rfl⟩;omega
 ·intro h;exact ⟨(x - lo).toNat,by omega,by omega⟩
def Ip (n:Nat) (id:Nat) (lo hi:Int) (q:Nat):AV:=.fn (.func 206) [] [.ah (.int .i64 n),.ah (.qm id),.ah (.int .i64 lo),.ah (.int .i64 hi),.ptr q 0]
structure YS {σ:Type} (n:Nat) (vals:List Int) (id:Nat) (St:σ→List aa) (Good:σ→Prop) (step:σ→List Int→σ×Bool):Prop where
 y:∀ l s X,l.length=n→(∀ x∈l,x∈vals)→Good s→l8 Tryz.prog id [bu l] (St s++X) fun r H'=>r=.bool (step s l).2∧H'=St (step s l).1++X
 U2:∀ l s,Good s→(step s l).2=true→Good (step s l).1
 len:∀ s s',(St s).length=(St s').length
theorem AM {σ:Type} {n:Nat} {vals:List Int} {id:Nat} {St:σ→List aa} {Good:σ→Prop} {step:σ→List Int→σ×Bool} (h:YS n vals id St Good step):∀ (a:List (List Int)) (s:σ),Good s→(eG step a s).2=true→Good (eG step a s).1
 | [],s,hs,_=>hs
 | l::r,s,hs,hr=>by
   rw [eG] at hr ⊢
   split at hr
   ·rename_i h1
    rw [if_pos h1]
    exact AM h r _ (h.U2 l s hs h1) hr
   ·simp at hr
theorem QH (l:List Int) (h:l≠[]):bu l=.al 0 (ints l):=by cases l with
 | nil=>exact absurd rfl h
 | cons a r=>rfl
theorem aaz (l:List Int) (hb:l.length * 8≤140737488355328):Pure Tryz.prog 118 [bu l] (.al 1 (ints l)):=by
 intro H
 cases l with
 | nil=>exact JY H
 | cons a r=>exact DQ 0 (ints (a::r)) H (of_eq_true (jI _)) (by rw [ap];exact hb) (aJ _ _)
theorem aeK {σ:Type} {n:Nat} {lo hi:Int} (tn:-1000000≤lo∧lo≤1000000) (KX:-1000000≤hi∧hi≤1000000) (hn:n≤1000000) {id:Nat} {St:σ→List aa} {Good:σ→Prop} {step:σ→List Int→σ×Bool} (hy:YS n (cM lo (hi + 1 - lo).toNat) id St Good step) (q:Nat) :
 ∀ (r:Nat) (l:List Int) (s:σ) (X:List aa),l.length + r=n→(∀ x∈l,x∈cM lo (hi + 1 - lo).toNat)→Good s→(∀ s',(St s'++X)[q]?=some (.cells [Ip n id lo hi q]))→
  aA Tryz.prog 206 [bu l,.ah (.int .i64 n),.ah (.qm id),.ah (.int .i64 lo),.ah (.int .i64 hi),.ptr q 0] (St s++X) fun rr H'=>rr=.bool (eG step ((iu (cM lo (hi + 1 - lo).toNat) r).map (l++·)) s).2∧H'=St (eG step ((iu (cM lo (hi + 1 - lo).toNat) r).map (l++·)) s).1++X:=by
 intro r
 induction r with
 | zero=>
   intro l s X hl hm hs hq
   refine P9.2.calls rfl ?_
   simp only [P9,aH]
   have ik:IL (bu l) l:=.inl rfl
   obtain ⟨a1,a2,a3,a4,a5⟩:=aL l
   have e1:((l.length:Int)=(n:Int))=True:=eq_true (by omega)
   have lyld:∀ (H:List aa) (φ:AV→Prop),a8 none (.ah (.qm id)) H φ=φ (.qm id):=fun H φ=>by simp [a8,AV.one,AV.ab]
   have e2:eG step ((iu (cM lo (hi + 1 - lo).toNat) 0).map (l++·)) s=step s l:=by
    simp only [iu,List.map_cons,List.map_nil,abJ,eG]
    cases hb:(step s l).2 with
    | true=>rw [if_pos rfl,← hb]
    | false=>rw [if_neg (by simp),← hb]
   rw [e2]
   simp +contextual only [a2,ik.aO,ik.len (by omega),e1,decide_true,lyld,Ik,sZ,Nat.reduceEqDiff,Nat.reduceAdd,↓reduceIte,reduceCtorEq]
   refine AI (hy.y l s X (by omega) hm hs) ?_
   rintro rr H' ⟨rfl,rfl⟩
   simp +contextual only [sZ,↓reduceIte,reduceCtorEq]
   refine aT (St s++X).length (zy _) (by rw [aD,if_pos rfl];rfl) ?_
   rw [aD,if_pos rfl]
   exact ⟨rfl,by rw [aax (by rw [aaj,aaj,hy.len _ s];exact zy _)]⟩
 | succ r ih=>
   intro l s X hl hm hs hq
   refine P9.2.calls rfl ?_
   simp only [P9,aH]
   have ik:IL (bu l) l:=.inl rfl
   obtain ⟨a1,a2,a3,a4,a5⟩:=aL l
   have e1:((l.length:Int)=(n:Int))=False:=eq_false (by omega)
   have sv:∀ (b:Bool) (s':σ),bP (St s++X).length [.t 7] [(7,.bool b)] (St s'++X) fun rr H'=>rr=.bool b∧H'=St s'++X:=by
    intro b s'
    refine aT (St s++X).length (zy _) (by rw [aD,if_pos rfl];rfl) ?_
    rw [aD,if_pos rfl]
    exact ⟨rfl,by rw [aax (by rw [aaj,aaj,hy.len _ s];exact zy _)]⟩
   obtain ⟨m,VV⟩:∃ m,m=(hi + 1 - lo).toNat:=⟨_,rfl⟩
   rw [← VV] at ih hm ⊢
   obtain ⟨F,hF⟩:∃ F:Nat→List (List Int),F=fun k=>(cM lo k).flatMap fun x=>(iu (cM lo m) r).map fun y=>l++x::y:=⟨_,rfl⟩
   have hF0:F 0=[]:=by rw [hF];rfl
   have hFs:∀ k,F (k + 1)=F k++(iu (cM lo m) r).map ((l++[lo + (k:Nat)])++·):=by
    intro k
    rw [hF]
    simp only [GS,adS,List.flatMap_cons,aga,abJ,abe,List.cons_append,List.nil_append]
   have hFm:(iu (cM lo m) (r + 1)).map (l++·)=F m:=by
    rw [hF,iu,List.map_flatMap]
    congr 1
    funext x
    rw [acH];rfl
   rw [hFm]
   simp +contextual only [a2,ik.aO,ik.len (by omega),e1,decide_false,sZ,Nat.reduceEqDiff,Nat.reduceAdd,↓reduceIte,reduceCtorEq]
   refine aF m (fun k (_:Unit)=>(eG step (F k) s).2=true) (fun k _=>[(0,bu l),(4,.ah (.int .i64 hi)),(5,.ptr q 0),(8,.int .i64 (lo + (k:Nat)))]) (fun k _=>St (eG step (F k) s).1++X) () ⟨by rw [hF0];rfl,ay (by simp) (by rw [hF0];rfl)⟩ fun k _ hk hI=>?_
   have hg:=AM hy (F k) s hs hI
   generalize NX:(eG step (F k) s).1=s1 at hg ⊢
   by_cases hkm:lo + (k:Int)≤hi
   ·have sg:k < m:=by omega
    have hql:=hq s1
    simp +contextual only [hkm,decide_true,a2,sZ,Nat.reduceEqDiff,↓reduceIte,reduceCtorEq]
    refine aB (aaz l (by omega)) ?_
    have kw:qR 1 [AV.int .i64 (lo + (k:Int))]:=of_eq_true (jI [_])
    have efn:(Ip n id lo hi q).ab=.fn (.func 206) [] [.ah (.int .i64 n),.ah (.qm id),.ah (.int .i64 lo),.ah (.int .i64 hi),.ptr q 0]:=rfl
    have ea:ints l++[AV.int .i64 (lo + (k:Int))]=ints (l++[lo + (k:Int)]):=by simp [ints]
    have ek:AV.al 0 (ints (l++[lo + (k:Int)]))=bu (l++[lo + (k:Int)]):=by rw [QH _ (by simp)]
    simp +contextual only [hql,efn,ap,kw,ea,ek,HG,sZ,Nat.reduceEqDiff,Nat.reduceAdd,Nat.reduceLT,↓reduceIte,reduceCtorEq]
    refine ⟨by omega,af (ih (l++[lo + (k:Int)]) s1 X (by simp;omega) (fun x hx=>?_) hg hq) ?_⟩
    ·rcases abF.1 hx with h | h
     ·exact hm x h
     ·simp only [aak,abA,or_false] at h
      subst h
      exact AL.2 ⟨by omega,by omega⟩
    rintro rr H' ⟨rfl,rfl⟩
    have bK:eG step (F (k + 1)) s=eG step ((iu (cM lo m) r).map ((l++[lo + (k:Int)])++·)) s1:=by
     rw [hFs,ym,if_pos hI,NX]
    cases hb:(eG step ((iu (cM lo m) r).map ((l++[lo + (k:Int)])++·)) s1).2 with
    | true=>
      simp +contextual only [Bool.not_true,sZ,Nat.reduceEqDiff,↓reduceIte,reduceCtorEq]
      refine ⟨k + 1,(),⟨sg,by rw [bK];exact hb⟩,by omega,ay ?_ (by rw [bK])⟩
      rw [cp _ (by omega)]
      have:lo + (k:Int) + 1=lo + ((k + 1:Nat):Int):=by omega
      rw [this]
    | false=>
      simp +contextual only [Bool.not_false,sZ,Nat.reduceEqDiff,↓reduceIte,reduceCtorEq]
      have fU:eG step (F m) s=((eG step ((iu (cM lo m) r).map ((l++[lo + (k:Int)])++·)) s1).1,false):=by
       have e:∃ R,F m=F (k + 1)++R:=by
        have:∀ d,∃ R,F (k + 1 + d)=F (k + 1)++R:=by
         intro d
         induction d with
         | zero=>exact ⟨[],by simp⟩
         | succ d ihd=>
           obtain ⟨R,hR⟩:=ihd
           exact ⟨R++_,by rw [show k + 1 + (d + 1)=(k + 1 + d) + 1 by omega,hFs,hR,abe]⟩
        obtain ⟨R,hR⟩:=this (m - (k + 1))
        exact ⟨R,by rw [← hR];congr 1;omega⟩
       obtain ⟨R,hR⟩:=e
       rw [hR,ym,bK,hb,if_neg (by simp)]
      rw [fU]
      exact sv false _
   ·have hke:k=m:=by omega
    simp +contextual only [hkm,decide_false,sZ,Nat.reduceEqDiff,↓reduceIte,reduceCtorEq]
    rw [← hke,hI,NX]
    exact sv true s1
theorem aaB {σ:Type} {n:Nat} {lo hi:Int} (tn:-1000000≤lo∧lo≤1000000) (KX:-1000000≤hi∧hi≤1000000) (hn:n≤1000000) {id:Nat} {St:σ→List aa} {Good:σ→Prop} {step:σ→List Int→σ×Bool} (hy:YS n (cM lo (hi + 1 - lo).toNat) id St Good step) (bF:∀ s,id < (St s).length) (s:σ) (hs:Good s) :
 aA Tryz.prog 205 [.qm id,.ah (.int .i64 n),.ah (.int .i64 lo),.ah (.int .i64 hi)] (St s) fun rr H'=>rr=.tuple []∧H'=St (eG step (iu (cM lo (hi + 1 - lo).toNat) n) s).1:=by
 refine Yv.2.calls rfl ?_
 simp only [Yv,aH]
 have ajE:=bF s
 have vy:(AV.qm id).val=true:=rfl
 have cy:(AV.qm id).cells=[.qm id]:=rfl
 have oy:(AV.qm id).one=true:=rfl
 have by':∀ m,(AV.qm id).bc m=decide (id < m):=fun m=>by simp [AV.bc]
 have d1:decide (id < (St s).length + 1)=true:=decide_eq_true (by omega)
 have d2':decide ((St s).length < (St s).length + 1)=true:=decide_eq_true (by omega)
 have efn:(Ip n id lo hi (St s).length).ab=.fn (.func 206) [] [.ah (.int .i64 n),.ah (.qm id),.ah (.int .i64 lo),.ah (.int .i64 hi),.ptr (St s).length 0]:=rfl
 simp +contextual only [vy,by',d1,d2',acj,Xa,sZ,Nat.reduceEqDiff,Nat.reduceAdd,Nat.reduceLT,↓reduceIte,reduceCtorEq]
 have h:=aeK tn KX hn hy (St s).length n [] s [.cells [Ip n id lo hi (St s).length]] (by simp) (fun x hx=>by cases hx) hs (fun s'=>by rw [← hy.len s' s];simp)
 have em:(iu (cM lo (hi + 1 - lo).toNat) n).map ([]++·)=iu (cM lo (hi + 1 - lo).toNat) n:=by simp
 rw [em] at h
 refine af h ?_
 rintro rr H' ⟨rfl,rfl⟩
 simp +contextual only [sZ,reduceCtorEq]
 refine ⟨(St s).length,zy _,[],trivial,rfl,rfl,?_⟩
 rw [hy.len s _,aeg]
theorem aaC (n:Nat) (lo hi:Int):Pure Tryz.prog 166 [.int .i64 n,.int .i64 lo,.int .i64 hi] (.fn (.func 205) [] [.ah (.int .i64 n),.ah (.int .i64 lo),.ah (.int .i64 hi)]):=by
 refine fun H=>X0.2.calls rfl ?_
 simp only [X0,aH]
 simp +contextual only [sZ,Nat.reduceEqDiff,Nat.reduceAdd,↓reduceIte,reduceCtorEq]
 exact aK rfl rfl
end Go.aI
end
section
set_option maxRecDepth 100000
namespace Go.aI
open Go Go.Proofs Go.dD
theorem aeL (x:Int) (r:List Int) (hl:r.length≤1000000000):Pure Tryz.prog 207 [.al 0 (ints (x::r))] (.int .i64 (r.foldl max x)):=by
 refine fun H=>Yw.2.calls rfl ?_
 simp only [Yw,aH]
 have ix:IL (.al 0 (ints (x::r))) (x::r):=.inr rfl
 have n1:(((x::r).length:Int) < 1)=False:=eq_false (by simp;omega)
 have g0':(x::r).getD (0:Int).toNat 0=x:=rfl
 have ll:(x::r).length≤1000000001:=by simp;omega
 generalize fe:x::r=xs at *
 have dP:0 < xs.length:=by rw [← fe];simp
 simp +contextual only [ix.aO,ix.len (by omega),n1,decide_false,ix.lens,ix.idx,g0',sZ,Nat.reduceEqDiff,Nat.reduceAdd,↓reduceIte,reduceCtorEq]
 refine ⟨by omega,?_⟩
 have hsplit:∀ j,j≤r.length→(r.take j).foldl max x=((xs.take (j + 1)).drop 1).foldl max x:=by intro j _;rw [← fe];simp
 refine aq r.length (fun j=>True) (fun j=>[(0,.al 0 (ints xs)),(3,.int .i64 ((r.take j).foldl max x)),(4,.int .i64 ((j + 1:Nat):Int))]) (fun _=>H) ⟨trivial,ax _ _ _⟩ fun j hj _=>?_
 have E4:xs.length=r.length + 1:=by rw [← fe];simp
 by_cases hjr:j < r.length
 ·have n2:(((j + 1:Nat):Int) < xs.length)=True:=eq_true (by omega)
  have gj:xs.getD (j + 1) 0=r.getD j 0:=by rw [← fe];simp
  have tk:(r.take (j + 1)).foldl max x=max ((r.take j).foldl max x) (r.getD j 0):=by
   rw [abN hjr,List.foldl_append]
   simp [hjr]
  simp +contextual only [ix.aO,ix.len (by omega),n2,decide_true,ix.lens,ix.idx,zB,gj,sZ,Nat.reduceEqDiff,↓reduceIte,reduceCtorEq]
  exact ⟨by omega,j + 1,hjr,by omega,ay (by rw [cp _ (by omega),tk];rfl) rfl⟩
 ·have e:j=r.length:=by omega
  subst e
  have n2:(((r.length + 1:Nat):Int) < xs.length)=False:=eq_false (by omega)
  simp +contextual only [ix.aO,ix.len (by omega),n2,decide_false,sZ,Nat.reduceEqDiff,↓reduceIte,reduceCtorEq]
  exact aK rfl (by rw [aby])
theorem aeN (l:List Int) {v:AV} (h:IL v l) (hl:l.length≤1000000000) (y:Int):Pure Tryz.prog 111 [v,.int .i64 y] (.int .i64 (m9 (fun z=>decide (y=z)) l 0)):=by
 refine fun H=>Xq.2.calls rfl ?_
 simp only [Xq,aH]
 obtain ⟨a1,a2,a3,a4⟩:=h.one
 simp +contextual only [a2,h.aO,h.len (by omega),sZ,Nat.reduceEqDiff,Nat.reduceAdd,↓reduceIte,reduceCtorEq]
 refine aq l.length (fun i=>m9 (fun z=>decide (y=z)) (l.drop i) i=m9 (fun z=>decide (y=z)) l 0) (fun i=>[(0,v),(1,.int .i64 y),(7,.int .i64 l.length),(8,.int .i64 i)]) (fun _=>H) ⟨rfl,ax _ _ _⟩ fun i hi hI=>?_
 by_cases vA:i < l.length
 ·have n1:((i:Int) < l.length)=True:=eq_true (by omega)
  rw [qf vA] at hI
  have egd:l.getD i default=l.getD i 0:=by simp [vA]
  rw [egd] at hI
  simp +contextual only [n1,decide_true,a2,h.lens,h.idx,zB,sZ,Nat.reduceEqDiff,↓reduceIte,reduceCtorEq]
  refine ⟨by omega,fun he=>?_,fun dP=>?_⟩
  ·rw [if_pos (by simpa using he)] at hI
   exact aK rfl (by rw [← hI])
  ·rw [if_neg (by simpa using dP)] at hI
   exact ⟨i + 1,⟨vA,hI⟩,by omega,ay (by rw [aj i (by omega)]) rfl⟩
 ·have n1:((i:Int) < l.length)=False:=eq_false (by omega)
  rw [aap (by omega)] at hI
  simp +contextual only [n1,decide_false,sZ,Nat.reduceEqDiff,↓reduceIte,reduceCtorEq]
  exact aK rfl (by rw [← hI];rfl)
theorem Ch {α:Type} {p:α→Bool}:∀ (l:List α) (i:Nat),0≤m9 p l i↔∃ x∈l,p x=true
 | [],i=>by simp [m9]
 | x::r,i=>by
   rw [m9]
   by_cases h:p x=true
   ·rw [if_pos h];exact ⟨fun _=>⟨x,by simp,h⟩,fun _=>by omega⟩
   ·rw [if_neg h,Ch r (i + 1)]
    simp [h]
theorem aeO (l:List Int) {v:AV} (h:IL v l) (hl:l.length≤1000000000) (y:Int):Pure Tryz.prog 208 [v,.int .i64 y] (.bool (decide (y∈l))):=by
 refine fun H=>Yx.2.calls rfl ?_
 simp only [Yx,aH]
 obtain ⟨a1,a2,a3,a4⟩:=h.one
 simp +contextual only [a2,sZ,Nat.reduceEqDiff,Nat.reduceAdd,↓reduceIte,reduceCtorEq]
 refine ae (aeN l h hl y) ?_
 simp +contextual only [sZ,↓reduceIte,reduceCtorEq]
 refine aK rfl ?_
 congr 1
 rw [decide_eq_decide,Ch]
 simp
def yn (l:List Int):Int:=l.foldl max (-1)
def ji (l:List Int):Bool:=(List.range (yn l + 1).toNat).all fun j=>decide ((j:Int)∈l)
theorem foldl_max:∀ (l:List Int) (x b:Int),x≤b→(∀ y∈l,y≤b)→x≤l.foldl max x∧l.foldl max x≤b
 | [],x,b,h,_=>⟨afV _,h⟩
 | y::r,x,b,h,hr=>by
   have h1:=hr y (by simp)
   have:=foldl_max r (max x y) b (by omega) (fun z hz=>hr z (by simp [hz]))
   rw [List.foldl_cons];omega
theorem aeP (l:List Int) {v:AV} (h:IL v l) (hl:l.length≤100000000) (hb:∀ x∈l,x≤1000000):Pure Tryz.prog 167 [v] (.bool (ji l)):=by
 refine fun H=>X1.2.calls rfl ?_
 simp only [X1,aH]
 obtain ⟨a1,a2,a3,a4⟩:=h.one
 have WJ:∀ ψ:List AV→Prop,bC 1 8 (.al 1 [.int .i64 (-1)]) v ψ=ψ (ints (-1::l)):=by
  intro ψ
  have hr:dK v=some (ints l):=by
   rcases h with rfl | rfl
   ·cases l <;> rfl
   ·rfl
  have hal:oY 1 (.al 1 [.int .i64 (-1)])=some [.int .i64 (-1)]:=rfl
  have ok:qR 1 (ints l):=of_eq_true (jI l)
  simp only [bC,hal,hr,eq_iff_iff]
  exact ⟨fun h=>h.2.2,fun k=>⟨by simp [ap];omega,ok,k⟩⟩
 have hm:=foldl_max l (-1) 1000000 (by omega) hb
 simp +contextual only [a2,WJ,sZ,Nat.reduceEqDiff,Nat.reduceAdd,↓reduceIte,reduceCtorEq]
 refine ae (aeL (-1) l (by omega)) ?_
 have em:l.foldl max (-1)=yn l:=rfl
 rw [em] at hm ⊢
 have hw:IntKind.i64.wrap (yn l + 1)=yn l + 1:=cp _ (by omega)
 simp +contextual only [hw,sZ,Nat.reduceEqDiff,↓reduceIte,reduceCtorEq]
 refine aq (yn l + 1).toNat (fun j=>∀ i,i < j→(i:Int)∈l) (fun j=>[(0,v),(8,.int .i64 (yn l + 1)),(9,.int .i64 j)]) (fun _=>H) ⟨fun i hi=>by omega,ax _ _ _⟩ fun j hj hI=>?_
 by_cases hjm:(j:Int) < yn l + 1
 ·simp +contextual only [hjm,decide_true,a2,sZ,Nat.reduceEqDiff,Nat.reduceAdd,↓reduceIte,reduceCtorEq]
  refine ae (aeO l h (by omega) j) ?_
  by_cases ky:(j:Int)∈l
  ·simp +contextual only [ky,decide_true,Bool.not_true,sZ,Nat.reduceEqDiff,↓reduceIte,reduceCtorEq]
   refine ⟨j + 1,⟨by omega,fun i hi=>?_⟩,by omega,ay (by rw [aj j (by omega)]) rfl⟩
   by_cases e:i=j
   ·subst e;exact ky
   ·exact hI i (by omega)
  ·simp +contextual only [ky,decide_false,Bool.not_false,sZ,Nat.reduceEqDiff,↓reduceIte,reduceCtorEq]
   refine aK rfl ?_
   congr 1
   have:ji l=false:=by
    unfold ji
    rw [ac4]
    exact ⟨j,abG.2 (by omega),by simpa using ky⟩
   rw [this]
 ·have e:j=(yn l + 1).toNat:=by omega
  simp +contextual only [hjm,decide_false,sZ,Nat.reduceEqDiff,↓reduceIte,reduceCtorEq]
  refine aK rfl ?_
  congr 1
  have:ji l=true:=by
   unfold ji
   rw [abc]
   intro i hi
   exact decide_eq_true (hI i (by rw [e];exact abG.1 hi))
  rw [this]
end Go.aI
end
section
set_option maxRecDepth 100000
namespace Go.aI
open Go Go.Proofs Go.dD
open Classical in
noncomputable def pF (t:Ty) (ops pl st:List Int):Bool:=decide (jy t.s (oq t.s.ops.length ops pl) (ot t.s.ops.length ops st)=0∧jr t (oq t.s.ops.length ops pl) (ot t.s.ops.length ops st) < 0)
abbrev Fo:=Option (List Int×List Int)
noncomputable def df (t:Ty) (ops pl:List Int) (s:Fo) (st:List Int):Fo×Bool:=if pF t ops pl st=true then (some (oq t.s.ops.length ops pl,ot t.s.ops.length ops st),false) else (s,true)
noncomputable def ej (t:Ty) (ops:List Int) (s:Fo) (pl:List Int):Fo×Bool:=if ji pl=true then eG (df t ops pl) (iu (cM 1 3) ops.length) s else (s,true)
noncomputable def pG (t:Ty) (ops:List Int):Fo:=(eG (ej t ops) (iu (cM 0 ops.length) ops.length) none).1
def o4 (s:Fo):aa:=match s with | none=>.cells [.ag,.ag] | some (P,S)=>.cells [.al 0 (ints P),.al 0 (ints S)]
def o5 (s:Fo):aa:=.cells [.bool s.isSome]
noncomputable def jV (s:Fo):VQ:=if s.isSome=true then .jump .ret else .ready
theorem Ci:bh.n=41:=by kernel_rfl
theorem Cj:bG.n=41:=by kernel_rfl
theorem yo:bh.ps=[15]:=by kernel_rfl
theorem yp:bG.ps=[22]:=by kernel_rfl
theorem Nj {n0 id:Nat} {R:AV→List aa→Prop} {H:List aa} {lc:jL} {es:List AV} (h:H[id]?=some (.loop .busy lc es)):vK n0 id R .ret H=Jn n0 false (H.set id (.loop (.jump .ret) lc es)) R:=by
 unfold vK;rw [h]
theorem EC {id:Nat} {H:List aa} {K:Option Code→List aa→Prop} {lc:jL} {es:List AV} {c:Code} (h:H[id]?=some (.loop (.jump c) lc es)):behind id H K=K (some c) (H.set id (.loop .fQ lc es)):=by
 unfold behind;rw [h]
theorem Ck (t:Ty) (ops pl:List Int):∀ (a:List (List Int)) (s:Fo),s=none→(eG (df t ops pl) a s).2=(eG (df t ops pl) a s).1.isNone
 | [],s,h=>by subst h;rfl
 | l::r,s,h=>by
   subst h
   rw [eG]
   by_cases ht:pF t ops pl l=true
   ·have e:df t ops pl none l=(some (oq t.s.ops.length ops pl,ot t.s.ops.length ops l),false):=if_pos ht
    rw [e];rfl
   ·have e:df t ops pl none l=(none,true):=if_neg ht
    rw [e]
    exact Ck t ops pl r none rfl
structure zt (t:Ty):Prop where
 n:t.s.ops.length≤1000000000
 eq:∀ e∈t.es,∀ ps:List Int,ps.length=t.s.ops.length→Cf ps e
theorem ED (n:Nat) (ops pl:List Int):(oq n ops pl).length=n:=by unfold oq;rw [rG];simp
theorem Nk (n:Nat) (ops pl:List Int):(ot n ops pl).length=n:=by unfold ot;rw [rG];simp
theorem wx (A:List aa) (x:aa) (Y:List aa) (k:Nat) (h:A.length=k):(A++x::Y)[k]?=some x:=by subst h;simp
theorem wy (A:List aa) (x y:aa) (Y:List aa) (k:Nat) (h:A.length=k):(A++x::Y).set k y=A++y::Y:=by subst h;simp
def fP (H W:List aa) (s:Fo):List aa:=H++o4 s::o5 s::W
theorem fC (H W:List aa) (s:Fo):(fP H W s).length=H.length + 2 + W.length:=by simp [fP];omega
theorem Sm (H W Y:List aa) (s:Fo):(fP H W s++Y)[H.length]?=some (o4 s):=by rw [zz (by rw [fC];omega)];simp [fP]
theorem Sn (H W Y:List aa) (s:Fo):(fP H W s++Y)[H.length + 1]?=some (o5 s):=by rw [zz (by rw [fC];omega)];simp [fP]
theorem Vm (H W Y:List aa) (s:Fo) (P S:List Int):((fP H W s++Y).set H.length (.cells [.al 0 (ints P),.al 0 (ints S)])).set (H.length + 1) (.cells [.bool true])=fP H W (some (P,S))++Y:=by
 rw [aed _ _ (by rw [fC];omega),aed _ _ (by rw [ab7,fC];omega)]
 simp [fP,o4,o5]
theorem Vn {s:Sg} {ps ss:List Int} (h:jy s ps ss=0):Va ps ss:=(x8.1 h).2.va
theorem Nl {t:Ty} (ht:zt t) {ops:List Int} {vo:AV} (ho:IL vo ops) (hr:∀ i∈ops,0≤i∧i < t.s.ops.length) (jZ:ops.length≤1000000) {pl:List Int} (vU:pl.length=ops.length) (H W:List aa) (es:List AV) (yS:es=mG 41 [(2,.ah t.av),(3,.ah vo),(4,.ptr H.length 0),(5,.ptr (H.length + 1) 0),(6,.ah (bu pl)),(21,.fn (.func 205) [] [.ah (.int .i64 ops.length),.ah (.int .i64 1),.ah (.int .i64 3)])])
 (l:List Int) (hl:l.length=ops.length) (Y:List aa) (id:Nat) (bF:id=H.length + 2 + W.length) :
 l8 Tryz.prog id [bu l] (fP H W none++.loop .ready bG es::Y) fun r H'=>r=.bool (df t ops pl none l).2∧H'=fP H W (df t ops pl none l).1++.loop (jV (df t ops pl none l).1) bG es::Y:=by
 have ees:es=[.any,.any,.ah t.av,.ah vo,.ptr H.length 0,.ptr (H.length + 1) 0,.ah (bu pl),.any,.any,.any,.any,.any,.any,.any,.any,.any,.any,.any,.any,.any,.any,.fn (.func 205) [] [.ah (.int .i64 ops.length),.ah (.int .i64 1),.ah (.int .i64 3)],.any,.any,.any,.any,.any,.any,.any,.any,.any,.any,.any,.any,.any,.any,.any,.any,.any,.any,.any]:=by rw [yS];rfl
 have hk:∀ s,(fP H W s).length=id:=fun s=>by rw [fC,bF]
 have e0:∀ s st,(fP H W s++aa.loop st bG es::Y)[id]?=some (.loop st bG es):=fun s st=>wx _ _ _ _ (hk s)
 have iJ:∀ s st st',(fP H W s++aa.loop st bG es::Y).set id (.loop st' bG es)=fP H W s++aa.loop st' bG es::Y:=fun s st st'=>wy _ _ _ _ _ (hk s)
 have hlen:∀ s st,(fP H W s++aa.loop st bG es::Y).length=(fP H W none++aa.loop .ready bG es::Y).length:=fun s st=>by rw [aaj,aaj,hk,hk];rfl
 refine tT (lc:=bG) (es:=es) (e0 none .ready) Uy Uz ⟨by rw [ees,Cj];rfl,by rw [yp];rfl,by rw [yp,Cj];rfl,?_,?_⟩ (yh ?_)
 ·rw [ees];intro x hx;simp only [aak,abA,or_false] at hx
  repeat' (first | (rcases hx with hx | hx;· subst hx;rfl) | (subst hx;rfl))
 ·intro x hx;simp only [aak,abA,or_false] at hx;subst hx;exact (aL l).2.1
 ·have ez:(bG.ps.zip [bu l]).reverse++cc 0 es=(22,bu l)::cc 0 es:=by rw [yp];rfl
  rw [ez]
  generalize zw:cc 0 es=ea
  have g2:get ea 2=.ah t.av:=by rw [← zw,ees];rfl
  have g3:get ea 3=.ah vo:=by rw [← zw,ees];rfl
  have g4:get ea 4=.ptr H.length 0:=by rw [← zw,ees];rfl
  have g5:get ea 5=.ptr (H.length + 1) 0:=by rw [← zw,ees];rfl
  have g6:get ea 6=.ah (bu pl):=by rw [← zw,ees];rfl
  simp only [Md,Me]
  have hb:∀ K,mf id (fP H W none++.loop .ready bG es::Y) K=K (fP H W none++.loop .busy bG es::Y):=fun K=>by rw [uz (e0 none .ready),iJ]
  obtain ⟨e1,e2,e3,e4,e5,e6⟩:=Ty.facts t
  obtain ⟨a1,a2,a3,a4⟩:=ho.one
  obtain ⟨b1,b2,b3,b4,b5⟩:=aL pl
  obtain ⟨c1,c2,c3,c4,c5⟩:=aL l
  have lvo:∀ (H:List aa) (φ:AV→Prop),a8 none (.ah vo) H φ=φ vo:=fun H φ=>by simp [a8,a1,a2]
  obtain ⟨q1,q2,q3,q4,q5,q6⟩:=aR (oq t.s.ops.length ops pl) (ot t.s.ops.length ops l)
  simp +contextual only [g2,g3,g4,g5,g6,c2,hb,gl,lvo,b7,b2,a2,e4,sZ,Nat.reduceEqDiff,Nat.reduceAdd,↓reduceIte]
  refine ae (aeI t ops pl l ho (.inl rfl) (.inl rfl) vU hl hr ht.n (by omega)) ?_
  generalize hP:oq t.s.ops.length ops pl=P at *
  generalize hS:ot t.s.ops.length ops l=S at *
  simp +contextual only [aC,q1,q2,q3,q4,vR,bQ,sZ,Nat.reduceEqDiff,Nat.reduceAdd,↓reduceIte]
  refine ae (c24 t.s P S) ?_
  have endN:∀ n0,n0=id + (Y.length + 1)→df t ops pl none l=(none,true)→vK n0 id (fun r H'=>r=.bool (df t ops pl none l).2∧H'=fP H W (df t ops pl none l).1++.loop (jV (df t ops pl none l).1) bG es::Y) .normal (fP H W none++.loop .busy bG es::Y):=by
   intro n0 Ba bT
   rw [GO (e0 none .busy),iJ,bT]
   refine ⟨by rw [hlen,aaj,hk];simp;omega,rfl,?_⟩
   rw [aax (by rw [hlen,aaj,hk];simp;omega)]
   rfl
  have endR:∀ n0,n0=id + (Y.length + 1)→df t ops pl none l=(some (P,S),false)→vK n0 id (fun r H'=>r=.bool (df t ops pl none l).2∧H'=fP H W (df t ops pl none l).1++.loop (jV (df t ops pl none l).1) bG es::Y) .ret (fP H W (some (P,S))++.loop .busy bG es::Y):=by
   intro n0 Ba bT
   rw [Nj (e0 _ .busy),iJ,bT]
   refine ⟨by rw [hlen,aaj,hk];simp;omega,rfl,?_⟩
   rw [aax (by rw [hlen,aaj,hk];simp;omega)]
   rfl
  by_cases h0:jy t.s P S=0
  ·simp +contextual only [h0,gl,bQ,e4,q4,sZ,Nat.reduceEqDiff,Nat.reduceAdd,↓reduceIte]
   refine ae (c89 t P S (Vn h0) (fun e he=>ht.eq e he P (by rw [← hP];exact ED _ _ _))) ?_
   by_cases h1:jr t P S < 0
   ·have bT:df t ops pl none l=(some (P,S),false):=by
     rw [df,if_pos (by rw [pF,hP,hS];exact decide_eq_true ⟨h0,h1⟩),hP,hS]
    have k4:=Sm H W (.loop .busy bG es::Y) none
    have k5:∀ o,((fP H W none++.loop .busy bG es::Y).set H.length o)[H.length + 1]?=some (o5 none):=fun o=>by rw [zA (by omega),Sn]
    have ks:=Vm H W (.loop .busy bG es::Y) none P S
    have o4n:o4 none=.cells [.ag,.ag]:=rfl
    have o5n:o5 none=.cells [.bool false]:=rfl
    rw [o4n] at k4
    simp only [o5n] at k5
    have qu:(dE P S).cells.map AV.ab=[.al 0 (ints P),.al 0 (ints S)]:=rfl
    have sp2:∀ (a b x y:AV),ai [a,b] 0 [x,y]=[x,y]:=fun _ _ _ _=>rfl
    have fb:∀ m,aw m [AV.al 0 (ints P),.al 0 (ints S)]=true:=fun m=>by simp [bL,cV,bA,aJ]
    simp +contextual only [h1,decide_true,bQ,k4,k5,ks,q1,q2,q3,qu,sp2,fb,acj,sZ,Nat.reduceEqDiff,Nat.reduceAdd,↓reduceIte]
    first
     | exact endR _ (by rw [hk]) bT
     | exact endR _ (by rw [hlen,aaj,hk];rfl) bT
   ·simp +contextual only [h1,decide_false,sZ,Nat.reduceEqDiff,↓reduceIte]
    have bT:df t ops pl none l=(none,true):=by
     rw [df,if_neg (by rw [pF,hP,hS];simp [h1])]
    exact endN _ (by rw [hk]) bT
  ·simp +contextual only [h0,decide_false,sZ,Nat.reduceEqDiff,↓reduceIte]
   have bT:df t ops pl none l=(none,true):=by
    rw [df,if_neg (by rw [pF,hP,hS];simp [h0])]
   exact endN _ (by rw [hk]) bT
end Go.aI
end
