/- Part 13 of 17 of the proof. -/
import Derived.Test.YtljchnfgjdjobaaGreatXal
import Derived.Test.YtljchnfgjdjobaaGreatXag
import Derived.KernelRfl
import Derived.Test.YtljchnfgjdjobaaGreatXak
import Derived.Test.YtljchnfgjdjobaaGreatXaj
set_option linter.unusedVariables false
set_option linter.unusedSimpArgs false
set_option linter.defProp false
set_option linter.unusedSectionVars false
noncomputable section
set_option maxRecDepth 100000
namespace Go.aK
open Go Go.Proofs Go.fo
structure PC (c:Cx) (H:List aa) (x y:Nat) (i k:Int) (es:List AV) (o:aa) (G:List aa):Prop where
 du:Du c G
 gx:G[x]?=some (.cells [bA (c.kd i)])
 gy:G[y]?=some (.cells [bA (c.kd k)])
 g6:G[H.length]?=some (.cells [.int .i64 0,.int .i64 0,.ag,.ag])
 gp:G[H.length + 3]?=some (.cells es)
 go:G[H.length + 4]?=some o
 len:G.length=H.length + 5
 up:∀ j,j < H.length→j≠c.e→j≠c.g→G[j]?=H[j]?
theorem PB.afh {c:Cx} {H G:List aa} {x y:Nat} {i k:Int} {es:List AV} (w:XY H x y) (h:PB c H x y i k es G) (o:aa):PC c H x y i k es o (G++[o]):=by
 obtain ⟨w1,w2,w3,w4⟩:=w
 have hl:=h.len
 exact ⟨h.du.sl _,by rw [zA (by omega),h.gx],by rw [zA (by omega),h.gy],by rw [zA (by omega),h.g6],by rw [zA (by omega),h.gp],by rw [← hl];simp,by simp [hl],fun j h1 h2 h3=>by rw [zA (by omega),h.up j h1 h2 h3]⟩
theorem PC.call {c:Cx} {H G G':List aa} {x y:Nat} {i k:Int} {es:List AV} {o:aa} (hD:Du c H) (w:XY H x y) (h:PC c H x y i k es o G) (hU:Up c G G') (kg:Du c G'):PC c H x y i k es o G':=by
 obtain ⟨l1,l2,l3⟩:=hD.lt
 obtain ⟨w1,w2,w3,w4⟩:=w
 exact ⟨kg,by rw [hU.get x (by omega) (by omega),h.gx],by rw [hU.get y (by omega) (by omega),h.gy],by rw [hU.get _ (by omega) (by omega),h.g6],by rw [hU.get _ (by omega) (by omega),h.gp],by rw [hU.get _ (by omega) (by omega),h.go],by rw [hU.len,h.len],fun j h1 h2 h3=>by rw [hU.get j h2 h3,h.up j h1 h2 h3]⟩
theorem PC.set {c:Cx} {H G:List aa} {x y:Nat} {i k:Int} {es es':List AV} {o:aa} (hD:Du c H) (w:XY H x y) (h:PC c H x y i k es o G):PC c H x y i k es' o (G.set (H.length + 3) (.cells es')):=by
 obtain ⟨l1,l2,l3⟩:=hD.lt
 obtain ⟨w1,w2,w3,w4⟩:=w
 have hp:=aO h.gp
 exact ⟨h.du.set (by omega) (by omega) (by omega),by rw [zC (by omega),h.gx],by rw [zC (by omega),h.gy],by rw [zC (by omega),h.g6],by rw [zD hp],by rw [zC (by omega),h.go],by rw [acI,h.len],fun j h1 h2 h3=>by rw [zC (by omega),h.up j h1 h2 h3]⟩
theorem PC.afi {c:Cx} {H G:List aa} {x y:Nat} {i k:Int} {es:List AV} {o o':aa} (hD:Du c H) (w:XY H x y) (h:PC c H x y i k es o G):PC c H x y i k es o' (G.set (H.length + 4) o'):=by
 obtain ⟨l1,l2,l3⟩:=hD.lt
 obtain ⟨w1,w2,w3,w4⟩:=w
 have hp:=aO h.go
 exact ⟨h.du.set (by omega) (by omega) (by omega),by rw [zC (by omega),h.gx],by rw [zC (by omega),h.gy],by rw [zC (by omega),h.g6],by rw [zC (by omega),h.gp],by rw [zD hp],by rw [acI,h.len],fun j h1 h2 h3=>by rw [zC (by omega),h.up j h1 h2 h3]⟩
theorem PC.drop {c:Cx} {H G:List aa} {x y:Nat} {i k:Int} {es:List AV} {o:aa} (hD:Du c H) (w:XY H x y) (h:PC c H x y i k es o G):PB c H x y i k es (G.take (H.length + 4))∧G=G.take (H.length + 4)++[o]:=by
 obtain ⟨l1,l2,l3⟩:=hD.lt
 obtain ⟨w1,w2,w3,w4⟩:=w
 have hl:=h.len
 have t:∀ j,j < H.length + 4→(G.take (H.length + 4))[j]?=G[j]?:=fun j h1=>by rw [aa7,if_pos h1]
 refine ⟨⟨h.du.take (by omega) (by omega) (by omega),by rw [t x (by omega),h.gx],by rw [t y (by omega),h.gy],by rw [t _ (by omega),h.g6],by rw [t _ (by omega),h.gp],by simp;omega,fun j h1 h2 h3=>by rw [t j (by omega),h.up j h1 h2 h3]⟩,?_⟩
 have e:G.drop (H.length + 4)=[o]:=by
  have h1:=h.go
  have aG:H.length + 4 < G.length:=by omega
  rw [aba aG]
  rw [aaf aG] at h1
  simp only [Option.some.injEq] at h1
  rw [h1,aa9 (by omega)]
 rw [← e,adE]
structure MI (c:Cx) (a b:List Int) (us:List Bool) (to:List Int) (j:Nat) (ts:List Int) (ls:List PP):Prop where
 lt:ts.length=j
 ll:ls.length=j
 pa:∀ j',j' < j→0≤to.getD j' 0→ts.getD j' 0=to.getD j' 0∧(ls.getD j' default).nil
 ov:∀ j',j' < j→to.getD j' 0 < 0→(¬ (ls.getD j' default).nil∧Sh c.O (ls.getD j' default) (c.tm (a.getD (ts.getD j' 0).toNat 0)) (c.tm (b.getD j' 0)))∧∃ u:Nat,ts.getD j' 0=u∧u < a.length∧us.getD u false=false
theorem MI.snoc {c:Cx} {a b:List Int} {us:List Bool} {to:List Int} {j:Nat} {ts:List Int} {ls:List PP} (h:MI c a b us to j ts ls) (v:Int) (q:PP)
 (h1:0≤to.getD j 0→v=to.getD j 0∧q.nil) (h2:to.getD j 0 < 0→(¬ q.nil∧Sh c.O q (c.tm (a.getD v.toNat 0)) (c.tm (b.getD j 0)))∧∃ u:Nat,v=u∧u < a.length∧us.getD u false=false):MI c a b us to (j + 1) (ts++[v]) (ls++[q]):=by
 obtain ⟨k1,k2,k3,k4⟩:=h
 have e1:∀ j',j' < j→(ts++[v]).getD j' 0=ts.getD j' 0∧(ls++[q]).getD j' default=ls.getD j' default:=fun j' wz=>by
  constructor
  ·rw [sT,sT,zA (by omega)]
  ·rw [sT,sT,zA (by omega)]
 have e2:(ts++[v]).getD j 0=v∧(ls++[q]).getD j default=q:=by
  constructor
  ·rw [← k1];simp
  ·rw [← k2];simp
 refine ⟨by simp [k1],by simp [k2],fun j' wz h0=>?_,fun j' wz h0=>?_⟩
 ·by_cases e:j'=j
  ·subst e;rw [e2.1,e2.2];exact h1 h0
  ·have aG:j' < j:=by omega
   rw [(e1 j' aG).1,(e1 j' aG).2];exact k3 j' aG h0
 ·by_cases e:j'=j
  ·subst e;rw [e2.1,e2.2];exact h2 h0
  ·have aG:j' < j:=by omega
   rw [(e1 j' aG).1,(e1 j' aG).2];exact k4 j' aG h0
theorem yo {to:List Int} {x:Int}:∀ {n:Nat},(∀ j j',j < n→j' < n→to.getD j 0=x→to.getD j' 0=x→j=j')→dH to x n≤1
 | 0,_=>by simp [dH]
 | n + 1,h=>by
   rw [dH]
   have ih:=yo (n:=n) fun j j' h1 h2=>h j j' (by omega) (by omega)
   by_cases e:to.getD n 0=x
   ·rw [if_pos e]
    have:dH to x n=0:=by
     have h0:∀ m,m≤n→dH to x m=0:=by
      intro m
      induction m with
      | zero=>intro _;rfl
      | succ m ihm=>
        intro hm
        rw [dH,ihm (by omega),if_neg (fun e'=>by have:=h m n (by omega) (by omega) e' e;omega)]
     exact h0 n (sU _)
    omega
   ·rw [if_neg e];omega
theorem MI.cov {c:Cx} {a b:List Int} {us:List Bool} {to ts:List Int} {ls:List PP} (h:MI c a b us to b.length ts ls) (Cz:Pr (fun x y=>E c.O (c.tm x) (c.tm y)) a b b.length us to) (hl:∃ u:Nat,u < a.length∧us.getD u false=false):KO c ts ls a b:=by
 obtain ⟨k1,k2,k3,k4⟩:=h
 have cas:∀ j,j < b.length→(∃ u:Nat,to.getD j 0=u∧u < a.length∧us.getD u false=true∧E c.O (c.tm (a.getD u 0)) (c.tm (b.getD j 0)))∨to.getD j 0 < 0:=fun j hj=>by
  rcases Cz.t1 j hj with h | ⟨u,h1,h2,h3,h4⟩
  ·exact .inr (by omega)
  ·exact .inl ⟨u,h1,h2,h3,h4⟩
 refine ⟨k1,k2,fun j hj=>?_,fun x hx hp=>?_,?_⟩
 ·rcases cas j hj with ⟨u,h1,h2,h3,h4⟩ | hn
  ·obtain ⟨e1,e2⟩:=k3 j hj (by omega)
   rw [if_pos e2,e1,h1]
   exact ⟨by omega,by rw [aad];exact h4⟩
  ·obtain ⟨⟨e1,e2⟩,u,h1,h2,h3⟩:=k4 j hj hn
   rw [if_neg e1]
   exact ⟨by omega,e2⟩
 ·obtain ⟨j,hj,e1,e2⟩:=je.1 hp
  have C6:∀ j',j' < b.length→ts.getD j' 0=(x:Int)→us.getD x false=true→to.getD j' 0=(x:Int):=by
   intro j' wz e ht
   rcases cas j' wz with ⟨u,h1,_⟩ | hn
   ·rw [← (k3 j' wz (by omega)).1];exact e
   ·obtain ⟨_,u,h1,h2,h3⟩:=k4 j' wz hn
    have:u=x:=by omega
    subst this;rw [h3] at ht;cases ht
  have hux:us.getD x false=true:=by
   rcases cas j hj with ⟨u,h1,h2,h3,_⟩ | hn
   ·have:=(k3 j hj (by omega)).1
    have:u=x:=by omega
    subst this;exact h3
   ·exact absurd e2 (k4 j hj hn).1.1
  refine yo fun j1 j2 h1 h2 e1 e2=>?_
  have t1:=C6 j1 h1 e1 hux
  have t2:=C6 j2 h2 e2 hux
  exact Cz.inj j1 j2 h1 h2 (by omega) (by omega)
 ·obtain ⟨u,hu,hf⟩:=hl
  refine ⟨u,hu,?_⟩
  by_cases h0:0 < dA ts ls u b.length
  ·obtain ⟨j,hj,e1,e2⟩:=je.1 h0
   rcases cas j hj with ⟨u',h1,h2,h3,_⟩ | hn
   ·have:=(k3 j hj (by omega)).1
    have:u'=u:=by omega
    subst this;rw [hf] at h3;cases h3
   ·exact absurd e2 (k4 j hj hn).1.1
  ·omega
theorem Sh.ne_nil {O:Od} {p:PP} {a b:T} (h:Sh O p a b):¬ p.nil:=by
 rintro ⟨h1,_⟩
 exact Sh0 (by omega) (by omega) (by omega) (by omega) h
theorem abt {c:Cx} (hc:c.Ok) {i k:Int} (hi:c.ee i) (hk:c.ee k) (hR:R c.O (c.tm i) (c.tm k)) (hr:iG c i k 4) (kB:∀ m,m < 4→¬ iG c i k m) (Xa:∀ x∈c.kd i,∀ y∈c.kd k,R c.O (c.tm x) (c.tm y)→qd c x y):qd c i k:=by
 intro H hD
 refine Fe.2.calls rfl ?_
 simp only [Fe,aH]
 have k2:∀ l,(bA l).ab=bA l:=fun l=>(aJ l).2.1
 have ki:=hc.kids i hi
 have kk:=hc.kids k hk
 have l1:=hc.kl i hi
 have l2:=hc.kl k hk
 obtain ⟨a1,a2,a3,a4,a5⟩:=aJ (c.kd i)
 obtain ⟨b1,b2,b3,b4,b5⟩:=aJ (c.kd k)
 have ii:IL (bA (c.kd i)) (c.kd i):=.inl rfl
 have ik:IL (bA (c.kd k)) (c.kd k):=.inl rfl
 have ei:(c.nd.getD i.toNat default).snd=c.kd i:=rfl
 have ek:(c.nd.getD k.toNat default).snd=c.kd k:=rfl
 obtain ⟨m1,m2,m3⟩:=hD.lt
 have ed:∀ X:List aa,(H++X)[c.d]?=H[c.d]?:=fun X=>zA m1
 have spv:∀ x:AV,ai [AV.ag] 0 [x]=[x]:=fun x=>rfl
 have spq:ai [AV.int .i64 0,.int .i64 0,.ag,.ag] 0 [AV.int .i64 0,.int .i64 0,.ag,.ag]=[AV.int .i64 0,.int .i64 0,.ag,.ag]:=rfl
 simp +contextual only [sZ,Nat.reduceEqDiff,Nat.reduceAdd,↓reduceIte,reduceCtorEq]
 refine mF (K1:=fun e G=>get e 1=.int .i64 i∧get e 3=.ah (.ptr c.d 0)∧get e 5=.ah (.int .i64 k)∧get e 6=.ptr H.length 0∧∃ x y,get e 7=.ptr x 0∧get e 8=.ptr y 0∧XY H x y∧PA c H x y i k G) ?_ ?_
 ·have P0:aa:=.cells [.int .i64 0,.int .i64 0,.ag,.ag]
  have A:∃ x y,AV.ptr (H.length + 1) 0=.ptr x 0∧AV.ptr (H.length + 2) 0=.ptr y 0∧XY H x y∧PA c H x y i k (H++[.cells [.int .i64 0,.int .i64 0,.ag,.ag],.cells [bA (c.kd i)],.cells [bA (c.kd k)]]):=
   ⟨_,_,rfl,rfl,⟨by omega,by omega,by omega,by omega⟩,⟨hD.sl _,by simp,by simp,by simp,by simp,fun j hj _ _=>zA hj⟩⟩
  have B:∃ x y,AV.ptr (H.length + 2) 0=.ptr x 0∧AV.ptr (H.length + 1) 0=.ptr y 0∧XY H x y∧PA c H x y i k (H++[.cells [.int .i64 0,.int .i64 0,.ag,.ag],.cells [bA (c.kd k)],.cells [bA (c.kd i)]]):=
   ⟨_,_,rfl,rfl,⟨by omega,by omega,by omega,by omega⟩,⟨hD.sl _,by simp,by simp,by simp,by simp,fun j hj _ _=>zA hj⟩⟩
  simp +contextual only [ed,hD.d,nM,FO,cP,cb,k2,ei,ek,a1,a3,a4,a5,b1,b3,b4,b5,List.map_cons,List.map_nil,spv,List.all_cons,List.all_nil,acX,bJ,cV,sZ,Nat.reduceEqDiff,Nat.reduceAdd,Nat.reduceLT,↓reduceIte]
  refine ⟨hi,?_⟩
  repeat' apply hV
  all_goals first | exact hk.1 | exact hk.2 | exact A | exact B
 ·rintro e G ⟨e1,e3,e5,e6,x,y,e7,e8,w,CP⟩
  simp +contextual only [e1,e3,e5,e6,e7,e8,sZ,Nat.reduceEqDiff,↓reduceIte]
  refine aD 3 (fun m (G:List aa)=>PA c H x y i k G)
   (fun m G=>[(1,.int .i64 i),(3,.ah (.ptr c.d 0)),(5,.ah (.int .i64 k)),(6,.ptr H.length 0),(7,.ptr x 0),(8,.ptr y 0),(9,.int .i64 ((m + 1:Nat):Int))]) (fun m G=>G) G ⟨CP,ax _ _ _⟩ fun m G hm CP=>?_
  have hf:eG.cells[m + 1]?=some (.fn (.func (182 + (m + 1))) [] []):=by
   have:m=0∨m=1∨m=2∨m=3:=by omega
   rcases this with rfl | rfl | rfl | rfl <;> rfl
  have en:=X0 (m + 1) _ hf (by omega)
  simp +contextual only [sZ]
  refine aF NM ?_
  simp +contextual only [nA,en _ rfl,sZ,Nat.reduceEqDiff,Nat.reduceAdd,↓reduceIte,reduceCtorEq]
  refine af ((wB hc hi hk).at (n:=m + 1) (by omega) (by omega) CP.du) ?_
  rintro r G1 ⟨z,rfl,hz,hU,oq⟩
  have rc:=CP.call hD w hU oq
  by_cases TA:m=3
  rotate_left
  ·have:z=false:=by
    cases z with
    | false=>rfl
    | true=>exact absurd (hz.1 rfl) (kB (m + 1) (by omega))
   subst this
   simp +contextual only [Bool.not_false,sZ,Nat.reduceEqDiff,↓reduceIte]
   exact ⟨m + 1,G1,⟨by omega,rc⟩,by omega,aE (by rw [aq (m + 1) (by omega)]) rfl⟩
  subst TA
  have:z=true:=hz.2 hr
  subst this
  have zr:=rc.len
  have lV:=fun es=>rc.sl w es
  have W8:=fun es=>(lV es).gp
  have RZ:=fun es=>(lV es).gx
  have hgy:=fun es=>(lV es).gy
  have b7:∀ (o o':aa),(G1++[o]).set (H.length + 3) o'=G1++[o']:=fun o o'=>by rw [← zr];simp
  have ec:((4:Nat):Int)=4:=rfl
  have zf:List.map AV.ab [AV.int .i64 (4:Int),.int .i64 0,.ag,.ag]=[.int .i64 (4:Int),.int .i64 0,.ag,.ag]:=rfl
  have zf0:List.map AV.ab [AV.int .i64 0,.int .i64 0,.ag,.ag]=[.int .i64 0,.int .i64 0,.ag,.ag]:=rfl
  have e86:∀ a b:Int,decide (a=b)=decide (a=b):=fun _ _=>rfl
  simp +contextual only [k2,decide_true,decide_false,Bool.not_true,Bool.not_true,bdP,zr,W8,b7,ec,zf,zf0,KS,RZ,hgy,sZ,Nat.reduceEqDiff,Nat.reduceAdd,Nat.reduceLT,↓reduceIte,reduceCtorEq,Int.reduceEq]
  have nR:=lV [.int .i64 4,.int .i64 0,.ag,.ag]
  generalize G1++[aa.cells [AV.int .i64 4,.int .i64 0,.ag,.ag]]=G2 at nR ⊢
  have ki2:(c.tm i).k=2:=(sA.1 hR).1
  have hmq:zm c i k:=by
   rcases hr with h | h | h | h
   ·exact absurd h.1 (by decide)
   ·exact absurd h.1 (by decide)
   ·exact absurd h.1 (by decide)
   ·exact h.2
  obtain ⟨N1,CN,hmu⟩:=hmq
  have N6:=lC.1 N1
  have kk2:(c.tm k).k=2:=N6.2.1
  have osi:dM c i=c.O.sp (c.O.pl (c.tm i).n):=by rw [dM,if_pos ki2]
  have gx0:=nR.gx
  have gy0:=nR.gy
  simp +contextual only [sZ]
  refine af (WQ ii ik (by omega) (by omega) (fun z hz z' FP=>kU hc (ki.2 z hz) (kk.2 z' FP)) nR.du) ?_
  rintro r G3 ⟨us,to,Cz,rfl,hU3,NJ⟩
  have CO:=nR.call hD w hU3 NJ
  have PF:=(Pr.mu (f:=nf c) (G:=Gt c.O.sp) Cz).1 hmu
  have lbl:=kr (c.kd i).length fun z=>!us.getD z false
  have il:IL (bA (below (c.kd i).length fun z=>!us.getD z false)) (below (c.kd i).length fun z=>!us.getD z false):=.inl rfl
  have mml:∀ {z:Int},z∈below (c.kd i).length (fun z=>!us.getD z false)→∃ u:Nat,z=u∧u < (c.kd i).length∧us.getD u false=false:=by
   intro z hz;obtain ⟨u,h1,h2,h3⟩:=gZ.1 hz;exact ⟨u,h1,h2,by simpa using h3⟩
  have mmo:∀ {j:Nat},j < (c.kd k).length→to.getD j 0 < 0→∃ z∈below (c.kd i).length (fun z=>!us.getD z false),R c.O (c.tm ((c.kd i).getD z.toNat 0)) (c.tm ((c.kd k).getD j 0)):=by
   intro j hj hn
   exact PF.2 (j:Int) (gZ.2 ⟨j,rfl,hj,by simpa using hn⟩)
  have afj:=PF.1
  generalize (below (c.kd i).length fun z=>!us.getD z false)=L at *
  have lto:=Cz.lt
  obtain ⟨v1,v2,v3,v4,v5⟩:=aJ L
  simp +contextual only [k2,au,sZ,Nat.reduceEqDiff,Nat.reduceAdd,Nat.reduceLT,↓reduceIte]
  intro _
  have hlne2:∃ u:Nat,u < (c.kd i).length∧us.getD u false=false:=by
   cases L with
   | nil=>exact absurd rfl afj
   | cons z r=>
     obtain ⟨u,_,h2,h3⟩:=mml (abn (a:=z) (l:=r))
     exact ⟨u,h2,h3⟩
  refine aD (c.kd k).length (fun j (s:List aa×List Int×List PP)=>PB c H x y i k [.int .i64 4,.int .i64 0,vr s.2.1,qc s.2.2] s.1∧MI c (c.kd i) (c.kd k) us to j s.2.1 s.2.2)
   (fun j s=>[(3,.ah (.ptr c.d 0)),(6,.ptr H.length 0),(7,.ptr x 0),(8,.ptr y 0),(10,.ptr (H.length + 3) 0),(11,bA L),(89,.ak 0 (ints to)),(90,.int .i64 to.length),(91,.int .i64 j)]) (fun j s=>s.1) (G3,[],[])
   ⟨⟨CO,rfl,rfl,fun j h=>by omega,fun j h=>by omega⟩,ax _ _ _⟩ fun j s hj hI=>?_
  obtain ⟨G,ts,ls⟩:=s
  obtain ⟨lV,Lb⟩:=hI
  simp only at lV Lb
  have hlen:=lV.len
  by_cases NZ:(j:Int) < to.length
  ·have rp:j < (c.kd k).length:=by omega
   have zf4:∀ n,aj n (List.map AV.ab [AV.int .i64 0,.int .i64 0,.ag,.ag])=true:=fun _=>rfl
   have zf5:List.map AV.ab [AV.int .i64 0,.int .i64 0,.ag,.ag]=[AV.int .i64 0,.int .i64 0,.ag,.ag]:=rfl
   obtain ⟨tj,htj⟩:∃ tj,to.getD j 0=tj:=⟨_,rfl⟩
   have hpc:=lV.afh w (.cells [.int .i64 0,.int .i64 0,.ag,.ag])
   by_cases yT:tj < 0
   ·simp +contextual only [k2,decide_true,NZ,cR,dQ,aad,htj,yT,hlen,zf5,sZ,Nat.reduceEqDiff,Nat.reduceAdd,↓reduceIte,reduceCtorEq]
    have mz:=fun (G':List aa) (dS:SD c (G++[aa.cells [AV.int .i64 0,.int .i64 0,.ag,.ag]]) G')=>hpc.call hD w dS.2 dS.1
    have hjz:(0:Int)≤j∧(j:Int) < (c.kd k).length:=⟨by omega,by omega⟩
    refine ⟨by omega,af (NI (SD.Cv c (G++[.cells [.int .i64 0,.int .i64 0,.ag,.ag]])) il (by omega) 148 [] [.ah (.ptr c.d 0),.ptr x 0,.ptr y 0,.ah (.int .i64 j)] rfl rfl (Q:=fun z=>R c.O (c.tm ((c.kd i).getD z.toNat 0)) (c.tm ((c.kd k).getD (j:Int).toNat 0)))
     (fun z hz G' dS=>?_) ⟨hpc.du,Up.refl c _⟩) ?_⟩
    ·obtain ⟨u,rfl,hu,_⟩:=mml hz
     refine (afe ii ik ⟨by omega,by omega⟩ hjz (kV hc (ki.2 _ (aQ (by omega))) (kk.2 _ (aQ (by omega)))) dS.1 (mz G' dS).gx (mz G' dS).gy).mono fun r H' hr=>hr.sb dS
    rintro r G4 ⟨hG4,vI⟩
    rcases vI with ⟨_,vI⟩ | ⟨m,rfl,hm,hQ,_⟩
    ·obtain ⟨z,hz,h⟩:=mmo rp (by rw [htj];exact yT)
     exact absurd h (vI z hz)
    obtain ⟨u,hu,Bm,huf⟩:=mml (aQ hm)
    have Sk:=mz G4 hG4
    have gx4:=Sk.gx
    have gy4:=Sk.gy
    rw [hu,aad,aad] at hQ
    simp +contextual only [k2,ii.lens,ik.lens,ii.idx,ik.idx,il.lens,il.idx,aad,hu,gx4,gy4,sZ,Nat.reduceEqDiff,Nat.reduceAdd,Nat.reduceLT,↓reduceIte,reduceCtorEq]
    refine ⟨by omega,⟨by omega,by omega⟩,by omega,?_⟩
    refine af (Xa _ (aQ Bm) _ (aQ rp) hQ _ Sk.du) ?_
    rintro r G5 ⟨q,rfl,hq,hU5,hD5⟩
    have abv:=Sk.call hD w hU5 hD5
    have go5:=abv.go
    have hpo:=fun o=>abv.afi (o':=o) hD w
    have oh:=fun o es=>(hpo o).set (es':=es) hD w
    have gq5:=fun o=>(hpo o).go
    have gp5:=fun o=>(hpo o).gp
    have gqs:=fun o es=>(oh o es).go
    have gps:=fun o es=>(oh o es).gp
    obtain ⟨u1,u2,u3,u4,u5,u6,u7,u8,u9⟩:=bb q
    have bq:aj (H.length + 4 + 1) (eJ q).cells=true:=cH (gL _ _)
    have Xb:=Lb.snoc (u:Int) q (fun h=>by omega) (fun _=>⟨⟨Sh.ne_nil hq,by rw [aad];exact hq⟩,u,rfl,Bm,huf⟩)
    have t1:=Lb.lt
    have t2:=Lb.ll
    have XI:∀ ψ,bp 1 8 (vr ts) (.ak 0 [.int .i64 (u:Int)]) ψ=ψ (ints (ts++[(u:Int)])):=fun ψ=>TX ts _ (by omega) 0 ψ
    have apl:∀ ψ,bp 4 64 (qc ls) (.ak 0 [eJ q]) ψ=ψ (eI (ls++[q])):=fun ψ=>Ff ls q (by omega) 0 ψ
    have lpq:=Fh q
    obtain ⟨x1,x2,x3,x4,x5,x6⟩:=mJ (ts++[(u:Int)])
    obtain ⟨y1,y2,y3,y4,y5,y6⟩:=jf (ls++[q])
    obtain ⟨x1',x2',x3',x4',x5',x6'⟩:=mJ ts
    obtain ⟨y1',y2',y3',y4',y5',y6'⟩:=jf ls
    have lvb:∀ n,aj n (eI (ls++[q]))=true:=fun n=>jz _ _
    have tvb:∀ n,aj n (ints (ts++[(u:Int)]))=true:=fun n=>aT _ _
    have rQ:∀ G',PC c H x y i k [.int .i64 4,.int .i64 0,vr (ts++[(u:Int)]),qc (ls++[q])] (.cells (eJ q).cells) G'→∃ (j':Nat) (t:List aa×List Int×List PP),(j'≤(c.kd k).length∧PB c H x y i k [.int .i64 4,.int .i64 0,vr t.2.1,qc t.2.2] t.1∧MI c (c.kd i) (c.kd k) us to j' t.2.1 t.2.2)∧(c.kd k).length - j' < (c.kd k).length - j∧
     sle H.length [(3,.ah (.ptr c.d 0)),(6,.ptr H.length 0),(7,.ptr x 0),(8,.ptr y 0),(10,.ptr (H.length + 3) 0),(11,bA L),(89,.ak 0 (ints to)),(90,.int .i64 to.length),(91,.int .i64 (IntKind.i64.wrap (j + 1)))] G' [(3,.ah (.ptr c.d 0)),(6,.ptr H.length 0),(7,.ptr x 0),(8,.ptr y 0),(10,.ptr (H.length + 3) 0),(11,bA L),(89,.ak 0 (ints to)),(90,.int .i64 to.length),(91,.int .i64 j')] t.1:=by
     intro G' dS
     obtain ⟨z1,z2⟩:=dS.drop hD w
     have zl:=z1.len
     have hb3:=v3
     refine ⟨j + 1,(G'.take (H.length + 4),ts++[(u:Int)],ls++[q]),⟨rp,z1,Xb⟩,by omega,fK (by rw [aq j (by omega)]) (by rw [zl];omega) ?_ _ z2⟩
     obtain ⟨w1,w2,w3,w4⟩:=w
     rw [zl]
     simp only [jP,List.all_cons,List.all_nil,BZ,qP,eE,bZ,v3,aT,acX,zB,decide_eq_true_eq]
     omega
    simp +contextual only [go5,T1,u1,u2,u3,u9,bq,gq5,gp5,gqs,gps,d2,d3,s2,s3,adL,kv,XI,apl,lpq,Fg,sP,x3,x4,y3,y4,sZ,Nat.reduceEqDiff,Nat.reduceAdd,Nat.reduceLT,↓reduceIte]
    repeat' apply hV
    all_goals exact rQ _ (oh _ _)
   ·have t1:=Lb.lt
    have t2:=Lb.ll
    obtain ⟨q0,hq0⟩:∃ q0,q0=PP.mk 0 0 [] []:=⟨_,rfl⟩
    have vC:q0.nil:=by rw [hq0];exact ⟨rfl,rfl,rfl,rfl⟩
    have lpz:∀ φ,cw (some (.cells [.int .i64 0,.int .i64 0,.ag,.ag])) (some 4) 0 φ=φ (eJ q0):=by rw [hq0];exact TY 0 0 [] []
    obtain ⟨u1,u2,u3,u4,u5,u6,u7,u8,u9⟩:=bb q0
    have Xb:=Lb.snoc tj q0 (fun h=>⟨htj.symm,vC⟩) (fun h=>by omega)
    have XI:∀ ψ,bp 1 8 (vr ts) (.ak 0 [.int .i64 tj]) ψ=ψ (ints (ts++[tj])):=fun ψ=>TX ts _ (by omega) 0 ψ
    have apl:∀ ψ,bp 4 64 (qc ls) (.ak 0 [eJ q0]) ψ=ψ (eI (ls++[q0])):=fun ψ=>Ff ls q0 (by omega) 0 ψ
    have oh:=fun es=>hpc.set (es':=es) hD w
    have gp5:=hpc.gp
    have go5:=hpc.go
    have gqs:=fun es=>(oh es).go
    have gps:=fun es=>(oh es).gp
    obtain ⟨x1,x2,x3,x4,x5,x6⟩:=mJ (ts++[tj])
    obtain ⟨y1,y2,y3,y4,y5,y6⟩:=jf (ls++[q0])
    obtain ⟨x1',x2',x3',x4',x5',x6'⟩:=mJ ts
    obtain ⟨y1',y2',y3',y4',y5',y6'⟩:=jf ls
    have lvb:∀ n,aj n (eI (ls++[q0]))=true:=fun n=>jz _ _
    have tvb:∀ n,aj n (ints (ts++[tj]))=true:=fun n=>aT _ _
    have rQ:∀ G',PC c H x y i k [.int .i64 4,.int .i64 0,vr (ts++[tj]),qc (ls++[q0])] (.cells [.int .i64 0,.int .i64 0,.ag,.ag]) G'→∃ (j':Nat) (t:List aa×List Int×List PP),(j'≤(c.kd k).length∧PB c H x y i k [.int .i64 4,.int .i64 0,vr t.2.1,qc t.2.2] t.1∧MI c (c.kd i) (c.kd k) us to j' t.2.1 t.2.2)∧(c.kd k).length - j' < (c.kd k).length - j∧
     sle H.length [(3,.ah (.ptr c.d 0)),(6,.ptr H.length 0),(7,.ptr x 0),(8,.ptr y 0),(10,.ptr (H.length + 3) 0),(11,bA L),(89,.ak 0 (ints to)),(90,.int .i64 to.length),(91,.int .i64 (IntKind.i64.wrap (j + 1)))] G' [(3,.ah (.ptr c.d 0)),(6,.ptr H.length 0),(7,.ptr x 0),(8,.ptr y 0),(10,.ptr (H.length + 3) 0),(11,bA L),(89,.ak 0 (ints to)),(90,.int .i64 to.length),(91,.int .i64 j')] t.1:=by
     intro G' dS
     obtain ⟨z1,z2⟩:=dS.drop hD w
     have zl:=z1.len
     have hb3:=v3
     refine ⟨j + 1,(G'.take (H.length + 4),ts++[tj],ls++[q0]),⟨rp,z1,Xb⟩,by omega,fK (by rw [aq j (by omega)]) (by rw [zl];omega) ?_ _ z2⟩
     obtain ⟨w1,w2,w3,w4⟩:=w
     rw [zl]
     simp only [jP,List.all_cons,List.all_nil,BZ,qP,eE,bZ,v3,aT,acX,zB,decide_eq_true_eq]
     omega
    simp +contextual only [decide_true,decide_false,NZ,cR,dQ,aad,htj,yT,hlen,zf5,u1,u2,gp5,go5,gqs,gps,d2,d3,s2,s3,adL,kv,XI,apl,lpz,Fg,sP,x3,x4,y3,y4,sZ,Nat.reduceEqDiff,Nat.reduceAdd,Nat.reduceLT,↓reduceIte]
    refine ⟨by omega,?_⟩
    repeat' apply hV
    all_goals exact rQ _ (oh _)
  ·have hje:j=(c.kd k).length:=by omega
   subst hje
   have hs:Sh c.O (.mk 4 0 ts ls) (c.tm i) (c.tm k):=by
    rw [Sh4 rfl ki2]
    rw [osi] at CN
    refine ⟨rfl,kk2,N6.2.2,CN,?_⟩
    show TU (E c.O) (Sh c.O) ts ls (c.tm i).l (c.tm k).l
    rw [← ki.1,← kk.1,← E9]
    exact Lb.cov Cz hlne2
   have gp6:=lV.gp
   have g66:=lV.g6
   have lp:=TY 4 0 ts ls
   obtain ⟨q1,q2,q3,q4,q5,q6,q7,q8,q9⟩:=bb (.mk 4 0 ts ls)
   have lp2:=Fh (.mk 4 0 ts ls)
   have N4:=zD (a:=aa.cells (eJ (.mk 4 0 ts ls)).cells) (aO g66)
   have Sj:aj (H.length + 1) (eJ (.mk 4 0 ts ls)).cells=true:=cH (gL _ _)
   have mh:=PB.fin hD lV hs
   simp +contextual only [decide_false,NZ,gp6,g66,lp,q1,q2,q3,q9,T1,N4,lp2,Sj,sZ,Nat.reduceEqDiff,Nat.reduceAdd,↓reduceIte,reduceCtorEq]
   first | exact mh | exact ⟨by omega,mh⟩
end Go.aK
end
noncomputable section
set_option maxRecDepth 100000
namespace Go.aK
open Go Go.Proofs Go.fo
theorem N7 {P:Nat→Prop}:∀ {n:Nat},P n→∃ m,m≤n∧P m∧∀ j,j < m→¬ P j:=by
 intro n
 induction n using Nat.strongRecOn with
 | _ n ih=>
   intro h
   by_cases hx:∃ j,j < n∧P j
   ·obtain ⟨j,hj,hp⟩:=hx
    obtain ⟨m,h1,h2,h3⟩:=ih j hj hp
    exact ⟨m,by omega,h2,h3⟩
   ·exact ⟨n,sU _,h,fun j hj hp=>hx ⟨j,hj,hp⟩⟩
theorem c86 {c:Cx} (hc:c.Ok):∀ (N:Nat) (i k:Int),c.ee i→c.ee k→wt (c.tm i) + wt (c.tm k)≤N→R c.O (c.tm i) (c.tm k)→qd c i k:=by
 intro N
 induction N with
 | zero=>intro i k _ _ h;have:=eF (c.tm i);omega
 | succ N ih=>
 intro i k hi hk hN hR
 have hx:∀ {j:Int},c.ee j→∀ x∈c.kd j,c.ee x∧wt (c.tm x) < wt (c.tm j):=fun {j} hj x hx=>by
  have h1:=hc.kids j hj
  exact ⟨h1.2 x hx,bM (by rw [← h1.1];exact aaR.2 ⟨x,hx,rfl⟩)⟩
 have p1:∀ x∈c.kd i,R c.O (c.tm x) (c.tm k)→qd c x k:=fun x h r=>ih x k (hx hi x h).1 hk (by have:=(hx hi x h).2;omega) r
 have p2:∀ y∈c.kd k,R c.O (c.tm i) (c.tm y)→qd c i y:=fun y h r=>ih i y hi (hx hk y h).1 (by have:=(hx hk y h).2;omega) r
 have p3:∀ x∈c.kd i,∀ y∈c.kd k,R c.O (c.tm x) (c.tm y)→qd c x y:=fun x h y h' r=>ih x y (hx hi x h).1 (hx hk y h').1 (by have:=(hx hi x h).2;have:=(hx hk y h').2;omega) r
 obtain ⟨_,n,hn,hr⟩:=(uf hc hi hk).2 hR
 obtain ⟨m,hm,hr,kB⟩:=N7 (P:=fun n=>iG c i k n) hr
 have:m=1∨m=2∨m=3∨m=4:=by
  rcases hr with h | h | h | h
  ·exact .inl h.1
  ·exact .inr (.inl h.1)
  ·exact .inr (.inr (.inl h.1))
  ·exact .inr (.inr (.inr h.1))
 rcases this with rfl | rfl | rfl | rfl
 ·exact abm hc hi hk hR hr kB p1
 ·exact abq hc hi hk hR hr kB p2
 ·exact abr hc hi hk hR hr kB p2 p3
 ·exact abt hc hi hk hR hr kB p3
theorem abw {c:Cx} (hc:c.Ok) {i k:Int} (hi:c.ee i) (hk:c.ee k) (hR:R c.O (c.tm i) (c.tm k)):qd c i k:=c86 hc _ i k hi hk (sU _) hR
def Sl:PP:=.mk 0 0 [] []
def Xc (s:Sg) (ps ss:List Int) (a b:T) (r:AV):Prop:=
 (gV s ps ss [a,b]≠0∧r=.tuple [eJ Sl,.bool false,.int .i64 (gV s ps ss [a,b])])∨
 (gV s ps ss [a,b]=0∧¬ R (jy ps ss) a b∧r=.tuple [eJ Sl,.bool false,.int .i64 0])∨
 (gV s ps ss [a,b]=0∧∃ p,Sh (jy ps ss) p a b∧r=.tuple [eJ p,.bool true,.int .i64 0])
theorem Up.lF {c:Cx} {G0 G:List aa} (h:Up c G0 G) {n:Nat} (he:n≤c.e) (hg:n≤c.g):G.take n=G0.take n:=by
 apply acG
 intro j
 rw [aa7,aa7]
 split
 ·rename_i hj;exact h.get j (by omega) (by omega)
 ·rfl
theorem mK (n0 s s' s'':Nat) (sz:Option Nat) (env:Env) (H:List aa) (R:AV→List aa→Prop):bT n0 [.c s sz,.t s',.t s''] env H R=aU sz (get env s) H fun x=>sj n0 [x,get env s',get env s''] H R:=agK
theorem I1 {Hs G:List aa} {n0:Nat} {u v w:AV} {R:AV→List aa→Prop} (hH:Hs.take n0=G) (hb:aj n0 [u,v,w]=true) (hu:[u,v,w].map AV.ab=[u,v,w]) (hR:R (.tuple [u,v,w]) G):sj n0 [u,v,w] Hs R:=by
 subst hH
 exact ⟨n0,sU _,_,by rw [hu];exact cp _,hb,hR⟩
theorem wC {H G:List aa} {o:aa} (h:G.take H.length=H):(G.set H.length o).take H.length=H:=by
 rw [acu (sU _),h]
theorem c27 (s:Sg) (ps ss:List Int) (a b:T) (H:List aa):aw Tryz.prog 27 [s.av,eT ps ss,a.av,b.av] H fun r H'=>Xc s ps ss a b r∧H'=H:=by
 refine k27.2.calls rfl ?_
 simp only [k27,aH]
 obtain ⟨q1,q2,q3,q4,q5,q6⟩:=bt ps ss
 have zf4:∀ n,aj n (List.map AV.ab [AV.int .i64 0,.int .i64 0,.ag,.ag])=true:=fun _=>rfl
 have zf5:List.map AV.ab [AV.int .i64 0,.int .i64 0,.ag,.ag]=[AV.int .i64 0,.int .i64 0,.ag,.ag]:=rfl
 simp +contextual only [aC,q1,q4,cQ,zf5,sZ,Nat.reduceEqDiff,Nat.reduceAdd,↓reduceIte,reduceCtorEq]
 have g0:(H++[aa.cells [AV.int .i64 0,.int .i64 0,.ag,.ag]])[H.length]?=some (.cells [.int .i64 0,.int .i64 0,.ag,.ag]):=by simp
 have vG:(H++[aa.cells [AV.int .i64 0,.int .i64 0,.ag,.ag]]).length=H.length + 1:=by simp
 have WG:(H++[aa.cells [AV.int .i64 0,.int .i64 0,.ag,.ag]]).take H.length=H:=by simp
 refine ae (c74 s ps ss [a,b]) ?_
 generalize H++[aa.cells [AV.int .i64 0,.int .i64 0,.ag,.ag]]=H1 at g0 vG WG ⊢
 have ldz:∀ φ,cw (some (.cells [.int .i64 0,.int .i64 0,.ag,.ag])) (some 4) 0 φ=φ (eJ Sl):=TY 0 0 [] []
 have zb:∀ p b n,aj H.length [eJ p,.bool b,.int .i64 n]=true:=fun p b n=>by simp [bJ,cV,gL,sf,eE]
 have zu:∀ p b n,[eJ p,AV.bool b,.int .i64 n].map AV.ab=[eJ p,.bool b,.int .i64 n]:=fun p b n=>by simp [(bb p).2.2.2.1,pJ,nw]
 by_cases h0:gV s ps ss [a,b]=0
 ·have hr:=sJ h0
  have hw:=nP hr.tree
  have hc:=hr.cx (by simp) (by simp) H1.length
  have hd:=AQ ps ss (ts:=[a,b]) (by simp) H1
  simp +contextual only [q4,cQ,h0,sZ,Nat.reduceEqDiff,Nat.reduceAdd,↓reduceIte]
  refine af (c75 ps ss [a,b] _ (by simp at hw;omega)) ?_
  rintro r G ⟨rfl,rfl⟩
  have a0:=vn (ps:=ps) (ss:=ss) (ts:=[a,b]) (n:=H1.length) (j:=0) (by simp)
  have a1:=vn (ps:=ps) (ss:=ss) (ts:=[a,b]) (n:=H1.length) (j:=1) (by simp)
  have hl:=cN [a,b] 0
  rw [Sb]
  generalize aZ [a,b] 0=ks at a0 a1 hl ⊢
  have lY:ks.length=2:=hl
  simp +contextual only [cR,lY,dQ,sZ,Nat.reduceEqDiff,Nat.reduceAdd,Nat.reduceLT,↓reduceIte,reduceCtorEq]
  refine ⟨by decide,by decide,af (kV hc a0.1 a1.1 _ hd) ?_⟩
  rintro r G ⟨x,rfl,hx,hU,hD⟩
  rw [a0.2,a1.2] at hx
  have yH:x=true↔R (jy ps ss) a b:=hx
  have he:(ic ps ss [a,b] H1.length).e=H.length + 1:=vG
  have hg:(ic ps ss [a,b] H1.length).g=H.length + 2:=by show H1.length + 1=_;omega
  have low:∀ G',Up (ic ps ss [a,b] H1.length) G G'→G'[H.length]?=some (.cells [.int .i64 0,.int .i64 0,.ag,.ag])∧G'.take H.length=H:=by
   intro G' hU'
   have TP:=hU.trans hU'
   refine ⟨by rw [TP.get _ (by omega) (by omega),zA (by omega)];exact g0,?_⟩
   rw [TP.lF (n:=H.length) (by omega) (by omega),abc (by omega),WG]
  have gz:=low G (Up.refl _ _)
  have gz1:=gz.1
  have gzs:=fun o=>zD (a:=o) (aO gz1)
  have nilc:(eJ Sl).cells=[AV.int .i64 0,.int .i64 0,.ak 0 [],.ak 0 []]:=rfl
  cases x with
  | false=>
    simp +contextual only [Bool.not_false,gz1,gzs,zf5,KS,mK,ldz,sZ,Nat.reduceEqDiff,Nat.reduceAdd,↓reduceIte,reduceCtorEq]
    refine I1 (wC gz.2) (zb _ _ _) (zu _ _ _) ⟨.inr (.inl ⟨h0,fun h=>absurd (yH.2 h) (by simp),rfl⟩),rfl⟩
  | true=>
    simp +contextual only [Bool.not_true,cR,lY,dQ,sZ,Nat.reduceEqDiff,Nat.reduceAdd,↓reduceIte,reduceCtorEq]
    refine ⟨by decide,by decide,af (abw hc a0.1 a1.1 (by rw [a0.2,a1.2];exact yH.1 rfl) _ hD) ?_⟩
    rintro r G2 ⟨p,rfl,hp,TP,C5⟩
    rw [a0.2,a1.2] at hp
    obtain ⟨gy1,gy2⟩:=low G2 TP
    have gys:=fun o=>zD (a:=o) (aO gy1)
    obtain ⟨u1,u2,u3,u4,u5,u6,u7,u8,u9⟩:=bb p
    have lpq:=Fh p
    have Sj:aj (H.length + 1) (eJ p).cells=true:=cH (gL _ _)
    simp +contextual only [gy1,gys,u1,u2,u3,u9,T1,lpq,Sj,mK,sZ,Nat.reduceEqDiff,Nat.reduceAdd,↓reduceIte,reduceCtorEq]
    first | exact I1 (wC gy2) (zb _ _ _) (zu _ _ _) ⟨.inr (.inr ⟨h0,p,hp,rfl⟩),rfl⟩ | exact ⟨by omega,I1 (wC gy2) (zb _ _ _) (zu _ _ _) ⟨.inr (.inr ⟨h0,p,hp,rfl⟩),rfl⟩⟩
 ·have gs:∀ o,(H1.set H.length o)[H.length]?=some o:=fun o=>zD (by omega)
  simp +contextual only [h0,g0,gs,zf5,KS,mK,ldz,sZ,Nat.reduceEqDiff,Nat.reduceAdd,↓reduceIte,reduceCtorEq]
  refine I1 (wC WG) (zb _ _ _) (zu _ _ _) ⟨.inl ⟨h0,rfl⟩,rfl⟩
end Go.aK
end
noncomputable section
set_option maxRecDepth 100000
namespace Go.aK
open Go Go.Proofs Go.fo
def nS (l:List iW):List AV:=l.map iW.av
theorem fO (l:List iW):(nS l).length=l.length:=by simp [nS]
theorem N8 (n:Nat) (l:List iW):aj n (nS l)=true:=by
 rw [bc];intro x hx;obtain ⟨y,_,rfl⟩:=aaR.1 hx
 exact y.facts.2.2.2.2.2 n
theorem nT (o:Nat) (l:List iW):(∀ (own:Nat) (xs:List AV),AV.ak o (nS l)=AV.ak own xs→∀ z∈xs,z.cells.length=8)=True:=by
 simp only [eq_iff_iff,iff_true]
 intro own xs e z hz
 cases e
 obtain ⟨y,_,rfl⟩:=aaR.1 hz;rfl
theorem idx_eq (e o:Nat) (l:List iW) (k:IntKind) (i:Nat) (φ:AV→Prop):aA e (.ak o (nS l)) (.int k (i:Int)) φ=(i < l.length∧φ (.ah (l.getD i default).av)):=by
 simp only [aA,fO,aad,eq_iff_iff]
 constructor
 ·rintro ⟨_,h,h2⟩;refine ⟨h,?_⟩;simpa [nS,h] using h2
 ·rintro ⟨h,h2⟩;refine ⟨by omega,h,?_⟩;simpa [nS,h] using h2
theorem vu (e:iW) (H:List aa) (φ:AV→Prop):aU (some 8) (.ah e.av) H φ=φ e.av:=by simp [aU,iW.av,AV.cells]
structure N9 (ps:List Int) (e:iW):Prop where
 few:e.cs.length≤1000
 tree:∀ t∈e.a::e.rest,t.tree=true
 ops:∀ t∈e.a::e.rest,wx (fun n=>0≤n∧n < ps.length) t
open Classical in
def uk (ps ss:List Int) (e:iW):Bool:=decide (NV ps ss e)
theorem abx (ps ss:List Int) (e:iW) (hv:Va ps ss) (he:N9 ps e):Pure Tryz.prog 163 [eT ps ss,e.av] (.bool (uk ps ss e)):=by
 intro H
 refine (ae1 ps ss e hv he.few he.tree he.ops H).mono ?_
 rintro r H' ⟨⟨b,rfl,hb⟩,rfl⟩
 refine ⟨?_,rfl⟩
 congr 1
 rw [ac6,hb]
 simp [uk]
theorem afl (ps ss:List Int) (e:iW) (hv:Va ps ss) (he:N9 ps e):Pure Tryz.prog 162 [e.av,.ah (eT ps ss)] (.bool (!uk ps ss e)):=by
 refine fun H=>ZA.2.calls rfl ?_
 simp only [ZA,aH]
 obtain ⟨q1,q2,q3,q4,q5,q6⟩:=bt ps ss
 obtain ⟨e1,e2,e3,e4,e5,e6⟩:=iW.facts e
 simp +contextual only [q4,e1,e4,cQ,vu,sZ,Nat.reduceEqDiff,Nat.reduceAdd,↓reduceIte,reduceCtorEq]
 refine ae (abx ps ss e hv he) ?_
 simp +contextual only [sZ,↓reduceIte,reduceCtorEq]
 exact aS rfl rfl
def oz {α:Type} (p:α→Bool):List α→Nat→Int
 | [],_=>-1
 | x::r,i=>if p x=true then (i:Int) else oz p r (i + 1)
theorem ul {α:Type} [Inhabited α] {p:α→Bool} {l:List α} {i:Nat} (h:i < l.length):oz p (l.drop i) i=if p (l.getD i default)=true then (i:Int) else oz p (l.drop (i + 1)) (i + 1):=by
 have e:l.getD i default=l[i]:=by simp [h]
 rw [aba h,oz,e]
theorem afm (ps ss:List Int) (l:List iW) (hv:Va ps ss) (he:∀ e∈l,N9 ps e):Pure Tryz.prog 161 [.ak 0 (nS l),.fn (.func 162) [] [.ah (eT ps ss)]] (.int .i64 (oz (fun e=>!uk ps ss e) l 0)):=by
 refine fun H=>Kr.2.calls rfl ?_
 simp only [Kr,aH]
 simp +contextual only [fO,sZ,Nat.reduceEqDiff,Nat.reduceAdd,↓reduceIte,reduceCtorEq]
 intro hl
 refine aB l.length (fun i=>oz (fun e=>!uk ps ss e) (l.drop i) i=oz (fun e=>!uk ps ss e) l 0) (fun i=>[(0,.ak 0 (nS l)),(1,.fn (.func 162) [] [.ah (eT ps ss)]),(7,.int .i64 l.length),(8,.int .i64 i)]) (fun _=>H) ⟨rfl,ax _ _ _⟩ fun i hi hI=>?_
 obtain ⟨e1,e2,e3,e4,e5,e6⟩:=iW.facts (l.getD i default)
 simp +contextual only [nT,idx_eq,vu,e4,sZ,Nat.reduceEqDiff,Nat.reduceAdd,↓reduceIte,reduceCtorEq]
 refine ⟨fun aG=>?_,fun eW=>?_⟩
 ·have aG:=aY aG
  have hm:l.getD i default∈l:=by
   rw [sT,aaf aG];exact adr aG
  rw [ul aG] at hI
  refine ⟨aG,ae (afl ps ss _ hv (he _ hm)) ?_⟩
  cases hb:uk ps ss (l.getD i default) with
  | false=>
    rw [if_pos (by rw [hb];rfl)] at hI
    simp +contextual only [Bool.not_false,sZ,Nat.reduceEqDiff,↓reduceIte,reduceCtorEq]
    exact aS rfl (by rw [← hI])
  | true=>
    rw [if_neg (by rw [hb];simp)] at hI
    simp +contextual only [Bool.not_true,sZ,Nat.reduceEqDiff,↓reduceIte,reduceCtorEq]
    exact ⟨i + 1,⟨aG,hI⟩,by omega,aE (by rw [aq i (by omega)]) rfl⟩
 ·rw [aa9 (bN eW)] at hI
  exact aS rfl (by rw [← hI];rfl)
structure Ty where
 s:Sg
 es:List iW
deriving Inhabited
def Ty.av (t:Ty):AV:=.agg [.ak 0 (strs t.s.a9),.ak 0 (pf t.s.ops),.ak 0 (nS t.es)]
theorem Ty.facts (t:Ty):t.av.val=true∧t.av.cells.length=3∧t.av.cells.all AV.one=true∧t.av.ab=t.av∧t.av.drop=t.av∧∀ n,t.av.aW n=true:=
 ⟨rfl,rfl,rfl,rfl,rfl,fun n=>by simp [Ty.av,AV.aW,aj,yf,ye,N8]⟩
theorem FR (t:Ty) (φ:AV→Prop):al 0 (some 2) (.ah t.av) φ=φ (.ah t.s.av):=by simp [al,apart,Ty.av,Sg.av,AV.cells]
theorem Ph (t:Ty) (φ:AV→Prop):al 2 none (.ah t.av) φ=φ (.ah (.ak 0 (nS t.es))):=by simp [al,apart,Ty.av,AV.cells,AV.one]
theorem fS1 (s:Sg) (φ:AV→Prop):al 1 none (.ah s.av) φ=φ (.ah (.ak 0 (pf s.ops))):=by simp [al,apart,Sg.av,AV.cells,AV.one]
theorem iI (t:Ty) (H:List aa) (φ:AV→Prop):aU (some 3) (.ah t.av) H φ=φ t.av:=by simp [aU,Ty.av,AV.cells]
def mL (t:Ty) (ps ss:List Int):Int:=oz (fun e=>!uk ps ss e) t.es 0
theorem c89 (t:Ty) (ps ss:List Int) (hv:Va ps ss) (he:∀ e∈t.es,N9 ps e):Pure Tryz.prog 89 [t.av,eT ps ss] (.int .i64 (mL t ps ss)):=by
 refine fun H=>k89.2.calls rfl ?_
 simp only [k89,aH]
 obtain ⟨q1,q2,q3,q4,q5,q6⟩:=bt ps ss
 obtain ⟨e1,e2,e3,e4,e5,e6⟩:=Ty.facts t
 simp +contextual only [q1,e1,Ph,sZ,Nat.reduceEqDiff,Nat.reduceAdd,↓reduceIte,reduceCtorEq]
 refine ae (afm ps ss t.es hv he) ?_
 simp +contextual only [sZ,↓reduceIte,reduceCtorEq]
 exact aS rfl rfl
end Go.aK
end
noncomputable section
set_option maxRecDepth 100000
set_option maxHeartbeats 0
namespace Go.aK
open Go Go.Proofs
def T2:=aH Tryz.call112 Tryz.func112 Tryz.ntmps112 [(0,0,1),(8,0,3001)] [(0,[1,2,3,4,8]),(1,[1,2,3,8,9]),(2,[1,2,3,8,10]),(3,[2,3,8,10,24,25,26]),(4,[2,3,8,10,24,25,26,27]),(5,[2,3,8,10,11,12,24,25,26]),(6,[2,3,8,10,24,25,26]),(7,[2,3,8,10,24,25,26]),(8,[8])] [(6,(.take 0 true (.take 1 true (.take 2 true (.take 6 true (.take 7 true (.take 8 true (.take 9 true (.take 10 true (.take 11 true (.take 12 true (.take 13 true (.take 14 true (.take 3 false (.take 5 false (.br 4 (.br 15 (.take 16 true (.br 17 .done .nil)) .nil) (.br 15 (.take 4 true (.take 16 true (.br 17 .done .nil))) .nil)))))))))))))))))]
end Go.aK
end
noncomputable section
set_option maxRecDepth 100000
namespace Go.aK
open Go Go.Proofs Go.fo
def jV:List Int→List Int→List Int→List Int
 | l,i::r,x::s=>jV (l.set i.toNat x) r s
 | l,_,_=>l
def rf (n:Nat) (ops pl:List Int):List Int:=jV (List.replicate n 255) ops pl
def um (n:Nat) (ops st:List Int):List Int:=jV (List.replicate n 1) ops st
theorem yp:∀ (l r s:List Int),(jV l r s).length=l.length
 | l,[],_=>by cases l <;> rfl
 | l,_::_,[]=>rfl
 | l,i::r,x::s=>by rw [jV,yp];simp
theorem afn (t:Ty) (ops pl st:List Int) {vo vp vs:AV} (ho:IL vo ops) (hp:IL vp pl) (hs:IL vs st) (vG:pl.length=ops.length) (lY:st.length=ops.length) (hr:∀ i∈ops,0≤i∧i < t.s.ops.length) (hn:t.s.ops.length≤1000000000) (kB:ops.length≤1000000000):Pure Tryz.prog 112 [t.av,vo,vp,vs] (eT (rf t.s.ops.length ops pl) (um t.s.ops.length ops st)):=by
 refine fun H=>T2.2.calls rfl ?_
 simp only [T2,aH]
 obtain ⟨e1,e2,e3,e4,e5,e6⟩:=Ty.facts t
 obtain ⟨a1,a2,a3,a4⟩:=ho.one
 obtain ⟨b1,b2,b3,b4⟩:=hp.one
 obtain ⟨c1,c2,c3,c4⟩:=hs.one
 simp +contextual only [e1,FR,fS1,yd,sZ,Nat.reduceEqDiff,Nat.reduceAdd,↓reduceIte,reduceCtorEq]
 intro _
 refine af (WO 0 255 t.s.ops.length hn _) ?_
 rintro r G ⟨rfl,rfl⟩
 simp +contextual only [sZ,Nat.reduceEqDiff,Nat.reduceAdd,↓reduceIte]
 refine af (WO 0 1 t.s.ops.length hn _) ?_
 rintro r G ⟨rfl,rfl⟩
 simp +contextual only [sZ,Nat.reduceEqDiff,Nat.reduceAdd,↓reduceIte]
 obtain ⟨n,hn'⟩:∃ n,n=t.s.ops.length:=⟨_,rfl⟩
 rw [← hn'] at hn hr ⊢
 have va:∀ a b c d,(AV.ba a b c d).val=true:=fun _ _ _ _=>rfl
 have vc:∀ a b c d,(AV.ba a b c d).cells=[.ba a b c d]:=fun _ _ _ _=>rfl
 have vo':∀ a b c d,(AV.ba a b c d).one=true:=fun _ _ _ _=>rfl
 have vd:∀ a b c d,(AV.ba a b c d).drop=.ba a b c d:=fun _ _ _ _=>rfl
 have bdA:∀ (a1 b1 c1 d1 a2 b2 c2 d2:Nat) (φ:AV→Prop),cE [AV.ag,AV.ag] [(0,1,.ba a1 b1 c1 d1),(1,1,.ba a2 b2 c2 d2)] φ=φ (.agg [.ba a1 b1 c1 d1,.ba a2 b2 c2 d2]):=by
  intro a1 b1 c1 d1 a2 b2 c2 d2 φ
  simp only [cE,iu,eq_iff_iff]
  constructor
  ·rintro ⟨_,_,_,_,_,_,h⟩;exact h
  ·exact fun h=>⟨rfl,rfl,by simp,rfl,rfl,by simp [ai,AV.cells],h⟩
 have g3:∀ (a b c d:aa),[a,b,c,d][3]?=some d:=fun _ _ _ _=>rfl
 have sp2:∀ (a b x y:AV),ai [a,b] 0 [x,y]=[x,y]:=fun _ _ _ _=>rfl
 have lt1:∀ m:Nat,decide (m + 1 < m + 3 + 1)=true:=fun m=>by simp
 have lt2:∀ m:Nat,decide (m + 2 < m + 3 + 1)=true:=fun m=>by simp
 let S:List Int→List Int→List aa:=fun P Q=>H++[.cells [.ag,.ag],de P,de Q,.cells [.ba (H.length + 1) 0 n n,.ba (H.length + 2) 0 n n]]
 simp +contextual only [bdA,vo',g3,sp2,s3,lt1,lt2,ac0,a2,ho.aN,ho.len (by omega),sZ,Nat.reduceEqDiff,Nat.reduceAdd,↓reduceIte]
 refine aD ops.length (fun j (s:List Int×List Int)=>s.1.length=n∧s.2.length=n∧jV s.1 (ops.drop j) (pl.drop j)=rf n ops pl∧jV s.2 (ops.drop j) (st.drop j)=um n ops st)
  (fun j s=>[(2,vp),(3,vs),(8,.ptr H.length 0),(10,.ptr (H.length + 3) 0),(24,vo),(25,.int .i64 ops.length),(26,.int .i64 j)]) (fun j s=>S s.1 s.2) (List.replicate n 255,List.replicate n 1) ⟨⟨by simp,by simp,rfl,rfl⟩,ax _ _ _⟩ fun j s hj hI=>?_
 obtain ⟨P,Q⟩:=s
 obtain ⟨hP,hQ,Pj,T3⟩:=hI
 simp only at hP hQ Pj T3
 by_cases hjo:(j:Int) < ops.length
 ·have rp:j < ops.length:=by omega
  have hri:=hr _ (aQ rp)
  obtain ⟨x,hx⟩:=acW hri.1
  have hxn:x < n:=by omega
  have hxP:x < P.length:=by omega
  have hxQ:x < Q.length:=by omega
  simp +contextual only [S,hjo,decide_true,b2,c2,ho.lens,ho.idx,hp.lens,hp.idx,hs.lens,hs.idx,aad,hx,lW,g3,NK hxP,NK hxQ,sZ,Nat.reduceEqDiff,Nat.reduceAdd,Nat.reduceLT,↓reduceIte,reduceCtorEq]
  have stp:∀ (P q:List Int),q.length=ops.length→jV P (ops.drop j) (q.drop j)=jV (P.set x (q.getD j 0)) (ops.drop (j + 1)) (q.drop (j + 1)):=by
   intro P q hq
   have e1:ops.drop j=ops.getD j 0::ops.drop (j + 1):=by rw [aba rp];simp [rp]
   have hjq:j < q.length:=by omega
   have e2:q.drop j=q.getD j 0::q.drop (j + 1):=by rw [aba hjq];simp [hjq]
   rw [e1,e2,jV,hx,aad]
  rw [stp P pl vG] at Pj
  rw [stp Q st lY] at T3
  have hgo:∃ (j':Nat) (t:List Int×List Int),(j'≤ops.length∧t.1.length=n∧t.2.length=n∧jV t.1 (ops.drop j') (pl.drop j')=rf n ops pl∧jV t.2 (ops.drop j') (st.drop j')=um n ops st)∧ops.length - j' < ops.length - j∧
   sle H.length [(2,vp),(3,vs),(8,.ptr H.length 0),(10,.ptr (H.length + 3) 0),(24,vo),(25,.int .i64 ops.length),(26,.int .i64 (IntKind.i64.wrap (j + 1)))]
    (H++[.cells [.ag,.ag],de (P.set x (pl.getD j 0)),de (Q.set x (st.getD j 0)),.cells [.ba (H.length + 1) 0 n n,.ba (H.length + 2) 0 n n]])
    [(2,vp),(3,vs),(8,.ptr H.length 0),(10,.ptr (H.length + 3) 0),(24,vo),(25,.int .i64 ops.length),(26,.int .i64 j')]
    (H++[.cells [.ag,.ag],de t.1,de t.2,.cells [.ba (H.length + 1) 0 n n,.ba (H.length + 2) 0 n n]]):=
   ⟨j + 1,(P.set x (pl.getD j 0),Q.set x (st.getD j 0)),⟨rp,by simp [hP],by simp [hQ],Pj,T3⟩,by omega,aE (by rw [aq j (by omega)]) rfl⟩
  repeat' apply hV
  all_goals first | omega | exact hgo
 ·have hje:j=ops.length:=by omega
  subst hje
  rw [List.drop_length] at Pj T3
  have eP:P=rf n ops pl:=by rw [← Pj];cases P <;> rfl
  have eQ:Q=um n ops st:=by rw [← T3];cases Q <;> rfl
  simp +contextual only [MT,S,hjo,decide_false,g3,vd,sZ,Nat.reduceEqDiff,↓reduceIte]
  have f1:(H++[aa.cells [AV.ag,.ag],de P,de Q,.cells [.ba (H.length + 1) 0 n n,.ba (H.length + 2) 0 n n]])[H.length + 1]?=some (de P):=by simp
  have f2:((H++[aa.cells [AV.ag,.ag],de P,de Q,.cells [.ba (H.length + 1) 0 n n,.ba (H.length + 2) 0 n n]]).set (H.length + 1) .dead)[H.length + 2]?=some (de Q):=by rw [zC (by omega)];simp
  have fz1:∀ {id n:Nat} {l:List Int} {H:List aa} (h:H[id]?=some (de l)) (hn:l.length=n) {K:AV→List aa→Prop} (hK:K (.ak 0 (ints l)) (H.set id .dead)),dx 1 (.ba id 0 n n) H K:=fun h hn K hK=>by subst hn;exact EX h hK
  refine fz1 f1 hP ?_
  refine fz1 f2 hQ ?_
  have es:((H++[aa.cells [AV.ag,.ag],de P,de Q,.cells [.ba (H.length + 1) 0 n n,.ba (H.length + 2) 0 n n]]).set (H.length + 1) .dead).set (H.length + 2) .dead=H++[aa.cells [AV.ag,.ag],.dead,.dead,.cells [.ba (H.length + 1) 0 n n,.ba (H.length + 2) 0 n n]]:=by simp []
  rw [es]
  have fb:∀ m,aj m [AV.ak 0 (ints P),.ak 0 (ints Q)]=true:=fun m=>by simp [bJ,cV,bZ,aT]
  simp +contextual only [fb,sp2,ac0,sZ,Nat.reduceEqDiff,Nat.reduceAdd,↓reduceIte,reduceCtorEq]
  rw [eP,eQ]
  exact sk ((bt _ _).2.2.2.2.2 _) rfl
end Go.aK
end
noncomputable section
set_option maxRecDepth 100000
namespace Go.aK
open Go Go.Proofs Go.fo
def jg (vals:List Int):Nat→List (List Int)
 | 0=>[[]]
 | n + 1=>vals.flatMap fun x=>(jg vals n).map (x::·)
def fB {σ:Type} (step:σ→List Int→σ×Bool):List (List Int)→σ→σ×Bool
 | [],s=>(s,true)
 | l::r,s=>if (step s l).2=true then fB step r (step s l).1 else ((step s l).1,false)
theorem yq {σ:Type} {step:σ→List Int→σ×Bool}:∀ (a b:List (List Int)) (s:σ),fB step (a++b) s=if (fB step a s).2=true then fB step b (fB step a s).1 else ((fB step a s).1,false)
 | [],b,s=>by simp [fB]
 | x::a,b,s=>by
   rw [List.cons_append,fB,fB]
   split
   ·exact yq a b _
   ·simp
def dC (lo:Int) (n:Nat):List Int:=(List.range n).map fun i=>lo + (i:Nat)
theorem HG (lo:Int) (n:Nat):dC lo (n + 1)=dC lo n++[lo + (n:Nat)]:=by simp [dC,aen]
theorem A5 {lo x:Int} {n:Nat}:x∈dC lo n↔lo≤x∧x < lo + n:=by
 simp only [dC,aaR,acz]
 constructor
 ·rintro ⟨j,h,rfl⟩;omega
 ·intro h;exact ⟨(x - lo).toNat,by omega,by omega⟩
def I2 (n:Nat) (id:Nat) (lo hi:Int) (q:Nat):AV:=.fn (.func 206) [] [.ah (.int .i64 n),.ah (.oC id),.ah (.int .i64 lo),.ah (.int .i64 hi),.ptr q 0]
structure YS {σ:Type} (n:Nat) (vals:List Int) (id:Nat) (St:σ→List aa) (Good:σ→Prop) (step:σ→List Int→σ×Bool):Prop where
 y:∀ l s X,l.length=n→(∀ x∈l,x∈vals)→Good s→kE Tryz.prog id [bA l] (St s++X) fun r H'=>r=.bool (step s l).2∧H'=St (step s l).1++X
 WW:∀ l s,Good s→(step s l).2=true→Good (step s l).1
 len:∀ s s',(St s).length=(St s').length
theorem A6 {σ:Type} {n:Nat} {vals:List Int} {id:Nat} {St:σ→List aa} {Good:σ→Prop} {step:σ→List Int→σ×Bool} (h:YS n vals id St Good step):∀ (a:List (List Int)) (s:σ),Good s→(fB step a s).2=true→Good (fB step a s).1
 | [],s,hs,_=>hs
 | l::r,s,hs,hr=>by
   rw [fB] at hr ⊢
   split at hr
   ·rename_i h1
    rw [if_pos h1]
    exact A6 h r _ (h.WW l s hs h1) hr
   ·simp at hr
theorem Sm (l:List Int) (h:l≠[]):bA l=.ak 0 (ints l):=by cases l with
 | nil=>exact absurd rfl h
 | cons a r=>rfl
theorem abz (l:List Int) (hb:l.length * 8≤140737488355328):Pure Tryz.prog 118 [bA l] (.ak 1 (ints l)):=by
 intro H
 cases l with
 | nil=>exact Ao H
 | cons a r=>exact sn 0 (ints (a::r)) H (of_eq_true (lr _)) (by rw [au];exact hb) (aT _ _)
theorem afo {σ:Type} {n:Nat} {lo hi:Int} (wQ:-1000000≤lo∧lo≤1000000) (LC:-1000000≤hi∧hi≤1000000) (hn:n≤1000000) {id:Nat} {St:σ→List aa} {Good:σ→Prop} {step:σ→List Int→σ×Bool} (hy:YS n (dC lo (hi + 1 - lo).toNat) id St Good step) (q:Nat) :
 ∀ (r:Nat) (l:List Int) (s:σ) (X:List aa),l.length + r=n→(∀ x∈l,x∈dC lo (hi + 1 - lo).toNat)→Good s→(∀ s',(St s'++X)[q]?=some (.cells [I2 n id lo hi q]))→
  aw Tryz.prog 206 [bA l,.ah (.int .i64 n),.ah (.oC id),.ah (.int .i64 lo),.ah (.int .i64 hi),.ptr q 0] (St s++X) fun rr H'=>rr=.bool (fB step ((jg (dC lo (hi + 1 - lo).toNat) r).map (l++·)) s).2∧H'=St (fB step ((jg (dC lo (hi + 1 - lo).toNat) r).map (l++·)) s).1++X:=by
 intro r
 induction r with
 | zero=>
   intro l s X hl hm hs hq
   refine Ru.2.calls rfl ?_
   simp only [Ru,aH]
   have ik:IL (bA l) l:=.inl rfl
   obtain ⟨a1,a2,a3,a4,a5⟩:=aJ l
   have e1:((l.length:Int)=(n:Int))=True:=eq_true (by omega)
   have lyld:∀ (H:List aa) (φ:AV→Prop),aU none (.ah (.oC id)) H φ=φ (.oC id):=fun H φ=>by simp [aU,AV.one,AV.ab]
   have e2:fB step ((jg (dC lo (hi + 1 - lo).toNat) 0).map (l++·)) s=step s l:=by
    simp only [jg,List.map_cons,List.map_nil,acA,fB]
    cases hb:(step s l).2 with
    | true=>rw [if_pos rfl,← hb]
    | false=>rw [if_neg (by simp),← hb]
   rw [e2]
   simp +contextual only [a2,ik.aN,ik.len (by omega),e1,decide_true,lyld,I0,sZ,Nat.reduceEqDiff,Nat.reduceAdd,↓reduceIte,reduceCtorEq]
   refine AZ (hy.y l s X (by omega) hm hs) ?_
   rintro rr H' ⟨rfl,rfl⟩
   simp +contextual only [sZ,↓reduceIte,reduceCtorEq]
   refine aP (St s++X).length (sU _) (by rw [ay,if_pos rfl];rfl) ?_
   rw [ay,if_pos rfl]
   exact ⟨rfl,by rw [Ue (by rw [aaz,aaz,hy.len _ s];exact sU _)]⟩
 | succ r ih=>
   intro l s X hl hm hs hq
   refine Ru.2.calls rfl ?_
   simp only [Ru,aH]
   have ik:IL (bA l) l:=.inl rfl
   obtain ⟨a1,a2,a3,a4,a5⟩:=aJ l
   have e1:((l.length:Int)=(n:Int))=False:=eq_false (by omega)
   have rQ:∀ (b:Bool) (s':σ),bT (St s++X).length [.t 7] [(7,.bool b)] (St s'++X) fun rr H'=>rr=.bool b∧H'=St s'++X:=by
    intro b s'
    refine aP (St s++X).length (sU _) (by rw [ay,if_pos rfl];rfl) ?_
    rw [ay,if_pos rfl]
    exact ⟨rfl,by rw [Ue (by rw [aaz,aaz,hy.len _ s];exact sU _)]⟩
   obtain ⟨m,PF⟩:∃ m,m=(hi + 1 - lo).toNat:=⟨_,rfl⟩
   rw [← PF] at ih hm ⊢
   obtain ⟨F,hF⟩:∃ F:Nat→List (List Int),F=fun k=>(dC lo k).flatMap fun x=>(jg (dC lo m) r).map fun y=>l++x::y:=⟨_,rfl⟩
   have hF0:F 0=[]:=by rw [hF];rfl
   have hFs:∀ k,F (k + 1)=F k++(jg (dC lo m) r).map ((l++[lo + (k:Nat)])++·):=by
    intro k
    rw [hF]
    simp only [HG,adN,List.flatMap_cons,ago,acA,abb,List.cons_append,List.nil_append]
   have hFm:(jg (dC lo m) (r + 1)).map (l++·)=F m:=by
    rw [hF,jg,List.map_flatMap]
    congr 1
    funext x
    rw [ada];rfl
   rw [hFm]
   simp +contextual only [a2,ik.aN,ik.len (by omega),e1,decide_false,sZ,Nat.reduceEqDiff,Nat.reduceAdd,↓reduceIte,reduceCtorEq]
   refine aD m (fun k (_:Unit)=>(fB step (F k) s).2=true) (fun k _=>[(0,bA l),(4,.ah (.int .i64 hi)),(5,.ptr q 0),(8,.int .i64 (lo + (k:Nat)))]) (fun k _=>St (fB step (F k) s).1++X) () ⟨by rw [hF0];rfl,aE (by simp) (by rw [hF0];rfl)⟩ fun k _ hk hI=>?_
   have hg:=A6 hy (F k) s hs hI
   generalize SY:(fB step (F k) s).1=s1 at hg ⊢
   by_cases hkm:lo + (k:Int)≤hi
   ·have Dy:k < m:=by omega
    have hql:=hq s1
    simp +contextual only [hkm,decide_true,a2,sZ,Nat.reduceEqDiff,↓reduceIte,reduceCtorEq]
    refine aF (abz l (by omega)) ?_
    have jo:sV 1 [AV.int .i64 (lo + (k:Int))]:=of_eq_true (lr [_])
    have efn:(I2 n id lo hi q).ab=.fn (.func 206) [] [.ah (.int .i64 n),.ah (.oC id),.ah (.int .i64 lo),.ah (.int .i64 hi),.ptr q 0]:=rfl
    have ea:ints l++[AV.int .i64 (lo + (k:Int))]=ints (l++[lo + (k:Int)]):=by simp [ints]
    have ek:AV.ak 0 (ints (l++[lo + (k:Int)]))=bA (l++[lo + (k:Int)]):=by rw [Sm _ (by simp)]
    simp +contextual only [hql,efn,au,jo,ea,ek,It,sZ,Nat.reduceEqDiff,Nat.reduceAdd,Nat.reduceLT,↓reduceIte,reduceCtorEq]
    refine ⟨by omega,af (ih (l++[lo + (k:Int)]) s1 X (by simp;omega) (fun x hx=>?_) hg hq) ?_⟩
    ·rcases ab7.1 hx with h | h
     ·exact hm x h
     ·simp only [OU,abO,or_false] at h
      subst h
      exact A5.2 ⟨by omega,by omega⟩
    rintro rr H' ⟨rfl,rfl⟩
    have bL:fB step (F (k + 1)) s=fB step ((jg (dC lo m) r).map ((l++[lo + (k:Int)])++·)) s1:=by
     rw [hFs,yq,if_pos hI,SY]
    cases hb:(fB step ((jg (dC lo m) r).map ((l++[lo + (k:Int)])++·)) s1).2 with
    | true=>
      simp +contextual only [Bool.not_true,sZ,Nat.reduceEqDiff,↓reduceIte,reduceCtorEq]
      refine ⟨k + 1,(),⟨Dy,by rw [bL];exact hb⟩,by omega,aE ?_ (by rw [bL])⟩
      rw [cZ _ (by omega)]
      have:lo + (k:Int) + 1=lo + ((k + 1:Nat):Int):=by omega
      rw [this]
    | false=>
      simp +contextual only [Bool.not_false,sZ,Nat.reduceEqDiff,↓reduceIte,reduceCtorEq]
      have jn:fB step (F m) s=((fB step ((jg (dC lo m) r).map ((l++[lo + (k:Int)])++·)) s1).1,false):=by
       have e:∃ R,F m=F (k + 1)++R:=by
        have:∀ d,∃ R,F (k + 1 + d)=F (k + 1)++R:=by
         intro d
         induction d with
         | zero=>exact ⟨[],by simp⟩
         | succ d ihd=>
           obtain ⟨R,hR⟩:=ihd
           exact ⟨R++_,by rw [show k + 1 + (d + 1)=(k + 1 + d) + 1 by omega,hFs,hR,abb]⟩
        obtain ⟨R,hR⟩:=this (m - (k + 1))
        exact ⟨R,by rw [← hR];congr 1;omega⟩
       obtain ⟨R,hR⟩:=e
       rw [hR,yq,bL,hb,if_neg (by simp)]
      rw [jn]
      exact rQ false _
   ·have hke:k=m:=by omega
    simp +contextual only [hkm,decide_false,sZ,Nat.reduceEqDiff,↓reduceIte,reduceCtorEq]
    rw [← hke,hI,SY]
    exact rQ true s1
theorem abA {σ:Type} {n:Nat} {lo hi:Int} (wQ:-1000000≤lo∧lo≤1000000) (LC:-1000000≤hi∧hi≤1000000) (hn:n≤1000000) {id:Nat} {St:σ→List aa} {Good:σ→Prop} {step:σ→List Int→σ×Bool} (hy:YS n (dC lo (hi + 1 - lo).toNat) id St Good step) (bu:∀ s,id < (St s).length) (s:σ) (hs:Good s) :
 aw Tryz.prog 205 [.oC id,.ah (.int .i64 n),.ah (.int .i64 lo),.ah (.int .i64 hi)] (St s) fun rr H'=>rr=.tuple []∧H'=St (fB step (jg (dC lo (hi + 1 - lo).toNat) n) s).1:=by
 refine ZS.2.calls rfl ?_
 simp only [ZS,aH]
 have aj7:=bu s
 have vy:(AV.oC id).val=true:=rfl
 have cy:(AV.oC id).cells=[.oC id]:=rfl
 have oy:(AV.oC id).one=true:=rfl
 have by':∀ m,(AV.oC id).aW m=decide (id < m):=fun m=>by simp [AV.aW]
 have d1:decide (id < (St s).length + 1)=true:=decide_eq_true (by omega)
 have d2':decide ((St s).length < (St s).length + 1)=true:=decide_eq_true (by omega)
 have efn:(I2 n id lo hi (St s).length).ab=.fn (.func 206) [] [.ah (.int .i64 n),.ah (.oC id),.ah (.int .i64 lo),.ah (.int .i64 hi),.ptr (St s).length 0]:=rfl
 simp +contextual only [vy,by',d1,d2',ac0,sp1,sZ,Nat.reduceEqDiff,Nat.reduceAdd,Nat.reduceLT,↓reduceIte,reduceCtorEq]
 have h:=afo wQ LC hn hy (St s).length n [] s [.cells [I2 n id lo hi (St s).length]] (by simp) (fun x hx=>by cases hx) hs (fun s'=>by rw [← hy.len s' s];simp)
 have em:(jg (dC lo (hi + 1 - lo).toNat) n).map ([]++·)=jg (dC lo (hi + 1 - lo).toNat) n:=by simp
 rw [em] at h
 refine af h ?_
 rintro rr H' ⟨rfl,rfl⟩
 simp +contextual only [sZ,reduceCtorEq]
 refine ⟨(St s).length,sU _,[],trivial,rfl,rfl,?_⟩
 rw [hy.len s _,adI]
theorem abB (n:Nat) (lo hi:Int):Pure Tryz.prog 166 [.int .i64 n,.int .i64 lo,.int .i64 hi] (.fn (.func 205) [] [.ah (.int .i64 n),.ah (.int .i64 lo),.ah (.int .i64 hi)]):=by
 refine fun H=>ZC.2.calls rfl ?_
 simp only [ZC,aH]
 simp +contextual only [sZ,Nat.reduceEqDiff,Nat.reduceAdd,↓reduceIte,reduceCtorEq]
 exact aS rfl rfl
end Go.aK
end
noncomputable section
set_option maxRecDepth 100000
namespace Go.aK
open Go Go.Proofs Go.fo
theorem afp (x:Int) (r:List Int) (hl:r.length≤1000000000):Pure Tryz.prog 207 [.ak 0 (ints (x::r))] (.int .i64 (r.foldl max x)):=by
 refine fun H=>ZT.2.calls rfl ?_
 simp only [ZT,aH]
 have ix:IL (.ak 0 (ints (x::r))) (x::r):=.inr rfl
 have n1:(((x::r).length:Int) < 1)=False:=eq_false (by simp;omega)
 have g0':(x::r).getD (0:Int).toNat 0=x:=rfl
 have ll:(x::r).length≤1000000001:=by simp;omega
 generalize eK:x::r=xs at *
 have eS:0 < xs.length:=by rw [← eK];simp
 simp +contextual only [ix.aN,ix.len (by omega),n1,decide_false,ix.lens,ix.idx,g0',sZ,Nat.reduceEqDiff,Nat.reduceAdd,↓reduceIte,reduceCtorEq]
 refine ⟨by omega,?_⟩
 have hsplit:∀ j,j≤r.length→(r.take j).foldl max x=((xs.take (j + 1)).drop 1).foldl max x:=by intro j _;rw [← eK];simp
 refine aB r.length (fun j=>True) (fun j=>[(0,.ak 0 (ints xs)),(3,.int .i64 ((r.take j).foldl max x)),(4,.int .i64 ((j + 1:Nat):Int))]) (fun _=>H) ⟨trivial,ax _ _ _⟩ fun j hj _=>?_
 have Jk:xs.length=r.length + 1:=by rw [← eK];simp
 by_cases hjr:j < r.length
 ·have n2:(((j + 1:Nat):Int) < xs.length)=True:=eq_true (by omega)
  have gj:xs.getD (j + 1) 0=r.getD j 0:=by rw [← eK];simp
  have tk:(r.take (j + 1)).foldl max x=max ((r.take j).foldl max x) (r.getD j 0):=by
   rw [acP hjr,List.foldl_append]
   simp [hjr]
  simp +contextual only [ix.aN,ix.len (by omega),n2,decide_true,ix.lens,ix.idx,aad,gj,sZ,Nat.reduceEqDiff,↓reduceIte,reduceCtorEq]
  exact ⟨by omega,j + 1,hjr,by omega,aE (by rw [cZ _ (by omega),tk];rfl) rfl⟩
 ·have e:j=r.length:=by omega
  subst e
  have n2:(((r.length + 1:Nat):Int) < xs.length)=False:=eq_false (by omega)
  simp +contextual only [ix.aN,ix.len (by omega),n2,decide_false,sZ,Nat.reduceEqDiff,↓reduceIte,reduceCtorEq]
  exact aS rfl (by rw [aby])
theorem afr (l:List Int) {v:AV} (h:IL v l) (hl:l.length≤1000000000) (y:Int):Pure Tryz.prog 111 [v,.int .i64 y] (.int .i64 (oz (fun z=>decide (y=z)) l 0)):=by
 refine fun H=>Y6.2.calls rfl ?_
 simp only [Y6,aH]
 obtain ⟨a1,a2,a3,a4⟩:=h.one
 simp +contextual only [a2,h.aN,h.len (by omega),sZ,Nat.reduceEqDiff,Nat.reduceAdd,↓reduceIte,reduceCtorEq]
 refine aB l.length (fun i=>oz (fun z=>decide (y=z)) (l.drop i) i=oz (fun z=>decide (y=z)) l 0) (fun i=>[(0,v),(1,.int .i64 y),(7,.int .i64 l.length),(8,.int .i64 i)]) (fun _=>H) ⟨rfl,ax _ _ _⟩ fun i hi hI=>?_
 by_cases C3:i < l.length
 ·have n1:((i:Int) < l.length)=True:=eq_true (by omega)
  rw [ul C3] at hI
  have egd:l.getD i default=l.getD i 0:=by simp [C3]
  rw [egd] at hI
  simp +contextual only [n1,decide_true,a2,h.lens,h.idx,aad,sZ,Nat.reduceEqDiff,↓reduceIte,reduceCtorEq]
  refine ⟨by omega,fun he=>?_,fun eS=>?_⟩
  ·rw [if_pos (by simpa using he)] at hI
   exact aS rfl (by rw [← hI])
  ·rw [if_neg (by simpa using eS)] at hI
   exact ⟨i + 1,⟨C3,hI⟩,by omega,aE (by rw [aq i (by omega)]) rfl⟩
 ·have n1:((i:Int) < l.length)=False:=eq_false (by omega)
  rw [aa9 (by omega)] at hI
  simp +contextual only [n1,decide_false,sZ,Nat.reduceEqDiff,↓reduceIte,reduceCtorEq]
  exact aS rfl (by rw [← hI];rfl)
theorem wD {α:Type} {p:α→Bool}:∀ (l:List α) (i:Nat),0≤oz p l i↔∃ x∈l,p x=true
 | [],i=>by simp [oz]
 | x::r,i=>by
   rw [oz]
   by_cases h:p x=true
   ·rw [if_pos h];exact ⟨fun _=>⟨x,by simp,h⟩,fun _=>by omega⟩
   ·rw [if_neg h,wD r (i + 1)]
    simp [h]
theorem afs (l:List Int) {v:AV} (h:IL v l) (hl:l.length≤1000000000) (y:Int):Pure Tryz.prog 208 [v,.int .i64 y] (.bool (decide (y∈l))):=by
 refine fun H=>ZU.2.calls rfl ?_
 simp only [ZU,aH]
 obtain ⟨a1,a2,a3,a4⟩:=h.one
 simp +contextual only [a2,sZ,Nat.reduceEqDiff,Nat.reduceAdd,↓reduceIte,reduceCtorEq]
 refine ae (afr l h hl y) ?_
 simp +contextual only [sZ,↓reduceIte,reduceCtorEq]
 refine aS rfl ?_
 congr 1
 rw [decide_eq_decide,wD]
 simp
def Fi (l:List Int):Int:=l.foldl max (-1)
def pk (l:List Int):Bool:=(List.range (Fi l + 1).toNat).all fun j=>decide ((j:Int)∈l)
theorem foldl_max:∀ (l:List Int) (x b:Int),x≤b→(∀ y∈l,y≤b)→x≤l.foldl max x∧l.foldl max x≤b
 | [],x,b,h,_=>⟨Int.le_refl _,h⟩
 | y::r,x,b,h,hr=>by
   have h1:=hr y (by simp)
   have:=foldl_max r (max x y) b (by omega) (fun z hz=>hr z (by simp [hz]))
   rw [List.foldl_cons];omega
theorem aft (l:List Int) {v:AV} (h:IL v l) (hl:l.length≤100000000) (hb:∀ x∈l,x≤1000000):Pure Tryz.prog 167 [v] (.bool (pk l)):=by
 refine fun H=>ZD.2.calls rfl ?_
 simp only [ZD,aH]
 obtain ⟨a1,a2,a3,a4⟩:=h.one
 have Yt:∀ ψ:List AV→Prop,bp 1 8 (.ak 1 [.int .i64 (-1)]) v ψ=ψ (ints (-1::l)):=by
  intro ψ
  have hr:dG v=some (ints l):=by
   rcases h with rfl | rfl
   ·cases l <;> rfl
   ·rfl
  have hal:nZ 1 (.ak 1 [.int .i64 (-1)])=some [.int .i64 (-1)]:=rfl
  have ok:sV 1 (ints l):=of_eq_true (lr l)
  simp only [bp,hal,hr,eq_iff_iff]
  exact ⟨fun h=>h.2.2,fun k=>⟨by simp [au];omega,ok,k⟩⟩
 have hm:=foldl_max l (-1) 1000000 (by omega) hb
 simp +contextual only [a2,Yt,sZ,Nat.reduceEqDiff,Nat.reduceAdd,↓reduceIte,reduceCtorEq]
 refine ae (afp (-1) l (by omega)) ?_
 have em:l.foldl max (-1)=Fi l:=rfl
 rw [em] at hm ⊢
 have hw:IntKind.i64.wrap (Fi l + 1)=Fi l + 1:=cZ _ (by omega)
 simp +contextual only [hw,sZ,Nat.reduceEqDiff,↓reduceIte,reduceCtorEq]
 refine aB (Fi l + 1).toNat (fun j=>∀ i,i < j→(i:Int)∈l) (fun j=>[(0,v),(8,.int .i64 (Fi l + 1)),(9,.int .i64 j)]) (fun _=>H) ⟨fun i hi=>by omega,ax _ _ _⟩ fun j hj hI=>?_
 by_cases hjm:(j:Int) < Fi l + 1
 ·simp +contextual only [hjm,decide_true,a2,sZ,Nat.reduceEqDiff,Nat.reduceAdd,↓reduceIte,reduceCtorEq]
  refine ae (afs l h (by omega) j) ?_
  by_cases FJ:(j:Int)∈l
  ·simp +contextual only [FJ,decide_true,Bool.not_true,sZ,Nat.reduceEqDiff,↓reduceIte,reduceCtorEq]
   refine ⟨j + 1,⟨by omega,fun i hi=>?_⟩,by omega,aE (by rw [aq j (by omega)]) rfl⟩
   by_cases e:i=j
   ·subst e;exact FJ
   ·exact hI i (by omega)
  ·simp +contextual only [FJ,decide_false,Bool.not_false,sZ,Nat.reduceEqDiff,↓reduceIte,reduceCtorEq]
   refine aS rfl ?_
   congr 1
   have:pk l=false:=by
    unfold pk
    rw [aeq]
    exact ⟨j,acz.2 (by omega),by simpa using FJ⟩
   rw [this]
 ·have e:j=(Fi l + 1).toNat:=by omega
  simp +contextual only [hjm,decide_false,sZ,Nat.reduceEqDiff,↓reduceIte,reduceCtorEq]
  refine aS rfl ?_
  congr 1
  have:pk l=true:=by
   unfold pk
   rw [abo]
   intro i hi
   exact decide_eq_true (hI i (by rw [e];exact acz.1 hi))
  rw [this]
end Go.aK
end
noncomputable section
set_option maxRecDepth 100000
namespace Go.aK
open Go Go.Proofs Go.fo
open Classical in
def yr (t:Ty) (ops pl st:List Int):Bool:=decide (iO t.s (rf t.s.ops.length ops pl) (um t.s.ops.length ops st)=0∧mL t (rf t.s.ops.length ops pl) (um t.s.ops.length ops st) < 0)
abbrev Fo:=Option (List Int×List Int)
def dL (t:Ty) (ops pl:List Int) (s:Fo) (st:List Int):Fo×Bool:=if yr t ops pl st=true then (some (rf t.s.ops.length ops pl,um t.s.ops.length ops st),false) else (s,true)
def fP (t:Ty) (ops:List Int) (s:Fo) (pl:List Int):Fo×Bool:=if pk pl=true then fB (dL t ops pl) (jg (dC 1 3) ops.length) s else (s,true)
def zt (t:Ty) (ops:List Int):Fo:=(fB (fP t ops) (jg (dC 0 ops.length) ops.length) none).1
def o4 (s:Fo):aa:=match s with | none=>.cells [.ag,.ag] | some (P,S)=>.cells [.ak 0 (ints P),.ak 0 (ints S)]
def o5 (s:Fo):aa:=.cells [.bool s.isSome]
def jA (s:Fo):XB:=if s.isSome=true then .jump .ret else .ready
theorem CQ:bf.n=41:=by kernel_rfl
theorem CR:bF.n=41:=by kernel_rfl
theorem yu:bf.ps=[15]:=by kernel_rfl
theorem yv:bF.ps=[22]:=by kernel_rfl
theorem Ob {n0 id:Nat} {R:AV→List aa→Prop} {H:List aa} {lc:jm} {es:List AV} (h:H[id]?=some (.loop .busy lc es)):rP n0 id R .ret H=JL n0 false (H.set id (.loop (.jump .ret) lc es)) R:=by
 unfold rP;rw [h]
theorem Fj {id:Nat} {H:List aa} {K:Option Code→List aa→Prop} {lc:jm} {es:List AV} {c:Code} (h:H[id]?=some (.loop (.jump c) lc es)):behind id H K=K (some c) (H.set id (.loop .fe lc es)):=by
 unfold behind;rw [h]
theorem CU (t:Ty) (ops pl:List Int):∀ (a:List (List Int)) (s:Fo),s=none→(fB (dL t ops pl) a s).2=(fB (dL t ops pl) a s).1.isNone
 | [],s,h=>by subst h;rfl
 | l::r,s,h=>by
   subst h
   rw [fB]
   by_cases ht:yr t ops pl l=true
   ·have e:dL t ops pl none l=(some (rf t.s.ops.length ops pl,um t.s.ops.length ops l),false):=if_pos ht
    rw [e];rfl
   ·have e:dL t ops pl none l=(none,true):=if_neg ht
    rw [e]
    exact CU t ops pl r none rfl
structure zw (t:Ty):Prop where
 n:t.s.ops.length≤1000000000
 eq:∀ e∈t.es,∀ ps:List Int,ps.length=t.s.ops.length→N9 ps e
theorem Oe (n:Nat) (ops pl:List Int):(rf n ops pl).length=n:=by unfold rf;rw [yp];simp
theorem wE (A:List aa) (x:aa) (Y:List aa) (k:Nat) (h:A.length=k):(A++x::Y)[k]?=some x:=by subst h;simp
theorem wF (A:List aa) (x y:aa) (Y:List aa) (k:Nat) (h:A.length=k):(A++x::Y).set k y=A++y::Y:=by subst h;simp
def fR (H W:List aa) (s:Fo):List aa:=H++o4 s::o5 s::W
theorem fy (H W:List aa) (s:Fo):(fR H W s).length=H.length + 2 + W.length:=by simp [fR];omega
theorem T4 (H W Y:List aa) (s:Fo):(fR H W s++Y)[H.length]?=some (o4 s):=by rw [zA (by rw [fy];omega)];simp [fR]
theorem T5 (H W Y:List aa) (s:Fo):(fR H W s++Y)[H.length + 1]?=some (o5 s):=by rw [zA (by rw [fy];omega)];simp [fR]
theorem Xd (H W Y:List aa) (s:Fo) (P S:List Int):((fR H W s++Y).set H.length (.cells [.ak 0 (ints P),.ak 0 (ints S)])).set (H.length + 1) (.cells [.bool true])=fR H W (some (P,S))++Y:=by
 rw [aeX _ _ (by rw [fy];omega),aeX _ _ (by rw [acI,fy];omega)]
 simp [fR,o4,o5]
theorem Xe {s:Sg} {ps ss:List Int} (h:iO s ps ss=0):Va ps ss:=(yh.1 h).2.va
theorem Of {t:Ty} (ht:zw t) {ops:List Int} {vo:AV} (ho:IL vo ops) (hr:∀ i∈ops,0≤i∧i < t.s.ops.length) (kB:ops.length≤1000000) {pl:List Int} (vM:pl.length=ops.length) (H W:List aa) (es:List AV) (Br:es=lN 41 [(2,.ah t.av),(3,.ah vo),(4,.ptr H.length 0),(5,.ptr (H.length + 1) 0),(6,.ah (bA pl)),(21,.fn (.func 205) [] [.ah (.int .i64 ops.length),.ah (.int .i64 1),.ah (.int .i64 3)])])
 (l:List Int) (hl:l.length=ops.length) (Y:List aa) (id:Nat) (bu:id=H.length + 2 + W.length) :
 kE Tryz.prog id [bA l] (fR H W none++.loop .ready bF es::Y) fun r H'=>r=.bool (dL t ops pl none l).2∧H'=fR H W (dL t ops pl none l).1++.loop (jA (dL t ops pl none l).1) bF es::Y:=by
 have ees:es=[.any,.any,.ah t.av,.ah vo,.ptr H.length 0,.ptr (H.length + 1) 0,.ah (bA pl),.any,.any,.any,.any,.any,.any,.any,.any,.any,.any,.any,.any,.any,.any,.fn (.func 205) [] [.ah (.int .i64 ops.length),.ah (.int .i64 1),.ah (.int .i64 3)],.any,.any,.any,.any,.any,.any,.any,.any,.any,.any,.any,.any,.any,.any,.any,.any,.any,.any,.any]:=by rw [Br];rfl
 have hk:∀ s,(fR H W s).length=id:=fun s=>by rw [fy,bu]
 have e0:∀ s st,(fR H W s++aa.loop st bF es::Y)[id]?=some (.loop st bF es):=fun s st=>wE _ _ _ _ (hk s)
 have g9:∀ s st st',(fR H W s++aa.loop st bF es::Y).set id (.loop st' bF es)=fR H W s++aa.loop st' bF es::Y:=fun s st st'=>wF _ _ _ _ _ (hk s)
 have hlen:∀ s st,(fR H W s++aa.loop st bF es::Y).length=(fR H W none++aa.loop .ready bF es::Y).length:=fun s st=>by rw [aaz,aaz,hk,hk];rfl
 refine pE (lc:=bF) (es:=es) (e0 none .ready) Wh Wi ⟨by rw [ees,CR];rfl,by rw [yv];rfl,by rw [yv,CR];rfl,?_,?_⟩ (ym ?_)
 ·rw [ees];intro x hx;simp only [OU,abO,or_false] at hx
  repeat' (first | (rcases hx with hx | hx;· subst hx;rfl) | (subst hx;rfl))
 ·intro x hx;simp only [OU,abO,or_false] at hx;subst hx;exact (aJ l).2.1
 ·have ez:(bF.ps.zip [bA l]).reverse++cj 0 es=(22,bA l)::cj 0 es:=by rw [yv];rfl
  rw [ez]
  generalize zx:cj 0 es=ea
  have g2:get ea 2=.ah t.av:=by rw [← zx,ees];rfl
  have g3:get ea 3=.ah vo:=by rw [← zx,ees];rfl
  have g4:get ea 4=.ptr H.length 0:=by rw [← zx,ees];rfl
  have g5:get ea 5=.ptr (H.length + 1) 0:=by rw [← zx,ees];rfl
  have g6:get ea 6=.ah (bA pl):=by rw [← zx,ees];rfl
  simp only [M5,M6]
  have hb:∀ K,kL id (fR H W none++.loop .ready bF es::Y) K=K (fR H W none++.loop .busy bF es::Y):=fun K=>by rw [ui (e0 none .ready),g9]
  obtain ⟨e1,e2,e3,e4,e5,e6⟩:=Ty.facts t
  obtain ⟨a1,a2,a3,a4⟩:=ho.one
  obtain ⟨b1,b2,b3,b4,b5⟩:=aJ pl
  obtain ⟨c1,c2,c3,c4,c5⟩:=aJ l
  have lvo:∀ (H:List aa) (φ:AV→Prop),aU none (.ah vo) H φ=φ vo:=fun H φ=>by simp [aU,a1,a2]
  obtain ⟨q1,q2,q3,q4,q5,q6⟩:=bt (rf t.s.ops.length ops pl) (um t.s.ops.length ops l)
  simp +contextual only [g2,g3,g4,g5,g6,c2,hb,iI,lvo,cb,b2,a2,e4,sZ,Nat.reduceEqDiff,Nat.reduceAdd,↓reduceIte]
  refine ae (afn t ops pl l ho (.inl rfl) (.inl rfl) vM hl hr ht.n (by omega)) ?_
  generalize hP:rf t.s.ops.length ops pl=P at *
  generalize hS:um t.s.ops.length ops l=S at *
  simp +contextual only [aC,q1,q2,q3,q4,FR,cQ,sZ,Nat.reduceEqDiff,Nat.reduceAdd,↓reduceIte]
  refine ae (c24 t.s P S) ?_
  have endN:∀ n0,n0=id + (Y.length + 1)→dL t ops pl none l=(none,true)→rP n0 id (fun r H'=>r=.bool (dL t ops pl none l).2∧H'=fR H W (dL t ops pl none l).1++.loop (jA (dL t ops pl none l).1) bF es::Y) .normal (fR H W none++.loop .busy bF es::Y):=by
   intro n0 LB b7
   rw [HC (e0 none .busy),g9,b7]
   refine ⟨by rw [hlen,aaz,hk];simp;omega,rfl,?_⟩
   rw [Ue (by rw [hlen,aaz,hk];simp;omega)]
   rfl
  have endR:∀ n0,n0=id + (Y.length + 1)→dL t ops pl none l=(some (P,S),false)→rP n0 id (fun r H'=>r=.bool (dL t ops pl none l).2∧H'=fR H W (dL t ops pl none l).1++.loop (jA (dL t ops pl none l).1) bF es::Y) .ret (fR H W (some (P,S))++.loop .busy bF es::Y):=by
   intro n0 LB b7
   rw [Ob (e0 _ .busy),g9,b7]
   refine ⟨by rw [hlen,aaz,hk];simp;omega,rfl,?_⟩
   rw [Ue (by rw [hlen,aaz,hk];simp;omega)]
   rfl
  by_cases h0:iO t.s P S=0
  ·simp +contextual only [h0,iI,cQ,e4,q4,sZ,Nat.reduceEqDiff,Nat.reduceAdd,↓reduceIte]
   refine ae (c89 t P S (Xe h0) (fun e he=>ht.eq e he P (by rw [← hP];exact Oe _ _ _))) ?_
   by_cases h1:mL t P S < 0
   ·have b7:dL t ops pl none l=(some (P,S),false):=by
     rw [dL,if_pos (by rw [yr,hP,hS];exact decide_eq_true ⟨h0,h1⟩),hP,hS]
    have k4:=T4 H W (.loop .busy bF es::Y) none
    have k5:∀ o,((fR H W none++.loop .busy bF es::Y).set H.length o)[H.length + 1]?=some (o5 none):=fun o=>by rw [zC (by omega),T5]
    have ks:=Xd H W (.loop .busy bF es::Y) none P S
    have o4n:o4 none=.cells [.ag,.ag]:=rfl
    have o5n:o5 none=.cells [.bool false]:=rfl
    rw [o4n] at k4
    simp only [o5n] at k5
    have qu:(eT P S).cells.map AV.ab=[.ak 0 (ints P),.ak 0 (ints S)]:=rfl
    have sp2:∀ (a b x y:AV),ai [a,b] 0 [x,y]=[x,y]:=fun _ _ _ _=>rfl
    have fb:∀ m,aj m [AV.ak 0 (ints P),.ak 0 (ints S)]=true:=fun m=>by simp [bJ,cV,bZ,aT]
    simp +contextual only [h1,decide_true,cQ,k4,k5,ks,q1,q2,q3,qu,sp2,fb,ac0,sZ,Nat.reduceEqDiff,Nat.reduceAdd,↓reduceIte]
    first
     | exact endR _ (by rw [hk]) b7
     | exact endR _ (by rw [hlen,aaz,hk];rfl) b7
   ·simp +contextual only [h1,decide_false,sZ,Nat.reduceEqDiff,↓reduceIte]
    have b7:dL t ops pl none l=(none,true):=by
     rw [dL,if_neg (by rw [yr,hP,hS];simp [h1])]
    exact endN _ (by rw [hk]) b7
  ·simp +contextual only [h0,decide_false,sZ,Nat.reduceEqDiff,↓reduceIte]
   have b7:dL t ops pl none l=(none,true):=by
    rw [dL,if_neg (by rw [yr,hP,hS];simp [h0])]
   exact endN _ (by rw [hk]) b7
end Go.aK
end
noncomputable section
set_option maxRecDepth 100000
namespace Go.aK
open Go Go.Proofs Go.fo
theorem ysI {t:Ty} (ht:zw t) {ops:List Int} {vo:AV} (ho:IL vo ops) (hr:∀ i∈ops,0≤i∧i < t.s.ops.length) (kB:ops.length≤1000000) {pl:List Int} (vM:pl.length=ops.length) (H W:List aa) (es:List AV) (Br:es=lN 41 [(2,.ah t.av),(3,.ah vo),(4,.ptr H.length 0),(5,.ptr (H.length + 1) 0),(6,.ah (bA pl)),(21,.fn (.func 205) [] [.ah (.int .i64 ops.length),.ah (.int .i64 1),.ah (.int .i64 3)])]) :
 YS ops.length (dC 1 ((3:Int) + 1 - 1).toNat) (H.length + 2 + W.length) (fun s:Fo=>fR H W s++[.loop (jA s) bF es]) (fun s=>s=none) (dL t ops pl):=by
 refine ⟨fun l s X hl _ hs=>?_,fun l s hs b7=>?_,fun s s'=>?_⟩
 ·subst hs
  have:=Of ht ho hr kB vM H W es Br l hl X _ rfl
  have el:jA none=.ready:=rfl
  refine fX.mono (by simpa [el,kE] using this) fun r H' h=>?_
  refine ⟨h.1,?_⟩
  rw [h.2];simp
 ·subst hs
  unfold dL at *
  split at b7
  ·cases b7
  ·rename_i h;rw [if_neg h]
 ·simp [fy]
theorem Og {vals:List Int}:∀ {n:Nat} {l:List Int},l∈jg vals n→l.length=n∧∀ x∈l,x∈vals
 | 0,l,h=>by
   simp only [jg,OU,abO,or_false] at h
   subst h;exact ⟨rfl,fun x hx=>by cases hx⟩
 | n + 1,l,h=>by
   simp only [jg,adJ,aaR] at h
   obtain ⟨x,hx,y,hy,rfl⟩:=h
   obtain ⟨h1,h2⟩:=Og hy
   exact ⟨by simp [h1],fun z hz=>by
    rcases OU.1 hz with rfl | hz
    ·exact hx
    ·exact h2 z hz⟩
theorem Oh {t:Ty} (ht:zw t) {ops:List Int} {vo:AV} (ho:IL vo ops) (hr:∀ i∈ops,0≤i∧i < t.s.ops.length) (kB:ops.length≤1000000) (H:List aa) (es:List AV) (Br:es=lN 41 [(2,.ah t.av),(3,.ah vo),(4,.ptr H.length 0),(5,.ptr (H.length + 1) 0),(14,.fn (.func 205) [] [.ah (.int .i64 ops.length),.ah (.int .i64 0),.ah (.int .i64 ((ops.length:Int) - 1))])])
 (pl:List Int) (vM:pl.length=ops.length) (lV:∀ x∈pl,x≤1000000) (Y:List aa) :
 kE Tryz.prog (H.length + 2) [bA pl] (fR H [] none++.loop .ready bf es::Y) fun r H'=>r=.bool (fP t ops none pl).2∧H'=fR H [] (fP t ops none pl).1++.loop (jA (fP t ops none pl).1) bf es::Y:=by
 have ees:es=[.any,.any,.ah t.av,.ah vo,.ptr H.length 0,.ptr (H.length + 1) 0,.any,.any,.any,.any,.any,.any,.any,.any,.fn (.func 205) [] [.ah (.int .i64 ops.length),.ah (.int .i64 0),.ah (.int .i64 ((ops.length:Int) - 1))],.any,.any,.any,.any,.any,.any,.any,.any,.any,.any,.any,.any,.any,.any,.any,.any,.any,.any,.any,.any,.any,.any,.any,.any,.any,.any]:=by rw [Br];rfl
 have hk:∀ s,(fR H [] s).length=H.length + 2:=fun s=>by rw [fy];rfl
 have e0:∀ s st Y,(fR H [] s++aa.loop st bf es::Y)[H.length + 2]?=some (.loop st bf es):=fun s st Y=>wE _ _ _ _ (hk s)
 have g9:∀ s st st' Y,(fR H [] s++aa.loop st bf es::Y).set (H.length + 2) (.loop st' bf es)=fR H [] s++aa.loop st' bf es::Y:=fun s st st' Y=>wF _ _ _ _ _ (hk s)
 refine pE (lc:=bf) (es:=es) (e0 none .ready Y) Wj Wk ⟨by rw [ees,CQ];rfl,by rw [yu];rfl,by rw [yu,CQ];rfl,?_,?_⟩ (ym ?_)
 ·rw [ees];intro x hx;simp only [OU,abO,or_false] at hx
  repeat' (first | (rcases hx with hx | hx;· subst hx;rfl) | (subst hx;rfl))
 ·intro x hx;simp only [OU,abO,or_false] at hx;subst hx;exact (aJ pl).2.1
 ·have ez:(bf.ps.zip [bA pl]).reverse++cj 0 es=(15,bA pl)::cj 0 es:=by rw [yu];rfl
  rw [ez]
  generalize zx:cj 0 es=ea
  have g2:get ea 2=.ah t.av:=by rw [← zx,ees];rfl
  have g3:get ea 3=.ah vo:=by rw [← zx,ees];rfl
  have g4:get ea 4=.ptr H.length 0:=by rw [← zx,ees];rfl
  have g5:get ea 5=.ptr (H.length + 1) 0:=by rw [← zx,ees];rfl
  simp only [M7,M8]
  have hb:∀ K,kL (H.length + 2) (fR H [] none++.loop .ready bf es::Y) K=K (fR H [] none++.loop .busy bf es::Y):=fun K=>by rw [ui (e0 none .ready Y),g9]
  obtain ⟨a1,a2,a3,a4⟩:=ho.one
  obtain ⟨b1,b2,b3,b4,b5⟩:=aJ pl
  have lvo:∀ (H:List aa) (φ:AV→Prop),aU none (.ah vo) H φ=φ vo:=fun H φ=>by simp [aU,a1,a2]
  have ip:IL (bA pl) pl:=.inl rfl
  have hlen:(fR H [] none++.loop .ready bf es::Y).length=H.length + 2 + (Y.length + 1):=by rw [aaz,hk];rfl
  have endN:∀ n0 Z,n0=H.length + 2 + (Y.length + 1)→fP t ops none pl=(none,true)→rP n0 (H.length + 2) (fun r H'=>r=.bool (fP t ops none pl).2∧H'=fR H [] (fP t ops none pl).1++.loop (jA (fP t ops none pl).1) bf es::Y) .normal (fR H [] none++.loop .busy bf es::(Y++Z)):=by
   intro n0 Z LB b7
   rw [HC (e0 none .busy _),g9,b7]
   refine ⟨by rw [aaz,hk];simp;omega,rfl,?_⟩
   rw [LB,← hlen,show fR H [] none++aa.loop .ready bf es::(Y++Z)=(fR H [] none++aa.loop .ready bf es::Y)++Z by simp,adI]
   rfl
  have endR:∀ n0 Z s,n0=H.length + 2 + (Y.length + 1)→fP t ops none pl=(s,false)→s.isSome=true→rP n0 (H.length + 2) (fun r H'=>r=.bool (fP t ops none pl).2∧H'=fR H [] (fP t ops none pl).1++.loop (jA (fP t ops none pl).1) bf es::Y) .ret (fR H [] s++.loop .busy bf es::(Y++Z)):=by
   intro n0 Z s LB b7 hs
   have hlen2:(fR H [] s++.loop (.jump .ret) bf es::Y).length=H.length + 2 + (Y.length + 1):=by rw [aaz,hk];rfl
   rw [Ob (e0 _ .busy _),g9,b7]
   refine ⟨by rw [aaz,hk];simp;omega,rfl,?_⟩
   rw [LB,← hlen2,show fR H [] s++aa.loop (.jump .ret) bf es::(Y++Z)=(fR H [] s++aa.loop (.jump .ret) bf es::Y)++Z by simp,adI]
   have:jA s=.jump .ret:=if_pos hs
   rw [this]
  simp +contextual only [g2,g3,g4,g5,hb,cb,b1,b2,b4,b5,sZ,Nat.reduceEqDiff,Nat.reduceAdd,↓reduceIte]
  refine ae (aft pl ip (by omega) lV) ?_
  cases hd:pk pl with
  | false=>
    have b7:fP t ops none pl=(none,true):=by rw [fP,if_neg (by rw [hd];simp)]
    simp +contextual only [Bool.not_false,sZ,Nat.reduceEqDiff,↓reduceIte]
    have:=endN ((fR H [] none).length + (Y.length + 1)) [] (by rw [hk]) b7
    rwa [acA] at this
  | true=>
    have b7:fP t ops none pl=fB (dL t ops pl) (jg (dC 1 3) ops.length) none:=by rw [fP,if_pos hd]
    simp +contextual only [Bool.not_true,lvo,ho.aN,ho.len (by omega),sZ,Nat.reduceEqDiff,Nat.reduceAdd,↓reduceIte]
    refine ae (abB ops.length 1 3) ?_
    simp +contextual only [nA,sZ,Nat.reduceEqDiff,↓reduceIte]
    obtain ⟨W,hW⟩:∃ W,W=aa.loop .busy bf es::Y:=⟨_,rfl⟩
    have hH2:fR H [] none++aa.loop .busy bf es::Y=fR H W none:=by rw [hW];simp [fR]
    have hA:∀ s,fR H W s=fR H [] s++aa.loop .busy bf es::Y:=fun s=>by rw [hW];simp [fR]
    obtain ⟨esI,abC⟩:∃ esI,esI=lN 41 [(2,AV.ah t.av),(3,.ah vo),(4,.ptr H.length 0),(5,.ptr (H.length + 1) 0),(6,.ah (bA pl)),(21,.fn (.func 205) [] [.ah (.int .i64 ops.length),.ah (.int .i64 1),.ah (.int .i64 3)])]:=⟨_,rfl⟩
    have ys:=ysI ht ho hr kB vM H W esI abC
    have rq:(3:Int) + 1 - 1=3:=rfl
    have hvt:((3:Int)).toNat=3:=rfl
    rw [rq,hvt] at ys
    have Oi:=abA (n:=ops.length) (lo:=1) (hi:=3) (by omega) (by omega) kB (Good:=fun s:Fo=>s=none) (hy:=by rw [rq,hvt];exact ys) (fun s=>by simp [fy]) none rfl
    rw [rq,hvt] at Oi
    rw [hH2]
    have eln:(fR H W none).length=H.length + 2 + W.length:=fy H W none
    refine uh (P:=Tryz.prog) (R:=fun r H'=>r=.tuple []∧H'=fR H W (fB (dL t ops pl) (jg (dC 1 3) ops.length) none).1++[.loop (jA (fB (dL t ops pl) (jg (dC 1 3) ops.length) none).1) bF esI]) 205 [] _ bF _ _ _ Tryz.call205 ?_ ?_
    ·rw [CR,← abC,eln]
     exact Oi
    ·have h2:=CU t ops pl (jg (dC 1 3) ops.length) none rfl
     rintro r H' ⟨rfl,rfl⟩
     generalize Yk:(fB (dL t ops pl) (jg (dC 1 3) ops.length) none).1=s' at h2
     have abD:fP t ops none pl=(s',s'.isNone):=by rw [b7];exact Prod.ext Yk h2
     rw [eln]
     have eget:∀ st,(fR H W s'++[aa.loop st bF esI])[H.length + 2 + W.length]?=some (.loop st bF esI):=fun st=>wE _ _ _ _ (fy H W s')
     have eset:∀ st st',(fR H W s'++[aa.loop st bF esI]).set (H.length + 2 + W.length) (.loop st' bF esI)=fR H W s'++[.loop st' bF esI]:=fun st st'=>wF _ _ _ _ _ (fy H W s')
     cases s' with
     | none=>
       have el:jA none=.ready:=rfl
       rw [el,yl (eget _),eset]
       simp +contextual only [qG]
       have:=endN ((fR H [] none).length + (Y.length + 1)) [.loop .fe bF esI] (by rw [hk]) abD
       rw [hA]
       simpa using this
     | some o=>
       have el:jA (some o)=.jump .ret:=rfl
       rw [el,Fj (eget _),eset]
       simp +contextual only [qG]
       have:=endR ((fR H [] none).length + (Y.length + 1)) [.loop .fe bF esI] (some o) (by rw [hk]) abD rfl
       rw [hA]
       simpa using this
end Go.aK
end
noncomputable section
set_option maxRecDepth 100000
namespace Go.aK
open Go Go.Proofs Go.fo
theorem ysO {t:Ty} (ht:zw t) {ops:List Int} {vo:AV} (ho:IL vo ops) (hr:∀ i∈ops,0≤i∧i < t.s.ops.length) (kB:ops.length≤1000000) (H:List aa) (es:List AV) (Br:es=lN 41 [(2,.ah t.av),(3,.ah vo),(4,.ptr H.length 0),(5,.ptr (H.length + 1) 0),(14,.fn (.func 205) [] [.ah (.int .i64 ops.length),.ah (.int .i64 0),.ah (.int .i64 ((ops.length:Int) - 1))])]) :
 YS ops.length (dC 0 ops.length) (H.length + 2) (fun s:Fo=>fR H [] s++[.loop (jA s) bf es]) (fun s=>s=none) (fP t ops):=by
 refine ⟨fun l s X hl hm hs=>?_,fun l s hs b7=>?_,fun s s'=>?_⟩
 ·subst hs
  have:=Oh ht ho hr kB H es Br l hl (fun x hx=>by have:=A5.1 (hm x hx);omega) X
  have el:jA none=.ready:=rfl
  refine fX.mono (by simpa [el,kE] using this) fun r H' h=>?_
  refine ⟨h.1,?_⟩
  rw [h.2];simp
 ·subst hs
  have h2:(fP t ops none l).2=(fP t ops none l).1.isNone:=by
   unfold fP
   split
   ·exact CU t ops l _ none rfl
   ·rfl
  rw [b7] at h2
  exact Option.isNone_iff_eq_none.1 h2.symm
 ·simp [fy]
def foA (s:Fo):AV:=match s with | none=>eT [] [] | some (P,S)=>eT P S
theorem I3 (n0 s s':Nat) (sz sz':Option Nat) (env:Env) (H:List aa) (R:AV→List aa→Prop):bT n0 [.c s sz,.c s' sz'] env H R=aU sz (get env s) H fun x=>aU sz' (get env s') H fun y=>sj n0 [x,y] H R:=agK
theorem c93 {t:Ty} (ht:zw t) {ops:List Int} {vo:AV} (ho:IL vo ops) (hr:∀ i∈ops,0≤i∧i < t.s.ops.length) (kB:ops.length≤1000000):Pure Tryz.prog 93 [t.av,vo] (.tuple [foA (zt t ops),.bool (zt t ops).isSome]):=by
 refine fun H=>ad5.calls rfl ?_
 simp only [Y1,Y0]
 obtain ⟨e1,e2,e3,e4,e5,e6⟩:=Ty.facts t
 obtain ⟨a1,a2,a3,a4⟩:=ho.one
 have lvo:∀ (H:List aa) (φ:AV→Prop),aU none (.ah vo) H φ=φ vo:=fun H φ=>by simp [aU,a1,a2]
 have zf2:List.map AV.ab [AV.ag,.ag]=[.ag,.ag]:=rfl
 have zb2:∀ n,aj n [AV.ag,.ag]=true:=fun _=>rfl
 have hw:IntKind.i64.wrap ((ops.length:Int) - 1)=(ops.length:Int) - 1:=cZ _ (by omega)
 simp +contextual only [e1,a3,lvo,zf2,zb2,ho.aN,ho.len (by omega),hw,sZ,Nat.reduceEqDiff,Nat.reduceAdd,↓reduceIte,reduceCtorEq]
 refine ae (abB ops.length 0 ((ops.length:Int) - 1)) ?_
 simp +contextual only [nA,sZ,Nat.reduceEqDiff,↓reduceIte,reduceCtorEq]
 have hA0:H++[aa.cells [AV.ag,.ag],.cells [.bool false]]=fR H [] none:=rfl
 rw [hA0]
 obtain ⟨esO,Br⟩:∃ esO,esO=lN 41 [(2,AV.ah t.av),(3,.ah vo),(4,.ptr H.length 0),(5,.ptr (H.length + 1) 0),(14,.fn (.func 205) [] [.ah (.int .i64 ops.length),.ah (.int .i64 0),.ah (.int .i64 ((ops.length:Int) - 1))])]:=⟨_,rfl⟩
 have ys:=ysO ht ho hr kB H esO Br
 have hv:((ops.length:Int) - 1 + 1 - 0).toNat=ops.length:=by omega
 have Oi:=abA (n:=ops.length) (lo:=0) (hi:=(ops.length:Int) - 1) (by omega) (by omega) kB (Good:=fun s:Fo=>s=none) (hy:=by rw [hv];exact ys) (fun s=>by simp [fy]) none rfl
 rw [hv] at Oi
 have eln:∀ s,(fR H [] s).length=H.length + 2:=fun s=>fy H [] s
 refine uh (P:=Tryz.prog) (R:=fun r H'=>r=.tuple []∧H'=fR H [] (zt t ops)++[.loop (jA (zt t ops)) bf esO]) 205 [] _ bf _ _ _ Tryz.call205 ?_ ?_
 ·rw [CQ,← Br,eln]
  exact Oi
 ·rintro r H' ⟨rfl,rfl⟩
  generalize zt t ops=s'
  have eget:∀ st,(fR H [] s'++[aa.loop st bf esO])[H.length + 2]?=some (.loop st bf esO):=fun st=>wE _ _ _ _ (eln s')
  have eset:∀ st st',(fR H [] s'++[aa.loop st bf esO]).set (H.length + 2) (.loop st' bf esO)=fR H [] s'++[.loop st' bf esO]:=fun st st'=>wF _ _ _ _ _ (eln s')
  have k4:=T4 H [] [.loop .fe bf esO] s'
  have k5:=T5 H [] [.loop .fe bf esO] s'
  have RS:(fR H [] s'++[aa.loop .fe bf esO]).take H.length=H:=by rw [abc (by rw [eln];omega),fR,adI]
  have sp2:∀ (a b x y:AV),ai [a,b] 0 [x,y]=[x,y]:=fun _ _ _ _=>rfl
  rw [eln]
  cases s' with
  | none=>
    have el:jA none=.ready:=rfl
    rw [el,yl (eget _),eset]
    have o4n:o4 none=.cells [.ag,.ag]:=rfl
    have o5n:o5 none=.cells [.bool false]:=rfl
    rw [o4n] at k4
    rw [o5n] at k5
    have k4s:=fun o=>zD (a:=o) (aO k4)
    have k5s:∀ o,((fR H [] none++[aa.loop .fe bf esO]).set H.length o)[H.length + 1]?=some (.cells [.bool false]):=fun o=>by rw [zC (by omega)];exact k5
    have k5t:∀ o o',(((fR H [] none++[aa.loop .fe bf esO]).set H.length o).set (H.length + 1) o')[H.length + 1]?=some o':=fun o o'=>zD (by rw [acI];exact aO k5)
    have k4t:∀ o o',(((fR H [] none++[aa.loop .fe bf esO]).set H.length o).set (H.length + 1) o')[H.length]?=some o:=fun o o'=>by rw [zC (by omega)];exact k4s o
    have afx:∀ o o',(((fR H [] none++[aa.loop .fe bf esO]).set H.length o).set (H.length + 1) o').take H.length=H:=fun o o'=>by rw [acu (by omega),acu (by omega),RS]
    simp +contextual only [qG,k4,k5s,k4t,k5t,zf2,zb2,sp2,I3,sZ,Nat.reduceEqDiff,Nat.reduceAdd,Nat.reduceLT,↓reduceIte,reduceCtorEq]
    exact jX (afx _ _) ((bt [] []).2.2.2.2.2 _) rfl rfl rfl ⟨rfl,rfl⟩
  | some o=>
    obtain ⟨P,S⟩:=o
    have el:jA (some (P,S))=.jump .ret:=rfl
    rw [el,Fj (eget _),eset]
    have o4n:o4 (some (P,S))=.cells [.ak 0 (ints P),.ak 0 (ints S)]:=rfl
    have o5n:o5 (some (P,S))=.cells [.bool true]:=rfl
    rw [o4n] at k4
    rw [o5n] at k5
    simp +contextual only [qG,k4,k5,I3,sZ,Nat.reduceEqDiff,Nat.reduceAdd,Nat.reduceLT,↓reduceIte,reduceCtorEq]
    exact jX RS ((bt P S).2.2.2.2.2 _) rfl rfl rfl ⟨rfl,rfl⟩
end Go.aK
end
noncomputable section
set_option maxRecDepth 100000
set_option maxHeartbeats 0
namespace Go.aK
open Go Go.Proofs
def abE:=aH Tryz.call75 Tryz.func75 Tryz.ntmps75 [(0,0,1),(5,2,1000),(6,0,1),(6,7,2),(6,8,1),(7,6,2),(7,9,2),(9,0,6004)] [(0,[1,2]),(1,[1,6]),(2,[1,6,7]),(3,[6,7,15,16,17]),(4,[6,7,15,16,17,18]),(5,[6,7,9,15,16,17]),(6,[6,7,9,15,16,17]),(7,[6,7,15,16,17]),(8,[6,7,15,16,17]),(9,[4,5])] [(7,(.take 1 true (.take 2 true (.take 3 true (.take 4 true (.take 5 true (.take 0 false (.br 6 (.take 7 true (.take 8 true (.br 9 .done .nil))) .nil))))))))]
end Go.aK
end
noncomputable section
set_option maxRecDepth 100000
namespace Go.aK
open Go Go.Proofs Go.fo
def vv (z:AV) (kp:Nat→Prop) (v:AV) (xs:List AV) (G:List aa):Prop:=
 (xs=[]∧v=.ag)∨∃ id cap,¬ kp id∧v=.ba id 0 xs.length cap∧G[id]?=some (bw z xs cap)∧xs.length≤cap∧xs≠[]
section
variable {z:AV} {kp:Nat→Prop} {v:AV} {xs:List AV} {G:List aa}
theorem vv.one (h:vv z kp v xs G):v.one=true∧v.val=true∧v.ab=v∧v.cells=[v]:=by
 rcases h with ⟨_,rfl⟩ | ⟨id,cap,_,rfl,_⟩ <;> exact ⟨rfl,rfl,rfl,rfl⟩
theorem vv.aW (h:vv z kp v xs G) {n:Nat} (hn:G.length≤n):v.aW n=true:=by
 rcases h with ⟨_,rfl⟩ | ⟨id,cap,_,rfl,c,_⟩
 ·rfl
 ·have:=(aaH.1 c).1
  rw [fJ];simp;omega
theorem vv.len (h:vv z kp v xs G) {H:List aa} (φ:AV→Prop):fT v H φ=φ (.int .i64 xs.length):=by
 rcases h with ⟨rfl,rfl⟩ | ⟨id,cap,_,rfl,_⟩ <;> rfl
theorem vv.aN (h:vv z kp v xs G):aN 1 v=True:=by
 rcases h with ⟨_,rfl⟩ | ⟨id,cap,_,rfl,_⟩ <;> rfl
theorem vv.set (h:vv z kp v xs G) {j:Nat} (hj:∀ l c,v≠.ba j 0 l c) (o:aa):vv z kp v xs (G.set j o):=by
 rcases h with h | ⟨id,cap,a,b,c,d⟩
 ·exact .inl h
 ·exact .inr ⟨id,cap,a,b,by rw [zC (fun e=>hj _ _ (by rw [e];exact b))];exact c,d⟩
end
theorem A7 {esz bytes:Nat} {z:AV} (hz:jT esz (bV z)) {kp:Nat→Prop} {v:AV} {xs:List AV} {G:List aa} (h:vv z kp v xs G) (eK:∀ x∈xs,jT esz x) (o:Nat) (ys:List AV) (hy:ys≠[]) (ru:∀ x∈ys,jT esz x)
 (hb:(xs.length + ys.length) * bytes≤140737488355328) (hG:∀ j,kp j→j < G.length) {K:AV→List aa→Prop}
 (hK:∀ v' G',vv z kp v' (xs++ys) G'→(∀ j,kp j→G'[j]?=G[j]?)→G.length≤G'.length→K v' G'):ch esz bytes z v (.ak o ys) G K:=by
 have og:¬ kp G.length:=fun h=>adF _ (hG _ h)
 have jo:sV esz ys:=fun y hy=>⟨(ru y hy).len,(ru y hy).one⟩
 obtain ⟨f1,f2,f3,f4⟩:=jT.flat ru
 obtain ⟨g1,g2,g3,g4⟩:=jT.flat eK
 have vM:=sv hz
 have lV:∀ n m,aj n (dl z m)=true:=fun n m=>(jT.flat (kR hz m)).2.2.1 n
 unfold ch
 simp only [dG]
 refine ⟨jo,?_⟩
 rcases h with ⟨rfl,rfl⟩ | ⟨id,cap,bu,rfl,hg,hle,_⟩
 ·refine ⟨by simpa using hb,fun e=>absurd e hy,fun _ cap hc _=>⟨?_,hK _ _ (.inr ⟨G.length,cap,og,by simp,?_,by simpa using hc,by simpa using hy⟩) ?_ (by simp)⟩⟩
  ·rw [f2,a8];exact ⟨f3 _,lV _ _⟩
  ·rw [f2];simp [bw]
  ·intro j hj;have:=hG j hj;rw [zA (by omega)]
 ·have vS:=(aaH.1 hg).1
  simp only [hg,bw,aaz,g1,vM,acC,List.drop_zero]
  refine ⟨hb,hle,by rw [← acE];exact Nat.le_of_eq (by congr 1;omega),fun hroom=>⟨by rw [f2];exact f3 _,?_⟩,fun kB gA hc _=>⟨?_,?_⟩⟩
  ·rw [f2]
   refine hK _ _ (.inr ⟨id,cap,bu,by simp,?_,by simpa using hroom,by simp [hy]⟩) ?_ (by simp)
   ·rw [zD vS,bw]
    congr 2
    unfold ai
    rw [f1,abc (by rw [g1];exact sU _),Ue (by rw [g1];exact sU _),ac8,aa9 (by rw [g1];omega),g1,
     show xs.length * esz + ys.length * esz - xs.length * esz=ys.length * esz by omega,AE hz _ _ (by omega),o7,List.nil_append,aaz]
    rw [show cap - xs.length - ys.length=cap - (xs.length + ys.length) by omega,abb]
   ·intro j hj;rw [zC (fun e=>bu (by rw [e];exact hj))]
  ·rw [abc (by rw [g1];exact sU _),Ue (by rw [g1];exact sU _),g2,f2,a8,a8];exact ⟨⟨g3 _,f3 _⟩,lV _ _⟩
  ·rw [abc (by rw [g1];exact sU _),Ue (by rw [g1];exact sU _),g2,f2,← o7]
   refine hK _ _ (.inr ⟨G.length,gA,og,by simp,?_,by simpa using hc,by simp [hy]⟩) ?_ (by simp)
   ·simp [bw]
   ·intro j hj;have:=hG j hj;rw [zA (by omega)]
def Xf (kp:Nat→Prop) (H:List aa) (xs:List AV) (r:AV) (H':List aa):Prop:=vv zN kp r xs H'∧(∀ j,kp j→H'[j]?=H[j]?)∧H.length≤H'.length
theorem abF:∀ (N:Nat) (t:T),wt t≤N→∀ (kp:Nat→Prop) (v:AV) (xs:List AV) (H:List aa),vv zN kp v xs H→(∀ x∈xs,jT 4 x)→(∀ j,kp j→j < H.length)→(xs.length + wt t) * 64≤140737488355328→
 aw Tryz.prog 132 [t.av,v] H (Xf kp H (xs++fp (x7 t xs.length))):=by
 intro N
 induction N with
 | zero=>intro t ht;have:=eF t;omega
 | succ N ih=>
 intro t ht kp v xs H hR eK hbase hb
 have hw:=EQ t
 have hlw:=jk t.l
 refine II.2.calls rfl ?_
 simp only [II,aH]
 obtain ⟨o1,o2,o3,o4⟩:=hR.one
 simp +contextual only [o3,hR.len,hR.aN,bdN,aaF,sZ,Nat.reduceEqDiff,Nat.reduceAdd,↓reduceIte,reduceCtorEq]
 refine A7 Cr hR eK 0 [nK t] (by simp) (by simp [sC]) (by simp;omega) hbase fun v1 G1 WE WG vG=>?_
 obtain ⟨o1',o2',o3',o4'⟩:=WE.one
 simp +contextual only [sZ]
 intro _
 have jI:∀ i,(xs++nK t::fp (dg (t.l.take i) (xs.length + 1))).length=xs.length + 1 + iN (t.l.take i):=by intro i;simp [sE,iF];omega
 have jo:∀ i,∀ x∈xs++nK t::fp (dg (t.l.take i) (xs.length + 1)),jT 4 x:=by
  intro i x hx
  rcases ab7.1 hx with hx | hx
  ·exact eK x hx
  ·rcases OU.1 hx with rfl | hx
   ·exact sC t
   ·exact kS _ x hx
 refine aD t.l.length (fun i (p:AV×List aa)=>vv zN kp p.1 (xs++nK t::fp (dg (t.l.take i) (xs.length + 1))) p.2∧(∀ j,kp j→p.2[j]?=H[j]?)∧H.length≤p.2.length)
  (fun i p=>[(1,p.1),(5,.int .i64 xs.length),(6,gT (aZ (t.l.take i) (xs.length + 1))),(17,.ak 0 (bk t.l)),(18,.int .i64 t.l.length),(19,.int .i64 i)])
  (fun i p=>p.2) (v1,G1) ⟨⟨WE,WG,vG⟩,ax _ _ _⟩ fun i p hi hI=>?_
 obtain ⟨v,G⟩:=p
 obtain ⟨hR,hG,hl⟩:=hI
 simp only at hR hG hl
 obtain ⟨o1,o2,o3,o4⟩:=hR.one
 have hle:=dB t.l i
 have Dy:=cN (t.l.take i) (xs.length + 1)
 have WH:(t.l.take i).length≤t.l.length:=by simp;omega
 simp +contextual only [o3,hR.len,hR.aN,jI,qS,(fN _).2.1,jd,sZ,Nat.reduceEqDiff,Nat.reduceAdd,↓reduceIte,reduceCtorEq]
 refine ⟨fun aG=>⟨aY aG,by omega,?_⟩,fun eW=>?_⟩
 ·have aG:=aY aG
  have hwt:=pc aG
  have hnext:=dB t.l (i + 1)
  have e2:t.l.take (i + 1)=t.l.take i++[t.l.getD i default]:=by rw [acP aG];simp [aG]
  refine af (ih (t.l.getD i default) (by have:=bM (bU aG);omega) kp v _ G hR (jo i) (fun j hj=>by have:=hbase j hj;omega) (by rw [jI];omega)) ?_
  rintro r G' ⟨qt,dS,xb⟩
  obtain ⟨o1',o2',o3',o4'⟩:=qt.one
  simp +contextual only [o3',sZ,Nat.reduceEqDiff,↓reduceIte]
  refine ⟨i + 1,(r,G'),⟨aG,?_,fun j hj=>(dS j hj).trans (hG j hj),acN hl xb⟩,by omega,aE ?_ rfl⟩
  ·rw [jI] at qt
   rw [e2,mA,sD,← List.cons_append,← abb]
   exact qt
  ·rw [e2,jw,aq i (by omega)]
 ·have mV:i=t.l.length:=by have:=bN eW;omega
  subst mV
  rw [aby] at hR
  have Hm:=jI t.l.length
  have Hn:=jo t.l.length
  rw [aby] at Hm Hn
  have g9:(xs++nK t::fp (dg t.l (xs.length + 1))).set xs.length (Hl (t,aZ t.l (xs.length + 1)))=xs++fp (x7 t xs.length):=by
   rw [ac9 _ _ (sU _),afw,af0,pQ];rfl
  have kw:(xs++nK t::fp (dg t.l (xs.length + 1))).getD xs.length .any=nK t:=by simp
  generalize xs++nK t::fp (dg t.l (xs.length + 1))=ys at hR Hm Hn g9 kw
  rcases hR with ⟨rfl,_⟩ | ⟨id,cap,bu,rfl,hg,cc,_⟩
  ·simp at Hm
   omega
  have vS:=(aaH.1 hg).1
  obtain ⟨k1,k2,k3,k4,k5⟩:=aJ (aZ t.l (xs.length + 1))
  simp +contextual only [hg,lW,aby,sZ,Nat.reduceEqDiff,↓reduceIte,reduceCtorEq]
  refine ⟨by omega,?_⟩
  refine Cm Hn (by omega) (by decide) (y:=Hl (t,aZ t.l (xs.length + 1))) k1 k4 (by rw [k2];exact k3 _) (by rw [kw,k2];rfl) ?_
  simp +contextual only [sZ,Nat.reduceEqDiff,↓reduceIte,reduceCtorEq]
  rw [g9]
  refine aP (G.length) (by omega) (by rw [ay,if_pos rfl,fJ];simpa using vS) ?_
  rw [ay,if_pos rfl,Ue (by simp)]
  refine ⟨.inr ⟨id,cap,bu,?_,?_,?_,?_⟩,?_,by simpa using hl⟩
  ·rw [← g9];simp
  ·rw [zD vS]
  ·rw [← g9];simpa using cc
  ·rw [pQ];simp [fp]
  ·intro j hj;rw [zC (fun e=>bu (by rw [e];exact hj))];exact hG j hj
end Go.aK
end
