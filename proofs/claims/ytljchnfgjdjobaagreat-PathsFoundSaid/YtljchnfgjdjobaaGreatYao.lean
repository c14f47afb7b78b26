/- Part 15 of 19 of the proof. -/
import Derived.Test.YtljchnfgjdjobaaGreatYan
import Derived.Test.YtljchnfgjdjobaaGreatYag
import Derived.KernelRfl
set_option linter.unusedVariables false
set_option linter.unusedSimpArgs false
set_option linter.defProp false
set_option linter.unusedSectionVars false
section
set_option maxRecDepth 100000
namespace Go.aJ
open Go Go.Proofs Go.eN
structure PA (c:Cx) (H:List aa) (x y:Nat) (i k:Int) (G:List aa):Prop where
 du:Du c G
 gx:G[x]?=some (.cells [bo (c.kd i)])
 gy:G[y]?=some (.cells [bo (c.kd k)])
 g6:G[H.length]?=some (.cells [.int .i64 0,.int .i64 0,.ah,.ah])
 len:G.length=H.length + 3
 up:∀ j,j < H.length→j≠c.e→j≠c.g→G[j]?=H[j]?
theorem PA.call {c:Cx} {H G G':List aa} {x y:Nat} {i k:Int} (hD:Du c H) (w:XY H x y) (h:PA c H x y i k G) (hU:Up c G G') (jC:Du c G'):PA c H x y i k G':=by
 obtain ⟨l1,l2,l3⟩:=hD.lt
 obtain ⟨w1,w2,w3,w4⟩:=w
 exact ⟨jC,by rw [hU.get x (by omega) (by omega),h.gx],by rw [hU.get y (by omega) (by omega),h.gy],by rw [hU.get _ (by omega) (by omega),h.g6],by rw [hU.len,h.len],fun j h1 h2 h3=>by rw [hU.get j h2 h3,h.up j h1 h2 h3]⟩
theorem PA.s6 {c:Cx} {H G:List aa} {x y:Nat} {i k:Int} (w:XY H x y) (h:PA c H x y i k G) (es:List AV):PB c H x y i k es (G++[.cells es]):=by
 obtain ⟨w1,w2,w3,w4⟩:=w
 have hl:=h.len
 exact ⟨h.du.s6 _,by rw [yp (by omega),h.gx],by rw [yp (by omega),h.gy],by rw [yp (by omega),h.g6],by rw [← hl];simp,by simp [hl],fun j h1 h2 h3=>by rw [yp (by omega),h.up j h1 h2 h3]⟩
theorem ZK (r:Int) (φ:AV→Prop):b7 [.int .i64 0,.int .i64 0,.ah,.ah] [(0,1,.int .i64 r)] φ=φ (.agg [.int .i64 r,.int .i64 0,.ah,.ah]):=by
 simp only [b7,gE,eq_iff_iff]
 constructor
 ·rintro ⟨_,_,_,h⟩;exact h
 ·exact fun h=>⟨rfl,rfl,by simp,h⟩
theorem PB.fin {c:Cx} {H G:List aa} {x y:Nat} {i k:Int} {r i':Int} {to:List Int} {l:List PP} (hD:Du c H) (h:PB c H x y i k [.int .i64 r,.int .i64 i',ux to,pk l] G) (hs:Sh c.O (.mk r i' to l) (c.tm i) (c.tm k)) :
 y9 H.length (ep (.mk r i' to l)) (G.set H.length (.cells (ep (.mk r i' to l)).cells)) (Yg c i k H):=by
 obtain ⟨l1,l2,l3⟩:=hD.lt
 refine QU (G:=(G.set H.length (.cells (ep (.mk r i' to l)).cells)).take H.length) rfl (gh _ _) rfl ⟨_,rfl,hs,⟨?_,fun j h1 h2=>?_⟩,?_⟩
 ·have:=h.len;simp;omega
 ·rw [aam]
  split
  ·rename_i hj;rw [yq (by omega),h.up j hj h1 h2]
  ·rename_i hj;rw [aby (by omega)]
 ·exact (h.du.set (by omega) (by omega) (by omega)).take l1 l2 l3
theorem D3 (p:PP) (φ:AV→Prop):cL (some (.cells (ep p).cells)) (some 4) 0 φ=φ (ep p):=by
 obtain ⟨_,h2,_,_,_,_,h7,h8,_⟩:=a9 p
 simp only [cL,List.drop_zero,h2,aak (Nat.le_of_eq h2),h8,h7]
 simp
theorem Rj (p:PP):ai [AV.int .i64 0,.int .i64 0,.ah,.ah] 0 (ep p).cells=(ep p).cells:=by rw [oz];rfl
theorem vq {c:Cx} (hc:c.Ok) {i k:Int} (hi:c.dP i) (hk:c.dP k):He c i k:=by
 have ki:=hc.kids i hi
 have kk:=hc.kids k hk
 exact ⟨fun H hD=>XE hc hi (fun x hx=>kh hc (ki.2 x hx) hk) (fun x hx=>kj hc (ki.2 x hx) hk) hD,fun H hD=>XF hc hi hk (fun y hy=>kj hc hi (kk.2 y hy)) hD,
  fun H hD=>XH hc hi hk (fun y hy=>kj hc hi (kk.2 y hy)) (fun x hx y hy=>kh hc (ki.2 x hx) (kk.2 y hy)) (fun x hx y hy=>kj hc (ki.2 x hx) (kk.2 y hy)) hD,
  fun H hD=>XN hc hi hk (fun x hx y hy=>kh hc (ki.2 x hx) (kk.2 y hy)) (fun x hx y hy=>kj hc (ki.2 x hx) (kk.2 y hy)) hD⟩
theorem Yh {c:Cx} (hc:c.Ok) {i k:Int} (hi:c.dP i) (hk:c.dP k) (hR:R c.O (c.tm i) (c.tm k)) (hr:g9 c i k 1) (jO:∀ m,m < 1→¬ g9 c i k m) (hp:∀ x∈c.kd i,R c.O (c.tm x) (c.tm k)→pn c x k):pn c i k:=by
 intro H hD
 refine D0.2.calls rfl ?_
 simp only [D0,aK]
 have k2:∀ l,(bo l).ae=bo l:=fun l=>(aG l).2.1
 have ki:=hc.kids i hi
 have kk:=hc.kids k hk
 have l1:=hc.kl i hi
 have l2:=hc.kl k hk
 obtain ⟨a1,a2,a3,a4,a5⟩:=aG (c.kd i)
 obtain ⟨b1,b2,b3,b4,b5⟩:=aG (c.kd k)
 have ii:IL (bo (c.kd i)) (c.kd i):=.inl rfl
 have ik:IL (bo (c.kd k)) (c.kd k):=.inl rfl
 have ei:(c.nd.getD i.toNat default).snd=c.kd i:=rfl
 have ek:(c.nd.getD k.toNat default).snd=c.kd k:=rfl
 obtain ⟨m1,m2,m3⟩:=hD.lt
 have ed:∀ X:List aa,(H++X)[c.d]?=H[c.d]?:=fun X=>yp m1
 have spv:∀ x:AV,ai [AV.ah] 0 [x]=[x]:=fun x=>rfl
 have spq:ai [AV.int .i64 0,.int .i64 0,.ah,.ah] 0 [AV.int .i64 0,.int .i64 0,.ah,.ah]=[AV.int .i64 0,.int .i64 0,.ah,.ah]:=rfl
 simp +contextual only [sZ,Nat.reduceEqDiff,Nat.reduceAdd,↓reduceIte,reduceCtorEq]
 refine lN (K1:=fun e G=>get e 1=.int .i64 i∧get e 3=.aj (.ptr c.d 0)∧get e 5=.aj (.int .i64 k)∧get e 6=.ptr H.length 0∧∃ x y,get e 7=.ptr x 0∧get e 8=.ptr y 0∧XY H x y∧PA c H x y i k G) ?_ ?_
 ·have P0:aa:=.cells [.int .i64 0,.int .i64 0,.ah,.ah]
  have A:∃ x y,AV.ptr (H.length + 1) 0=.ptr x 0∧AV.ptr (H.length + 2) 0=.ptr y 0∧XY H x y∧PA c H x y i k (H++[.cells [.int .i64 0,.int .i64 0,.ah,.ah],.cells [bo (c.kd i)],.cells [bo (c.kd k)]]):=
   ⟨_,_,rfl,rfl,⟨by omega,by omega,by omega,by omega⟩,⟨hD.s6 _,by simp,by simp,by simp,by simp,fun j hj _ _=>yp hj⟩⟩
  have B:∃ x y,AV.ptr (H.length + 2) 0=.ptr x 0∧AV.ptr (H.length + 1) 0=.ptr y 0∧XY H x y∧PA c H x y i k (H++[.cells [.int .i64 0,.int .i64 0,.ah,.ah],.cells [bo (c.kd k)],.cells [bo (c.kd i)]]):=
   ⟨_,_,rfl,rfl,⟨by omega,by omega,by omega,by omega⟩,⟨hD.s6 _,by simp,by simp,by simp,by simp,fun j hj _ _=>yp hj⟩⟩
  simp +contextual only [ed,hD.d,mP,En,cG,bY,k2,ei,ek,a1,a3,a4,a5,b1,b3,b4,b5,List.map_cons,List.map_nil,spv,List.all_cons,List.all_nil,acQ,bE,cN,sZ,Nat.reduceEqDiff,Nat.reduceAdd,Nat.reduceLT,↓reduceIte]
  refine ⟨hi,?_⟩
  repeat' apply rZ
  all_goals first | exact hk.1 | exact hk.2 | exact A | exact B
 ·rintro e G ⟨e1,e3,e5,e6,x,y,e7,e8,w,Bx⟩
  simp +contextual only [e1,e3,e5,e6,e7,e8,sZ,Nat.reduceEqDiff,↓reduceIte]
  refine aB 0 (fun m (G:List aa)=>PA c H x y i k G)
   (fun m G=>[(1,.int .i64 i),(3,.aj (.ptr c.d 0)),(5,.aj (.int .i64 k)),(6,.ptr H.length 0),(7,.ptr x 0),(8,.ptr y 0),(9,.int .i64 ((m + 1:Nat):Int))]) (fun m G=>G) G ⟨Bx,aD _ _ _⟩ fun m G hm Bx=>?_
  have hf:ee.cells[m + 1]?=some (.fn (.func (182 + (m + 1))) [] []):=by
   have:m=0∨m=1∨m=2∨m=3:=by omega
   rcases this with rfl | rfl | rfl | rfl <;> rfl
  have en:=Vf (m + 1) _ hf (by omega)
  simp +contextual only [sZ]
  refine aL LG ?_
  simp +contextual only [mG,en _ rfl,sZ,Nat.reduceEqDiff,Nat.reduceAdd,↓reduceIte,reduceCtorEq]
  refine ag ((vq hc hi hk).at (n:=m + 1) (by omega) (by omega) Bx.du) ?_
  rintro r G1 ⟨z,rfl,hz,hU,nz⟩
  have qn:=Bx.call hD w hU nz
  by_cases Q0:m=0
  rotate_left
  ·have:z=false:=by
    cases z with
    | false=>rfl
    | true=>exact absurd (hz.1 rfl) (jO (m + 1) (by omega))
   subst this
   simp +contextual only [Bool.not_false,sZ,Nat.reduceEqDiff,↓reduceIte]
   exact ⟨m + 1,G1,⟨by omega,qn⟩,by omega,aE (by rw [ay (m + 1) (by omega)]) rfl⟩
  subst Q0
  have:z=true:=hz.2 hr
  subst this
  have Er:=qn.len
  have k7:=fun es=>qn.s6 w es
  have Ut:=fun es=>(k7 es).gp
  have PF:=fun es=>(k7 es).gx
  have Yi:=fun es=>(k7 es).gy
  have bP:∀ (o o':aa),(G1++[o]).set (H.length + 3) o'=G1++[o']:=fun o o'=>by rw [← Er];simp
  have ec:((1:Nat):Int)=1:=rfl
  have zf:List.map AV.ae [AV.int .i64 (1:Int),.int .i64 0,.ah,.ah]=[.int .i64 (1:Int),.int .i64 0,.ah,.ah]:=rfl
  have zf0:List.map AV.ae [AV.int .i64 0,.int .i64 0,.ah,.ah]=[.int .i64 0,.int .i64 0,.ah,.ah]:=rfl
  have e86:∀ a b:Int,decide (a=b)=decide (a=b):=fun _ _=>rfl
  simp +contextual only [k2,decide_true,Bool.not_true,Bool.not_true,ZK,Er,Ut,bP,ec,zf,zf0,Jo,PF,sZ,Nat.reduceEqDiff,Nat.reduceAdd,Nat.reduceLT,↓reduceIte,reduceCtorEq]
  have mT:=k7 [.int .i64 1,.int .i64 0,.ah,.ah]
  generalize G1++[aa.cells [AV.int .i64 1,.int .i64 0,.ah,.ah]]=G2 at mT ⊢
  have fL:∃ z∈c.kd i,E c.O (c.tm z) (c.tm k)∨R c.O (c.tm z) (c.tm k):=by
   rcases hr with h | h | h | h
   ·exact h.2
   all_goals (exact absurd h.1 (by decide))
  refine ag (LC (SD.Bf c G2) ii (by omega) 147 [] [.aj (.ptr c.d 0),.aj (.int .i64 k)] rfl rfl (Q:=fun z=>E c.O (c.tm z) (c.tm k)∨R c.O (c.tm z) (c.tm k))
   (fun z hz G hG=>(abL (kh hc (ki.2 z hz) hk) (kj hc (ki.2 z hz) hk) hG.1).mono fun r H' hr=>hr.sb hG) ⟨mT.du,Up.refl c _⟩) ?_
  rintro r G3 ⟨hG3,uL⟩
  rcases uL with ⟨_,uL⟩ | ⟨q,rfl,hq,hQ,_⟩
  ·obtain ⟨z,hz,h⟩:=fL
   exact absurd h (uL z hz)
  have Bw:=mT.call hD w hG3.2 hG3.1
  have px:=fun es=>Bw.set (es':=es) hD w
  have gp3:=Bw.gp
  have gps:=fun es=>(px es).gp
  have gxs:=fun es=>(px es).gx
  have g6s:=fun es=>(px es).g6
  have jg:(c.kd i).getD q 0∈c.kd i:=aO hq
  have un1:List.map AV.ae [AV.int .i64 (q:Int)]=[.int .i64 (q:Int)]:=rfl
  simp +contextual only [k2,ii.lens,ii.idx,gp3,Us,un1,gps,gxs,aaa,sZ,Nat.reduceEqDiff,Nat.reduceAdd,Nat.reduceLT,Nat.reduceLeDiff,↓reduceIte,reduceCtorEq]
  refine ⟨by omega,?_⟩
  refine ag (kh hc (ki.2 _ jg) hk _ (px _).du) ?_
  rintro r G4 ⟨v,rfl,hv,Vc,Vd⟩
  have xn:=(px _).call hD w Vc Vd
  have gp4:=xn.gp
  have gx4:=xn.gx
  have g64:=xn.g6
  have cod:∀ l:List PP,((c.tm i).l.getD q default)=c.tm ((c.kd i).getD q 0):=fun _=>by rw [← ki.1,cr hq]
  have klen:(c.tm i).l.length=(c.kd i).length:=by rw [← ki.1];simp
  have ki2:(c.tm i).k=2:=by
   have:=(th hc hi hk).1
   have hh:=(oh.1 (show R c.O (c.tm i) (c.tm k) from hR)).1
   exact hh
  cases v with
  | true=>
    have hs:Sh c.O (.mk 1 q [] []) (c.tm i) (c.tm k):=by
     rw [Sh1 rfl ki2]
     refine ⟨rfl,⟨by show (0:Int)≤q;omega,by show (q:Int) < _;omega⟩,.inl ⟨rfl,?_⟩⟩
     show E c.O ((c.tm i).l.getD (q:Int).toNat default) (c.tm k)
     rw [aaa,cod []];exact hv.1 rfl
    have e4:(AV.int .i64 (q:Int))=AV.int .i64 (q:Int):=rfl
    have lp:=Rh 1 q [] []
    obtain ⟨q1,q2,q3,q4,q5,q6,q7,q8,q9⟩:=a9 (.mk 1 q [] [])
    have lp2:=D3 (.mk 1 q [] [])
    have LZ:(G4.set H.length (.cells (ep (.mk 1 q [] [])).cells))[H.length]?=some (.cells (ep (.mk 1 q [] [])).cells):=by rw [Rx (aM g64)]
    change ∀ φ,cL (some (.cells [.int .i64 1,.int .i64 (q:Int),.ah,.ah])) (some 4) 0 φ=φ (ep (.mk 1 q [] [])) at lp
    simp +contextual only [Bool.not_true,gp4,lp,g64,q1,q2,q3,q9,Rj,LZ,lp2,sZ,Nat.reduceEqDiff,Nat.reduceAdd,↓reduceIte,reduceCtorEq]
    refine ⟨by first | exact cB (gh _ _) | omega,xn.fin hD hs⟩
  | false=>
    have hRx:R c.O (c.tm ((c.kd i).getD q 0)) (c.tm k):=hQ.resolve_left fun h=>absurd (hv.2 h) (by simp)
    simp +contextual only [k2,ii.lens,ii.idx,Bool.not_false,gp4,gx4,aaa,sZ,Nat.reduceEqDiff,Nat.reduceAdd,Nat.reduceLT,↓reduceIte,reduceCtorEq]
    refine ⟨by omega,ag (hp _ jg hRx _ xn.du) ?_⟩
    rintro r G5 ⟨u,rfl,hu,Yj,Yk⟩
    have L3:=xn.call hD w Yj Yk
    have gp5:=L3.gp
    have F0:=fun es=>L3.set (es':=es) hD w
    have gp6:=fun es=>(F0 es).gp
    have g66:=fun es=>(F0 es).g6
    have hs:Sh c.O (.mk 1 q [] [u]) (c.tm i) (c.tm k):=by
     rw [Sh1 rfl ki2]
     refine ⟨rfl,⟨by show (0:Int)≤q;omega,by show (q:Int) < _;omega⟩,.inr ⟨u,rfl,?_⟩⟩
     show Sh c.O u ((c.tm i).l.getD (q:Int).toNat default) (c.tm k)
     rw [aaa,cod []];exact hu
    have lp:=Rh 1 q [] [u]
    change ∀ φ,cL (some (.cells [.int .i64 1,.int .i64 (q:Int),.ah,.al 4 [ep u]])) (some 4) 0 φ=φ (ep (.mk 1 q [] [u])) at lp
    obtain ⟨q1,q2,q3,q4,q5,q6,q7,q8,q9⟩:=a9 (.mk 1 q [] [u])
    obtain ⟨u1,u2,u3,u4,u5,u6,u7,u8,u9⟩:=a9 u
    have lp2:=D3 (.mk 1 q [] [u])
    have LZ:=fun es=>Rx (a:=aa.cells (ep (.mk 1 q [] [u])).cells) (aM (g66 es))
    simp +contextual only [gp5,gp6,g66,lp,q1,q2,q3,q9,Rj,LZ,lp2,u1,u2,u6,jI,s3,sZ,Nat.reduceEqDiff,Nat.reduceAdd,Nat.reduceLT,↓reduceIte,reduceCtorEq]
    refine ⟨by first | exact cB (gh _ _) | omega,?_⟩
    exact PB.fin (to:=[]) (l:=[u]) hD (F0 _) hs
end Go.aJ
end
section
set_option maxRecDepth 100000
namespace Go.aJ
open Go Go.Proofs Go.eN
theorem Yl {c:Cx} (hc:c.Ok) {i k:Int} (hi:c.dP i) (hk:c.dP k) (hR:R c.O (c.tm i) (c.tm k)) (hr:g9 c i k 2) (jO:∀ m,m < 2→¬ g9 c i k m) (hp:∀ y∈c.kd k,R c.O (c.tm i) (c.tm y)→pn c i y):pn c i k:=by
 intro H hD
 refine D0.2.calls rfl ?_
 simp only [D0,aK]
 have k2:∀ l,(bo l).ae=bo l:=fun l=>(aG l).2.1
 have ki:=hc.kids i hi
 have kk:=hc.kids k hk
 have l1:=hc.kl i hi
 have l2:=hc.kl k hk
 obtain ⟨a1,a2,a3,a4,a5⟩:=aG (c.kd i)
 obtain ⟨b1,b2,b3,b4,b5⟩:=aG (c.kd k)
 have ii:IL (bo (c.kd i)) (c.kd i):=.inl rfl
 have ik:IL (bo (c.kd k)) (c.kd k):=.inl rfl
 have ei:(c.nd.getD i.toNat default).snd=c.kd i:=rfl
 have ek:(c.nd.getD k.toNat default).snd=c.kd k:=rfl
 obtain ⟨m1,m2,m3⟩:=hD.lt
 have ed:∀ X:List aa,(H++X)[c.d]?=H[c.d]?:=fun X=>yp m1
 have spv:∀ x:AV,ai [AV.ah] 0 [x]=[x]:=fun x=>rfl
 have spq:ai [AV.int .i64 0,.int .i64 0,.ah,.ah] 0 [AV.int .i64 0,.int .i64 0,.ah,.ah]=[AV.int .i64 0,.int .i64 0,.ah,.ah]:=rfl
 simp +contextual only [sZ,Nat.reduceEqDiff,Nat.reduceAdd,↓reduceIte,reduceCtorEq]
 refine lN (K1:=fun e G=>get e 1=.int .i64 i∧get e 3=.aj (.ptr c.d 0)∧get e 5=.aj (.int .i64 k)∧get e 6=.ptr H.length 0∧∃ x y,get e 7=.ptr x 0∧get e 8=.ptr y 0∧XY H x y∧PA c H x y i k G) ?_ ?_
 ·have P0:aa:=.cells [.int .i64 0,.int .i64 0,.ah,.ah]
  have A:∃ x y,AV.ptr (H.length + 1) 0=.ptr x 0∧AV.ptr (H.length + 2) 0=.ptr y 0∧XY H x y∧PA c H x y i k (H++[.cells [.int .i64 0,.int .i64 0,.ah,.ah],.cells [bo (c.kd i)],.cells [bo (c.kd k)]]):=
   ⟨_,_,rfl,rfl,⟨by omega,by omega,by omega,by omega⟩,⟨hD.s6 _,by simp,by simp,by simp,by simp,fun j hj _ _=>yp hj⟩⟩
  have B:∃ x y,AV.ptr (H.length + 2) 0=.ptr x 0∧AV.ptr (H.length + 1) 0=.ptr y 0∧XY H x y∧PA c H x y i k (H++[.cells [.int .i64 0,.int .i64 0,.ah,.ah],.cells [bo (c.kd k)],.cells [bo (c.kd i)]]):=
   ⟨_,_,rfl,rfl,⟨by omega,by omega,by omega,by omega⟩,⟨hD.s6 _,by simp,by simp,by simp,by simp,fun j hj _ _=>yp hj⟩⟩
  simp +contextual only [ed,hD.d,mP,En,cG,bY,k2,ei,ek,a1,a3,a4,a5,b1,b3,b4,b5,List.map_cons,List.map_nil,spv,List.all_cons,List.all_nil,acQ,bE,cN,sZ,Nat.reduceEqDiff,Nat.reduceAdd,Nat.reduceLT,↓reduceIte]
  refine ⟨hi,?_⟩
  repeat' apply rZ
  all_goals first | exact hk.1 | exact hk.2 | exact A | exact B
 ·rintro e G ⟨e1,e3,e5,e6,x,y,e7,e8,w,Bx⟩
  simp +contextual only [e1,e3,e5,e6,e7,e8,sZ,Nat.reduceEqDiff,↓reduceIte]
  refine aB 1 (fun m (G:List aa)=>PA c H x y i k G)
   (fun m G=>[(1,.int .i64 i),(3,.aj (.ptr c.d 0)),(5,.aj (.int .i64 k)),(6,.ptr H.length 0),(7,.ptr x 0),(8,.ptr y 0),(9,.int .i64 ((m + 1:Nat):Int))]) (fun m G=>G) G ⟨Bx,aD _ _ _⟩ fun m G hm Bx=>?_
  have hf:ee.cells[m + 1]?=some (.fn (.func (182 + (m + 1))) [] []):=by
   have:m=0∨m=1∨m=2∨m=3:=by omega
   rcases this with rfl | rfl | rfl | rfl <;> rfl
  have en:=Vf (m + 1) _ hf (by omega)
  simp +contextual only [sZ]
  refine aL LG ?_
  simp +contextual only [mG,en _ rfl,sZ,Nat.reduceEqDiff,Nat.reduceAdd,↓reduceIte,reduceCtorEq]
  refine ag ((vq hc hi hk).at (n:=m + 1) (by omega) (by omega) Bx.du) ?_
  rintro r G1 ⟨z,rfl,hz,hU,nz⟩
  have qn:=Bx.call hD w hU nz
  by_cases Q0:m=1
  rotate_left
  ·have:z=false:=by
    cases z with
    | false=>rfl
    | true=>exact absurd (hz.1 rfl) (jO (m + 1) (by omega))
   subst this
   simp +contextual only [Bool.not_false,sZ,Nat.reduceEqDiff,↓reduceIte]
   exact ⟨m + 1,G1,⟨by omega,qn⟩,by omega,aE (by rw [ay (m + 1) (by omega)]) rfl⟩
  subst Q0
  have:z=true:=hz.2 hr
  subst this
  have Er:=qn.len
  have k7:=fun es=>qn.s6 w es
  have Ut:=fun es=>(k7 es).gp
  have PF:=fun es=>(k7 es).gx
  have Yi:=fun es=>(k7 es).gy
  have bP:∀ (o o':aa),(G1++[o]).set (H.length + 3) o'=G1++[o']:=fun o o'=>by rw [← Er];simp
  have ec:((2:Nat):Int)=2:=rfl
  have zf:List.map AV.ae [AV.int .i64 (2:Int),.int .i64 0,.ah,.ah]=[.int .i64 (2:Int),.int .i64 0,.ah,.ah]:=rfl
  have zf0:List.map AV.ae [AV.int .i64 0,.int .i64 0,.ah,.ah]=[.int .i64 0,.int .i64 0,.ah,.ah]:=rfl
  have e86:∀ a b:Int,decide (a=b)=decide (a=b):=fun _ _=>rfl
  simp +contextual only [k2,ik.aN,ik.len (by omega),decide_false,Bool.not_true,Bool.not_true,ZK,Er,Ut,bP,ec,zf,zf0,Jo,Yi,sZ,Nat.reduceEqDiff,Nat.reduceAdd,Nat.reduceLT,↓reduceIte,Int.reduceEq]
  have mT:=k7 [.int .i64 2,.int .i64 0,.ah,.ah]
  generalize G1++[aa.cells [AV.int .i64 2,.int .i64 0,.ah,.ah]]=G2 at mT ⊢
  have ki2:(c.tm i).k=2:=(oh.1 hR).1
  have uN:tg c i k:=by
   rcases hr with h | h | h | h
   ·exact absurd h.1 (by decide)
   ·exact h.2
   all_goals (exact absurd h.1 (by decide))
  obtain ⟨FP,aS,hall0⟩:=uN
  have kk2:(c.tm k).k=2:=of_decide_eq_true FP
  have Uu:∀ qs,lR (Sh c.O) qs (c.tm i) ((c.kd k).map c.tm)→Sh c.O (.mk 2 0 [] qs) (c.tm i) (c.tm k):=by
   intro qs hq
   rw [Sh2 rfl ki2]
   rw [kk.1] at hq
   refine ⟨rfl,rfl,kk2,?_,hq⟩
   rw [qh,if_pos kk2,qh,if_pos ki2] at aS;exact aS
  refine lG (FZ hD w (l0:=[]) (by simp) ik l2 (fun z hz=>hp z hz (hall0 z hz)) mT) ?_
  rintro e1 e G6 ⟨rfl,f6,f10,qs,iQ,oA⟩
  replace oA:PB c H x y i k [.int .i64 2,.int .i64 0,.ah,pk qs] G6:=oA
  have gp6:=oA.gp
  have g66:=oA.g6
  have lp:=Rh 2 0 [] qs
  have tv0:ux []=AV.ah:=rfl
  rw [tv0] at lp
  have hs:Sh c.O (.mk 2 0 [] qs) (c.tm i) (c.tm k):=Uu qs iQ
  obtain ⟨q1,q2,q3,q4,q5,q6,q7,q8,q9⟩:=a9 (.mk 2 0 [] qs)
  have lp2:=D3 (.mk 2 0 [] qs)
  have LZ:=Rx (a:=aa.cells (ep (.mk 2 0 [] qs)).cells) (aM g66)
  have PZ:ak (H.length + 1) (ep (.mk 2 0 [] qs)).cells=true:=cB (gh _ _)
  have lB:=PB.fin (to:=[]) (l:=qs) hD oA hs
  simp +contextual only [f6,f10,gp6,g66,lp,q1,q2,q3,q9,Rj,LZ,lp2,PZ,sZ,Nat.reduceEqDiff,Nat.reduceAdd,↓reduceIte,reduceCtorEq]
  first | exact lB | exact ⟨by omega,lB⟩ | exact ⟨trivial,lB⟩
end Go.aJ
end
section
set_option maxRecDepth 100000
namespace Go.aJ
open Go Go.Proofs Go.eN
theorem Ym {c:Cx} (hc:c.Ok) {i k:Int} (hi:c.dP i) (hk:c.dP k) (hR:R c.O (c.tm i) (c.tm k)) (hr:g9 c i k 3) (jO:∀ m,m < 3→¬ g9 c i k m) (hp:∀ y∈c.kd k,R c.O (c.tm i) (c.tm y)→pn c i y) (hp2:∀ x∈c.kd i,∀ y∈c.kd k,R c.O (c.tm x) (c.tm y)→pn c x y):pn c i k:=by
 intro H hD
 refine D0.2.calls rfl ?_
 simp only [D0,aK]
 have k2:∀ l,(bo l).ae=bo l:=fun l=>(aG l).2.1
 have ki:=hc.kids i hi
 have kk:=hc.kids k hk
 have l1:=hc.kl i hi
 have l2:=hc.kl k hk
 obtain ⟨a1,a2,a3,a4,a5⟩:=aG (c.kd i)
 obtain ⟨b1,b2,b3,b4,b5⟩:=aG (c.kd k)
 have ii:IL (bo (c.kd i)) (c.kd i):=.inl rfl
 have ik:IL (bo (c.kd k)) (c.kd k):=.inl rfl
 have ei:(c.nd.getD i.toNat default).snd=c.kd i:=rfl
 have ek:(c.nd.getD k.toNat default).snd=c.kd k:=rfl
 obtain ⟨m1,m2,m3⟩:=hD.lt
 have ed:∀ X:List aa,(H++X)[c.d]?=H[c.d]?:=fun X=>yp m1
 have spv:∀ x:AV,ai [AV.ah] 0 [x]=[x]:=fun x=>rfl
 have spq:ai [AV.int .i64 0,.int .i64 0,.ah,.ah] 0 [AV.int .i64 0,.int .i64 0,.ah,.ah]=[AV.int .i64 0,.int .i64 0,.ah,.ah]:=rfl
 simp +contextual only [sZ,Nat.reduceEqDiff,Nat.reduceAdd,↓reduceIte,reduceCtorEq]
 refine lN (K1:=fun e G=>get e 1=.int .i64 i∧get e 3=.aj (.ptr c.d 0)∧get e 5=.aj (.int .i64 k)∧get e 6=.ptr H.length 0∧∃ x y,get e 7=.ptr x 0∧get e 8=.ptr y 0∧XY H x y∧PA c H x y i k G) ?_ ?_
 ·have P0:aa:=.cells [.int .i64 0,.int .i64 0,.ah,.ah]
  have A:∃ x y,AV.ptr (H.length + 1) 0=.ptr x 0∧AV.ptr (H.length + 2) 0=.ptr y 0∧XY H x y∧PA c H x y i k (H++[.cells [.int .i64 0,.int .i64 0,.ah,.ah],.cells [bo (c.kd i)],.cells [bo (c.kd k)]]):=
   ⟨_,_,rfl,rfl,⟨by omega,by omega,by omega,by omega⟩,⟨hD.s6 _,by simp,by simp,by simp,by simp,fun j hj _ _=>yp hj⟩⟩
  have B:∃ x y,AV.ptr (H.length + 2) 0=.ptr x 0∧AV.ptr (H.length + 1) 0=.ptr y 0∧XY H x y∧PA c H x y i k (H++[.cells [.int .i64 0,.int .i64 0,.ah,.ah],.cells [bo (c.kd k)],.cells [bo (c.kd i)]]):=
   ⟨_,_,rfl,rfl,⟨by omega,by omega,by omega,by omega⟩,⟨hD.s6 _,by simp,by simp,by simp,by simp,fun j hj _ _=>yp hj⟩⟩
  simp +contextual only [ed,hD.d,mP,En,cG,bY,k2,ei,ek,a1,a3,a4,a5,b1,b3,b4,b5,List.map_cons,List.map_nil,spv,List.all_cons,List.all_nil,acQ,bE,cN,sZ,Nat.reduceEqDiff,Nat.reduceAdd,Nat.reduceLT,↓reduceIte]
  refine ⟨hi,?_⟩
  repeat' apply rZ
  all_goals first | exact hk.1 | exact hk.2 | exact A | exact B
 ·rintro e G ⟨e1,e3,e5,e6,x,y,e7,e8,w,Bx⟩
  simp +contextual only [e1,e3,e5,e6,e7,e8,sZ,Nat.reduceEqDiff,↓reduceIte]
  refine aB 2 (fun m (G:List aa)=>PA c H x y i k G)
   (fun m G=>[(1,.int .i64 i),(3,.aj (.ptr c.d 0)),(5,.aj (.int .i64 k)),(6,.ptr H.length 0),(7,.ptr x 0),(8,.ptr y 0),(9,.int .i64 ((m + 1:Nat):Int))]) (fun m G=>G) G ⟨Bx,aD _ _ _⟩ fun m G hm Bx=>?_
  have hf:ee.cells[m + 1]?=some (.fn (.func (182 + (m + 1))) [] []):=by
   have:m=0∨m=1∨m=2∨m=3:=by omega
   rcases this with rfl | rfl | rfl | rfl <;> rfl
  have en:=Vf (m + 1) _ hf (by omega)
  simp +contextual only [sZ]
  refine aL LG ?_
  simp +contextual only [mG,en _ rfl,sZ,Nat.reduceEqDiff,Nat.reduceAdd,↓reduceIte,reduceCtorEq]
  refine ag ((vq hc hi hk).at (n:=m + 1) (by omega) (by omega) Bx.du) ?_
  rintro r G1 ⟨z,rfl,hz,hU,nz⟩
  have qn:=Bx.call hD w hU nz
  by_cases Q0:m=2
  rotate_left
  ·have:z=false:=by
    cases z with
    | false=>rfl
    | true=>exact absurd (hz.1 rfl) (jO (m + 1) (by omega))
   subst this
   simp +contextual only [Bool.not_false,sZ,Nat.reduceEqDiff,↓reduceIte]
   exact ⟨m + 1,G1,⟨by omega,qn⟩,by omega,aE (by rw [ay (m + 1) (by omega)]) rfl⟩
  subst Q0
  have:z=true:=hz.2 hr
  subst this
  have Er:=qn.len
  have k7:=fun es=>qn.s6 w es
  have Ut:=fun es=>(k7 es).gp
  have PF:=fun es=>(k7 es).gx
  have Yi:=fun es=>(k7 es).gy
  have bP:∀ (o o':aa),(G1++[o]).set (H.length + 3) o'=G1++[o']:=fun o o'=>by rw [← Er];simp
  have ec:((3:Nat):Int)=3:=rfl
  have zf:List.map AV.ae [AV.int .i64 (3:Int),.int .i64 0,.ah,.ah]=[.int .i64 (3:Int),.int .i64 0,.ah,.ah]:=rfl
  have zf0:List.map AV.ae [AV.int .i64 0,.int .i64 0,.ah,.ah]=[.int .i64 0,.int .i64 0,.ah,.ah]:=rfl
  have e86:∀ a b:Int,decide (a=b)=decide (a=b):=fun _ _=>rfl
  simp +contextual only [decide_true,decide_false,Bool.not_true,Bool.not_true,ZK,Er,Ut,bP,ec,zf,zf0,Jo,sZ,Nat.reduceEqDiff,Nat.reduceAdd,↓reduceIte,Int.reduceEq]
  have mT:=k7 [.int .i64 3,.int .i64 0,.ah,.ah]
  generalize G1++[aa.cells [AV.int .i64 3,.int .i64 0,.ah,.ah]]=G2 at mT ⊢
  have ki2:(c.tm i).k=2:=(oh.1 hR).1
  have hlx:Bg c i k:=by
   rcases hr with h | h | h | h
   ·exact absurd h.1 (by decide)
   ·exact absurd h.1 (by decide)
   ·exact h.2
   ·exact absurd h.1 (by decide)
  obtain ⟨LW,Bv,hall0,n0,abP,hn1,Zz⟩:=hlx
  have L4:=kF.1 LW
  have kk2:(c.tm k).k=2:=L4.2.1
  have osi:dE c i=c.O.sp (c.O.pl (c.tm i).n):=by rw [dE,if_pos ki2]
  have hx:side (c.O.sp (c.O.pl (c.tm i).n)) (c.tm i).l=(bH (dE c i) (c.kd i)).map c.tm:=by rw [← osi,← ki.1,jH]
  have hy:side (c.O.sp (c.O.pl (c.tm i).n)) (c.tm k).l=(bH (dE c i) (c.kd k)).map c.tm:=by rw [← osi,← kk.1,jH]
  have lx:(bH (dE c i) (c.kd i)).length=(c.kd i).length:=jF
  have ly:(bH (dE c i) (c.kd k)).length=(c.kd k).length:=jF
  have nx:∀ z∈bH (dE c i) (c.kd i),z∈c.kd i:=fun z hz=>o9.1 hz
  have ny:∀ z∈bH (dE c i) (c.kd k),z∈c.kd k:=fun z hz=>o9.1 hz
  have hS:∀ (n:Nat) (l:List PP),Sh c.O (.mk 3 n [] l) (c.tm i) (c.tm k)↔DR (E c.O) (Sh c.O) n l (c.tm i) ((bH (dE c i) (c.kd i)).map c.tm) ((bH (dE c i) (c.kd k)).map c.tm) (c.tm k).l:=by
   intro n l
   rw [Sh3 rfl ki2,hx,hy]
   rw [osi] at Bv
   exact ⟨fun h=>h.2.2.2.2,fun h=>⟨rfl,kk2,L4.2.2,Bv,h⟩⟩
  refine ag (qi hc hi mT.du) ?_
  rintro r G3 ⟨rfl,rfl⟩
  have gx0:=mT.gx
  have gy0:=mT.gy
  simp +contextual only [k2,dF,fI,fJ,fK,gx0,sZ,Nat.reduceEqDiff,Nat.reduceAdd,Nat.reduceLT,↓reduceIte]
  refine aL (I5 (c.kd i) (dE c i) (by omega)) ?_
  simp +contextual only [k2,gy0,sZ,Nat.reduceEqDiff,Nat.reduceAdd,Nat.reduceLT,↓reduceIte]
  refine aL (I5 (c.kd k) (dE c i) (by omega)) ?_
  generalize bH (dE c i) (c.kd i)=xs at *
  generalize bH (dE c i) (c.kd k)=ys at *
  have ix:IL (.al 0 (ints xs)) xs:=.inr rfl
  have iy:IL (.al 0 (ints ys)) ys:=.inr rfl
  simp +contextual only [sZ,Nat.reduceEqDiff,Nat.reduceAdd,↓reduceIte,reduceCtorEq]
  refine ag (XG ix iy (by omega) (by omega) (fun z hz z' Eo=>kh hc (ki.2 z (nx z hz)) (kk.2 z' (ny z' Eo))) mT.du) ?_
  rintro r G4 ⟨n,rfl,hn,Vc,Vd⟩
  have en0:=hn.T4 abP
  subst en0
  have xn:=mT.call hD w Vc Vd
  have gp4:=xn.gp
  have px:=fun es=>xn.set (es':=es) hD w
  have gps:=fun es=>(px es).gp
  have gxs:=fun es=>(px es).gx
  have gys:=fun es=>(px es).gy
  have un1:List.map AV.ae [AV.int .i64 (n:Int)]=[.int .i64 (n:Int)]:=rfl
  have hLS:∀ l,DR (E c.O) (Sh c.O) n l (c.tm i) (xs.map c.tm) (ys.map c.tm) (c.tm k).l↔(if (n:Int)=ys.length then lR (Sh c.O) l (c.tm i) ((c.kd k).map c.tm) else ∃ q r,l=q::r∧Sh c.O q (c.tm (xs.getD n 0)) (c.tm (ys.getD n 0))∧lR (Sh c.O) r (c.tm i) ((c.kd k).map c.tm)):=by
   intro l
   rw [Yd (kd:=c.kd k) kk.1]
   have h1:(0:Int)≤n∧(n:Int) < xs.length∧(n:Int)≤ys.length:=⟨by omega,by omega,by have:=hn.lb;omega⟩
   have h2:∀ j,j < (n:Int).toNat→E c.O (c.tm (xs.getD j 0)) (c.tm (ys.getD j 0)):=fun j hj=>hn.eq j (by omega)
   rw [aaa]
   exact ⟨fun h=>h.2.2,fun h=>⟨h1,h2,h⟩⟩
  by_cases hny:n < ys.length
  ·have n4:((n:Int) < ys.length)=True:=eq_true (by omega)
   simp +contextual only [decide_true,gp4,Us,un1,gps,iy.aN,iy.len (by omega),n4,ix.idx,iy.idx,ix.lens,iy.lens,aaa,d3,s3,adE,sZ,Nat.reduceEqDiff,Nat.reduceAdd,Nat.reduceLT,Nat.reduceLeDiff,↓reduceIte,reduceCtorEq]
   have mx:=nx _ (aO (l:=xs) (i:=n) (by omega))
   have my:=ny _ (aO hny)
   have EU:pn c (xs.getD n 0) (ys.getD n 0):=hp2 _ mx _ my (Zz.resolve_left (by omega))
   have Uu:∀ u qs,Sh c.O u (c.tm (xs.getD n 0)) (c.tm (ys.getD n 0))→lR (Sh c.O) qs (c.tm i) ((c.kd k).map c.tm)→Sh c.O (.mk 3 n [] (u::qs)) (c.tm i) (c.tm k):=by
    intro u qs hu hq
    rw [hS,hLS,if_neg (by omega)];exact ⟨u,qs,rfl,hu,hq⟩
   repeat' apply rZ
   all_goals first | omega | skip
   all_goals
    refine ag (EU _ (px _).du) ?_
    rintro r G5 ⟨u,rfl,hu,Yj,Yk⟩
    replace Uu:=fun qs=>Uu u qs hu
    have L3:=(px _).call hD w Yj Yk
    have gp5:=L3.gp
    have F0:=fun es=>L3.set (es':=es) hD w
    have gps6:=fun es=>(F0 es).gp
    have gys6:=fun es=>(F0 es).gy
    obtain ⟨u1,u2,u3,u4,u5,u6,u7,u8,u9⟩:=a9 u
    have ap1:∀ ψ,bw 4 64 .ah (.al 0 [ep u]) ψ=ψ (eh ([]++[u])):=fun ψ=>D1 [] u (by simp) 0 ψ
    have ea:eh ([]++[u])=[ep u]:=rfl
    rw [ea] at ap1
    simp +contextual only [k2,ik.aN,ik.len (by omega),u1,u2,u6,jI,ap1,gp5,gps6,gys6,d3,s3,adE,sZ,Nat.reduceEqDiff,Nat.reduceAdd,Nat.reduceLT,↓reduceIte]
    refine lG (FZ hD w (l0:=[u]) (by simp) ik l2 (fun z hz=>hp z hz (hall0 z hz)) (F0 _)) ?_
    rintro e1 e G6 ⟨rfl,f6,f10,qs,iQ,oA⟩
    replace oA:PB c H x y i k [.int .i64 3,.int .i64 n,.ah,pk (u::qs)] G6:=oA
    have gp6:=oA.gp
    have g66:=oA.g6
    have lp:=Rh 3 n [] (u::qs)
    have tv0:ux []=AV.ah:=rfl
    rw [tv0] at lp
    have hs:Sh c.O (.mk 3 n [] (u::qs)) (c.tm i) (c.tm k):=Uu qs iQ
    obtain ⟨q1,q2,q3,q4,q5,q6,q7,q8,q9⟩:=a9 (.mk 3 n [] (u::qs))
    have lp2:=D3 (.mk 3 n [] (u::qs))
    have LZ:=Rx (a:=aa.cells (ep (.mk 3 n [] (u::qs))).cells) (aM g66)
    have PZ:ak (H.length + 1) (ep (.mk 3 n [] (u::qs))).cells=true:=cB (gh _ _)
    have lB:=PB.fin (to:=[]) (l:=(u::qs)) hD oA hs
    simp +contextual only [f6,f10,gp6,g66,lp,q1,q2,q3,q9,Rj,LZ,lp2,PZ,sZ,Nat.reduceEqDiff,Nat.reduceAdd,↓reduceIte,reduceCtorEq]
    first | exact lB | exact ⟨by omega,lB⟩ | exact ⟨trivial,lB⟩
  ·have n4:((n:Int) < ys.length)=False:=eq_false (by omega)
   have Uu:∀ qs,lR (Sh c.O) qs (c.tm i) ((c.kd k).map c.tm)→Sh c.O (.mk 3 n [] qs) (c.tm i) (c.tm k):=by
    intro qs hq
    rw [hS,hLS,if_pos (by have:=hn.lb;omega)];exact hq
   simp +contextual only [k2,ik.aN,ik.len (by omega),decide_false,gp4,Us,un1,gps,gys,iy.aN,iy.len (by omega),n4,sZ,Nat.reduceEqDiff,Nat.reduceAdd,Nat.reduceLT,Nat.reduceLeDiff,↓reduceIte]
   refine lG (FZ hD w (l0:=[]) (by simp) ik l2 (fun z hz=>hp z hz (hall0 z hz)) (px _)) ?_
   rintro e1 e G6 ⟨rfl,f6,f10,qs,iQ,oA⟩
   replace oA:PB c H x y i k [.int .i64 3,.int .i64 n,.ah,pk qs] G6:=oA
   have gp6:=oA.gp
   have g66:=oA.g6
   have lp:=Rh 3 n [] qs
   have tv0:ux []=AV.ah:=rfl
   rw [tv0] at lp
   have hs:Sh c.O (.mk 3 n [] qs) (c.tm i) (c.tm k):=Uu qs iQ
   obtain ⟨q1,q2,q3,q4,q5,q6,q7,q8,q9⟩:=a9 (.mk 3 n [] qs)
   have lp2:=D3 (.mk 3 n [] qs)
   have LZ:=Rx (a:=aa.cells (ep (.mk 3 n [] qs)).cells) (aM g66)
   have PZ:ak (H.length + 1) (ep (.mk 3 n [] qs)).cells=true:=cB (gh _ _)
   have lB:=PB.fin (to:=[]) (l:=qs) hD oA hs
   simp +contextual only [f6,f10,gp6,g66,lp,q1,q2,q3,q9,Rj,LZ,lp2,PZ,sZ,Nat.reduceEqDiff,Nat.reduceAdd,↓reduceIte,reduceCtorEq]
   first | exact lB | exact ⟨by omega,lB⟩ | exact ⟨trivial,lB⟩
end Go.aJ
end
section
set_option maxRecDepth 100000
namespace Go.aJ
open Go Go.Proofs Go.eN
structure PC (c:Cx) (H:List aa) (x y:Nat) (i k:Int) (es:List AV) (o:aa) (G:List aa):Prop where
 du:Du c G
 gx:G[x]?=some (.cells [bo (c.kd i)])
 gy:G[y]?=some (.cells [bo (c.kd k)])
 g6:G[H.length]?=some (.cells [.int .i64 0,.int .i64 0,.ah,.ah])
 gp:G[H.length + 3]?=some (.cells es)
 go:G[H.length + 4]?=some o
 len:G.length=H.length + 5
 up:∀ j,j < H.length→j≠c.e→j≠c.g→G[j]?=H[j]?
theorem PB.abQ {c:Cx} {H G:List aa} {x y:Nat} {i k:Int} {es:List AV} (w:XY H x y) (h:PB c H x y i k es G) (o:aa):PC c H x y i k es o (G++[o]):=by
 obtain ⟨w1,w2,w3,w4⟩:=w
 have hl:=h.len
 exact ⟨h.du.s6 _,by rw [yp (by omega),h.gx],by rw [yp (by omega),h.gy],by rw [yp (by omega),h.g6],by rw [yp (by omega),h.gp],by rw [← hl];simp,by simp [hl],fun j h1 h2 h3=>by rw [yp (by omega),h.up j h1 h2 h3]⟩
theorem PC.call {c:Cx} {H G G':List aa} {x y:Nat} {i k:Int} {es:List AV} {o:aa} (hD:Du c H) (w:XY H x y) (h:PC c H x y i k es o G) (hU:Up c G G') (jC:Du c G'):PC c H x y i k es o G':=by
 obtain ⟨l1,l2,l3⟩:=hD.lt
 obtain ⟨w1,w2,w3,w4⟩:=w
 exact ⟨jC,by rw [hU.get x (by omega) (by omega),h.gx],by rw [hU.get y (by omega) (by omega),h.gy],by rw [hU.get _ (by omega) (by omega),h.g6],by rw [hU.get _ (by omega) (by omega),h.gp],by rw [hU.get _ (by omega) (by omega),h.go],by rw [hU.len,h.len],fun j h1 h2 h3=>by rw [hU.get j h2 h3,h.up j h1 h2 h3]⟩
theorem PC.set {c:Cx} {H G:List aa} {x y:Nat} {i k:Int} {es es':List AV} {o:aa} (hD:Du c H) (w:XY H x y) (h:PC c H x y i k es o G):PC c H x y i k es' o (G.set (H.length + 3) (.cells es')):=by
 obtain ⟨l1,l2,l3⟩:=hD.lt
 obtain ⟨w1,w2,w3,w4⟩:=w
 have hp:=aM h.gp
 exact ⟨h.du.set (by omega) (by omega) (by omega),by rw [yq (by omega),h.gx],by rw [yq (by omega),h.gy],by rw [yq (by omega),h.g6],by rw [Rx hp],by rw [yq (by omega),h.go],by rw [acD,h.len],fun j h1 h2 h3=>by rw [yq (by omega),h.up j h1 h2 h3]⟩
theorem PC.abR {c:Cx} {H G:List aa} {x y:Nat} {i k:Int} {es:List AV} {o o':aa} (hD:Du c H) (w:XY H x y) (h:PC c H x y i k es o G):PC c H x y i k es o' (G.set (H.length + 4) o'):=by
 obtain ⟨l1,l2,l3⟩:=hD.lt
 obtain ⟨w1,w2,w3,w4⟩:=w
 have hp:=aM h.go
 exact ⟨h.du.set (by omega) (by omega) (by omega),by rw [yq (by omega),h.gx],by rw [yq (by omega),h.gy],by rw [yq (by omega),h.g6],by rw [yq (by omega),h.gp],by rw [Rx hp],by rw [acD,h.len],fun j h1 h2 h3=>by rw [yq (by omega),h.up j h1 h2 h3]⟩
theorem PC.drop {c:Cx} {H G:List aa} {x y:Nat} {i k:Int} {es:List AV} {o:aa} (hD:Du c H) (w:XY H x y) (h:PC c H x y i k es o G):PB c H x y i k es (G.take (H.length + 4))∧G=G.take (H.length + 4)++[o]:=by
 obtain ⟨l1,l2,l3⟩:=hD.lt
 obtain ⟨w1,w2,w3,w4⟩:=w
 have hl:=h.len
 have t:∀ j,j < H.length + 4→(G.take (H.length + 4))[j]?=G[j]?:=fun j h1=>by rw [aam,if_pos h1]
 refine ⟨⟨h.du.take (by omega) (by omega) (by omega),by rw [t x (by omega),h.gx],by rw [t y (by omega),h.gy],by rw [t _ (by omega),h.g6],by rw [t _ (by omega),h.gp],by simp;omega,fun j h1 h2 h3=>by rw [t j (by omega),h.up j h1 h2 h3]⟩,?_⟩
 have e:G.drop (H.length + 4)=[o]:=by
  have h1:=h.go
  have aS:H.length + 4 < G.length:=by omega
  rw [aaU aS]
  rw [aap aS] at h1
  simp only [Option.some.injEq] at h1
  rw [h1,aaZ (by omega)]
 rw [← e,adB]
structure MI (c:Cx) (a b:List Int) (us:List Bool) (to:List Int) (j:Nat) (ts:List Int) (ls:List PP):Prop where
 lt:ts.length=j
 ll:ls.length=j
 pa:∀ j',j' < j→0≤to.getD j' 0→ts.getD j' 0=to.getD j' 0∧(ls.getD j' default).nil
 ov:∀ j',j' < j→to.getD j' 0 < 0→(¬ (ls.getD j' default).nil∧Sh c.O (ls.getD j' default) (c.tm (a.getD (ts.getD j' 0).toNat 0)) (c.tm (b.getD j' 0)))∧∃ u:Nat,ts.getD j' 0=u∧u < a.length∧us.getD u false=false
theorem MI.snoc {c:Cx} {a b:List Int} {us:List Bool} {to:List Int} {j:Nat} {ts:List Int} {ls:List PP} (h:MI c a b us to j ts ls) (v:Int) (q:PP)
 (h1:0≤to.getD j 0→v=to.getD j 0∧q.nil) (h2:to.getD j 0 < 0→(¬ q.nil∧Sh c.O q (c.tm (a.getD v.toNat 0)) (c.tm (b.getD j 0)))∧∃ u:Nat,v=u∧u < a.length∧us.getD u false=false):MI c a b us to (j + 1) (ts++[v]) (ls++[q]):=by
 obtain ⟨k1,k2,k3,k4⟩:=h
 have e1:∀ j',j' < j→(ts++[v]).getD j' 0=ts.getD j' 0∧(ls++[q]).getD j' default=ls.getD j' default:=fun j' vi=>by
  constructor
  ·rw [sc,sc,yp (by omega)]
  ·rw [sc,sc,yp (by omega)]
 have e2:(ts++[v]).getD j 0=v∧(ls++[q]).getD j default=q:=by
  constructor
  ·rw [← k1];simp
  ·rw [← k2];simp
 refine ⟨by simp [k1],by simp [k2],fun j' vi h0=>?_,fun j' vi h0=>?_⟩
 ·by_cases e:j'=j
  ·subst e;rw [e2.1,e2.2];exact h1 h0
  ·have aS:j' < j:=by omega
   rw [(e1 j' aS).1,(e1 j' aS).2];exact k3 j' aS h0
 ·by_cases e:j'=j
  ·subst e;rw [e2.1,e2.2];exact h2 h0
  ·have aS:j' < j:=by omega
   rw [(e1 j' aS).1,(e1 j' aS).2];exact k4 j' aS h0
theorem xo {to:List Int} {x:Int}:∀ {n:Nat},(∀ j j',j < n→j' < n→to.getD j 0=x→to.getD j' 0=x→j=j')→dy to x n≤1
 | 0,_=>by simp [dy]
 | n + 1,h=>by
   rw [dy]
   have ih:=xo (n:=n) fun j j' h1 h2=>h j j' (by omega) (by omega)
   by_cases e:to.getD n 0=x
   ·rw [if_pos e]
    have:dy to x n=0:=by
     have h0:∀ m,m≤n→dy to x m=0:=by
      intro m
      induction m with
      | zero=>intro _;rfl
      | succ m ihm=>
        intro hm
        rw [dy,ihm (by omega),if_neg (fun e'=>by have:=h m n (by omega) (by omega) e' e;omega)]
     exact h0 n (yo _)
    omega
   ·rw [if_neg e];omega
theorem MI.cov {c:Cx} {a b:List Int} {us:List Bool} {to ts:List Int} {ls:List PP} (h:MI c a b us to b.length ts ls) (Bi:Pr (fun x y=>E c.O (c.tm x) (c.tm y)) a b b.length us to) (hl:∃ u:Nat,u < a.length∧us.getD u false=false):Jk c ts ls a b:=by
 obtain ⟨k1,k2,k3,k4⟩:=h
 have cas:∀ j,j < b.length→(∃ u:Nat,to.getD j 0=u∧u < a.length∧us.getD u false=true∧E c.O (c.tm (a.getD u 0)) (c.tm (b.getD j 0)))∨to.getD j 0 < 0:=fun j hj=>by
  rcases Bi.t1 j hj with h | ⟨u,h1,h2,h3,h4⟩
  ·exact .inr (by omega)
  ·exact .inl ⟨u,h1,h2,h3,h4⟩
 refine ⟨k1,k2,fun j hj=>?_,fun x hx hp=>?_,?_⟩
 ·rcases cas j hj with ⟨u,h1,h2,h3,h4⟩ | hn
  ·obtain ⟨e1,e2⟩:=k3 j hj (by omega)
   rw [if_pos e2,e1,h1]
   exact ⟨by omega,by rw [aaa];exact h4⟩
  ·obtain ⟨⟨e1,e2⟩,u,h1,h2,h3⟩:=k4 j hj hn
   rw [if_neg e1]
   exact ⟨by omega,e2⟩
 ·obtain ⟨j,hj,e1,e2⟩:=iK.1 hp
  have BO:∀ j',j' < b.length→ts.getD j' 0=(x:Int)→us.getD x false=true→to.getD j' 0=(x:Int):=by
   intro j' vi e ht
   rcases cas j' vi with ⟨u,h1,_⟩ | hn
   ·rw [← (k3 j' vi (by omega)).1];exact e
   ·obtain ⟨_,u,h1,h2,h3⟩:=k4 j' vi hn
    have:u=x:=by omega
    subst this;rw [h3] at ht;cases ht
  have hux:us.getD x false=true:=by
   rcases cas j hj with ⟨u,h1,h2,h3,_⟩ | hn
   ·have:=(k3 j hj (by omega)).1
    have:u=x:=by omega
    subst this;exact h3
   ·exact absurd e2 (k4 j hj hn).1.1
  refine xo fun j1 j2 h1 h2 e1 e2=>?_
  have t1:=BO j1 h1 e1 hux
  have t2:=BO j2 h2 e2 hux
  exact Bi.inj j1 j2 h1 h2 (by omega) (by omega)
 ·obtain ⟨u,hu,hf⟩:=hl
  refine ⟨u,hu,?_⟩
  by_cases h0:0 < dm ts ls u b.length
  ·obtain ⟨j,hj,e1,e2⟩:=iK.1 h0
   rcases cas j hj with ⟨u',h1,h2,h3,_⟩ | hn
   ·have:=(k3 j hj (by omega)).1
    have:u'=u:=by omega
    subst this;rw [hf] at h3;cases h3
   ·exact absurd e2 (k4 j hj hn).1.1
  ·omega
theorem Sh.ne_nil {O:Od} {p:PP} {a b:T} (h:Sh O p a b):¬ p.nil:=by
 rintro ⟨h1,_⟩
 exact Sh0 (by omega) (by omega) (by omega) (by omega) h
theorem Yn {c:Cx} (hc:c.Ok) {i k:Int} (hi:c.dP i) (hk:c.dP k) (hR:R c.O (c.tm i) (c.tm k)) (hr:g9 c i k 4) (jO:∀ m,m < 4→¬ g9 c i k m) (hp2:∀ x∈c.kd i,∀ y∈c.kd k,R c.O (c.tm x) (c.tm y)→pn c x y):pn c i k:=by
 intro H hD
 refine D0.2.calls rfl ?_
 simp only [D0,aK]
 have k2:∀ l,(bo l).ae=bo l:=fun l=>(aG l).2.1
 have ki:=hc.kids i hi
 have kk:=hc.kids k hk
 have l1:=hc.kl i hi
 have l2:=hc.kl k hk
 obtain ⟨a1,a2,a3,a4,a5⟩:=aG (c.kd i)
 obtain ⟨b1,b2,b3,b4,b5⟩:=aG (c.kd k)
 have ii:IL (bo (c.kd i)) (c.kd i):=.inl rfl
 have ik:IL (bo (c.kd k)) (c.kd k):=.inl rfl
 have ei:(c.nd.getD i.toNat default).snd=c.kd i:=rfl
 have ek:(c.nd.getD k.toNat default).snd=c.kd k:=rfl
 obtain ⟨m1,m2,m3⟩:=hD.lt
 have ed:∀ X:List aa,(H++X)[c.d]?=H[c.d]?:=fun X=>yp m1
 have spv:∀ x:AV,ai [AV.ah] 0 [x]=[x]:=fun x=>rfl
 have spq:ai [AV.int .i64 0,.int .i64 0,.ah,.ah] 0 [AV.int .i64 0,.int .i64 0,.ah,.ah]=[AV.int .i64 0,.int .i64 0,.ah,.ah]:=rfl
 simp +contextual only [sZ,Nat.reduceEqDiff,Nat.reduceAdd,↓reduceIte,reduceCtorEq]
 refine lN (K1:=fun e G=>get e 1=.int .i64 i∧get e 3=.aj (.ptr c.d 0)∧get e 5=.aj (.int .i64 k)∧get e 6=.ptr H.length 0∧∃ x y,get e 7=.ptr x 0∧get e 8=.ptr y 0∧XY H x y∧PA c H x y i k G) ?_ ?_
 ·have P0:aa:=.cells [.int .i64 0,.int .i64 0,.ah,.ah]
  have A:∃ x y,AV.ptr (H.length + 1) 0=.ptr x 0∧AV.ptr (H.length + 2) 0=.ptr y 0∧XY H x y∧PA c H x y i k (H++[.cells [.int .i64 0,.int .i64 0,.ah,.ah],.cells [bo (c.kd i)],.cells [bo (c.kd k)]]):=
   ⟨_,_,rfl,rfl,⟨by omega,by omega,by omega,by omega⟩,⟨hD.s6 _,by simp,by simp,by simp,by simp,fun j hj _ _=>yp hj⟩⟩
  have B:∃ x y,AV.ptr (H.length + 2) 0=.ptr x 0∧AV.ptr (H.length + 1) 0=.ptr y 0∧XY H x y∧PA c H x y i k (H++[.cells [.int .i64 0,.int .i64 0,.ah,.ah],.cells [bo (c.kd k)],.cells [bo (c.kd i)]]):=
   ⟨_,_,rfl,rfl,⟨by omega,by omega,by omega,by omega⟩,⟨hD.s6 _,by simp,by simp,by simp,by simp,fun j hj _ _=>yp hj⟩⟩
  simp +contextual only [ed,hD.d,mP,En,cG,bY,k2,ei,ek,a1,a3,a4,a5,b1,b3,b4,b5,List.map_cons,List.map_nil,spv,List.all_cons,List.all_nil,acQ,bE,cN,sZ,Nat.reduceEqDiff,Nat.reduceAdd,Nat.reduceLT,↓reduceIte]
  refine ⟨hi,?_⟩
  repeat' apply rZ
  all_goals first | exact hk.1 | exact hk.2 | exact A | exact B
 ·rintro e G ⟨e1,e3,e5,e6,x,y,e7,e8,w,Bx⟩
  simp +contextual only [e1,e3,e5,e6,e7,e8,sZ,Nat.reduceEqDiff,↓reduceIte]
  refine aB 3 (fun m (G:List aa)=>PA c H x y i k G)
   (fun m G=>[(1,.int .i64 i),(3,.aj (.ptr c.d 0)),(5,.aj (.int .i64 k)),(6,.ptr H.length 0),(7,.ptr x 0),(8,.ptr y 0),(9,.int .i64 ((m + 1:Nat):Int))]) (fun m G=>G) G ⟨Bx,aD _ _ _⟩ fun m G hm Bx=>?_
  have hf:ee.cells[m + 1]?=some (.fn (.func (182 + (m + 1))) [] []):=by
   have:m=0∨m=1∨m=2∨m=3:=by omega
   rcases this with rfl | rfl | rfl | rfl <;> rfl
  have en:=Vf (m + 1) _ hf (by omega)
  simp +contextual only [sZ]
  refine aL LG ?_
  simp +contextual only [mG,en _ rfl,sZ,Nat.reduceEqDiff,Nat.reduceAdd,↓reduceIte,reduceCtorEq]
  refine ag ((vq hc hi hk).at (n:=m + 1) (by omega) (by omega) Bx.du) ?_
  rintro r G1 ⟨z,rfl,hz,hU,nz⟩
  have qn:=Bx.call hD w hU nz
  by_cases Q0:m=3
  rotate_left
  ·have:z=false:=by
    cases z with
    | false=>rfl
    | true=>exact absurd (hz.1 rfl) (jO (m + 1) (by omega))
   subst this
   simp +contextual only [Bool.not_false,sZ,Nat.reduceEqDiff,↓reduceIte]
   exact ⟨m + 1,G1,⟨by omega,qn⟩,by omega,aE (by rw [ay (m + 1) (by omega)]) rfl⟩
  subst Q0
  have:z=true:=hz.2 hr
  subst this
  have Er:=qn.len
  have k7:=fun es=>qn.s6 w es
  have Ut:=fun es=>(k7 es).gp
  have PF:=fun es=>(k7 es).gx
  have Yi:=fun es=>(k7 es).gy
  have bP:∀ (o o':aa),(G1++[o]).set (H.length + 3) o'=G1++[o']:=fun o o'=>by rw [← Er];simp
  have ec:((4:Nat):Int)=4:=rfl
  have zf:List.map AV.ae [AV.int .i64 (4:Int),.int .i64 0,.ah,.ah]=[.int .i64 (4:Int),.int .i64 0,.ah,.ah]:=rfl
  have zf0:List.map AV.ae [AV.int .i64 0,.int .i64 0,.ah,.ah]=[.int .i64 0,.int .i64 0,.ah,.ah]:=rfl
  have e86:∀ a b:Int,decide (a=b)=decide (a=b):=fun _ _=>rfl
  simp +contextual only [k2,decide_true,decide_false,Bool.not_true,Bool.not_true,ZK,Er,Ut,bP,ec,zf,zf0,Jo,PF,Yi,sZ,Nat.reduceEqDiff,Nat.reduceAdd,Nat.reduceLT,↓reduceIte,reduceCtorEq,Int.reduceEq]
  have mT:=k7 [.int .i64 4,.int .i64 0,.ah,.ah]
  generalize G1++[aa.cells [AV.int .i64 4,.int .i64 0,.ah,.ah]]=G2 at mT ⊢
  have ki2:(c.tm i).k=2:=(oh.1 hR).1
  have hmq:yg c i k:=by
   rcases hr with h | h | h | h
   ·exact absurd h.1 (by decide)
   ·exact absurd h.1 (by decide)
   ·exact absurd h.1 (by decide)
   ·exact h.2
  obtain ⟨LW,Bv,ZD⟩:=hmq
  have L4:=kF.1 LW
  have kk2:(c.tm k).k=2:=L4.2.1
  have osi:dE c i=c.O.sp (c.O.pl (c.tm i).n):=by rw [dE,if_pos ki2]
  have gx0:=mT.gx
  have gy0:=mT.gy
  simp +contextual only [sZ]
  refine ag (T7 ii ik (by omega) (by omega) (fun z hz z' Eo=>kh hc (ki.2 z hz) (kk.2 z' Eo)) mT.du) ?_
  rintro r G3 ⟨us,to,Bi,rfl,XI,LD⟩
  have Bw:=mT.call hD w XI LD
  have UX:=(Pr.mu (f:=nf c) (G:=Gt c.O.sp) Bi).1 ZD
  have lbl:=jG (c.kd i).length fun z=>!us.getD z false
  have il:IL (bo (below (c.kd i).length fun z=>!us.getD z false)) (below (c.kd i).length fun z=>!us.getD z false):=.inl rfl
  have mml:∀ {z:Int},z∈below (c.kd i).length (fun z=>!us.getD z false)→∃ u:Nat,z=u∧u < (c.kd i).length∧us.getD u false=false:=by
   intro z hz;obtain ⟨u,h1,h2,h3⟩:=gH.1 hz;exact ⟨u,h1,h2,by simpa using h3⟩
  have mmo:∀ {j:Nat},j < (c.kd k).length→to.getD j 0 < 0→∃ z∈below (c.kd i).length (fun z=>!us.getD z false),R c.O (c.tm ((c.kd i).getD z.toNat 0)) (c.tm ((c.kd k).getD j 0)):=by
   intro j hj hn
   exact UX.2 (j:Int) (gH.2 ⟨j,rfl,hj,by simpa using hn⟩)
  have abS:=UX.1
  generalize (below (c.kd i).length fun z=>!us.getD z false)=L at *
  have lto:=Bi.lt
  obtain ⟨v1,v2,v3,v4,v5⟩:=aG L
  simp +contextual only [k2,ax,sZ,Nat.reduceEqDiff,Nat.reduceAdd,Nat.reduceLT,↓reduceIte]
  intro _
  have hlne2:∃ u:Nat,u < (c.kd i).length∧us.getD u false=false:=by
   cases L with
   | nil=>exact absurd rfl abS
   | cons z r=>
     obtain ⟨u,_,h2,h3⟩:=mml (aan (a:=z) (l:=r))
     exact ⟨u,h2,h3⟩
  refine aB (c.kd k).length (fun j (s:List aa×List Int×List PP)=>PB c H x y i k [.int .i64 4,.int .i64 0,ux s.2.1,pk s.2.2] s.1∧MI c (c.kd i) (c.kd k) us to j s.2.1 s.2.2)
   (fun j s=>[(3,.aj (.ptr c.d 0)),(6,.ptr H.length 0),(7,.ptr x 0),(8,.ptr y 0),(10,.ptr (H.length + 3) 0),(11,bo L),(89,.al 0 (ints to)),(90,.int .i64 to.length),(91,.int .i64 j)]) (fun j s=>s.1) (G3,[],[])
   ⟨⟨Bw,rfl,rfl,fun j h=>by omega,fun j h=>by omega⟩,aD _ _ _⟩ fun j s hj hI=>?_
  obtain ⟨G,ts,ls⟩:=s
  obtain ⟨k7,Jv⟩:=hI
  simp only at k7 Jv
  have hlen:=k7.len
  by_cases LU:(j:Int) < to.length
  ·have mZ:j < (c.kd k).length:=by omega
   have zf4:∀ n,ak n (List.map AV.ae [AV.int .i64 0,.int .i64 0,.ah,.ah])=true:=fun _=>rfl
   have zf5:List.map AV.ae [AV.int .i64 0,.int .i64 0,.ah,.ah]=[AV.int .i64 0,.int .i64 0,.ah,.ah]:=rfl
   obtain ⟨tj,ZL⟩:∃ tj,to.getD j 0=tj:=⟨_,rfl⟩
   have Yo:=k7.abQ w (.cells [.int .i64 0,.int .i64 0,.ah,.ah])
   by_cases xM:tj < 0
   ·simp +contextual only [k2,decide_true,LU,cH,dh,aaa,ZL,xM,hlen,zf5,sZ,Nat.reduceEqDiff,Nat.reduceAdd,↓reduceIte,reduceCtorEq]
    have mz:=fun (G':List aa) (eF:SD c (G++[aa.cells [AV.int .i64 0,.int .i64 0,.ah,.ah]]) G')=>Yo.call hD w eF.2 eF.1
    have hjz:(0:Int)≤j∧(j:Int) < (c.kd k).length:=⟨by omega,by omega⟩
    refine ⟨by omega,ag (LC (SD.Bf c (G++[.cells [.int .i64 0,.int .i64 0,.ah,.ah]])) il (by omega) 148 [] [.aj (.ptr c.d 0),.ptr x 0,.ptr y 0,.aj (.int .i64 j)] rfl rfl (Q:=fun z=>R c.O (c.tm ((c.kd i).getD z.toNat 0)) (c.tm ((c.kd k).getD (j:Int).toNat 0)))
     (fun z hz G' eF=>?_) ⟨Yo.du,Up.refl c _⟩) ?_⟩
    ·obtain ⟨u,rfl,hu,_⟩:=mml hz
     refine (abM ii ik ⟨by omega,by omega⟩ hjz (kj hc (ki.2 _ (aO (by omega))) (kk.2 _ (aO (by omega)))) eF.1 (mz G' eF).gx (mz G' eF).gy).mono fun r H' hr=>hr.sb eF
    rintro r G4 ⟨hG4,uL⟩
    rcases uL with ⟨_,uL⟩ | ⟨m,rfl,hm,hQ,_⟩
    ·obtain ⟨z,hz,h⟩:=mmo mZ (by rw [ZL];exact xM)
     exact absurd h (uL z hz)
    obtain ⟨u,hu,z6,huf⟩:=mml (aO hm)
    have P2:=mz G4 hG4
    have gx4:=P2.gx
    have gy4:=P2.gy
    rw [hu,aaa,aaa] at hQ
    simp +contextual only [k2,ii.lens,ik.lens,ii.idx,ik.idx,il.lens,il.idx,aaa,hu,gx4,gy4,sZ,Nat.reduceEqDiff,Nat.reduceAdd,Nat.reduceLT,↓reduceIte,reduceCtorEq]
    refine ⟨by omega,⟨by omega,by omega⟩,by omega,?_⟩
    refine ag (hp2 _ (aO z6) _ (aO mZ) hQ _ P2.du) ?_
    rintro r G5 ⟨q,rfl,hq,Yj,Yk⟩
    have Yp:=P2.call hD w Yj Yk
    have go5:=Yp.go
    have hpo:=fun o=>Yp.abR (o':=o) hD w
    have ns:=fun o es=>(hpo o).set (es':=es) hD w
    have gq5:=fun o=>(hpo o).go
    have gp5:=fun o=>(hpo o).gp
    have gqs:=fun o es=>(ns o es).go
    have gps:=fun o es=>(ns o es).gp
    obtain ⟨u1,u2,u3,u4,u5,u6,u7,u8,u9⟩:=a9 q
    have bq:ak (H.length + 4 + 1) (ep q).cells=true:=cB (gh _ _)
    have Uv:=Jv.snoc (u:Int) q (fun h=>by omega) (fun _=>⟨⟨Sh.ne_nil hq,by rw [aaa];exact hq⟩,u,rfl,z6,huf⟩)
    have t1:=Jv.lt
    have t2:=Jv.ll
    have UZ:∀ ψ,bw 1 8 (ux ts) (.al 0 [.int .i64 (u:Int)]) ψ=ψ (ints (ts++[(u:Int)])):=fun ψ=>Rg ts _ (by omega) 0 ψ
    have apl:∀ ψ,bw 4 64 (pk ls) (.al 0 [ep q]) ψ=ψ (eh (ls++[q])):=fun ψ=>D1 ls q (by omega) 0 ψ
    have lpq:=D3 q
    obtain ⟨x1,x2,x3,x4,x5,x6⟩:=lT (ts++[(u:Int)])
    obtain ⟨y1,y2,y3,y4,y5,y6⟩:=iL (ls++[q])
    obtain ⟨x1',x2',x3',x4',x5',x6'⟩:=lT ts
    obtain ⟨y1',y2',y3',y4',y5',y6'⟩:=iL ls
    have lvb:∀ n,ak n (eh (ls++[q]))=true:=fun n=>iX _ _
    have tvb:∀ n,ak n (ints (ts++[(u:Int)]))=true:=fun n=>aW _ _
    have qQ:∀ G',PC c H x y i k [.int .i64 4,.int .i64 0,ux (ts++[(u:Int)]),pk (ls++[q])] (.cells (ep q).cells) G'→∃ (j':Nat) (t:List aa×List Int×List PP),(j'≤(c.kd k).length∧PB c H x y i k [.int .i64 4,.int .i64 0,ux t.2.1,pk t.2.2] t.1∧MI c (c.kd i) (c.kd k) us to j' t.2.1 t.2.2)∧(c.kd k).length - j' < (c.kd k).length - j∧
     sle H.length [(3,.aj (.ptr c.d 0)),(6,.ptr H.length 0),(7,.ptr x 0),(8,.ptr y 0),(10,.ptr (H.length + 3) 0),(11,bo L),(89,.al 0 (ints to)),(90,.int .i64 to.length),(91,.int .i64 (IntKind.i64.wrap (j + 1)))] G' [(3,.aj (.ptr c.d 0)),(6,.ptr H.length 0),(7,.ptr x 0),(8,.ptr y 0),(10,.ptr (H.length + 3) 0),(11,bo L),(89,.al 0 (ints to)),(90,.int .i64 to.length),(91,.int .i64 j')] t.1:=by
     intro G' eF
     obtain ⟨z1,z2⟩:=eF.drop hD w
     have zl:=z1.len
     have Zm:=v3
     refine ⟨j + 1,(G'.take (H.length + 4),ts++[(u:Int)],ls++[q]),⟨mZ,z1,Uv⟩,by omega,oa (by rw [ay j (by omega)]) (by rw [zl];omega) ?_ _ z2⟩
     obtain ⟨w1,w2,w3,w4⟩:=w
     rw [zl]
     simp only [kY,List.all_cons,List.all_nil,AO,sN,gW,ch,v3,aW,acQ,yu,decide_eq_true_eq]
     omega
    simp +contextual only [go5,Rj,u1,u2,u3,u9,bq,gq5,gp5,gqs,gps,d2,d3,s2,s3,adE,jI,UZ,apl,lpq,D2,rL,x3,x4,y3,y4,sZ,Nat.reduceEqDiff,Nat.reduceAdd,Nat.reduceLT,↓reduceIte]
    repeat' apply rZ
    all_goals exact qQ _ (ns _ _)
   ·have t1:=Jv.lt
    have t2:=Jv.ll
    obtain ⟨q0,hq0⟩:∃ q0,q0=PP.mk 0 0 [] []:=⟨_,rfl⟩
    have uG:q0.nil:=by rw [hq0];exact ⟨rfl,rfl,rfl,rfl⟩
    have lpz:∀ φ,cL (some (.cells [.int .i64 0,.int .i64 0,.ah,.ah])) (some 4) 0 φ=φ (ep q0):=by rw [hq0];exact Rh 0 0 [] []
    obtain ⟨u1,u2,u3,u4,u5,u6,u7,u8,u9⟩:=a9 q0
    have Uv:=Jv.snoc tj q0 (fun h=>⟨ZL.symm,uG⟩) (fun h=>by omega)
    have UZ:∀ ψ,bw 1 8 (ux ts) (.al 0 [.int .i64 tj]) ψ=ψ (ints (ts++[tj])):=fun ψ=>Rg ts _ (by omega) 0 ψ
    have apl:∀ ψ,bw 4 64 (pk ls) (.al 0 [ep q0]) ψ=ψ (eh (ls++[q0])):=fun ψ=>D1 ls q0 (by omega) 0 ψ
    have ns:=fun es=>Yo.set (es':=es) hD w
    have gp5:=Yo.gp
    have go5:=Yo.go
    have gqs:=fun es=>(ns es).go
    have gps:=fun es=>(ns es).gp
    obtain ⟨x1,x2,x3,x4,x5,x6⟩:=lT (ts++[tj])
    obtain ⟨y1,y2,y3,y4,y5,y6⟩:=iL (ls++[q0])
    obtain ⟨x1',x2',x3',x4',x5',x6'⟩:=lT ts
    obtain ⟨y1',y2',y3',y4',y5',y6'⟩:=iL ls
    have lvb:∀ n,ak n (eh (ls++[q0]))=true:=fun n=>iX _ _
    have tvb:∀ n,ak n (ints (ts++[tj]))=true:=fun n=>aW _ _
    have qQ:∀ G',PC c H x y i k [.int .i64 4,.int .i64 0,ux (ts++[tj]),pk (ls++[q0])] (.cells [.int .i64 0,.int .i64 0,.ah,.ah]) G'→∃ (j':Nat) (t:List aa×List Int×List PP),(j'≤(c.kd k).length∧PB c H x y i k [.int .i64 4,.int .i64 0,ux t.2.1,pk t.2.2] t.1∧MI c (c.kd i) (c.kd k) us to j' t.2.1 t.2.2)∧(c.kd k).length - j' < (c.kd k).length - j∧
     sle H.length [(3,.aj (.ptr c.d 0)),(6,.ptr H.length 0),(7,.ptr x 0),(8,.ptr y 0),(10,.ptr (H.length + 3) 0),(11,bo L),(89,.al 0 (ints to)),(90,.int .i64 to.length),(91,.int .i64 (IntKind.i64.wrap (j + 1)))] G' [(3,.aj (.ptr c.d 0)),(6,.ptr H.length 0),(7,.ptr x 0),(8,.ptr y 0),(10,.ptr (H.length + 3) 0),(11,bo L),(89,.al 0 (ints to)),(90,.int .i64 to.length),(91,.int .i64 j')] t.1:=by
     intro G' eF
     obtain ⟨z1,z2⟩:=eF.drop hD w
     have zl:=z1.len
     have Zm:=v3
     refine ⟨j + 1,(G'.take (H.length + 4),ts++[tj],ls++[q0]),⟨mZ,z1,Uv⟩,by omega,oa (by rw [ay j (by omega)]) (by rw [zl];omega) ?_ _ z2⟩
     obtain ⟨w1,w2,w3,w4⟩:=w
     rw [zl]
     simp only [kY,List.all_cons,List.all_nil,AO,sN,gW,ch,v3,aW,acQ,yu,decide_eq_true_eq]
     omega
    simp +contextual only [decide_true,decide_false,LU,cH,dh,aaa,ZL,xM,hlen,zf5,u1,u2,gp5,go5,gqs,gps,d2,d3,s2,s3,adE,jI,UZ,apl,lpz,D2,rL,x3,x4,y3,y4,sZ,Nat.reduceEqDiff,Nat.reduceAdd,Nat.reduceLT,↓reduceIte]
    refine ⟨by omega,?_⟩
    repeat' apply rZ
    all_goals exact qQ _ (ns _)
  ·have Uq:j=(c.kd k).length:=by omega
   subst Uq
   have hs:Sh c.O (.mk 4 0 ts ls) (c.tm i) (c.tm k):=by
    rw [Sh4 rfl ki2]
    rw [osi] at Bv
    refine ⟨rfl,kk2,L4.2.2,Bv,?_⟩
    show Rc (E c.O) (Sh c.O) ts ls (c.tm i).l (c.tm k).l
    rw [← ki.1,← kk.1,← DW]
    exact Jv.cov Bi hlne2
   have gp6:=k7.gp
   have g66:=k7.g6
   have lp:=Rh 4 0 ts ls
   obtain ⟨q1,q2,q3,q4,q5,q6,q7,q8,q9⟩:=a9 (.mk 4 0 ts ls)
   have lp2:=D3 (.mk 4 0 ts ls)
   have LZ:=Rx (a:=aa.cells (ep (.mk 4 0 ts ls)).cells) (aM g66)
   have PZ:ak (H.length + 1) (ep (.mk 4 0 ts ls)).cells=true:=cB (gh _ _)
   have lB:=PB.fin hD k7 hs
   simp +contextual only [decide_false,LU,gp6,g66,lp,q1,q2,q3,q9,Rj,LZ,lp2,PZ,sZ,Nat.reduceEqDiff,Nat.reduceAdd,↓reduceIte,reduceCtorEq]
   first | exact lB | exact ⟨by omega,lB⟩
end Go.aJ
end
section
set_option maxRecDepth 100000
namespace Go.aJ
open Go Go.Proofs Go.eN
theorem L5 {P:Nat→Prop}:∀ {n:Nat},P n→∃ m,m≤n∧P m∧∀ j,j < m→¬ P j:=by
 intro n
 induction n using Nat.strongRecOn with
 | _ n ih=>
   intro h
   by_cases hx:∃ j,j < n∧P j
   ·obtain ⟨j,hj,hp⟩:=hx
    obtain ⟨m,h1,h2,h3⟩:=ih j hj hp
    exact ⟨m,by omega,h2,h3⟩
   ·exact ⟨n,yo _,h,fun j hj hp=>hx ⟨j,hj,hp⟩⟩
theorem c86 {c:Cx} (hc:c.Ok):∀ (N:Nat) (i k:Int),c.dP i→c.dP k→wt (c.tm i) + wt (c.tm k)≤N→R c.O (c.tm i) (c.tm k)→pn c i k:=by
 intro N
 induction N with
 | zero=>intro i k _ _ h;have:=fO (c.tm i);omega
 | succ N ih=>
 intro i k hi hk hN hR
 have hx:∀ {j:Int},c.dP j→∀ x∈c.kd j,c.dP x∧wt (c.tm x) < wt (c.tm j):=fun {j} hj x hx=>by
  have h1:=hc.kids j hj
  exact ⟨h1.2 x hx,bX (by rw [← h1.1];exact aag.2 ⟨x,hx,rfl⟩)⟩
 have p1:∀ x∈c.kd i,R c.O (c.tm x) (c.tm k)→pn c x k:=fun x h r=>ih x k (hx hi x h).1 hk (by have:=(hx hi x h).2;omega) r
 have p2:∀ y∈c.kd k,R c.O (c.tm i) (c.tm y)→pn c i y:=fun y h r=>ih i y hi (hx hk y h).1 (by have:=(hx hk y h).2;omega) r
 have p3:∀ x∈c.kd i,∀ y∈c.kd k,R c.O (c.tm x) (c.tm y)→pn c x y:=fun x h y h' r=>ih x y (hx hi x h).1 (hx hk y h').1 (by have:=(hx hi x h).2;have:=(hx hk y h').2;omega) r
 obtain ⟨_,n,hn,hr⟩:=(th hc hi hk).2 hR
 obtain ⟨m,hm,hr,jO⟩:=L5 (P:=fun n=>g9 c i k n) hr
 have:m=1∨m=2∨m=3∨m=4:=by
  rcases hr with h | h | h | h
  ·exact .inl h.1
  ·exact .inr (.inl h.1)
  ·exact .inr (.inr (.inl h.1))
  ·exact .inr (.inr (.inr h.1))
 rcases this with rfl | rfl | rfl | rfl
 ·exact Yh hc hi hk hR hr jO p1
 ·exact Yl hc hi hk hR hr jO p2
 ·exact Ym hc hi hk hR hr jO p2 p3
 ·exact Yn hc hi hk hR hr jO p3
theorem Yq {c:Cx} (hc:c.Ok) {i k:Int} (hi:c.dP i) (hk:c.dP k) (hR:R c.O (c.tm i) (c.tm k)):pn c i k:=c86 hc _ i k hi hk (yo _) hR
def P3:PP:=.mk 0 0 [] []
def Uw (s:Sg) (ps ss:List Int) (a b:T) (r:AV):Prop:=
 (iJ s ps ss [a,b]≠0∧r=.tuple [ep P3,.bool false,.int .i64 (iJ s ps ss [a,b])])∨
 (iJ s ps ss [a,b]=0∧¬ R (ko ps ss) a b∧r=.tuple [ep P3,.bool false,.int .i64 0])∨
 (iJ s ps ss [a,b]=0∧∃ p,Sh (ko ps ss) p a b∧r=.tuple [ep p,.bool true,.int .i64 0])
theorem Up.kK {c:Cx} {G0 G:List aa} (h:Up c G0 G) {n:Nat} (he:n≤c.e) (hg:n≤c.g):G.take n=G0.take n:=by
 apply ab1
 intro j
 rw [aam,aam]
 split
 ·rename_i hj;exact h.get j (by omega) (by omega)
 ·rfl
theorem eL (n0 s s' s'':Nat) (sz:Option Nat) (env:Env) (H:List aa) (R:AV→List aa→Prop):bV n0 [.c s sz,.t s',.t s''] env H R=aV sz (get env s) H fun x=>rj n0 [x,get env s',get env s''] H R:=aei
theorem Hm {Hs G:List aa} {n0:Nat} {u v w:AV} {R:AV→List aa→Prop} (hH:Hs.take n0=G) (hb:ak n0 [u,v,w]=true) (hu:[u,v,w].map AV.ae=[u,v,w]) (hR:R (.tuple [u,v,w]) G):rj n0 [u,v,w] Hs R:=by
 subst hH
 exact ⟨n0,yo _,_,by rw [hu];exact b9 _,hb,hR⟩
theorem vr {H G:List aa} {o:aa} (h:G.take H.length=H):(G.set H.length o).take H.length=H:=by
 rw [abO (yo _),h]
theorem c27 (s:Sg) (ps ss:List Int) (a b:T) (H:List aa):aw Tryz.prog 27 [s.av,fa ps ss,a.av,b.av] H fun r H'=>Uw s ps ss a b r∧H'=H:=by
 refine k27.2.calls rfl ?_
 simp only [k27,aK]
 obtain ⟨q1,q2,q3,q4,q5,q6⟩:=bi ps ss
 have zf4:∀ n,ak n (List.map AV.ae [AV.int .i64 0,.int .i64 0,.ah,.ah])=true:=fun _=>rfl
 have zf5:List.map AV.ae [AV.int .i64 0,.int .i64 0,.ah,.ah]=[AV.int .i64 0,.int .i64 0,.ah,.ah]:=rfl
 simp +contextual only [aZ,q1,q4,cW,zf5,sZ,Nat.reduceEqDiff,Nat.reduceAdd,↓reduceIte,reduceCtorEq]
 have g0:(H++[aa.cells [AV.int .i64 0,.int .i64 0,.ah,.ah]])[H.length]?=some (.cells [.int .i64 0,.int .i64 0,.ah,.ah]):=by simp
 have qK:(H++[aa.cells [AV.int .i64 0,.int .i64 0,.ah,.ah]]).length=H.length + 1:=by simp
 have TZ:(H++[aa.cells [AV.int .i64 0,.int .i64 0,.ah,.ah]]).take H.length=H:=by simp
 refine af (X0 s ps ss [a,b]) ?_
 generalize H++[aa.cells [AV.int .i64 0,.int .i64 0,.ah,.ah]]=H1 at g0 qK TZ ⊢
 have ldz:∀ φ,cL (some (.cells [.int .i64 0,.int .i64 0,.ah,.ah])) (some 4) 0 φ=φ (ep P3):=Rh 0 0 [] []
 have zb:∀ p b n,ak H.length [ep p,.bool b,.int .i64 n]=true:=fun p b n=>by simp [bE,cN,gh,rc,gW]
 have zu:∀ p b n,[ep p,AV.bool b,.int .i64 n].map AV.ae=[ep p,.bool b,.int .i64 n]:=fun p b n=>by simp [(a9 p).2.2.2.1,oS,kX]
 by_cases h0:iJ s ps ss [a,b]=0
 ·have hr:=rH h0
  have hw:=mR hr.tree
  have hc:=hr.cx (by simp) (by simp) H1.length
  have hd:=zC ps ss (ts:=[a,b]) (by simp) H1
  simp +contextual only [q4,cW,h0,sZ,Nat.reduceEqDiff,Nat.reduceAdd,↓reduceIte]
  refine ag (Xy ps ss [a,b] _ (by simp at hw;omega)) ?_
  rintro r G ⟨rfl,rfl⟩
  have a0:=uv (ps:=ps) (ss:=ss) (ts:=[a,b]) (n:=H1.length) (j:=0) (by simp)
  have a1:=uv (ps:=ps) (ss:=ss) (ts:=[a,b]) (n:=H1.length) (j:=1) (by simp)
  have hl:=cF [a,b] 0
  rw [PT]
  generalize aY [a,b] 0=ks at a0 a1 hl ⊢
  have pi:ks.length=2:=hl
  simp +contextual only [cH,pi,dh,sZ,Nat.reduceEqDiff,Nat.reduceAdd,Nat.reduceLT,↓reduceIte,reduceCtorEq]
  refine ⟨by decide,by decide,ag (kj hc a0.1 a1.1 _ hd) ?_⟩
  rintro r G ⟨x,rfl,hx,hU,hD⟩
  rw [a0.2,a1.2] at hx
  have qp:x=true↔R (ko ps ss) a b:=hx
  have he:(gK ps ss [a,b] H1.length).e=H.length + 1:=qK
  have hg:(gK ps ss [a,b] H1.length).g=H.length + 2:=by show H1.length + 1=_;omega
  have low:∀ G',Up (gK ps ss [a,b] H1.length) G G'→G'[H.length]?=some (.cells [.int .i64 0,.int .i64 0,.ah,.ah])∧G'.take H.length=H:=by
   intro G' hU'
   have Q7:=hU.trans hU'
   refine ⟨by rw [Q7.get _ (by omega) (by omega),yp (by omega)];exact g0,?_⟩
   rw [Q7.kK (n:=H.length) (by omega) (by omega),aa5 (by omega),TZ]
  have gz:=low G (Up.refl _ _)
  have gz1:=gz.1
  have gzs:=fun o=>Rx (a:=o) (aM gz1)
  have nilc:(ep P3).cells=[AV.int .i64 0,.int .i64 0,.al 0 [],.al 0 []]:=rfl
  cases x with
  | false=>
    simp +contextual only [Bool.not_false,gz1,gzs,zf5,Jo,eL,ldz,sZ,Nat.reduceEqDiff,Nat.reduceAdd,↓reduceIte,reduceCtorEq]
    refine Hm (vr gz.2) (zb _ _ _) (zu _ _ _) ⟨.inr (.inl ⟨h0,fun h=>absurd (qp.2 h) (by simp),rfl⟩),rfl⟩
  | true=>
    simp +contextual only [Bool.not_true,cH,pi,dh,sZ,Nat.reduceEqDiff,Nat.reduceAdd,↓reduceIte,reduceCtorEq]
    refine ⟨by decide,by decide,ag (Yq hc a0.1 a1.1 (by rw [a0.2,a1.2];exact qp.1 rfl) _ hD) ?_⟩
    rintro r G2 ⟨p,rfl,hp,Q7,BN⟩
    rw [a0.2,a1.2] at hp
    obtain ⟨gy1,gy2⟩:=low G2 Q7
    have gys:=fun o=>Rx (a:=o) (aM gy1)
    obtain ⟨u1,u2,u3,u4,u5,u6,u7,u8,u9⟩:=a9 p
    have lpq:=D3 p
    have PZ:ak (H.length + 1) (ep p).cells=true:=cB (gh _ _)
    simp +contextual only [gy1,gys,u1,u2,u3,u9,Rj,lpq,PZ,eL,sZ,Nat.reduceEqDiff,Nat.reduceAdd,↓reduceIte,reduceCtorEq]
    first | exact Hm (vr gy2) (zb _ _ _) (zu _ _ _) ⟨.inr (.inr ⟨h0,p,hp,rfl⟩),rfl⟩ | exact ⟨by omega,Hm (vr gy2) (zb _ _ _) (zu _ _ _) ⟨.inr (.inr ⟨h0,p,hp,rfl⟩),rfl⟩⟩
 ·have gs:∀ o,(H1.set H.length o)[H.length]?=some o:=fun o=>Rx (by omega)
  simp +contextual only [h0,g0,gs,zf5,Jo,eL,ldz,sZ,Nat.reduceEqDiff,Nat.reduceAdd,↓reduceIte,reduceCtorEq]
  refine Hm (vr TZ) (zb _ _ _) (zu _ _ _) ⟨.inl ⟨h0,rfl⟩,rfl⟩
end Go.aJ
end
section
set_option maxRecDepth 100000
namespace Go.aJ
open Go Go.Proofs Go.eN
def jr (l:List gL):List AV:=l.map gL.av
theorem hJ (l:List gL):(jr l).length=l.length:=by simp [jr]
theorem D4 (n:Nat) (l:List gL):ak n (jr l)=true:=by
 rw [bb];intro x hx;obtain ⟨y,_,rfl⟩:=aag.1 hx
 exact y.facts.2.2.2.2.2 n
theorem kH (o:Nat) (l:List gL):(∀ (own:Nat) (xs:List AV),AV.al o (jr l)=AV.al own xs→∀ z∈xs,z.cells.length=8)=True:=by
 simp only [eq_iff_iff,iff_true]
 intro own xs e z hz
 cases e
 obtain ⟨y,_,rfl⟩:=aag.1 hz;rfl
theorem idx_eq (e o:Nat) (l:List gL) (k:IntKind) (i:Nat) (φ:AV→Prop):aC e (.al o (jr l)) (.int k (i:Int)) φ=(i < l.length∧φ (.aj (l.getD i default).av)):=by
 simp only [aC,hJ,aaa,eq_iff_iff]
 constructor
 ·rintro ⟨_,h,h2⟩;refine ⟨h,?_⟩;simpa [jr,h] using h2
 ·rintro ⟨h,h2⟩;refine ⟨by omega,h,?_⟩;simpa [jr,h] using h2
theorem rM (e:gL) (H:List aa) (φ:AV→Prop):aV (some 8) (.aj e.av) H φ=φ e.av:=by simp [aV,gL.av,AV.cells]
structure L6 (ps:List Int) (e:gL):Prop where
 few:e.cs.length≤1000
 tree:∀ t∈e.a::e.rest,t.tree=true
 ops:∀ t∈e.a::e.rest,nE (fun n=>0≤n∧n < ps.length) t
open Classical in
noncomputable def rN (ps ss:List Int) (e:gL):Bool:=decide (Jh ps ss e)
theorem Yr (ps ss:List Int) (e:gL) (hv:Va ps ss) (he:L6 ps e):Pure Tryz.prog 163 [fa ps ss,e.av] (.bool (rN ps ss e)):=by
 intro H
 refine (abz ps ss e hv he.few he.tree he.ops H).mono ?_
 rintro r H' ⟨⟨b,rfl,hb⟩,rfl⟩
 refine ⟨?_,rfl⟩
 congr 1
 rw [ac0,hb]
 simp [rN]
theorem abU (ps ss:List Int) (e:gL) (hv:Va ps ss) (he:L6 ps e):Pure Tryz.prog 162 [e.av,.aj (fa ps ss)] (.bool (!rN ps ss e)):=by
 refine fun H=>Wn.2.calls rfl ?_
 simp only [Wn,aK]
 obtain ⟨q1,q2,q3,q4,q5,q6⟩:=bi ps ss
 obtain ⟨e1,e2,e3,e4,e5,e6⟩:=gL.facts e
 simp +contextual only [q4,e1,e4,cW,rM,sZ,Nat.reduceEqDiff,Nat.reduceAdd,↓reduceIte,reduceCtorEq]
 refine af (Yr ps ss e hv he) ?_
 simp +contextual only [sZ,↓reduceIte,reduceCtorEq]
 exact bf rfl rfl
def lf {α:Type} (p:α→Bool):List α→Nat→Int
 | [],_=>-1
 | x::r,i=>if p x=true then (i:Int) else lf p r (i + 1)
theorem tx {α:Type} [Inhabited α] {p:α→Bool} {l:List α} {i:Nat} (h:i < l.length):lf p (l.drop i) i=if p (l.getD i default)=true then (i:Int) else lf p (l.drop (i + 1)) (i + 1):=by
 have e:l.getD i default=l[i]:=by simp [h]
 rw [aaU h,lf,e]
theorem abV (ps ss:List Int) (l:List gL) (hv:Va ps ss) (he:∀ e∈l,L6 ps e):Pure Tryz.prog 161 [.al 0 (jr l),.fn (.func 162) [] [.aj (fa ps ss)]] (.int .i64 (lf (fun e=>!rN ps ss e) l 0)):=by
 refine fun H=>Ip.2.calls rfl ?_
 simp only [Ip,aK]
 simp +contextual only [hJ,sZ,Nat.reduceEqDiff,Nat.reduceAdd,↓reduceIte,reduceCtorEq]
 intro hl
 refine aR l.length (fun i=>lf (fun e=>!rN ps ss e) (l.drop i) i=lf (fun e=>!rN ps ss e) l 0) (fun i=>[(0,.al 0 (jr l)),(1,.fn (.func 162) [] [.aj (fa ps ss)]),(7,.int .i64 l.length),(8,.int .i64 i)]) (fun _=>H) ⟨rfl,aD _ _ _⟩ fun i hi hI=>?_
 obtain ⟨e1,e2,e3,e4,e5,e6⟩:=gL.facts (l.getD i default)
 simp +contextual only [kH,idx_eq,rM,e4,sZ,Nat.reduceEqDiff,Nat.reduceAdd,↓reduceIte,reduceCtorEq]
 refine ⟨fun aS=>?_,fun iR=>?_⟩
 ·have aS:=bW aS
  have hm:l.getD i default∈l:=by
   rw [sc,aap aS];exact adg aS
  rw [tx aS] at hI
  refine ⟨aS,af (abU ps ss _ hv (he _ hm)) ?_⟩
  cases hb:rN ps ss (l.getD i default) with
  | false=>
    rw [if_pos (by rw [hb];rfl)] at hI
    simp +contextual only [Bool.not_false,sZ,Nat.reduceEqDiff,↓reduceIte,reduceCtorEq]
    exact bf rfl (by rw [← hI])
  | true=>
    rw [if_neg (by rw [hb];simp)] at hI
    simp +contextual only [Bool.not_true,sZ,Nat.reduceEqDiff,↓reduceIte,reduceCtorEq]
    exact ⟨i + 1,⟨aS,hI⟩,by omega,aE (by rw [ay i (by omega)]) rfl⟩
 ·rw [aaZ (dg iR)] at hI
  exact bf rfl (by rw [← hI];rfl)
structure Ty where
 s:Sg
 es:List gL
deriving Inhabited
def Ty.av (t:Ty):AV:=.agg [.al 0 (strs t.s.ft),.al 0 (oq t.s.ops),.al 0 (jr t.es)]
theorem Ty.facts (t:Ty):t.av.val=true∧t.av.cells.length=3∧t.av.cells.all AV.one=true∧t.av.ae=t.av∧t.av.drop=t.av∧∀ n,t.av.a8 n=true:=
 ⟨rfl,rfl,rfl,rfl,rfl,fun n=>by simp [Ty.av,AV.a8,ak,xg,xf,D4]⟩
theorem zO (t:Ty) (φ:AV→Prop):aq 0 (some 2) (.aj t.av) φ=φ (.aj t.s.av):=by simp [aq,apart,Ty.av,Sg.av,AV.cells]
theorem Rk (t:Ty) (φ:AV→Prop):aq 2 none (.aj t.av) φ=φ (.aj (.al 0 (jr t.es))):=by simp [aq,apart,Ty.av,AV.cells,AV.one]
theorem fS1 (s:Sg) (φ:AV→Prop):aq 1 none (.aj s.av) φ=φ (.aj (.al 0 (oq s.ops))):=by simp [aq,apart,Sg.av,AV.cells,AV.one]
theorem dq (t:Ty) (H:List aa) (φ:AV→Prop):aV (some 3) (.aj t.av) H φ=φ t.av:=by simp [aV,Ty.av,AV.cells]
noncomputable def ej (t:Ty) (ps ss:List Int):Int:=lf (fun e=>!rN ps ss e) t.es 0
theorem Ys (t:Ty) (ps ss:List Int) (hv:Va ps ss) (he:∀ e∈t.es,L6 ps e):Pure Tryz.prog 89 [t.av,fa ps ss] (.int .i64 (ej t ps ss)):=by
 refine fun H=>k89.2.calls rfl ?_
 simp only [k89,aK]
 obtain ⟨q1,q2,q3,q4,q5,q6⟩:=bi ps ss
 obtain ⟨e1,e2,e3,e4,e5,e6⟩:=Ty.facts t
 simp +contextual only [q1,e1,Rk,sZ,Nat.reduceEqDiff,Nat.reduceAdd,↓reduceIte,reduceCtorEq]
 refine af (abV ps ss t.es hv he) ?_
 simp +contextual only [sZ,↓reduceIte,reduceCtorEq]
 exact bf rfl rfl
end Go.aJ
end
section
set_option maxRecDepth 100000
set_option maxHeartbeats 0
namespace Go.aJ
open Go Go.Proofs
noncomputable def Hn:=aK Tryz.call112 Tryz.func112 Tryz.ntmps112 [(0,0,1),(8,0,3001)] [(0,[1,2,3,4,8]),(1,[1,2,3,8,9]),(2,[1,2,3,8,10]),(3,[2,3,8,10,24,25,26]),(4,[2,3,8,10,24,25,26,27]),(5,[2,3,8,10,11,12,24,25,26]),(6,[2,3,8,10,24,25,26]),(7,[2,3,8,10,24,25,26]),(8,[8])] [(6,(.take 0 true (.take 1 true (.take 2 true (.take 6 true (.take 7 true (.take 8 true (.take 9 true (.take 10 true (.take 11 true (.take 12 true (.take 13 true (.take 14 true (.take 3 false (.take 5 false (.br 4 (.br 15 (.take 16 true (.br 17 .done .nil)) .nil) (.br 15 (.take 4 true (.take 16 true (.br 17 .done .nil))) .nil)))))))))))))))))]
end Go.aJ
end
section
set_option maxRecDepth 100000
namespace Go.aJ
open Go Go.Proofs Go.eN
def dG:List Int→List Int→List Int→List Int
 | l,i::r,x::s=>dG (l.set i.toNat x) r s
 | l,_,_=>l
def iY (n:Nat) (ops pl:List Int):List Int:=dG (List.replicate n 255) ops pl
def iZ (n:Nat) (ops st:List Int):List Int:=dG (List.replicate n 1) ops st
theorem qo:∀ (l r s:List Int),(dG l r s).length=l.length
 | l,[],_=>by cases l <;> rfl
 | l,_::_,[]=>rfl
 | l,i::r,x::s=>by rw [dG,qo];simp
theorem abW (t:Ty) (ops pl st:List Int) {vo vp vs:AV} (ho:IL vo ops) (hp:IL vp pl) (hs:IL vs st) (qK:pl.length=ops.length) (pi:st.length=ops.length) (hr:∀ i∈ops,0≤i∧i < t.s.ops.length) (hn:t.s.ops.length≤1000000000) (jO:ops.length≤1000000000):Pure Tryz.prog 112 [t.av,vo,vp,vs] (fa (iY t.s.ops.length ops pl) (iZ t.s.ops.length ops st)):=by
 refine fun H=>Hn.2.calls rfl ?_
 simp only [Hn,aK]
 obtain ⟨e1,e2,e3,e4,e5,e6⟩:=Ty.facts t
 obtain ⟨a1,a2,a3,a4⟩:=ho.one
 obtain ⟨b1,b2,b3,b4⟩:=hp.one
 obtain ⟨c1,c2,c3,c4⟩:=hs.one
 simp +contextual only [e1,zO,fS1,ot,sZ,Nat.reduceEqDiff,Nat.reduceAdd,↓reduceIte,reduceCtorEq]
 intro _
 refine ag (I6 0 255 t.s.ops.length hn _) ?_
 rintro r G ⟨rfl,rfl⟩
 simp +contextual only [sZ,Nat.reduceEqDiff,Nat.reduceAdd,↓reduceIte]
 refine ag (I6 0 1 t.s.ops.length hn _) ?_
 rintro r G ⟨rfl,rfl⟩
 simp +contextual only [sZ,Nat.reduceEqDiff,Nat.reduceAdd,↓reduceIte]
 obtain ⟨n,hn'⟩:∃ n,n=t.s.ops.length:=⟨_,rfl⟩
 rw [← hn'] at hn hr ⊢
 have va:∀ a b c d,(AV.aU a b c d).val=true:=fun _ _ _ _=>rfl
 have vc:∀ a b c d,(AV.aU a b c d).cells=[.aU a b c d]:=fun _ _ _ _=>rfl
 have vo':∀ a b c d,(AV.aU a b c d).one=true:=fun _ _ _ _=>rfl
 have vd:∀ a b c d,(AV.aU a b c d).drop=.aU a b c d:=fun _ _ _ _=>rfl
 have bdA:∀ (a1 b1 c1 d1 a2 b2 c2 d2:Nat) (φ:AV→Prop),b7 [AV.ah,AV.ah] [(0,1,.aU a1 b1 c1 d1),(1,1,.aU a2 b2 c2 d2)] φ=φ (.agg [.aU a1 b1 c1 d1,.aU a2 b2 c2 d2]):=by
  intro a1 b1 c1 d1 a2 b2 c2 d2 φ
  simp only [b7,gE,eq_iff_iff]
  constructor
  ·rintro ⟨_,_,_,_,_,_,h⟩;exact h
  ·exact fun h=>⟨rfl,rfl,by simp,rfl,rfl,by simp [ai,AV.cells],h⟩
 have g3:∀ (a b c d:aa),[a,b,c,d][3]?=some d:=fun _ _ _ _=>rfl
 have sp2:∀ (a b x y:AV),ai [a,b] 0 [x,y]=[x,y]:=fun _ _ _ _=>rfl
 have lt1:∀ m:Nat,decide (m + 1 < m + 3 + 1)=true:=fun m=>by simp
 have lt2:∀ m:Nat,decide (m + 2 < m + 3 + 1)=true:=fun m=>by simp
 let S:List Int→List Int→List aa:=fun P Q=>H++[.cells [.ah,.ah],bI P,bI Q,.cells [.aU (H.length + 1) 0 n n,.aU (H.length + 2) 0 n n]]
 simp +contextual only [bdA,vo',g3,sp2,s3,lt1,lt2,ac2,a2,ho.aN,ho.len (by omega),sZ,Nat.reduceEqDiff,Nat.reduceAdd,↓reduceIte]
 refine aB ops.length (fun j (s:List Int×List Int)=>s.1.length=n∧s.2.length=n∧dG s.1 (ops.drop j) (pl.drop j)=iY n ops pl∧dG s.2 (ops.drop j) (st.drop j)=iZ n ops st)
  (fun j s=>[(2,vp),(3,vs),(8,.ptr H.length 0),(10,.ptr (H.length + 3) 0),(24,vo),(25,.int .i64 ops.length),(26,.int .i64 j)]) (fun j s=>S s.1 s.2) (List.replicate n 255,List.replicate n 1) ⟨⟨by simp,by simp,rfl,rfl⟩,aD _ _ _⟩ fun j s hj hI=>?_
 obtain ⟨P,Q⟩:=s
 obtain ⟨hP,hQ,L7,Jp⟩:=hI
 simp only at hP hQ L7 Jp
 by_cases Yt:(j:Int) < ops.length
 ·have mZ:j < ops.length:=by omega
  have hri:=hr _ (aO mZ)
  obtain ⟨x,hx⟩:=ade hri.1
  have hxn:x < n:=by omega
  have hxP:x < P.length:=by omega
  have hxQ:x < Q.length:=by omega
  simp +contextual only [S,Yt,decide_true,b2,c2,ho.lens,ho.idx,hp.lens,hp.idx,hs.lens,hs.idx,aaa,hx,ig,g3,DG hxP,DG hxQ,sZ,Nat.reduceEqDiff,Nat.reduceAdd,Nat.reduceLT,↓reduceIte,reduceCtorEq]
  have stp:∀ (P q:List Int),q.length=ops.length→dG P (ops.drop j) (q.drop j)=dG (P.set x (q.getD j 0)) (ops.drop (j + 1)) (q.drop (j + 1)):=by
   intro P q hq
   have e1:ops.drop j=ops.getD j 0::ops.drop (j + 1):=by rw [aaU mZ];simp [mZ]
   have Yu:j < q.length:=by omega
   have e2:q.drop j=q.getD j 0::q.drop (j + 1):=by rw [aaU Yu];simp [Yu]
   rw [e1,e2,dG,hx,aaa]
  rw [stp P pl qK] at L7
  rw [stp Q st pi] at Jp
  have hgo:∃ (j':Nat) (t:List Int×List Int),(j'≤ops.length∧t.1.length=n∧t.2.length=n∧dG t.1 (ops.drop j') (pl.drop j')=iY n ops pl∧dG t.2 (ops.drop j') (st.drop j')=iZ n ops st)∧ops.length - j' < ops.length - j∧
   sle H.length [(2,vp),(3,vs),(8,.ptr H.length 0),(10,.ptr (H.length + 3) 0),(24,vo),(25,.int .i64 ops.length),(26,.int .i64 (IntKind.i64.wrap (j + 1)))]
    (H++[.cells [.ah,.ah],bI (P.set x (pl.getD j 0)),bI (Q.set x (st.getD j 0)),.cells [.aU (H.length + 1) 0 n n,.aU (H.length + 2) 0 n n]])
    [(2,vp),(3,vs),(8,.ptr H.length 0),(10,.ptr (H.length + 3) 0),(24,vo),(25,.int .i64 ops.length),(26,.int .i64 j')]
    (H++[.cells [.ah,.ah],bI t.1,bI t.2,.cells [.aU (H.length + 1) 0 n n,.aU (H.length + 2) 0 n n]]):=
   ⟨j + 1,(P.set x (pl.getD j 0),Q.set x (st.getD j 0)),⟨mZ,by simp [hP],by simp [hQ],L7,Jp⟩,by omega,aE (by rw [ay j (by omega)]) rfl⟩
  repeat' apply rZ
  all_goals first | omega | exact hgo
 ·have Uq:j=ops.length:=by omega
  subst Uq
  rw [List.drop_length] at L7 Jp
  have eP:P=iY n ops pl:=by rw [← L7];cases P <;> rfl
  have eQ:Q=iZ n ops st:=by rw [← Jp];cases Q <;> rfl
  simp +contextual only [Fz,S,Yt,decide_false,g3,vd,sZ,Nat.reduceEqDiff,↓reduceIte]
  have f1:(H++[aa.cells [AV.ah,.ah],bI P,bI Q,.cells [.aU (H.length + 1) 0 n n,.aU (H.length + 2) 0 n n]])[H.length + 1]?=some (bI P):=by simp
  have f2:((H++[aa.cells [AV.ah,.ah],bI P,bI Q,.cells [.aU (H.length + 1) 0 n n,.aU (H.length + 2) 0 n n]]).set (H.length + 1) .dead)[H.length + 2]?=some (bI Q):=by rw [yq (by omega)];simp
  have fz1:∀ {id n:Nat} {l:List Int} {H:List aa} (h:H[id]?=some (bI l)) (hn:l.length=n) {K:AV→List aa→Prop} (hK:K (.al 0 (ints l)) (H.set id .dead)),dD 1 (.aU id 0 n n) H K:=fun h hn K hK=>by subst hn;exact xd h hK
  refine fz1 f1 hP ?_
  refine fz1 f2 hQ ?_
  have es:((H++[aa.cells [AV.ah,.ah],bI P,bI Q,.cells [.aU (H.length + 1) 0 n n,.aU (H.length + 2) 0 n n]]).set (H.length + 1) .dead).set (H.length + 2) .dead=H++[aa.cells [AV.ah,.ah],.dead,.dead,.cells [.aU (H.length + 1) 0 n n,.aU (H.length + 2) 0 n n]]:=by simp []
  rw [es]
  have fb:∀ m,ak m [AV.al 0 (ints P),.al 0 (ints Q)]=true:=fun m=>by simp [bE,cN,ch,aW]
  simp +contextual only [fb,sp2,ac2,sZ,Nat.reduceEqDiff,Nat.reduceAdd,↓reduceIte,reduceCtorEq]
  rw [eP,eQ]
  exact Dc ((bi _ _).2.2.2.2.2 _) rfl
end Go.aJ
end
section
set_option maxRecDepth 100000
namespace Go.aJ
open Go Go.Proofs Go.eN
def eZ (vals:List Int):Nat→List (List Int)
 | 0=>[[]]
 | n + 1=>vals.flatMap fun x=>(eZ vals n).map (x::·)
def dJ {σ:Type} (step:σ→List Int→σ×Bool):List (List Int)→σ→σ×Bool
 | [],s=>(s,true)
 | l::r,s=>if (step s l).2=true then dJ step r (step s l).1 else ((step s l).1,false)
theorem xp {σ:Type} {step:σ→List Int→σ×Bool}:∀ (a b:List (List Int)) (s:σ),dJ step (a++b) s=if (dJ step a s).2=true then dJ step b (dJ step a s).1 else ((dJ step a s).1,false)
 | [],b,s=>by simp [dJ]
 | x::a,b,s=>by
   rw [List.cons_append,dJ,dJ]
   split
   ·exact xp a b _
   ·simp
def cM (lo:Int) (n:Nat):List Int:=(List.range n).map fun i=>lo + (i:Nat)
theorem F3 (lo:Int) (n:Nat):cM lo (n + 1)=cM lo n++[lo + (n:Nat)]:=by simp [cM,adx]
theorem pc {lo x:Int} {n:Nat}:x∈cM lo n↔lo≤x∧x < lo + n:=by
 simp only [cM,aag,abq]
 constructor
 ·rintro ⟨j,h,rfl⟩;omega
 ·intro h;exact ⟨(x - lo).toNat,by omega,by omega⟩
def Ho (n:Nat) (id:Nat) (lo hi:Int) (q:Nat):AV:=.fn (.func 206) [] [.aj (.int .i64 n),.aj (.nF id),.aj (.int .i64 lo),.aj (.int .i64 hi),.ptr q 0]
structure YS {σ:Type} (n:Nat) (vals:List Int) (id:Nat) (St:σ→List aa) (Good:σ→Prop) (step:σ→List Int→σ×Bool):Prop where
 y:∀ l s X,l.length=n→(∀ x∈l,x∈vals)→Good s→jS Tryz.prog id [bo l] (St s++X) fun r H'=>r=.bool (step s l).2∧H'=St (step s l).1++X
 Ug:∀ l s,Good s→(step s l).2=true→Good (step s l).1
 len:∀ s s',(St s).length=(St s').length
theorem zP {σ:Type} {n:Nat} {vals:List Int} {id:Nat} {St:σ→List aa} {Good:σ→Prop} {step:σ→List Int→σ×Bool} (h:YS n vals id St Good step):∀ (a:List (List Int)) (s:σ),Good s→(dJ step a s).2=true→Good (dJ step a s).1
 | [],s,hs,_=>hs
 | l::r,s,hs,hr=>by
   rw [dJ] at hr ⊢
   split at hr
   ·rename_i h1
    rw [if_pos h1]
    exact zP h r _ (h.Ug l s hs h1) hr
   ·simp at hr
theorem P4 (l:List Int) (h:l≠[]):bo l=.al 0 (ints l):=by cases l with
 | nil=>exact absurd rfl h
 | cons a r=>rfl
theorem Yv (l:List Int) (hb:l.length * 8≤140737488355328):Pure Tryz.prog 118 [bo l] (.al 1 (ints l)):=by
 intro H
 cases l with
 | nil=>exact yW H
 | cons a r=>exact wH 0 (ints (a::r)) H (of_eq_true (mI _)) (by rw [ax];exact hb) (aW _ _)
theorem ab2 {σ:Type} {n:Nat} {lo hi:Int} (uD:-1000000≤lo∧lo≤1000000) (JU:-1000000≤hi∧hi≤1000000) (hn:n≤1000000) {id:Nat} {St:σ→List aa} {Good:σ→Prop} {step:σ→List Int→σ×Bool} (hy:YS n (cM lo (hi + 1 - lo).toNat) id St Good step) (q:Nat) :
 ∀ (r:Nat) (l:List Int) (s:σ) (X:List aa),l.length + r=n→(∀ x∈l,x∈cM lo (hi + 1 - lo).toNat)→Good s→(∀ s',(St s'++X)[q]?=some (.cells [Ho n id lo hi q]))→
  aw Tryz.prog 206 [bo l,.aj (.int .i64 n),.aj (.nF id),.aj (.int .i64 lo),.aj (.int .i64 hi),.ptr q 0] (St s++X) fun rr H'=>rr=.bool (dJ step ((eZ (cM lo (hi + 1 - lo).toNat) r).map (l++·)) s).2∧H'=St (dJ step ((eZ (cM lo (hi + 1 - lo).toNat) r).map (l++·)) s).1++X:=by
 intro r
 induction r with
 | zero=>
   intro l s X hl hm hs hq
   refine N2.2.calls rfl ?_
   simp only [N2,aK]
   have ik:IL (bo l) l:=.inl rfl
   obtain ⟨a1,a2,a3,a4,a5⟩:=aG l
   have e1:((l.length:Int)=(n:Int))=True:=eq_true (by omega)
   have lyld:∀ (H:List aa) (φ:AV→Prop),aV none (.aj (.nF id)) H φ=φ (.nF id):=fun H φ=>by simp [aV,AV.one,AV.ae]
   have e2:dJ step ((eZ (cM lo (hi + 1 - lo).toNat) 0).map (l++·)) s=step s l:=by
    simp only [eZ,List.map_cons,List.map_nil,abX,dJ]
    cases hb:(step s l).2 with
    | true=>rw [if_pos rfl,← hb]
    | false=>rw [if_neg (by simp),← hb]
   rw [e2]
   simp +contextual only [a2,ik.aN,ik.len (by omega),e1,decide_true,lyld,Hl,sZ,Nat.reduceEqDiff,Nat.reduceAdd,↓reduceIte,reduceCtorEq]
   refine zK (hy.y l s X (by omega) hm hs) ?_
   rintro rr H' ⟨rfl,rfl⟩
   simp +contextual only [sZ,↓reduceIte,reduceCtorEq]
   refine aX (St s++X).length (yo _) (by rw [aA,if_pos rfl];rfl) ?_
   rw [aA,if_pos rfl]
   exact ⟨rfl,by rw [aak (by rw [aab,aab,hy.len _ s];exact yo _)]⟩
 | succ r ih=>
   intro l s X hl hm hs hq
   refine N2.2.calls rfl ?_
   simp only [N2,aK]
   have ik:IL (bo l) l:=.inl rfl
   obtain ⟨a1,a2,a3,a4,a5⟩:=aG l
   have e1:((l.length:Int)=(n:Int))=False:=eq_false (by omega)
   have qQ:∀ (b:Bool) (s':σ),bV (St s++X).length [.t 7] [(7,.bool b)] (St s'++X) fun rr H'=>rr=.bool b∧H'=St s'++X:=by
    intro b s'
    refine aX (St s++X).length (yo _) (by rw [aA,if_pos rfl];rfl) ?_
    rw [aA,if_pos rfl]
    exact ⟨rfl,by rw [aak (by rw [aab,aab,hy.len _ s];exact yo _)]⟩
   obtain ⟨m,UX⟩:∃ m,m=(hi + 1 - lo).toNat:=⟨_,rfl⟩
   rw [← UX] at ih hm ⊢
   obtain ⟨F,hF⟩:∃ F:Nat→List (List Int),F=fun k=>(cM lo k).flatMap fun x=>(eZ (cM lo m) r).map fun y=>l++x::y:=⟨_,rfl⟩
   have hF0:F 0=[]:=by rw [hF];rfl
   have hFs:∀ k,F (k + 1)=F k++(eZ (cM lo m) r).map ((l++[lo + (k:Nat)])++·):=by
    intro k
    rw [hF]
    simp only [F3,adr,List.flatMap_cons,adZ,abX,aa2,List.cons_append,List.nil_append]
   have hFm:(eZ (cM lo m) (r + 1)).map (l++·)=F m:=by
    rw [hF,eZ,List.map_flatMap]
    congr 1
    funext x
    rw [adp];rfl
   rw [hFm]
   simp +contextual only [a2,ik.aN,ik.len (by omega),e1,decide_false,sZ,Nat.reduceEqDiff,Nat.reduceAdd,↓reduceIte,reduceCtorEq]
   refine aB m (fun k (_:Unit)=>(dJ step (F k) s).2=true) (fun k _=>[(0,bo l),(4,.aj (.int .i64 hi)),(5,.ptr q 0),(8,.int .i64 (lo + (k:Nat)))]) (fun k _=>St (dJ step (F k) s).1++X) () ⟨by rw [hF0];rfl,aE (by simp) (by rw [hF0];rfl)⟩ fun k _ hk hI=>?_
   have hg:=zP hy (F k) s hs hI
   generalize Qn:(dJ step (F k) s).1=s1 at hg ⊢
   by_cases hkm:lo + (k:Int)≤hi
   ·have Cg:k < m:=by omega
    have hql:=hq s1
    simp +contextual only [hkm,decide_true,a2,sZ,Nat.reduceEqDiff,↓reduceIte,reduceCtorEq]
    refine aL (Yv l (by omega)) ?_
    have jv:sq 1 [AV.int .i64 (lo + (k:Int))]:=of_eq_true (mI [_])
    have efn:(Ho n id lo hi q).ae=.fn (.func 206) [] [.aj (.int .i64 n),.aj (.nF id),.aj (.int .i64 lo),.aj (.int .i64 hi),.ptr q 0]:=rfl
    have ea:ints l++[AV.int .i64 (lo + (k:Int))]=ints (l++[lo + (k:Int)]):=by simp [ints]
    have ek:AV.al 0 (ints (l++[lo + (k:Int)]))=bo (l++[lo + (k:Int)]):=by rw [P4 _ (by simp)]
    simp +contextual only [hql,efn,ax,jv,ea,ek,GP,sZ,Nat.reduceEqDiff,Nat.reduceAdd,Nat.reduceLT,↓reduceIte,reduceCtorEq]
    refine ⟨by omega,ag (ih (l++[lo + (k:Int)]) s1 X (by simp;omega) (fun x hx=>?_) hg hq) ?_⟩
    ·rcases abf.1 hx with h | h
     ·exact hm x h
     ·simp only [UQ,aaY,or_false] at h
      subst h
      exact pc.2 ⟨by omega,by omega⟩
    rintro rr H' ⟨rfl,rfl⟩
    have bJ:dJ step (F (k + 1)) s=dJ step ((eZ (cM lo m) r).map ((l++[lo + (k:Int)])++·)) s1:=by
     rw [hFs,xp,if_pos hI,Qn]
    cases hb:(dJ step ((eZ (cM lo m) r).map ((l++[lo + (k:Int)])++·)) s1).2 with
    | true=>
      simp +contextual only [Bool.not_true,sZ,Nat.reduceEqDiff,↓reduceIte,reduceCtorEq]
      refine ⟨k + 1,(),⟨Cg,by rw [bJ];exact hb⟩,by omega,aE ?_ (by rw [bJ])⟩
      rw [eD _ (by omega)]
      have:lo + (k:Int) + 1=lo + ((k + 1:Nat):Int):=by omega
      rw [this]
    | false=>
      simp +contextual only [Bool.not_false,sZ,Nat.reduceEqDiff,↓reduceIte,reduceCtorEq]
      have iQ:dJ step (F m) s=((dJ step ((eZ (cM lo m) r).map ((l++[lo + (k:Int)])++·)) s1).1,false):=by
       have e:∃ R,F m=F (k + 1)++R:=by
        have:∀ d,∃ R,F (k + 1 + d)=F (k + 1)++R:=by
         intro d
         induction d with
         | zero=>exact ⟨[],by simp⟩
         | succ d ihd=>
           obtain ⟨R,hR⟩:=ihd
           exact ⟨R++_,by rw [show k + 1 + (d + 1)=(k + 1 + d) + 1 by omega,hFs,hR,aa2]⟩
        obtain ⟨R,hR⟩:=this (m - (k + 1))
        exact ⟨R,by rw [← hR];congr 1;omega⟩
       obtain ⟨R,hR⟩:=e
       rw [hR,xp,bJ,hb,if_neg (by simp)]
      rw [iQ]
      exact qQ false _
   ·have hke:k=m:=by omega
    simp +contextual only [hkm,decide_false,sZ,Nat.reduceEqDiff,↓reduceIte,reduceCtorEq]
    rw [← hke,hI,Qn]
    exact qQ true s1
theorem Yw {σ:Type} {n:Nat} {lo hi:Int} (uD:-1000000≤lo∧lo≤1000000) (JU:-1000000≤hi∧hi≤1000000) (hn:n≤1000000) {id:Nat} {St:σ→List aa} {Good:σ→Prop} {step:σ→List Int→σ×Bool} (hy:YS n (cM lo (hi + 1 - lo).toNat) id St Good step) (bm:∀ s,id < (St s).length) (s:σ) (hs:Good s) :
 aw Tryz.prog 205 [.nF id,.aj (.int .i64 n),.aj (.int .i64 lo),.aj (.int .i64 hi)] (St s) fun rr H'=>rr=.tuple []∧H'=St (dJ step (eZ (cM lo (hi + 1 - lo).toNat) n) s).1:=by
 refine Wy.2.calls rfl ?_
 simp only [Wy,aK]
 have aga:=bm s
 have vy:(AV.nF id).val=true:=rfl
 have cy:(AV.nF id).cells=[.nF id]:=rfl
 have oy:(AV.nF id).one=true:=rfl
 have by':∀ m,(AV.nF id).a8 m=decide (id < m):=fun m=>by simp [AV.a8]
 have d1:decide (id < (St s).length + 1)=true:=decide_eq_true (by omega)
 have d2':decide ((St s).length < (St s).length + 1)=true:=decide_eq_true (by omega)
 have efn:(Ho n id lo hi (St s).length).ae=.fn (.func 206) [] [.aj (.int .i64 n),.aj (.nF id),.aj (.int .i64 lo),.aj (.int .i64 hi),.ptr (St s).length 0]:=rfl
 simp +contextual only [vy,by',d1,d2',ac2,sp1,sZ,Nat.reduceEqDiff,Nat.reduceAdd,Nat.reduceLT,↓reduceIte,reduceCtorEq]
 have h:=ab2 uD JU hn hy (St s).length n [] s [.cells [Ho n id lo hi (St s).length]] (by simp) (fun x hx=>by cases hx) hs (fun s'=>by rw [← hy.len s' s];simp)
 have em:(eZ (cM lo (hi + 1 - lo).toNat) n).map ([]++·)=eZ (cM lo (hi + 1 - lo).toNat) n:=by simp
 rw [em] at h
 refine ag h ?_
 rintro rr H' ⟨rfl,rfl⟩
 simp +contextual only [sZ,reduceCtorEq]
 refine ⟨(St s).length,yo _,[],trivial,rfl,rfl,?_⟩
 rw [hy.len s _,adn]
theorem Yx (n:Nat) (lo hi:Int):Pure Tryz.prog 166 [.int .i64 n,.int .i64 lo,.int .i64 hi] (.fn (.func 205) [] [.aj (.int .i64 n),.aj (.int .i64 lo),.aj (.int .i64 hi)]):=by
 refine fun H=>Wo.2.calls rfl ?_
 simp only [Wo,aK]
 simp +contextual only [sZ,Nat.reduceEqDiff,Nat.reduceAdd,↓reduceIte,reduceCtorEq]
 exact bf rfl rfl
end Go.aJ
end
section
set_option maxRecDepth 100000
namespace Go.aJ
open Go Go.Proofs Go.eN
theorem ab3 (x:Int) (r:List Int) (hl:r.length≤1000000000):Pure Tryz.prog 207 [.al 0 (ints (x::r))] (.int .i64 (r.foldl max x)):=by
 refine fun H=>Wz.2.calls rfl ?_
 simp only [Wz,aK]
 have ix:IL (.al 0 (ints (x::r))) (x::r):=.inr rfl
 have n1:(((x::r).length:Int) < 1)=False:=eq_false (by simp;omega)
 have g0':(x::r).getD (0:Int).toNat 0=x:=rfl
 have ll:(x::r).length≤1000000001:=by simp;omega
 generalize ew:x::r=xs at *
 have eU:0 < xs.length:=by rw [← ew];simp
 simp +contextual only [ix.aN,ix.len (by omega),n1,decide_false,ix.lens,ix.idx,g0',sZ,Nat.reduceEqDiff,Nat.reduceAdd,↓reduceIte,reduceCtorEq]
 refine ⟨by omega,?_⟩
 have hsplit:∀ j,j≤r.length→(r.take j).foldl max x=((xs.take (j + 1)).drop 1).foldl max x:=by intro j _;rw [← ew];simp
 refine aR r.length (fun j=>True) (fun j=>[(0,.al 0 (ints xs)),(3,.int .i64 ((r.take j).foldl max x)),(4,.int .i64 ((j + 1:Nat):Int))]) (fun _=>H) ⟨trivial,aD _ _ _⟩ fun j hj _=>?_
 have HI:xs.length=r.length + 1:=by rw [← ew];simp
 by_cases hjr:j < r.length
 ·have n2:(((j + 1:Nat):Int) < xs.length)=True:=eq_true (by omega)
  have gj:xs.getD (j + 1) 0=r.getD j 0:=by rw [← ew];simp
  have tk:(r.take (j + 1)).foldl max x=max ((r.take j).foldl max x) (r.getD j 0):=by
   rw [ab8 hjr,List.foldl_append]
   simp [hjr]
  simp +contextual only [ix.aN,ix.len (by omega),n2,decide_true,ix.lens,ix.idx,aaa,gj,sZ,Nat.reduceEqDiff,↓reduceIte,reduceCtorEq]
  exact ⟨by omega,j + 1,hjr,by omega,aE (by rw [eD _ (by omega),tk];rfl) rfl⟩
 ·have e:j=r.length:=by omega
  subst e
  have n2:(((r.length + 1:Nat):Int) < xs.length)=False:=eq_false (by omega)
  simp +contextual only [ix.aN,ix.len (by omega),n2,decide_false,sZ,Nat.reduceEqDiff,↓reduceIte,reduceCtorEq]
  exact bf rfl (by rw [aa8])
theorem Yy (l:List Int) {v:AV} (h:IL v l) (hl:l.length≤1000000000) (y:Int):Pure Tryz.prog 111 [v,.int .i64 y] (.int .i64 (lf (fun z=>decide (y=z)) l 0)):=by
 refine fun H=>V2.2.calls rfl ?_
 simp only [V2,aK]
 obtain ⟨a1,a2,a3,a4⟩:=h.one
 simp +contextual only [a2,h.aN,h.len (by omega),sZ,Nat.reduceEqDiff,Nat.reduceAdd,↓reduceIte,reduceCtorEq]
 refine aR l.length (fun i=>lf (fun z=>decide (y=z)) (l.drop i) i=lf (fun z=>decide (y=z)) l 0) (fun i=>[(0,v),(1,.int .i64 y),(7,.int .i64 l.length),(8,.int .i64 i)]) (fun _=>H) ⟨rfl,aD _ _ _⟩ fun i hi hI=>?_
 by_cases BJ:i < l.length
 ·have n1:((i:Int) < l.length)=True:=eq_true (by omega)
  rw [tx BJ] at hI
  have egd:l.getD i default=l.getD i 0:=by simp [BJ]
  rw [egd] at hI
  simp +contextual only [n1,decide_true,a2,h.lens,h.idx,aaa,sZ,Nat.reduceEqDiff,↓reduceIte,reduceCtorEq]
  refine ⟨by omega,fun he=>?_,fun eU=>?_⟩
  ·rw [if_pos (by simpa using he)] at hI
   exact bf rfl (by rw [← hI])
  ·rw [if_neg (by simpa using eU)] at hI
   exact ⟨i + 1,⟨BJ,hI⟩,by omega,aE (by rw [ay i (by omega)]) rfl⟩
 ·have n1:((i:Int) < l.length)=False:=eq_false (by omega)
  rw [aaZ (by omega)] at hI
  simp +contextual only [n1,decide_false,sZ,Nat.reduceEqDiff,↓reduceIte,reduceCtorEq]
  exact bf rfl (by rw [← hI];rfl)
theorem rO {α:Type} {p:α→Bool}:∀ (l:List α) (i:Nat),0≤lf p l i↔∃ x∈l,p x=true
 | [],i=>by simp [lf]
 | x::r,i=>by
   rw [lf]
   by_cases h:p x=true
   ·rw [if_pos h];exact ⟨fun _=>⟨x,by simp,h⟩,fun _=>by omega⟩
   ·rw [if_neg h,rO r (i + 1)]
    simp [h]
theorem ab5 (l:List Int) {v:AV} (h:IL v l) (hl:l.length≤1000000000) (y:Int):Pure Tryz.prog 208 [v,.int .i64 y] (.bool (decide (y∈l))):=by
 refine fun H=>WA.2.calls rfl ?_
 simp only [WA,aK]
 obtain ⟨a1,a2,a3,a4⟩:=h.one
 simp +contextual only [a2,sZ,Nat.reduceEqDiff,Nat.reduceAdd,↓reduceIte,reduceCtorEq]
 refine af (Yy l h hl y) ?_
 simp +contextual only [sZ,↓reduceIte,reduceCtorEq]
 refine bf rfl ?_
 congr 1
 rw [decide_eq_decide,rO]
 simp
def yj (l:List Int):Int:=l.foldl max (-1)
def jt (l:List Int):Bool:=(List.range (yj l + 1).toNat).all fun j=>decide ((j:Int)∈l)
theorem foldl_max:∀ (l:List Int) (x b:Int),x≤b→(∀ y∈l,y≤b)→x≤l.foldl max x∧l.foldl max x≤b
 | [],x,b,h,_=>⟨Int.le_refl _,h⟩
 | y::r,x,b,h,hr=>by
   have h1:=hr y (by simp)
   have:=foldl_max r (max x y) b (by omega) (fun z hz=>hr z (by simp [hz]))
   rw [List.foldl_cons];omega
theorem ab6 (l:List Int) {v:AV} (h:IL v l) (hl:l.length≤100000000) (hb:∀ x∈l,x≤1000000):Pure Tryz.prog 167 [v] (.bool (jt l)):=by
 refine fun H=>Wp.2.calls rfl ?_
 simp only [Wp,aK]
 obtain ⟨a1,a2,a3,a4⟩:=h.one
 have VO:∀ ψ:List AV→Prop,bw 1 8 (.al 1 [.int .i64 (-1)]) v ψ=ψ (ints (-1::l)):=by
  intro ψ
  have hr:dB v=some (ints l):=by
   rcases h with rfl | rfl
   ·cases l <;> rfl
   ·rfl
  have Vj:m8 1 (.al 1 [.int .i64 (-1)])=some [.int .i64 (-1)]:=rfl
  have ok:sq 1 (ints l):=of_eq_true (mI l)
  simp only [bw,Vj,hr,eq_iff_iff]
  exact ⟨fun h=>h.2.2,fun k=>⟨by simp [ax];omega,ok,k⟩⟩
 have hm:=foldl_max l (-1) 1000000 (by omega) hb
 simp +contextual only [a2,VO,sZ,Nat.reduceEqDiff,Nat.reduceAdd,↓reduceIte,reduceCtorEq]
 refine af (ab3 (-1) l (by omega)) ?_
 have em:l.foldl max (-1)=yj l:=rfl
 rw [em] at hm ⊢
 have hw:IntKind.i64.wrap (yj l + 1)=yj l + 1:=eD _ (by omega)
 simp +contextual only [hw,sZ,Nat.reduceEqDiff,↓reduceIte,reduceCtorEq]
 refine aR (yj l + 1).toNat (fun j=>∀ i,i < j→(i:Int)∈l) (fun j=>[(0,v),(8,.int .i64 (yj l + 1)),(9,.int .i64 j)]) (fun _=>H) ⟨fun i hi=>by omega,aD _ _ _⟩ fun j hj hI=>?_
 by_cases hjm:(j:Int) < yj l + 1
 ·simp +contextual only [hjm,decide_true,a2,sZ,Nat.reduceEqDiff,Nat.reduceAdd,↓reduceIte,reduceCtorEq]
  refine af (ab5 l h (by omega) j) ?_
  by_cases xO:(j:Int)∈l
  ·simp +contextual only [xO,decide_true,Bool.not_true,sZ,Nat.reduceEqDiff,↓reduceIte,reduceCtorEq]
   refine ⟨j + 1,⟨by omega,fun i hi=>?_⟩,by omega,aE (by rw [ay j (by omega)]) rfl⟩
   by_cases e:i=j
   ·subst e;exact xO
   ·exact hI i (by omega)
  ·simp +contextual only [xO,decide_false,Bool.not_false,sZ,Nat.reduceEqDiff,↓reduceIte,reduceCtorEq]
   refine bf rfl ?_
   congr 1
   have:jt l=false:=by
    unfold jt
    rw [adz]
    exact ⟨j,abq.2 (by omega),by simpa using xO⟩
   rw [this]
 ·have e:j=(yj l + 1).toNat:=by omega
  simp +contextual only [hjm,decide_false,sZ,Nat.reduceEqDiff,↓reduceIte,reduceCtorEq]
  refine bf rfl ?_
  congr 1
  have:jt l=true:=by
   unfold jt
   rw [aaL]
   intro i hi
   exact decide_eq_true (hI i (by rw [e];exact abq.1 hi))
  rw [this]
end Go.aJ
end
section
set_option maxRecDepth 100000
namespace Go.aJ
open Go Go.Proofs Go.eN
open Classical in
noncomputable def kI (t:Ty) (ops pl st:List Int):Bool:=decide (eT t.s (iY t.s.ops.length ops pl) (iZ t.s.ops.length ops st)=0∧ej t (iY t.s.ops.length ops pl) (iZ t.s.ops.length ops st) < 0)
abbrev Fo:=Option (List Int×List Int)
noncomputable def c8 (t:Ty) (ops pl:List Int) (s:Fo) (st:List Int):Fo×Bool:=if kI t ops pl st=true then (some (iY t.s.ops.length ops pl,iZ t.s.ops.length ops st),false) else (s,true)
noncomputable def eo (t:Ty) (ops:List Int) (s:Fo) (pl:List Int):Fo×Bool:=if jt pl=true then dJ (c8 t ops pl) (eZ (cM 1 3) ops.length) s else (s,true)
noncomputable def nB (t:Ty) (ops:List Int):Fo:=(dJ (eo t ops) (eZ (cM 0 ops.length) ops.length) none).1
def o4 (s:Fo):aa:=match s with | none=>.cells [.ah,.ah] | some (P,S)=>.cells [.al 0 (ints P),.al 0 (ints S)]
def o5 (s:Fo):aa:=.cells [.bool s.isSome]
noncomputable def ja (s:Fo):UR:=if s.isSome=true then .jump .ret else .ready
theorem By:ba.n=41:=by kernel_rfl
theorem Bz:bC.n=41:=by kernel_rfl
theorem xq:ba.ps=[15]:=by kernel_rfl
theorem xr:bC.ps=[22]:=by kernel_rfl
theorem L8 {n0 id:Nat} {R:AV→List aa→Prop} {H:List aa} {lc:iP} {es:List AV} (h:H[id]?=some (.loop .busy lc es)):qP n0 id R .ret H=Ie n0 false (H.set id (.loop (.jump .ret) lc es)) R:=by
 unfold qP;rw [h]
theorem D5 {id:Nat} {H:List aa} {K:Option Code→List aa→Prop} {lc:iP} {es:List AV} {c:Code} (h:H[id]?=some (.loop (.jump c) lc es)):behind id H K=K (some c) (H.set id (.loop .eO lc es)):=by
 unfold behind;rw [h]
theorem vu (t:Ty) (ops pl:List Int):∀ (a:List (List Int)) (s:Fo),s=none→(dJ (c8 t ops pl) a s).2=(dJ (c8 t ops pl) a s).1.isNone
 | [],s,h=>by subst h;rfl
 | l::r,s,h=>by
   subst h
   rw [dJ]
   by_cases ht:kI t ops pl l=true
   ·have e:c8 t ops pl none l=(some (iY t.s.ops.length ops pl,iZ t.s.ops.length ops l),false):=if_pos ht
    rw [e];rfl
   ·have e:c8 t ops pl none l=(none,true):=if_neg ht
    rw [e]
    exact vu t ops pl r none rfl
structure yk (t:Ty):Prop where
 n:t.s.ops.length≤1000000000
 eq:∀ e∈t.es,∀ ps:List Int,ps.length=t.s.ops.length→L6 ps e
theorem xt (n:Nat) (ops pl:List Int):(iY n ops pl).length=n:=by unfold iY;rw [qo];simp
theorem L9 (n:Nat) (ops pl:List Int):(iZ n ops pl).length=n:=by unfold iZ;rw [qo];simp
theorem vw (A:List aa) (x:aa) (Y:List aa) (k:Nat) (h:A.length=k):(A++x::Y)[k]?=some x:=by subst h;simp
theorem vx (A:List aa) (x y:aa) (Y:List aa) (k:Nat) (h:A.length=k):(A++x::Y).set k y=A++y::Y:=by subst h;simp
def fx (H W:List aa) (s:Fo):List aa:=H++o4 s::o5 s::W
theorem eY (H W:List aa) (s:Fo):(fx H W s).length=H.length + 2 + W.length:=by simp [fx];omega
theorem Rl (H W Y:List aa) (s:Fo):(fx H W s++Y)[H.length]?=some (o4 s):=by rw [yp (by rw [eY];omega)];simp [fx]
theorem Rm (H W Y:List aa) (s:Fo):(fx H W s++Y)[H.length + 1]?=some (o5 s):=by rw [yp (by rw [eY];omega)];simp [fx]
theorem Ux (H W Y:List aa) (s:Fo) (P S:List Int):((fx H W s++Y).set H.length (.cells [.al 0 (ints P),.al 0 (ints S)])).set (H.length + 1) (.cells [.bool true])=fx H W (some (P,S))++Y:=by
 rw [adJ _ _ (by rw [eY];omega),adJ _ _ (by rw [acD,eY];omega)]
 simp [fx,o4,o5]
theorem BA {s:Sg} {ps ss:List Int} (h:eT s ps ss=0):Va ps ss:=(lO.1 h).2.va
theorem Ma {t:Ty} (ht:yk t) {ops:List Int} {vo:AV} (ho:IL vo ops) (hr:∀ i∈ops,0≤i∧i < t.s.ops.length) (jO:ops.length≤1000000) {pl:List Int} (uN:pl.length=ops.length) (H W:List aa) (es:List AV) (Ab:es=kS 41 [(2,.aj t.av),(3,.aj vo),(4,.ptr H.length 0),(5,.ptr (H.length + 1) 0),(6,.aj (bo pl)),(21,.fn (.func 205) [] [.aj (.int .i64 ops.length),.aj (.int .i64 1),.aj (.int .i64 3)])])
 (l:List Int) (hl:l.length=ops.length) (Y:List aa) (id:Nat) (bm:id=H.length + 2 + W.length) :
 jS Tryz.prog id [bo l] (fx H W none++.loop .ready bC es::Y) fun r H'=>r=.bool (c8 t ops pl none l).2∧H'=fx H W (c8 t ops pl none l).1++.loop (ja (c8 t ops pl none l).1) bC es::Y:=by
 have ees:es=[.any,.any,.aj t.av,.aj vo,.ptr H.length 0,.ptr (H.length + 1) 0,.aj (bo pl),.any,.any,.any,.any,.any,.any,.any,.any,.any,.any,.any,.any,.any,.any,.fn (.func 205) [] [.aj (.int .i64 ops.length),.aj (.int .i64 1),.aj (.int .i64 3)],.any,.any,.any,.any,.any,.any,.any,.any,.any,.any,.any,.any,.any,.any,.any,.any,.any,.any,.any]:=by rw [Ab];rfl
 have hk:∀ s,(fx H W s).length=id:=fun s=>by rw [eY,bm]
 have e0:∀ s st,(fx H W s++aa.loop st bC es::Y)[id]?=some (.loop st bC es):=fun s st=>vw _ _ _ _ (hk s)
 have gJ:∀ s st st',(fx H W s++aa.loop st bC es::Y).set id (.loop st' bC es)=fx H W s++aa.loop st' bC es::Y:=fun s st st'=>vx _ _ _ _ _ (hk s)
 have hlen:∀ s st,(fx H W s++aa.loop st bC es::Y).length=(fx H W none++aa.loop .ready bC es::Y).length:=fun s st=>by rw [aab,aab,hk,hk];rfl
 refine oN (lc:=bC) (es:=es) (e0 none .ready) R7 R8 ⟨by rw [ees,Bz];rfl,by rw [xr];rfl,by rw [xr,Bz];rfl,?_,?_⟩ (xm ?_)
 ·rw [ees];intro x hx;simp only [UQ,aaY,or_false] at hx
  repeat' (first | (rcases hx with hx | hx;· subst hx;rfl) | (subst hx;rfl))
 ·intro x hx;simp only [UQ,aaY,or_false] at hx;subst hx;exact (aG l).2.1
 ·have ez:(bC.ps.zip [bo l]).reverse++b8 0 es=(22,bo l)::b8 0 es:=by rw [xr];rfl
  rw [ez]
  generalize yl:b8 0 es=ea
  have g2:get ea 2=.aj t.av:=by rw [← yl,ees];rfl
  have g3:get ea 3=.aj vo:=by rw [← yl,ees];rfl
  have g4:get ea 4=.ptr H.length 0:=by rw [← yl,ees];rfl
  have g5:get ea 5=.ptr (H.length + 1) 0:=by rw [← yl,ees];rfl
  have g6:get ea 6=.aj (bo pl):=by rw [← yl,ees];rfl
  simp only [Kl,Km]
  have hb:∀ K,jZ id (fx H W none++.loop .ready bC es::Y) K=K (fx H W none++.loop .busy bC es::Y):=fun K=>by rw [tv (e0 none .ready),gJ]
  obtain ⟨e1,e2,e3,e4,e5,e6⟩:=Ty.facts t
  obtain ⟨a1,a2,a3,a4⟩:=ho.one
  obtain ⟨b1,b2,b3,b4,b5⟩:=aG pl
  obtain ⟨c1,c2,c3,c4,c5⟩:=aG l
  have lvo:∀ (H:List aa) (φ:AV→Prop),aV none (.aj vo) H φ=φ vo:=fun H φ=>by simp [aV,a1,a2]
  obtain ⟨q1,q2,q3,q4,q5,q6⟩:=bi (iY t.s.ops.length ops pl) (iZ t.s.ops.length ops l)
  simp +contextual only [g2,g3,g4,g5,g6,c2,hb,dq,lvo,bY,b2,a2,e4,sZ,Nat.reduceEqDiff,Nat.reduceAdd,↓reduceIte]
  refine af (abW t ops pl l ho (.inl rfl) (.inl rfl) uN hl hr ht.n (by omega)) ?_
  generalize hP:iY t.s.ops.length ops pl=P at *
  generalize hS:iZ t.s.ops.length ops l=S at *
  simp +contextual only [aZ,q1,q2,q3,q4,zO,cW,sZ,Nat.reduceEqDiff,Nat.reduceAdd,↓reduceIte]
  refine af (Vi t.s P S) ?_
  have endN:∀ n0,n0=id + (Y.length + 1)→c8 t ops pl none l=(none,true)→qP n0 id (fun r H'=>r=.bool (c8 t ops pl none l).2∧H'=fx H W (c8 t ops pl none l).1++.loop (ja (c8 t ops pl none l).1) bC es::Y) .normal (fx H W none++.loop .busy bC es::Y):=by
   intro n0 Nm bP
   rw [FX (e0 none .busy),gJ,bP]
   refine ⟨by rw [hlen,aab,hk];simp;omega,rfl,?_⟩
   rw [aak (by rw [hlen,aab,hk];simp;omega)]
   rfl
  have endR:∀ n0,n0=id + (Y.length + 1)→c8 t ops pl none l=(some (P,S),false)→qP n0 id (fun r H'=>r=.bool (c8 t ops pl none l).2∧H'=fx H W (c8 t ops pl none l).1++.loop (ja (c8 t ops pl none l).1) bC es::Y) .ret (fx H W (some (P,S))++.loop .busy bC es::Y):=by
   intro n0 Nm bP
   rw [L8 (e0 _ .busy),gJ,bP]
   refine ⟨by rw [hlen,aab,hk];simp;omega,rfl,?_⟩
   rw [aak (by rw [hlen,aab,hk];simp;omega)]
   rfl
  by_cases h0:eT t.s P S=0
  ·simp +contextual only [h0,dq,cW,e4,q4,sZ,Nat.reduceEqDiff,Nat.reduceAdd,↓reduceIte]
   refine af (Ys t P S (BA h0) (fun e he=>ht.eq e he P (by rw [← hP];exact xt _ _ _))) ?_
   by_cases h1:ej t P S < 0
   ·have bP:c8 t ops pl none l=(some (P,S),false):=by
     rw [c8,if_pos (by rw [kI,hP,hS];exact decide_eq_true ⟨h0,h1⟩),hP,hS]
    have k4:=Rl H W (.loop .busy bC es::Y) none
    have k5:∀ o,((fx H W none++.loop .busy bC es::Y).set H.length o)[H.length + 1]?=some (o5 none):=fun o=>by rw [yq (by omega),Rm]
    have ks:=Ux H W (.loop .busy bC es::Y) none P S
    have o4n:o4 none=.cells [.ah,.ah]:=rfl
    have o5n:o5 none=.cells [.bool false]:=rfl
    rw [o4n] at k4
    simp only [o5n] at k5
    have qu:(fa P S).cells.map AV.ae=[.al 0 (ints P),.al 0 (ints S)]:=rfl
    have sp2:∀ (a b x y:AV),ai [a,b] 0 [x,y]=[x,y]:=fun _ _ _ _=>rfl
    have fb:∀ m,ak m [AV.al 0 (ints P),.al 0 (ints S)]=true:=fun m=>by simp [bE,cN,ch,aW]
    simp +contextual only [h1,decide_true,cW,k4,k5,ks,q1,q2,q3,qu,sp2,fb,ac2,sZ,Nat.reduceEqDiff,Nat.reduceAdd,↓reduceIte]
    first
     | exact endR _ (by rw [hk]) bP
     | exact endR _ (by rw [hlen,aab,hk];rfl) bP
   ·simp +contextual only [h1,decide_false,sZ,Nat.reduceEqDiff,↓reduceIte]
    have bP:c8 t ops pl none l=(none,true):=by
     rw [c8,if_neg (by rw [kI,hP,hS];simp [h1])]
    exact endN _ (by rw [hk]) bP
  ·simp +contextual only [h0,decide_false,sZ,Nat.reduceEqDiff,↓reduceIte]
   have bP:c8 t ops pl none l=(none,true):=by
    rw [c8,if_neg (by rw [kI,hP,hS];simp [h0])]
   exact endN _ (by rw [hk]) bP
end Go.aJ
end
