/- Part 15 of 19 of the proof. -/
import Derived.Test.YtljchnfgjdjobaaGreatUan
import Derived.Test.YtljchnfgjdjobaaGreatUag
import Derived.KernelRfl
set_option linter.unusedVariables false
set_option linter.unusedSimpArgs false
set_option linter.defProp false
set_option linter.unusedSectionVars false
noncomputable section
set_option maxRecDepth 100000
namespace Go.aI
open Go Go.Proofs Go.eJ
theorem Zw {c:Cx} (hc:c.Ok) {i k:Int} (hi:c.dS i) (hk:c.dS k) (hR:R c.O (c.tm i) (c.tm k)) (hr:iF c i k 3) (jN:∀ m,m < 3→¬ iF c i k m) (hp:∀ y∈c.kd k,R c.O (c.tm i) (c.tm y)→pG c i y) (Vo:∀ x∈c.kd i,∀ y∈c.kd k,R c.O (c.tm x) (c.tm y)→pG c x y):pG c i k:=by
 intro H hD
 refine Eb.2.calls rfl ?_
 simp only [Eb,aJ]
 have k2:∀ l,(bt l).ab=bt l:=fun l=>(aG l).2.1
 have ki:=hc.kids i hi
 have kk:=hc.kids k hk
 have l1:=hc.kl i hi
 have l2:=hc.kl k hk
 obtain ⟨a1,a2,a3,a4,a5⟩:=aG (c.kd i)
 obtain ⟨b1,b2,b3,b4,b5⟩:=aG (c.kd k)
 have ii:IL (bt (c.kd i)) (c.kd i):=.inl rfl
 have ik:IL (bt (c.kd k)) (c.kd k):=.inl rfl
 have ei:(c.nd.getD i.toNat default).snd=c.kd i:=rfl
 have ek:(c.nd.getD k.toNat default).snd=c.kd k:=rfl
 obtain ⟨m1,m2,m3⟩:=hD.lt
 have ed:∀ X:List aa,(H++X)[c.d]?=H[c.d]?:=fun X=>tK m1
 have spv:∀ x:AV,ah [AV.ag] 0 [x]=[x]:=fun x=>rfl
 have spq:ah [AV.int .i64 0,.int .i64 0,.ag,.ag] 0 [AV.int .i64 0,.int .i64 0,.ag,.ag]=[AV.int .i64 0,.int .i64 0,.ag,.ag]:=rfl
 simp +contextual only [sZ,Nat.reduceEqDiff,Nat.reduceAdd,↓reduceIte,reduceCtorEq]
 refine mb (K1:=fun e G=>get e 1=.int .i64 i∧get e 3=.ai (.ptr c.d 0)∧get e 5=.ai (.int .i64 k)∧get e 6=.ptr H.length 0∧∃ x y,get e 7=.ptr x 0∧get e 8=.ptr y 0∧XY H x y∧PA c H x y i k G) ?_ ?_
 ·have P0:aa:=.cells [.int .i64 0,.int .i64 0,.ag,.ag]
  have A:∃ x y,AV.ptr (H.length + 1) 0=.ptr x 0∧AV.ptr (H.length + 2) 0=.ptr y 0∧XY H x y∧PA c H x y i k (H++[.cells [.int .i64 0,.int .i64 0,.ag,.ag],.cells [bt (c.kd i)],.cells [bt (c.kd k)]]):=
   ⟨_,_,rfl,rfl,⟨by omega,by omega,by omega,by omega⟩,⟨hD.ta _,by simp,by simp,by simp,by simp,fun j hj _ _=>tK hj⟩⟩
  have B:∃ x y,AV.ptr (H.length + 2) 0=.ptr x 0∧AV.ptr (H.length + 1) 0=.ptr y 0∧XY H x y∧PA c H x y i k (H++[.cells [.int .i64 0,.int .i64 0,.ag,.ag],.cells [bt (c.kd k)],.cells [bt (c.kd i)]]):=
   ⟨_,_,rfl,rfl,⟨by omega,by omega,by omega,by omega⟩,⟨hD.ta _,by simp,by simp,by simp,by simp,fun j hj _ _=>tK hj⟩⟩
  simp +contextual only [ed,hD.d,nc,EI,cJ,b7,k2,ei,ek,a1,a3,a4,a5,b1,b3,b4,b5,List.map_cons,List.map_nil,spv,List.all_cons,List.all_nil,abv,bM,cZ,sZ,Nat.reduceEqDiff,Nat.reduceAdd,Nat.reduceLT,↓reduceIte]
  refine ⟨hi,?_⟩
  repeat' apply hV
  all_goals first | exact hk.1 | exact hk.2 | exact A | exact B
 ·rintro e G ⟨e1,e3,e5,e6,x,y,e7,e8,w,BS⟩
  simp +contextual only [e1,e3,e5,e6,e7,e8,sZ,Nat.reduceEqDiff,↓reduceIte]
  refine aM 2 (fun m (G:List aa)=>PA c H x y i k G)
   (fun m G=>[(1,.int .i64 i),(3,.ai (.ptr c.d 0)),(5,.ai (.int .i64 k)),(6,.ptr H.length 0),(7,.ptr x 0),(8,.ptr y 0),(9,.int .i64 ((m + 1:Nat):Int))]) (fun m G=>G) G ⟨BS,aB _ _ _⟩ fun m G hm BS=>?_
  have hf:eh.cells[m + 1]?=some (.fn (.func (182 + (m + 1))) [] []):=by
   have:m=0∨m=1∨m=2∨m=3:=by omega
   rcases this with rfl | rfl | rfl | rfl <;> rfl
  have en:=V7 (m + 1) _ hf (by omega)
  simp +contextual only [sZ]
  refine aE Mf ?_
  simp +contextual only [mV,en _ rfl,sZ,Nat.reduceEqDiff,Nat.reduceAdd,↓reduceIte,reduceCtorEq]
  refine af ((vL hc hi hk).at (n:=m + 1) (by omega) (by omega) BS.du) ?_
  rintro r G1 ⟨z,rfl,hz,hU,nJ⟩
  have qF:=BS.call hD w hU nJ
  by_cases RM:m=2
  rotate_left
  ·have:z=false:=by
    cases z with
    | false=>rfl
    | true=>exact absurd (hz.1 rfl) (jN (m + 1) (by omega))
   subst this
   simp +contextual only [Bool.not_false,sZ,Nat.reduceEqDiff,↓reduceIte]
   exact ⟨m + 1,G1,⟨by omega,qF⟩,by omega,aD (by rw [au (m + 1) (by omega)]) rfl⟩
  subst RM
  have:z=true:=hz.2 hr
  subst this
  have qT:=qF.len
  have lB:=fun es=>qF.ta w es
  have Vm:=fun es=>(lB es).gp
  have Qa:=fun es=>(lB es).gx
  have Zs:=fun es=>(lB es).gy
  have bS:∀ (o o':aa),(G1++[o]).set (H.length + 3) o'=G1++[o']:=fun o o'=>by rw [← qT];simp
  have ec:((3:Nat):Int)=3:=rfl
  have zf:List.map AV.ab [AV.int .i64 (3:Int),.int .i64 0,.ag,.ag]=[.int .i64 (3:Int),.int .i64 0,.ag,.ag]:=rfl
  have zf0:List.map AV.ab [AV.int .i64 0,.int .i64 0,.ag,.ag]=[.int .i64 0,.int .i64 0,.ag,.ag]:=rfl
  have e86:∀ a b:Int,decide (a=b)=decide (a=b):=fun _ _=>rfl
  simp +contextual only [decide_true,decide_false,Bool.not_true,Bool.not_true,bdP,qT,Vm,bS,ec,zf,zf0,JM,sZ,Nat.reduceEqDiff,Nat.reduceAdd,↓reduceIte,Int.reduceEq]
  have nj:=lB [.int .i64 3,.int .i64 0,.ag,.ag]
  generalize G1++[aa.cells [AV.int .i64 3,.int .i64 0,.ag,.ag]]=G2 at nj ⊢
  have ki2:(c.tm i).k=2:=(pU.1 hR).1
  have hlx:BD c i k:=by
   rcases hr with h | h | h | h
   ·exact absurd h.1 (by decide)
   ·exact absurd h.1 (by decide)
   ·exact h.2
   ·exact absurd h.1 (by decide)
  obtain ⟨Mw,BQ,hall0,n0,ac6,hn1,hn2⟩:=hlx
  have MB:=kW.1 Mw
  have kk2:(c.tm k).k=2:=MB.2.1
  have osi:dE c i=c.O.sp (c.O.pl (c.tm i).n):=by rw [dE,if_pos ki2]
  have hx:side (c.O.sp (c.O.pl (c.tm i).n)) (c.tm i).l=(bp (dE c i) (c.kd i)).map c.tm:=by rw [← osi,← ki.1,gR]
  have hy:side (c.O.sp (c.O.pl (c.tm i).n)) (c.tm k).l=(bp (dE c i) (c.kd k)).map c.tm:=by rw [← osi,← kk.1,gR]
  have lx:(bp (dE c i) (c.kd i)).length=(c.kd i).length:=gP
  have ly:(bp (dE c i) (c.kd k)).length=(c.kd k).length:=gP
  have nx:∀ z∈bp (dE c i) (c.kd i),z∈c.kd i:=fun z hz=>pq.1 hz
  have ny:∀ z∈bp (dE c i) (c.kd k),z∈c.kd k:=fun z hz=>pq.1 hz
  have hS:∀ (n:Nat) (l:List PP),Sh c.O (.mk 3 n [] l) (c.tm i) (c.tm k)↔D3 (E c.O) (Sh c.O) n l (c.tm i) ((bp (dE c i) (c.kd i)).map c.tm) ((bp (dE c i) (c.kd k)).map c.tm) (c.tm k).l:=by
   intro n l
   rw [Sh3 rfl ki2,hx,hy]
   rw [osi] at BQ
   exact ⟨fun h=>h.2.2.2.2,fun h=>⟨rfl,kk2,MB.2.2,BQ,h⟩⟩
  refine af (qz hc hi nj.du) ?_
  rintro r G3 ⟨rfl,rfl⟩
  have gx0:=nj.gx
  have gy0:=nj.gy
  simp +contextual only [k2,dF,fN,fO,fP,gx0,sZ,Nat.reduceEqDiff,Nat.reduceAdd,Nat.reduceLT,↓reduceIte]
  refine aE (Jy (c.kd i) (dE c i) (by omega)) ?_
  simp +contextual only [k2,gy0,sZ,Nat.reduceEqDiff,Nat.reduceAdd,Nat.reduceLT,↓reduceIte]
  refine aE (Jy (c.kd k) (dE c i) (by omega)) ?_
  generalize bp (dE c i) (c.kd i)=xs at *
  generalize bp (dE c i) (c.kd k)=ys at *
  have ix:IL (.ap 0 (ints xs)) xs:=.inr rfl
  have iy:IL (.ap 0 (ints ys)) ys:=.inr rfl
  simp +contextual only [sZ,Nat.reduceEqDiff,Nat.reduceAdd,↓reduceIte,reduceCtorEq]
  refine af (YU ix iy (by omega) (by omega) (fun z hz z' Gb=>kD hc (ki.2 z (nx z hz)) (kk.2 z' (ny z' Gb))) nj.du) ?_
  rintro r G4 ⟨n,rfl,hn,V4,V5⟩
  have en0:=hn.UX ac6
  subst en0
  have xE:=nj.call hD w V4 V5
  have gp4:=xE.gp
  have qS:=fun es=>xE.set (es':=es) hD w
  have gps:=fun es=>(qS es).gp
  have gxs:=fun es=>(qS es).gx
  have gys:=fun es=>(qS es).gy
  have un1:List.map AV.ab [AV.int .i64 (n:Int)]=[.int .i64 (n:Int)]:=rfl
  have hLS:∀ l,D3 (E c.O) (Sh c.O) n l (c.tm i) (xs.map c.tm) (ys.map c.tm) (c.tm k).l↔(if (n:Int)=ys.length then me (Sh c.O) l (c.tm i) ((c.kd k).map c.tm) else ∃ q r,l=q::r∧Sh c.O q (c.tm (xs.getD n 0)) (c.tm (ys.getD n 0))∧me (Sh c.O) r (c.tm i) ((c.kd k).map c.tm)):=by
   intro l
   rw [Zn (kd:=c.kd k) kk.1]
   have h1:(0:Int)≤n∧(n:Int) < xs.length∧(n:Int)≤ys.length:=⟨by omega,by omega,by have:=hn.lb;omega⟩
   have h2:∀ j,j < (n:Int).toNat→E c.O (c.tm (xs.getD j 0)) (c.tm (ys.getD j 0)):=fun j hj=>hn.eq j (by omega)
   rw [tN]
   exact ⟨fun h=>h.2.2,fun h=>⟨h1,h2,h⟩⟩
  by_cases hny:n < ys.length
  ·have n4:((n:Int) < ys.length)=True:=eq_true (by omega)
   simp +contextual only [decide_true,gp4,Vl,un1,gps,iy.aL,iy.len (by omega),n4,ix.idx,iy.idx,ix.lens,iy.lens,tN,d3,s3,ad5,sZ,Nat.reduceEqDiff,Nat.reduceAdd,Nat.reduceLT,Nat.reduceLeDiff,↓reduceIte,reduceCtorEq]
   have mx:=nx _ (aP (l:=xs) (i:=n) (by omega))
   have my:=ny _ (aP hny)
   have Fe:pG c (xs.getD n 0) (ys.getD n 0):=Vo _ mx _ my (hn2.resolve_left (by omega))
   have Vn:∀ u qs,Sh c.O u (c.tm (xs.getD n 0)) (c.tm (ys.getD n 0))→me (Sh c.O) qs (c.tm i) ((c.kd k).map c.tm)→Sh c.O (.mk 3 n [] (u::qs)) (c.tm i) (c.tm k):=by
    intro u qs hu hq
    rw [hS,hLS,if_neg (by omega)];exact ⟨u,qs,rfl,hu,hq⟩
   repeat' apply hV
   all_goals first | omega | skip
   all_goals
    refine af (Fe _ (qS _).du) ?_
    rintro r G5 ⟨u,rfl,hu,Zt,Zu⟩
    replace Vn:=fun qs=>Vn u qs hu
    have MA:=(qS _).call hD w Zt Zu
    have gp5:=MA.gp
    have Gs:=fun es=>MA.set (es':=es) hD w
    have gps6:=fun es=>(Gs es).gp
    have gys6:=fun es=>(Gs es).gy
    obtain ⟨u1,u2,u3,u4,u5,u6,u7,u8,u9⟩:=bf u
    have ap1:∀ ψ,bE 4 64 .ag (.ap 0 [eC u]) ψ=ψ (eo ([]++[u])):=fun ψ=>Ec [] u (by simp) 0 ψ
    have ea:eo ([]++[u])=[eC u]:=rfl
    rw [ea] at ap1
    simp +contextual only [k2,ik.aL,ik.len (by omega),u1,u2,u6,j3,ap1,gp5,gps6,gys6,d3,s3,ad5,sZ,Nat.reduceEqDiff,Nat.reduceAdd,Nat.reduceLT,↓reduceIte]
    refine lV (Gq hD w (l0:=[u]) (by simp) ik l2 (fun z hz=>hp z hz (hall0 z hz)) (Gs _)) ?_
    rintro e1 e G6 ⟨rfl,f6,f10,qs,iJ,oJ⟩
    replace oJ:PB c H x y i k [.int .i64 3,.int .i64 n,.ag,pF (u::qs)] G6:=oJ
    have gp6:=oJ.gp
    have g66:=oJ.g6
    have lp:=R5 3 n [] (u::qs)
    have tv0:uG []=AV.ag:=rfl
    rw [tv0] at lp
    have hs:Sh c.O (.mk 3 n [] (u::qs)) (c.tm i) (c.tm k):=Vn qs iJ
    obtain ⟨q1,q2,q3,q4,q5,q6,q7,q8,q9⟩:=bf (.mk 3 n [] (u::qs))
    have lp2:=Ee (.mk 3 n [] (u::qs))
    have Mz:=tO (a:=aa.cells (eC (.mk 3 n [] (u::qs))).cells) (aO g66)
    have Qu:aj (H.length + 1) (eC (.mk 3 n [] (u::qs))).cells=true:=cB (gk _ _)
    have lQ:=PB.fin (to:=[]) (l:=(u::qs)) hD oJ hs
    simp +contextual only [f6,f10,gp6,g66,lp,q1,q2,q3,q9,R7,Mz,lp2,Qu,sZ,Nat.reduceEqDiff,Nat.reduceAdd,↓reduceIte,reduceCtorEq]
    first | exact lQ | exact ⟨by omega,lQ⟩ | exact ⟨trivial,lQ⟩
  ·have n4:((n:Int) < ys.length)=False:=eq_false (by omega)
   have Vn:∀ qs,me (Sh c.O) qs (c.tm i) ((c.kd k).map c.tm)→Sh c.O (.mk 3 n [] qs) (c.tm i) (c.tm k):=by
    intro qs hq
    rw [hS,hLS,if_pos (by have:=hn.lb;omega)];exact hq
   simp +contextual only [k2,ik.aL,ik.len (by omega),decide_false,gp4,Vl,un1,gps,gys,iy.aL,iy.len (by omega),n4,sZ,Nat.reduceEqDiff,Nat.reduceAdd,Nat.reduceLT,Nat.reduceLeDiff,↓reduceIte]
   refine lV (Gq hD w (l0:=[]) (by simp) ik l2 (fun z hz=>hp z hz (hall0 z hz)) (qS _)) ?_
   rintro e1 e G6 ⟨rfl,f6,f10,qs,iJ,oJ⟩
   replace oJ:PB c H x y i k [.int .i64 3,.int .i64 n,.ag,pF qs] G6:=oJ
   have gp6:=oJ.gp
   have g66:=oJ.g6
   have lp:=R5 3 n [] qs
   have tv0:uG []=AV.ag:=rfl
   rw [tv0] at lp
   have hs:Sh c.O (.mk 3 n [] qs) (c.tm i) (c.tm k):=Vn qs iJ
   obtain ⟨q1,q2,q3,q4,q5,q6,q7,q8,q9⟩:=bf (.mk 3 n [] qs)
   have lp2:=Ee (.mk 3 n [] qs)
   have Mz:=tO (a:=aa.cells (eC (.mk 3 n [] qs)).cells) (aO g66)
   have Qu:aj (H.length + 1) (eC (.mk 3 n [] qs)).cells=true:=cB (gk _ _)
   have lQ:=PB.fin (to:=[]) (l:=qs) hD oJ hs
   simp +contextual only [f6,f10,gp6,g66,lp,q1,q2,q3,q9,R7,Mz,lp2,Qu,sZ,Nat.reduceEqDiff,Nat.reduceAdd,↓reduceIte,reduceCtorEq]
   first | exact lQ | exact ⟨by omega,lQ⟩ | exact ⟨trivial,lQ⟩
end Go.aI
end
noncomputable section
set_option maxRecDepth 100000
namespace Go.aI
open Go Go.Proofs Go.eJ
structure PC (c:Cx) (H:List aa) (x y:Nat) (i k:Int) (es:List AV) (o:aa) (G:List aa):Prop where
 du:Du c G
 gx:G[x]?=some (.cells [bt (c.kd i)])
 gy:G[y]?=some (.cells [bt (c.kd k)])
 g6:G[H.length]?=some (.cells [.int .i64 0,.int .i64 0,.ag,.ag])
 gp:G[H.length + 3]?=some (.cells es)
 go:G[H.length + 4]?=some o
 len:G.length=H.length + 5
 up:∀ j,j < H.length→j≠c.e→j≠c.g→G[j]?=H[j]?
theorem PB.ac7 {c:Cx} {H G:List aa} {x y:Nat} {i k:Int} {es:List AV} (w:XY H x y) (h:PB c H x y i k es G) (o:aa):PC c H x y i k es o (G++[o]):=by
 obtain ⟨w1,w2,w3,w4⟩:=w
 have hl:=h.len
 exact ⟨h.du.ta _,by rw [tK (by omega),h.gx],by rw [tK (by omega),h.gy],by rw [tK (by omega),h.g6],by rw [tK (by omega),h.gp],by rw [← hl];simp,by simp [hl],fun j h1 h2 h3=>by rw [tK (by omega),h.up j h1 h2 h3]⟩
theorem PC.call {c:Cx} {H G G':List aa} {x y:Nat} {i k:Int} {es:List AV} {o:aa} (hD:Du c H) (w:XY H x y) (h:PC c H x y i k es o G) (hU:Up c G G') (jQ:Du c G'):PC c H x y i k es o G':=by
 obtain ⟨l1,l2,l3⟩:=hD.lt
 obtain ⟨w1,w2,w3,w4⟩:=w
 exact ⟨jQ,by rw [hU.get x (by omega) (by omega),h.gx],by rw [hU.get y (by omega) (by omega),h.gy],by rw [hU.get _ (by omega) (by omega),h.g6],by rw [hU.get _ (by omega) (by omega),h.gp],by rw [hU.get _ (by omega) (by omega),h.go],by rw [hU.len,h.len],fun j h1 h2 h3=>by rw [hU.get j h2 h3,h.up j h1 h2 h3]⟩
theorem PC.set {c:Cx} {H G:List aa} {x y:Nat} {i k:Int} {es es':List AV} {o:aa} (hD:Du c H) (w:XY H x y) (h:PC c H x y i k es o G):PC c H x y i k es' o (G.set (H.length + 3) (.cells es')):=by
 obtain ⟨l1,l2,l3⟩:=hD.lt
 obtain ⟨w1,w2,w3,w4⟩:=w
 have hp:=aO h.gp
 exact ⟨h.du.set (by omega) (by omega) (by omega),by rw [tL (by omega),h.gx],by rw [tL (by omega),h.gy],by rw [tL (by omega),h.g6],by rw [tO hp],by rw [tL (by omega),h.go],by rw [abw,h.len],fun j h1 h2 h3=>by rw [tL (by omega),h.up j h1 h2 h3]⟩
theorem PC.ac8 {c:Cx} {H G:List aa} {x y:Nat} {i k:Int} {es:List AV} {o o':aa} (hD:Du c H) (w:XY H x y) (h:PC c H x y i k es o G):PC c H x y i k es o' (G.set (H.length + 4) o'):=by
 obtain ⟨l1,l2,l3⟩:=hD.lt
 obtain ⟨w1,w2,w3,w4⟩:=w
 have hp:=aO h.go
 exact ⟨h.du.set (by omega) (by omega) (by omega),by rw [tL (by omega),h.gx],by rw [tL (by omega),h.gy],by rw [tL (by omega),h.g6],by rw [tL (by omega),h.gp],by rw [tO hp],by rw [abw,h.len],fun j h1 h2 h3=>by rw [tL (by omega),h.up j h1 h2 h3]⟩
theorem PC.drop {c:Cx} {H G:List aa} {x y:Nat} {i k:Int} {es:List AV} {o:aa} (hD:Du c H) (w:XY H x y) (h:PC c H x y i k es o G):PB c H x y i k es (G.take (H.length + 4))∧G=G.take (H.length + 4)++[o]:=by
 obtain ⟨l1,l2,l3⟩:=hD.lt
 obtain ⟨w1,w2,w3,w4⟩:=w
 have hl:=h.len
 have t:∀ j,j < H.length + 4→(G.take (H.length + 4))[j]?=G[j]?:=fun j h1=>by rw [aax,if_pos h1]
 refine ⟨⟨h.du.take (by omega) (by omega) (by omega),by rw [t x (by omega),h.gx],by rw [t y (by omega),h.gy],by rw [t _ (by omega),h.g6],by rw [t _ (by omega),h.gp],by simp;omega,fun j h1 h2 h3=>by rw [t j (by omega),h.up j h1 h2 h3]⟩,?_⟩
 have e:G.drop (H.length + 4)=[o]:=by
  have h1:=h.go
  have aX:H.length + 4 < G.length:=by omega
  rw [aaG aX]
  rw [Nq aX] at h1
  simp only [Option.some.injEq] at h1
  rw [h1,aaF (by omega)]
 rw [← e,ad1]
structure MI (c:Cx) (a b:List Int) (us:List Bool) (to:List Int) (j:Nat) (ts:List Int) (ls:List PP):Prop where
 lt:ts.length=j
 ll:ls.length=j
 pa:∀ j',j' < j→0≤to.getD j' 0→ts.getD j' 0=to.getD j' 0∧(ls.getD j' default).nil
 ov:∀ j',j' < j→to.getD j' 0 < 0→(¬ (ls.getD j' default).nil∧Sh c.O (ls.getD j' default) (c.tm (a.getD (ts.getD j' 0).toNat 0)) (c.tm (b.getD j' 0)))∧∃ u:Nat,ts.getD j' 0=u∧u < a.length∧us.getD u false=false
theorem MI.snoc {c:Cx} {a b:List Int} {us:List Bool} {to:List Int} {j:Nat} {ts:List Int} {ls:List PP} (h:MI c a b us to j ts ls) (v:Int) (q:PP)
 (h1:0≤to.getD j 0→v=to.getD j 0∧q.nil) (h2:to.getD j 0 < 0→(¬ q.nil∧Sh c.O q (c.tm (a.getD v.toNat 0)) (c.tm (b.getD j 0)))∧∃ u:Nat,v=u∧u < a.length∧us.getD u false=false):MI c a b us to (j + 1) (ts++[v]) (ls++[q]):=by
 obtain ⟨k1,k2,k3,k4⟩:=h
 have e1:∀ j',j' < j→(ts++[v]).getD j' 0=ts.getD j' 0∧(ls++[q]).getD j' default=ls.getD j' default:=fun j' vI=>by
  constructor
  ·rw [oM,oM,tK (by omega)]
  ·rw [oM,oM,tK (by omega)]
 have e2:(ts++[v]).getD j 0=v∧(ls++[q]).getD j default=q:=by
  constructor
  ·rw [← k1];simp
  ·rw [← k2];simp
 refine ⟨by simp [k1],by simp [k2],fun j' vI h0=>?_,fun j' vI h0=>?_⟩
 ·by_cases e:j'=j
  ·subst e;rw [e2.1,e2.2];exact h1 h0
  ·have aX:j' < j:=by omega
   rw [(e1 j' aX).1,(e1 j' aX).2];exact k3 j' aX h0
 ·by_cases e:j'=j
  ·subst e;rw [e2.1,e2.2];exact h2 h0
  ·have aX:j' < j:=by omega
   rw [(e1 j' aX).1,(e1 j' aX).2];exact k4 j' aX h0
theorem xF {to:List Int} {x:Int}:∀ {n:Nat},(∀ j j',j < n→j' < n→to.getD j 0=x→to.getD j' 0=x→j=j')→dy to x n≤1
 | 0,_=>by simp [dy]
 | n + 1,h=>by
   rw [dy]
   have ih:=xF (n:=n) fun j j' h1 h2=>h j j' (by omega) (by omega)
   by_cases e:to.getD n 0=x
   ·rw [if_pos e]
    have:dy to x n=0:=by
     have h0:∀ m,m≤n→dy to x m=0:=by
      intro m
      induction m with
      | zero=>intro _;rfl
      | succ m ihm=>
        intro hm
        rw [dy,ihm (by omega),if_neg (fun e'=>by have:=h m n (by omega) (by omega) e' e;omega)]
     exact h0 n (oN _)
    omega
   ·rw [if_neg e];omega
theorem MI.cov {c:Cx} {a b:List Int} {us:List Bool} {to ts:List Int} {ls:List PP} (h:MI c a b us to b.length ts ls) (BF:Pr (fun x y=>E c.O (c.tm x) (c.tm y)) a b b.length us to) (hl:∃ u:Nat,u < a.length∧us.getD u false=false):JI c ts ls a b:=by
 obtain ⟨k1,k2,k3,k4⟩:=h
 have cas:∀ j,j < b.length→(∃ u:Nat,to.getD j 0=u∧u < a.length∧us.getD u false=true∧E c.O (c.tm (a.getD u 0)) (c.tm (b.getD j 0)))∨to.getD j 0 < 0:=fun j hj=>by
  rcases BF.t1 j hj with h | ⟨u,h1,h2,h3,h4⟩
  ·exact .inr (by omega)
  ·exact .inl ⟨u,h1,h2,h3,h4⟩
 refine ⟨k1,k2,fun j hj=>?_,fun x hx hp=>?_,?_⟩
 ·rcases cas j hj with ⟨u,h1,h2,h3,h4⟩ | hn
  ·obtain ⟨e1,e2⟩:=k3 j hj (by omega)
   rw [if_pos e2,e1,h1]
   exact ⟨by omega,by rw [tN];exact h4⟩
  ·obtain ⟨⟨e1,e2⟩,u,h1,h2,h3⟩:=k4 j hj hn
   rw [if_neg e1]
   exact ⟨by omega,e2⟩
 ·obtain ⟨j,hj,e1,e2⟩:=iX.1 hp
  have Cd:∀ j',j' < b.length→ts.getD j' 0=(x:Int)→us.getD x false=true→to.getD j' 0=(x:Int):=by
   intro j' vI e ht
   rcases cas j' vI with ⟨u,h1,_⟩ | hn
   ·rw [← (k3 j' vI (by omega)).1];exact e
   ·obtain ⟨_,u,h1,h2,h3⟩:=k4 j' vI hn
    have:u=x:=by omega
    subst this;rw [h3] at ht;cases ht
  have hux:us.getD x false=true:=by
   rcases cas j hj with ⟨u,h1,h2,h3,_⟩ | hn
   ·have:=(k3 j hj (by omega)).1
    have:u=x:=by omega
    subst this;exact h3
   ·exact absurd e2 (k4 j hj hn).1.1
  refine xF fun j1 j2 h1 h2 e1 e2=>?_
  have t1:=Cd j1 h1 e1 hux
  have t2:=Cd j2 h2 e2 hux
  exact BF.inj j1 j2 h1 h2 (by omega) (by omega)
 ·obtain ⟨u,hu,hf⟩:=hl
  refine ⟨u,hu,?_⟩
  by_cases h0:0 < dm ts ls u b.length
  ·obtain ⟨j,hj,e1,e2⟩:=iX.1 h0
   rcases cas j hj with ⟨u',h1,h2,h3,_⟩ | hn
   ·have:=(k3 j hj (by omega)).1
    have:u'=u:=by omega
    subst this;rw [hf] at h3;cases h3
   ·exact absurd e2 (k4 j hj hn).1.1
  ·omega
theorem Sh.ne_nil {O:Od} {p:PP} {a b:T} (h:Sh O p a b):¬ p.nil:=by
 rintro ⟨h1,_⟩
 exact Sh0 (by omega) (by omega) (by omega) (by omega) h
theorem Zx {c:Cx} (hc:c.Ok) {i k:Int} (hi:c.dS i) (hk:c.dS k) (hR:R c.O (c.tm i) (c.tm k)) (hr:iF c i k 4) (jN:∀ m,m < 4→¬ iF c i k m) (Vo:∀ x∈c.kd i,∀ y∈c.kd k,R c.O (c.tm x) (c.tm y)→pG c x y):pG c i k:=by
 intro H hD
 refine Eb.2.calls rfl ?_
 simp only [Eb,aJ]
 have k2:∀ l,(bt l).ab=bt l:=fun l=>(aG l).2.1
 have ki:=hc.kids i hi
 have kk:=hc.kids k hk
 have l1:=hc.kl i hi
 have l2:=hc.kl k hk
 obtain ⟨a1,a2,a3,a4,a5⟩:=aG (c.kd i)
 obtain ⟨b1,b2,b3,b4,b5⟩:=aG (c.kd k)
 have ii:IL (bt (c.kd i)) (c.kd i):=.inl rfl
 have ik:IL (bt (c.kd k)) (c.kd k):=.inl rfl
 have ei:(c.nd.getD i.toNat default).snd=c.kd i:=rfl
 have ek:(c.nd.getD k.toNat default).snd=c.kd k:=rfl
 obtain ⟨m1,m2,m3⟩:=hD.lt
 have ed:∀ X:List aa,(H++X)[c.d]?=H[c.d]?:=fun X=>tK m1
 have spv:∀ x:AV,ah [AV.ag] 0 [x]=[x]:=fun x=>rfl
 have spq:ah [AV.int .i64 0,.int .i64 0,.ag,.ag] 0 [AV.int .i64 0,.int .i64 0,.ag,.ag]=[AV.int .i64 0,.int .i64 0,.ag,.ag]:=rfl
 simp +contextual only [sZ,Nat.reduceEqDiff,Nat.reduceAdd,↓reduceIte,reduceCtorEq]
 refine mb (K1:=fun e G=>get e 1=.int .i64 i∧get e 3=.ai (.ptr c.d 0)∧get e 5=.ai (.int .i64 k)∧get e 6=.ptr H.length 0∧∃ x y,get e 7=.ptr x 0∧get e 8=.ptr y 0∧XY H x y∧PA c H x y i k G) ?_ ?_
 ·have P0:aa:=.cells [.int .i64 0,.int .i64 0,.ag,.ag]
  have A:∃ x y,AV.ptr (H.length + 1) 0=.ptr x 0∧AV.ptr (H.length + 2) 0=.ptr y 0∧XY H x y∧PA c H x y i k (H++[.cells [.int .i64 0,.int .i64 0,.ag,.ag],.cells [bt (c.kd i)],.cells [bt (c.kd k)]]):=
   ⟨_,_,rfl,rfl,⟨by omega,by omega,by omega,by omega⟩,⟨hD.ta _,by simp,by simp,by simp,by simp,fun j hj _ _=>tK hj⟩⟩
  have B:∃ x y,AV.ptr (H.length + 2) 0=.ptr x 0∧AV.ptr (H.length + 1) 0=.ptr y 0∧XY H x y∧PA c H x y i k (H++[.cells [.int .i64 0,.int .i64 0,.ag,.ag],.cells [bt (c.kd k)],.cells [bt (c.kd i)]]):=
   ⟨_,_,rfl,rfl,⟨by omega,by omega,by omega,by omega⟩,⟨hD.ta _,by simp,by simp,by simp,by simp,fun j hj _ _=>tK hj⟩⟩
  simp +contextual only [ed,hD.d,nc,EI,cJ,b7,k2,ei,ek,a1,a3,a4,a5,b1,b3,b4,b5,List.map_cons,List.map_nil,spv,List.all_cons,List.all_nil,abv,bM,cZ,sZ,Nat.reduceEqDiff,Nat.reduceAdd,Nat.reduceLT,↓reduceIte]
  refine ⟨hi,?_⟩
  repeat' apply hV
  all_goals first | exact hk.1 | exact hk.2 | exact A | exact B
 ·rintro e G ⟨e1,e3,e5,e6,x,y,e7,e8,w,BS⟩
  simp +contextual only [e1,e3,e5,e6,e7,e8,sZ,Nat.reduceEqDiff,↓reduceIte]
  refine aM 3 (fun m (G:List aa)=>PA c H x y i k G)
   (fun m G=>[(1,.int .i64 i),(3,.ai (.ptr c.d 0)),(5,.ai (.int .i64 k)),(6,.ptr H.length 0),(7,.ptr x 0),(8,.ptr y 0),(9,.int .i64 ((m + 1:Nat):Int))]) (fun m G=>G) G ⟨BS,aB _ _ _⟩ fun m G hm BS=>?_
  have hf:eh.cells[m + 1]?=some (.fn (.func (182 + (m + 1))) [] []):=by
   have:m=0∨m=1∨m=2∨m=3:=by omega
   rcases this with rfl | rfl | rfl | rfl <;> rfl
  have en:=V7 (m + 1) _ hf (by omega)
  simp +contextual only [sZ]
  refine aE Mf ?_
  simp +contextual only [mV,en _ rfl,sZ,Nat.reduceEqDiff,Nat.reduceAdd,↓reduceIte,reduceCtorEq]
  refine af ((vL hc hi hk).at (n:=m + 1) (by omega) (by omega) BS.du) ?_
  rintro r G1 ⟨z,rfl,hz,hU,nJ⟩
  have qF:=BS.call hD w hU nJ
  by_cases RM:m=3
  rotate_left
  ·have:z=false:=by
    cases z with
    | false=>rfl
    | true=>exact absurd (hz.1 rfl) (jN (m + 1) (by omega))
   subst this
   simp +contextual only [Bool.not_false,sZ,Nat.reduceEqDiff,↓reduceIte]
   exact ⟨m + 1,G1,⟨by omega,qF⟩,by omega,aD (by rw [au (m + 1) (by omega)]) rfl⟩
  subst RM
  have:z=true:=hz.2 hr
  subst this
  have qT:=qF.len
  have lB:=fun es=>qF.ta w es
  have Vm:=fun es=>(lB es).gp
  have Qa:=fun es=>(lB es).gx
  have Zs:=fun es=>(lB es).gy
  have bS:∀ (o o':aa),(G1++[o]).set (H.length + 3) o'=G1++[o']:=fun o o'=>by rw [← qT];simp
  have ec:((4:Nat):Int)=4:=rfl
  have zf:List.map AV.ab [AV.int .i64 (4:Int),.int .i64 0,.ag,.ag]=[.int .i64 (4:Int),.int .i64 0,.ag,.ag]:=rfl
  have zf0:List.map AV.ab [AV.int .i64 0,.int .i64 0,.ag,.ag]=[.int .i64 0,.int .i64 0,.ag,.ag]:=rfl
  have e86:∀ a b:Int,decide (a=b)=decide (a=b):=fun _ _=>rfl
  simp +contextual only [k2,decide_true,decide_false,Bool.not_true,Bool.not_true,bdP,qT,Vm,bS,ec,zf,zf0,JM,Qa,Zs,sZ,Nat.reduceEqDiff,Nat.reduceAdd,Nat.reduceLT,↓reduceIte,reduceCtorEq,Int.reduceEq]
  have nj:=lB [.int .i64 4,.int .i64 0,.ag,.ag]
  generalize G1++[aa.cells [AV.int .i64 4,.int .i64 0,.ag,.ag]]=G2 at nj ⊢
  have ki2:(c.tm i).k=2:=(pU.1 hR).1
  have hmq:yF c i k:=by
   rcases hr with h | h | h | h
   ·exact absurd h.1 (by decide)
   ·exact absurd h.1 (by decide)
   ·exact absurd h.1 (by decide)
   ·exact h.2
  obtain ⟨Mw,BQ,U2⟩:=hmq
  have MB:=kW.1 Mw
  have kk2:(c.tm k).k=2:=MB.2.1
  have osi:dE c i=c.O.sp (c.O.pl (c.tm i).n):=by rw [dE,if_pos ki2]
  have gx0:=nj.gx
  have gy0:=nj.gy
  simp +contextual only [sZ]
  refine af (U1 ii ik (by omega) (by omega) (fun z hz z' Gb=>kD hc (ki.2 z hz) (kk.2 z' Gb)) nj.du) ?_
  rintro r G3 ⟨us,to,BF,rfl,YW,Mc⟩
  have BR:=nj.call hD w YW Mc
  have VR:=(Pr.mu (f:=nf c) (G:=Gt c.O.sp) BF).1 U2
  have lbl:=jZ (c.kd i).length fun z=>!us.getD z false
  have il:IL (bt (below (c.kd i).length fun z=>!us.getD z false)) (below (c.kd i).length fun z=>!us.getD z false):=.inl rfl
  have mml:∀ {z:Int},z∈below (c.kd i).length (fun z=>!us.getD z false)→∃ u:Nat,z=u∧u < (c.kd i).length∧us.getD u false=false:=by
   intro z hz;obtain ⟨u,h1,h2,h3⟩:=gQ.1 hz;exact ⟨u,h1,h2,by simpa using h3⟩
  have mmo:∀ {j:Nat},j < (c.kd k).length→to.getD j 0 < 0→∃ z∈below (c.kd i).length (fun z=>!us.getD z false),R c.O (c.tm ((c.kd i).getD z.toNat 0)) (c.tm ((c.kd k).getD j 0)):=by
   intro j hj hn
   exact VR.2 (j:Int) (gQ.2 ⟨j,rfl,hj,by simpa using hn⟩)
  have ac9:=VR.1
  generalize (below (c.kd i).length fun z=>!us.getD z false)=L at *
  have lto:=BF.lt
  obtain ⟨v1,v2,v3,v4,v5⟩:=aG L
  simp +contextual only [k2,ay,sZ,Nat.reduceEqDiff,Nat.reduceAdd,Nat.reduceLT,↓reduceIte]
  intro _
  have hlne2:∃ u:Nat,u < (c.kd i).length∧us.getD u false=false:=by
   cases L with
   | nil=>exact absurd rfl ac9
   | cons z r=>
     obtain ⟨u,_,h2,h3⟩:=mml (aaB (a:=z) (l:=r))
     exact ⟨u,h2,h3⟩
  refine aM (c.kd k).length (fun j (s:List aa×List Int×List PP)=>PB c H x y i k [.int .i64 4,.int .i64 0,uG s.2.1,pF s.2.2] s.1∧MI c (c.kd i) (c.kd k) us to j s.2.1 s.2.2)
   (fun j s=>[(3,.ai (.ptr c.d 0)),(6,.ptr H.length 0),(7,.ptr x 0),(8,.ptr y 0),(10,.ptr (H.length + 3) 0),(11,bt L),(89,.ap 0 (ints to)),(90,.int .i64 to.length),(91,.int .i64 j)]) (fun j s=>s.1) (G3,[],[])
   ⟨⟨BR,rfl,rfl,fun j h=>by omega,fun j h=>by omega⟩,aB _ _ _⟩ fun j s hj hI=>?_
  obtain ⟨G,ts,ls⟩:=s
  obtain ⟨lB,JW⟩:=hI
  simp only at lB JW
  have hlen:=lB.len
  by_cases Mt:(j:Int) < to.length
  ·have qO:j < (c.kd k).length:=by omega
   have zf4:∀ n,aj n (List.map AV.ab [AV.int .i64 0,.int .i64 0,.ag,.ag])=true:=fun _=>rfl
   have zf5:List.map AV.ab [AV.int .i64 0,.int .i64 0,.ag,.ag]=[AV.int .i64 0,.int .i64 0,.ag,.ag]:=rfl
   obtain ⟨tj,htj⟩:∃ tj,to.getD j 0=tj:=⟨_,rfl⟩
   have Zy:=lB.ac7 w (.cells [.int .i64 0,.int .i64 0,.ag,.ag])
   by_cases yh:tj < 0
   ·simp +contextual only [k2,decide_true,Mt,a7,dJ,tN,htj,yh,hlen,zf5,sZ,Nat.reduceEqDiff,Nat.reduceAdd,↓reduceIte,reduceCtorEq]
    have mz:=fun (G':List aa) (eH:SD c (G++[aa.cells [AV.int .i64 0,.int .i64 0,.ag,.ag]]) G')=>Zy.call hD w eH.2 eH.1
    have hjz:(0:Int)≤j∧(j:Int) < (c.kd k).length:=⟨by omega,by omega⟩
    refine ⟨by omega,af (Mb (SD.BC c (G++[.cells [.int .i64 0,.int .i64 0,.ag,.ag]])) il (by omega) 148 [] [.ai (.ptr c.d 0),.ptr x 0,.ptr y 0,.ai (.int .i64 j)] rfl rfl (Q:=fun z=>R c.O (c.tm ((c.kd i).getD z.toNat 0)) (c.tm ((c.kd k).getD (j:Int).toNat 0)))
     (fun z hz G' eH=>?_) ⟨Zy.du,Up.refl c _⟩) ?_⟩
    ·obtain ⟨u,rfl,hu,_⟩:=mml hz
     refine (ac4 ii ik ⟨by omega,by omega⟩ hjz (kF hc (ki.2 _ (aP (by omega))) (kk.2 _ (aP (by omega)))) eH.1 (mz G' eH).gx (mz G' eH).gy).mono fun r H' hr=>hr.sb eH
    rintro r G4 ⟨hG4,uX⟩
    rcases uX with ⟨_,uX⟩ | ⟨m,rfl,hm,hQ,_⟩
    ·obtain ⟨z,hz,h⟩:=mmo qO (by rw [htj];exact yh)
     exact absurd h (uX z hz)
    obtain ⟨u,hu,Ax,huf⟩:=mml (aP hm)
    have Qv:=mz G4 hG4
    have gx4:=Qv.gx
    have gy4:=Qv.gy
    rw [hu,tN,tN] at hQ
    simp +contextual only [k2,ii.lens,ik.lens,ii.idx,ik.idx,il.lens,il.idx,tN,hu,gx4,gy4,sZ,Nat.reduceEqDiff,Nat.reduceAdd,Nat.reduceLT,↓reduceIte,reduceCtorEq]
    refine ⟨by omega,⟨by omega,by omega⟩,by omega,?_⟩
    refine af (Vo _ (aP Ax) _ (aP qO) hQ _ Qv.du) ?_
    rintro r G5 ⟨q,rfl,hq,Zt,Zu⟩
    have Zz:=Qv.call hD w Zt Zu
    have go5:=Zz.go
    have hpo:=fun o=>Zz.ac8 (o':=o) hD w
    have nE:=fun o es=>(hpo o).set (es':=es) hD w
    have gq5:=fun o=>(hpo o).go
    have gp5:=fun o=>(hpo o).gp
    have gqs:=fun o es=>(nE o es).go
    have gps:=fun o es=>(nE o es).gp
    obtain ⟨u1,u2,u3,u4,u5,u6,u7,u8,u9⟩:=bf q
    have bq:aj (H.length + 4 + 1) (eC q).cells=true:=cB (gk _ _)
    have Vp:=JW.snoc (u:Int) q (fun h=>by omega) (fun _=>⟨⟨Sh.ne_nil hq,by rw [tN];exact hq⟩,u,rfl,Ax,huf⟩)
    have t1:=JW.lt
    have t2:=JW.ll
    have VU:∀ ψ,bE 1 8 (uG ts) (.ap 0 [.int .i64 (u:Int)]) ψ=ψ (ints (ts++[(u:Int)])):=fun ψ=>R4 ts _ (by omega) 0 ψ
    have apl:∀ ψ,bE 4 64 (pF ls) (.ap 0 [eC q]) ψ=ψ (eo (ls++[q])):=fun ψ=>Ec ls q (by omega) 0 ψ
    have lpq:=Ee q
    obtain ⟨x1,x2,x3,x4,x5,x6⟩:=mg (ts++[(u:Int)])
    obtain ⟨y1,y2,y3,y4,y5,y6⟩:=iY (ls++[q])
    obtain ⟨x1',x2',x3',x4',x5',x6'⟩:=mg ts
    obtain ⟨y1',y2',y3',y4',y5',y6'⟩:=iY ls
    have lvb:∀ n,aj n (eo (ls++[q]))=true:=fun n=>jm _ _
    have tvb:∀ n,aj n (ints (ts++[(u:Int)]))=true:=fun n=>bb _ _
    have ry:∀ G',PC c H x y i k [.int .i64 4,.int .i64 0,uG (ts++[(u:Int)]),pF (ls++[q])] (.cells (eC q).cells) G'→∃ (j':Nat) (t:List aa×List Int×List PP),(j'≤(c.kd k).length∧PB c H x y i k [.int .i64 4,.int .i64 0,uG t.2.1,pF t.2.2] t.1∧MI c (c.kd i) (c.kd k) us to j' t.2.1 t.2.2)∧(c.kd k).length - j' < (c.kd k).length - j∧
     sle H.length [(3,.ai (.ptr c.d 0)),(6,.ptr H.length 0),(7,.ptr x 0),(8,.ptr y 0),(10,.ptr (H.length + 3) 0),(11,bt L),(89,.ap 0 (ints to)),(90,.int .i64 to.length),(91,.int .i64 (IntKind.i64.wrap (j + 1)))] G' [(3,.ai (.ptr c.d 0)),(6,.ptr H.length 0),(7,.ptr x 0),(8,.ptr y 0),(10,.ptr (H.length + 3) 0),(11,bt L),(89,.ap 0 (ints to)),(90,.int .i64 to.length),(91,.int .i64 j')] t.1:=by
     intro G' eH
     obtain ⟨z1,z2⟩:=eH.drop hD w
     have zl:=z1.len
     have Wq:=v3
     refine ⟨j + 1,(G'.take (H.length + 4),ts++[(u:Int)],ls++[q]),⟨qO,z1,Vp⟩,by omega,Dc (by rw [au j (by omega)]) (by rw [zl];omega) ?_ _ z2⟩
     obtain ⟨w1,w2,w3,w4⟩:=w
     rw [zl]
     simp only [qp,List.all_cons,List.all_nil,Bj,qo,jD,cc,v3,bb,abv,Sr,decide_eq_true_eq]
     omega
    simp +contextual only [go5,R7,u1,u2,u3,u9,bq,gq5,gp5,gqs,gps,d2,d3,s2,s3,ad5,j3,VU,apl,lpq,Ed,si,x3,x4,y3,y4,sZ,Nat.reduceEqDiff,Nat.reduceAdd,Nat.reduceLT,↓reduceIte]
    repeat' apply hV
    all_goals exact ry _ (nE _ _)
   ·have t1:=JW.lt
    have t2:=JW.ll
    obtain ⟨q0,hq0⟩:∃ q0,q0=PP.mk 0 0 [] []:=⟨_,rfl⟩
    have uQ:q0.nil:=by rw [hq0];exact ⟨rfl,rfl,rfl,rfl⟩
    have lpz:∀ φ,cV (some (.cells [.int .i64 0,.int .i64 0,.ag,.ag])) (some 4) 0 φ=φ (eC q0):=by rw [hq0];exact R5 0 0 [] []
    obtain ⟨u1,u2,u3,u4,u5,u6,u7,u8,u9⟩:=bf q0
    have Vp:=JW.snoc tj q0 (fun h=>⟨htj.symm,uQ⟩) (fun h=>by omega)
    have VU:∀ ψ,bE 1 8 (uG ts) (.ap 0 [.int .i64 tj]) ψ=ψ (ints (ts++[tj])):=fun ψ=>R4 ts _ (by omega) 0 ψ
    have apl:∀ ψ,bE 4 64 (pF ls) (.ap 0 [eC q0]) ψ=ψ (eo (ls++[q0])):=fun ψ=>Ec ls q0 (by omega) 0 ψ
    have nE:=fun es=>Zy.set (es':=es) hD w
    have gp5:=Zy.gp
    have go5:=Zy.go
    have gqs:=fun es=>(nE es).go
    have gps:=fun es=>(nE es).gp
    obtain ⟨x1,x2,x3,x4,x5,x6⟩:=mg (ts++[tj])
    obtain ⟨y1,y2,y3,y4,y5,y6⟩:=iY (ls++[q0])
    obtain ⟨x1',x2',x3',x4',x5',x6'⟩:=mg ts
    obtain ⟨y1',y2',y3',y4',y5',y6'⟩:=iY ls
    have lvb:∀ n,aj n (eo (ls++[q0]))=true:=fun n=>jm _ _
    have tvb:∀ n,aj n (ints (ts++[tj]))=true:=fun n=>bb _ _
    have ry:∀ G',PC c H x y i k [.int .i64 4,.int .i64 0,uG (ts++[tj]),pF (ls++[q0])] (.cells [.int .i64 0,.int .i64 0,.ag,.ag]) G'→∃ (j':Nat) (t:List aa×List Int×List PP),(j'≤(c.kd k).length∧PB c H x y i k [.int .i64 4,.int .i64 0,uG t.2.1,pF t.2.2] t.1∧MI c (c.kd i) (c.kd k) us to j' t.2.1 t.2.2)∧(c.kd k).length - j' < (c.kd k).length - j∧
     sle H.length [(3,.ai (.ptr c.d 0)),(6,.ptr H.length 0),(7,.ptr x 0),(8,.ptr y 0),(10,.ptr (H.length + 3) 0),(11,bt L),(89,.ap 0 (ints to)),(90,.int .i64 to.length),(91,.int .i64 (IntKind.i64.wrap (j + 1)))] G' [(3,.ai (.ptr c.d 0)),(6,.ptr H.length 0),(7,.ptr x 0),(8,.ptr y 0),(10,.ptr (H.length + 3) 0),(11,bt L),(89,.ap 0 (ints to)),(90,.int .i64 to.length),(91,.int .i64 j')] t.1:=by
     intro G' eH
     obtain ⟨z1,z2⟩:=eH.drop hD w
     have zl:=z1.len
     have Wq:=v3
     refine ⟨j + 1,(G'.take (H.length + 4),ts++[tj],ls++[q0]),⟨qO,z1,Vp⟩,by omega,Dc (by rw [au j (by omega)]) (by rw [zl];omega) ?_ _ z2⟩
     obtain ⟨w1,w2,w3,w4⟩:=w
     rw [zl]
     simp only [qp,List.all_cons,List.all_nil,Bj,qo,jD,cc,v3,bb,abv,Sr,decide_eq_true_eq]
     omega
    simp +contextual only [decide_true,decide_false,Mt,a7,dJ,tN,htj,yh,hlen,zf5,u1,u2,gp5,go5,gqs,gps,d2,d3,s2,s3,ad5,j3,VU,apl,lpz,Ed,si,x3,x4,y3,y4,sZ,Nat.reduceEqDiff,Nat.reduceAdd,Nat.reduceLT,↓reduceIte]
    refine ⟨by omega,?_⟩
    repeat' apply hV
    all_goals exact ry _ (nE _)
  ·have Zh:j=(c.kd k).length:=by omega
   subst Zh
   have hs:Sh c.O (.mk 4 0 ts ls) (c.tm i) (c.tm k):=by
    rw [Sh4 rfl ki2]
    rw [osi] at BQ
    refine ⟨rfl,kk2,MB.2.2,BQ,?_⟩
    show R0 (E c.O) (Sh c.O) ts ls (c.tm i).l (c.tm k).l
    rw [← ki.1,← kk.1,← D7]
    exact JW.cov BF hlne2
   have gp6:=lB.gp
   have g66:=lB.g6
   have lp:=R5 4 0 ts ls
   obtain ⟨q1,q2,q3,q4,q5,q6,q7,q8,q9⟩:=bf (.mk 4 0 ts ls)
   have lp2:=Ee (.mk 4 0 ts ls)
   have Mz:=tO (a:=aa.cells (eC (.mk 4 0 ts ls)).cells) (aO g66)
   have Qu:aj (H.length + 1) (eC (.mk 4 0 ts ls)).cells=true:=cB (gk _ _)
   have lQ:=PB.fin hD lB hs
   simp +contextual only [decide_false,Mt,gp6,g66,lp,q1,q2,q3,q9,R7,Mz,lp2,Qu,sZ,Nat.reduceEqDiff,Nat.reduceAdd,↓reduceIte,reduceCtorEq]
   first | exact lQ | exact ⟨by omega,lQ⟩
end Go.aI
end
noncomputable section
set_option maxRecDepth 100000
namespace Go.aI
open Go Go.Proofs Go.eJ
theorem MC {P:Nat→Prop}:∀ {n:Nat},P n→∃ m,m≤n∧P m∧∀ j,j < m→¬ P j:=by
 intro n
 induction n using Nat.strongRecOn with
 | _ n ih=>
   intro h
   by_cases hx:∃ j,j < n∧P j
   ·obtain ⟨j,hj,hp⟩:=hx
    obtain ⟨m,h1,h2,h3⟩:=ih j hj hp
    exact ⟨m,by omega,h2,h3⟩
   ·exact ⟨n,oN _,h,fun j hj hp=>hx ⟨j,hj,hp⟩⟩
theorem c86 {c:Cx} (hc:c.Ok):∀ (N:Nat) (i k:Int),c.dS i→c.dS k→wt (c.tm i) + wt (c.tm k)≤N→R c.O (c.tm i) (c.tm k)→pG c i k:=by
 intro N
 induction N with
 | zero=>intro i k _ _ h;have:=dx (c.tm i);omega
 | succ N ih=>
 intro i k hi hk hN hR
 have hx:∀ {j:Int},c.dS j→∀ x∈c.kd j,c.dS x∧wt (c.tm x) < wt (c.tm j):=fun {j} hj x hx=>by
  have h1:=hc.kids j hj
  exact ⟨h1.2 x hx,cH (by rw [← h1.1];exact aaq.2 ⟨x,hx,rfl⟩)⟩
 have p1:∀ x∈c.kd i,R c.O (c.tm x) (c.tm k)→pG c x k:=fun x h r=>ih x k (hx hi x h).1 hk (by have:=(hx hi x h).2;omega) r
 have p2:∀ y∈c.kd k,R c.O (c.tm i) (c.tm y)→pG c i y:=fun y h r=>ih i y hi (hx hk y h).1 (by have:=(hx hk y h).2;omega) r
 have p3:∀ x∈c.kd i,∀ y∈c.kd k,R c.O (c.tm x) (c.tm y)→pG c x y:=fun x h y h' r=>ih x y (hx hi x h).1 (hx hk y h').1 (by have:=(hx hi x h).2;have:=(hx hk y h').2;omega) r
 obtain ⟨_,n,hn,hr⟩:=(tq hc hi hk).2 hR
 obtain ⟨m,hm,hr,jN⟩:=MC (P:=fun n=>iF c i k n) hr
 have:m=1∨m=2∨m=3∨m=4:=by
  rcases hr with h | h | h | h
  ·exact .inl h.1
  ·exact .inr (.inl h.1)
  ·exact .inr (.inr (.inl h.1))
  ·exact .inr (.inr (.inr h.1))
 rcases this with rfl | rfl | rfl | rfl
 ·exact Zr hc hi hk hR hr jN p1
 ·exact Zv hc hi hk hR hr jN p2
 ·exact Zw hc hi hk hR hr jN p2 p3
 ·exact Zx hc hi hk hR hr jN p3
theorem ZA {c:Cx} (hc:c.Ok) {i k:Int} (hi:c.dS i) (hk:c.dS k) (hR:R c.O (c.tm i) (c.tm k)):pG c i k:=c86 hc _ i k hi hk (oN _) hR
def Qw:PP:=.mk 0 0 [] []
def Vq (s:Sg) (ps ss:List Int) (a b:T) (r:AV):Prop:=
 (eN s ps ss [a,b]≠0∧r=.tuple [eC Qw,.bool false,.int .i64 (eN s ps ss [a,b])])∨
 (eN s ps ss [a,b]=0∧¬ R (iW ps ss) a b∧r=.tuple [eC Qw,.bool false,.int .i64 0])∨
 (eN s ps ss [a,b]=0∧∃ p,Sh (iW ps ss) p a b∧r=.tuple [eC p,.bool true,.int .i64 0])
theorem Up.j4 {c:Cx} {G0 G:List aa} (h:Up c G0 G) {n:Nat} (he:n≤c.e) (hg:n≤c.g):G.take n=G0.take n:=by
 apply aaZ
 intro j
 rw [aax,aax]
 split
 ·rename_i hj;exact h.get j (by omega) (by omega)
 ·rfl
theorem mh (n0 s s' s'':Nat) (sz:Option Nat) (env:Env) (H:List aa) (R:AV→List aa→Prop):b8 n0 [.c s sz,.t s',.t s''] env H R=aU sz (get env s) H fun x=>uz n0 [x,get env s',get env s''] H R:=ae0
theorem HN {Hs G:List aa} {n0:Nat} {u v w:AV} {R:AV→List aa→Prop} (hH:Hs.take n0=G) (hb:aj n0 [u,v,w]=true) (hu:[u,v,w].map AV.ab=[u,v,w]) (hR:R (.tuple [u,v,w]) G):uz n0 [u,v,w] Hs R:=by
 subst hH
 exact ⟨n0,oN _,_,by rw [hu];exact bW _,hb,hR⟩
theorem vM {H G:List aa} {o:aa} (h:G.take H.length=H):(G.set H.length o).take H.length=H:=by
 rw [aaM (oN _),h]
theorem c27 (s:Sg) (ps ss:List Int) (a b:T) (H:List aa):aw Tryz.prog 27 [s.av,eD ps ss,a.av,b.av] H fun r H'=>Vq s ps ss a b r∧H'=H:=by
 refine k27.2.calls rfl ?_
 simp only [k27,aJ]
 obtain ⟨q1,q2,q3,q4,q5,q6⟩:=aS ps ss
 have zf4:∀ n,aj n (List.map AV.ab [AV.int .i64 0,.int .i64 0,.ag,.ag])=true:=fun _=>rfl
 have zf5:List.map AV.ab [AV.int .i64 0,.int .i64 0,.ag,.ag]=[AV.int .i64 0,.int .i64 0,.ag,.ag]:=rfl
 simp +contextual only [aF,q1,q4,bX,zf5,sZ,Nat.reduceEqDiff,Nat.reduceAdd,↓reduceIte,reduceCtorEq]
 have g0:(H++[aa.cells [AV.int .i64 0,.int .i64 0,.ag,.ag]])[H.length]?=some (.cells [.int .i64 0,.int .i64 0,.ag,.ag]):=by simp
 have uV:(H++[aa.cells [AV.int .i64 0,.int .i64 0,.ag,.ag]]).length=H.length + 1:=by simp
 have US:(H++[aa.cells [AV.int .i64 0,.int .i64 0,.ag,.ag]]).take H.length=H:=by simp
 refine ae (Zb s ps ss [a,b]) ?_
 generalize H++[aa.cells [AV.int .i64 0,.int .i64 0,.ag,.ag]]=H1 at g0 uV US ⊢
 have ldz:∀ φ,cV (some (.cells [.int .i64 0,.int .i64 0,.ag,.ag])) (some 4) 0 φ=φ (eC Qw):=R5 0 0 [] []
 have zb:∀ p b n,aj H.length [eC p,.bool b,.int .i64 n]=true:=fun p b n=>by simp [bM,cZ,gk,Bi,jD]
 have zu:∀ p b n,[eC p,AV.bool b,.int .i64 n].map AV.ab=[eC p,.bool b,.int .i64 n]:=fun p b n=>by simp [(bf p).2.2.2.1,pd,ow]
 by_cases h0:eN s ps ss [a,b]=0
 ·have hr:=pn h0
  have hw:=kX hr.tree
  have hc:=hr.cx (by simp) (by simp) H1.length
  have hd:=z3 ps ss (ts:=[a,b]) (by simp) H1
  simp +contextual only [q4,bX,h0,sZ,Nat.reduceEqDiff,Nat.reduceAdd,↓reduceIte]
  refine af (YL ps ss [a,b] _ (by simp at hw;omega)) ?_
  rintro r G ⟨rfl,rfl⟩
  have a0:=uE (ps:=ps) (ss:=ss) (ts:=[a,b]) (n:=H1.length) (j:=0) (by simp)
  have a1:=uE (ps:=ps) (ss:=ss) (ts:=[a,b]) (n:=H1.length) (j:=1) (by simp)
  have hl:=cI [a,b] 0
  rw [Qm]
  generalize aZ [a,b] 0=ks at a0 a1 hl ⊢
  have oU:ks.length=2:=hl
  simp +contextual only [a7,oU,dJ,sZ,Nat.reduceEqDiff,Nat.reduceAdd,Nat.reduceLT,↓reduceIte,reduceCtorEq]
  refine ⟨by decide,by decide,af (kF hc a0.1 a1.1 _ hd) ?_⟩
  rintro r G ⟨x,rfl,hx,hU,hD⟩
  rw [a0.2,a1.2] at hx
  have qN:x=true↔R (iW ps ss) a b:=hx
  have he:(gU ps ss [a,b] H1.length).e=H.length + 1:=uV
  have hg:(gU ps ss [a,b] H1.length).g=H.length + 2:=by show H1.length + 1=_;omega
  have low:∀ G',Up (gU ps ss [a,b] H1.length) G G'→G'[H.length]?=some (.cells [.int .i64 0,.int .i64 0,.ag,.ag])∧G'.take H.length=H:=by
   intro G' hU'
   have RU:=hU.trans hU'
   refine ⟨by rw [RU.get _ (by omega) (by omega),tK (by omega)];exact g0,?_⟩
   rw [RU.j4 (n:=H.length) (by omega) (by omega),aaA (by omega),US]
  have gz:=low G (Up.refl _ _)
  have gz1:=gz.1
  have gzs:=fun o=>tO (a:=o) (aO gz1)
  have nilc:(eC Qw).cells=[AV.int .i64 0,.int .i64 0,.ap 0 [],.ap 0 []]:=rfl
  cases x with
  | false=>
    simp +contextual only [Bool.not_false,gz1,gzs,zf5,JM,mh,ldz,sZ,Nat.reduceEqDiff,Nat.reduceAdd,↓reduceIte,reduceCtorEq]
    refine HN (vM gz.2) (zb _ _ _) (zu _ _ _) ⟨.inr (.inl ⟨h0,fun h=>absurd (qN.2 h) (by simp),rfl⟩),rfl⟩
  | true=>
    simp +contextual only [Bool.not_true,a7,oU,dJ,sZ,Nat.reduceEqDiff,Nat.reduceAdd,↓reduceIte,reduceCtorEq]
    refine ⟨by decide,by decide,af (ZA hc a0.1 a1.1 (by rw [a0.2,a1.2];exact qN.1 rfl) _ hD) ?_⟩
    rintro r G2 ⟨p,rfl,hp,RU,Cb⟩
    rw [a0.2,a1.2] at hp
    obtain ⟨gy1,gy2⟩:=low G2 RU
    have gys:=fun o=>tO (a:=o) (aO gy1)
    obtain ⟨u1,u2,u3,u4,u5,u6,u7,u8,u9⟩:=bf p
    have lpq:=Ee p
    have Qu:aj (H.length + 1) (eC p).cells=true:=cB (gk _ _)
    simp +contextual only [gy1,gys,u1,u2,u3,u9,R7,lpq,Qu,mh,sZ,Nat.reduceEqDiff,Nat.reduceAdd,↓reduceIte,reduceCtorEq]
    first | exact HN (vM gy2) (zb _ _ _) (zu _ _ _) ⟨.inr (.inr ⟨h0,p,hp,rfl⟩),rfl⟩ | exact ⟨by omega,HN (vM gy2) (zb _ _ _) (zu _ _ _) ⟨.inr (.inr ⟨h0,p,hp,rfl⟩),rfl⟩⟩
 ·have gs:∀ o,(H1.set H.length o)[H.length]?=some o:=fun o=>tO (by omega)
  simp +contextual only [h0,g0,gs,zf5,JM,mh,ldz,sZ,Nat.reduceEqDiff,Nat.reduceAdd,↓reduceIte,reduceCtorEq]
  refine HN (vM US) (zb _ _ _) (zu _ _ _) ⟨.inl ⟨h0,rfl⟩,rfl⟩
end Go.aI
end
noncomputable section
set_option maxRecDepth 100000
namespace Go.aI
open Go Go.Proofs Go.eJ
def vh (l:List nM):List AV:=l.map nM.av
theorem Ef (l:List nM):(vh l).length=l.length:=by simp [vh]
theorem MD (n:Nat) (l:List nM):aj n (vh l)=true:=by
 rw [aY];intro x hx;obtain ⟨y,_,rfl⟩:=aaq.1 hx
 exact y.facts.2.2.2.2.2 n
theorem HO (o:Nat) (l:List nM):(∀ (own:Nat) (xs:List AV),AV.ap o (vh l)=AV.ap own xs→∀ z∈xs,z.cells.length=8)=True:=by
 simp only [eq_iff_iff,iff_true]
 intro own xs e z hz
 cases e
 obtain ⟨y,_,rfl⟩:=aaq.1 hz;rfl
theorem idx_eq (e o:Nat) (l:List nM) (k:IntKind) (i:Nat) (φ:AV→Prop):ax e (.ap o (vh l)) (.int k (i:Int)) φ=(i < l.length∧φ (.ai (l.getD i default).av)):=by
 simp only [ax,Ef,tN,eq_iff_iff]
 constructor
 ·rintro ⟨_,h,h2⟩;refine ⟨h,?_⟩;simpa [vh,h] using h2
 ·rintro ⟨h,h2⟩;refine ⟨by omega,h,?_⟩;simpa [vh,h] using h2
theorem R8 (e:nM) (H:List aa) (φ:AV→Prop):aU (some 8) (.ai e.av) H φ=φ e.av:=by simp [aU,nM.av,AV.cells]
structure ME (ps:List Int) (e:nM):Prop where
 few:e.cs.length≤1000
 tree:∀ t∈e.a::e.rest,t.tree=true
 ops:∀ t∈e.a::e.rest,yD (fun n=>0≤n∧n < ps.length) t
open Classical in
def yK (ps ss:List Int) (e:nM):Bool:=decide (Qo ps ss e)
theorem ZB (ps ss:List Int) (e:nM) (hv:Va ps ss) (he:ME ps e):Pure Tryz.prog 163 [eD ps ss,e.av] (.bool (yK ps ss e)):=by
 intro H
 refine (acQ ps ss e hv he.few he.tree he.ops H).mono ?_
 rintro r H' ⟨⟨b,rfl,hb⟩,rfl⟩
 refine ⟨?_,rfl⟩
 congr 1
 rw [abn,hb]
 simp [yK]
theorem adb (ps ss:List Int) (e:nM) (hv:Va ps ss) (he:ME ps e):Pure Tryz.prog 162 [e.av,.ai (eD ps ss)] (.bool (!yK ps ss e)):=by
 refine fun H=>Xk.2.calls rfl ?_
 simp only [Xk,aJ]
 obtain ⟨q1,q2,q3,q4,q5,q6⟩:=aS ps ss
 obtain ⟨e1,e2,e3,e4,e5,e6⟩:=nM.facts e
 simp +contextual only [q4,e1,e4,bX,R8,sZ,Nat.reduceEqDiff,Nat.reduceAdd,↓reduceIte,reduceCtorEq]
 refine ae (ZB ps ss e hv he) ?_
 simp +contextual only [sZ,↓reduceIte,reduceCtorEq]
 exact bc rfl rfl
def qG {α:Type} (p:α→Bool):List α→Nat→Int
 | [],_=>-1
 | x::r,i=>if p x=true then (i:Int) else qG p r (i + 1)
theorem Ad {α:Type} [Inhabited α] {p:α→Bool} {l:List α} {i:Nat} (h:i < l.length):qG p (l.drop i) i=if p (l.getD i default)=true then (i:Int) else qG p (l.drop (i + 1)) (i + 1):=by
 have e:l.getD i default=l[i]:=by simp [h]
 rw [aaG h,qG,e]
theorem ade (ps ss:List Int) (l:List nM) (hv:Va ps ss) (he:∀ e∈l,ME ps e):Pure Tryz.prog 161 [.ap 0 (vh l),.fn (.func 162) [] [.ai (eD ps ss)]] (.int .i64 (qG (fun e=>!yK ps ss e) l 0)):=by
 refine fun H=>Ox.2.calls rfl ?_
 simp only [Ox,aJ]
 simp +contextual only [Ef,sZ,Nat.reduceEqDiff,Nat.reduceAdd,↓reduceIte,reduceCtorEq]
 intro hl
 refine aC l.length (fun i=>qG (fun e=>!yK ps ss e) (l.drop i) i=qG (fun e=>!yK ps ss e) l 0) (fun i=>[(0,.ap 0 (vh l)),(1,.fn (.func 162) [] [.ai (eD ps ss)]),(7,.int .i64 l.length),(8,.int .i64 i)]) (fun _=>H) ⟨rfl,aB _ _ _⟩ fun i hi hI=>?_
 obtain ⟨e1,e2,e3,e4,e5,e6⟩:=nM.facts (l.getD i default)
 simp +contextual only [HO,idx_eq,R8,e4,sZ,Nat.reduceEqDiff,Nat.reduceAdd,↓reduceIte,reduceCtorEq]
 refine ⟨fun aX=>?_,fun jV=>?_⟩
 ·have aX:=b9 aX
  have hm:l.getD i default∈l:=by
   rw [oM,Nq aX];exact abC aX
  rw [Ad aX] at hI
  refine ⟨aX,ae (adb ps ss _ hv (he _ hm)) ?_⟩
  cases hb:yK ps ss (l.getD i default) with
  | false=>
    rw [if_pos (by rw [hb];rfl)] at hI
    simp +contextual only [Bool.not_false,sZ,Nat.reduceEqDiff,↓reduceIte,reduceCtorEq]
    exact bc rfl (by rw [← hI])
  | true=>
    rw [if_neg (by rw [hb];simp)] at hI
    simp +contextual only [Bool.not_true,sZ,Nat.reduceEqDiff,↓reduceIte,reduceCtorEq]
    exact ⟨i + 1,⟨aX,hI⟩,by omega,aD (by rw [au i (by omega)]) rfl⟩
 ·rw [aaF (dl jV)] at hI
  exact bc rfl (by rw [← hI];rfl)
structure Ty where
 s:Sg
 es:List nM
deriving Inhabited
def Ty.av (t:Ty):AV:=.agg [.ap 0 (strs t.s.aR),.ap 0 (pE t.s.ops),.ap 0 (vh t.es)]
theorem Ty.facts (t:Ty):t.av.val=true∧t.av.cells.length=3∧t.av.cells.all AV.one=true∧t.av.ab=t.av∧t.av.drop=t.av∧∀ n,t.av.a9 n=true:=
 ⟨rfl,rfl,rfl,rfl,rfl,fun n=>by simp [Ty.av,AV.a9,aj,xw,xv,MD]⟩
theorem MF (t:Ty) (φ:AV→Prop):al 0 (some 2) (.ai t.av) φ=φ (.ai t.s.av):=by simp [al,apart,Ty.av,Sg.av,AV.cells]
theorem fY2 (t:Ty) (φ:AV→Prop):al 2 none (.ai t.av) φ=φ (.ai (.ap 0 (vh t.es))):=by simp [al,apart,Ty.av,AV.cells,AV.one]
theorem fS1 (s:Sg) (φ:AV→Prop):al 1 none (.ai s.av) φ=φ (.ai (.ap 0 (pE s.ops))):=by simp [al,apart,Sg.av,AV.cells,AV.one]
theorem nA (t:Ty) (H:List aa) (φ:AV→Prop):aU (some 3) (.ai t.av) H φ=φ t.av:=by simp [aU,Ty.av,AV.cells]
def sj (t:Ty) (ps ss:List Int):Int:=qG (fun e=>!yK ps ss e) t.es 0
theorem c89 (t:Ty) (ps ss:List Int) (hv:Va ps ss) (he:∀ e∈t.es,ME ps e):Pure Tryz.prog 89 [t.av,eD ps ss] (.int .i64 (sj t ps ss)):=by
 refine fun H=>k89.2.calls rfl ?_
 simp only [k89,aJ]
 obtain ⟨q1,q2,q3,q4,q5,q6⟩:=aS ps ss
 obtain ⟨e1,e2,e3,e4,e5,e6⟩:=Ty.facts t
 simp +contextual only [q1,e1,fY2,sZ,Nat.reduceEqDiff,Nat.reduceAdd,↓reduceIte,reduceCtorEq]
 refine ae (ade ps ss t.es hv he) ?_
 simp +contextual only [sZ,↓reduceIte,reduceCtorEq]
 exact bc rfl rfl
end Go.aI
end
noncomputable section
set_option maxRecDepth 100000
set_option maxHeartbeats 0
namespace Go.aI
open Go Go.Proofs
def R9:=aJ Tryz.call112 Tryz.func112 Tryz.ntmps112 [(0,0,1),(8,0,3001)] [(0,[1,2,3,4,8]),(1,[1,2,3,8,9]),(2,[1,2,3,8,10]),(3,[2,3,8,10,24,25,26]),(4,[2,3,8,10,24,25,26,27]),(5,[2,3,8,10,11,12,24,25,26]),(6,[2,3,8,10,24,25,26]),(7,[2,3,8,10,24,25,26]),(8,[8])] [(6,(.take 0 true (.take 1 true (.take 2 true (.take 6 true (.take 7 true (.take 8 true (.take 9 true (.take 10 true (.take 11 true (.take 12 true (.take 13 true (.take 14 true (.take 3 false (.take 5 false (.br 4 (.br 15 (.take 16 true (.br 17 .done .nil)) .nil) (.br 15 (.take 4 true (.take 16 true (.br 17 .done .nil))) .nil)))))))))))))))))]
end Go.aI
end
noncomputable section
set_option maxRecDepth 100000
namespace Go.aI
open Go Go.Proofs Go.eJ
def jH:List Int→List Int→List Int→List Int
 | l,i::r,x::s=>jH (l.set i.toNat x) r s
 | l,_,_=>l
def qH (n:Nat) (ops pl:List Int):List Int:=jH (List.replicate n 255) ops pl
def tB (n:Nat) (ops st:List Int):List Int:=jH (List.replicate n 1) ops st
theorem xG:∀ (l r s:List Int),(jH l r s).length=l.length
 | l,[],_=>by cases l <;> rfl
 | l,_::_,[]=>rfl
 | l,i::r,x::s=>by rw [jH,xG];simp
theorem adf (t:Ty) (ops pl st:List Int) {vo vp vs:AV} (ho:IL vo ops) (hp:IL vp pl) (hs:IL vs st) (uV:pl.length=ops.length) (oU:st.length=ops.length) (hr:∀ i∈ops,0≤i∧i < t.s.ops.length) (hn:t.s.ops.length≤1000000000) (jN:ops.length≤1000000000):Pure Tryz.prog 112 [t.av,vo,vp,vs] (eD (qH t.s.ops.length ops pl) (tB t.s.ops.length ops st)):=by
 refine fun H=>R9.2.calls rfl ?_
 simp only [R9,aJ]
 obtain ⟨e1,e2,e3,e4,e5,e6⟩:=Ty.facts t
 obtain ⟨a1,a2,a3,a4⟩:=ho.one
 obtain ⟨b1,b2,b3,b4⟩:=hp.one
 obtain ⟨c1,c2,c3,c4⟩:=hs.one
 simp +contextual only [e1,MF,fS1,xu,sZ,Nat.reduceEqDiff,Nat.reduceAdd,↓reduceIte,reduceCtorEq]
 intro _
 refine af (U0 0 255 t.s.ops.length hn _) ?_
 rintro r G ⟨rfl,rfl⟩
 simp +contextual only [sZ,Nat.reduceEqDiff,Nat.reduceAdd,↓reduceIte]
 refine af (U0 0 1 t.s.ops.length hn _) ?_
 rintro r G ⟨rfl,rfl⟩
 simp +contextual only [sZ,Nat.reduceEqDiff,Nat.reduceAdd,↓reduceIte]
 obtain ⟨n,hn'⟩:∃ n,n=t.s.ops.length:=⟨_,rfl⟩
 rw [← hn'] at hn hr ⊢
 have va:∀ a b c d,(AV.aW a b c d).val=true:=fun _ _ _ _=>rfl
 have vc:∀ a b c d,(AV.aW a b c d).cells=[.aW a b c d]:=fun _ _ _ _=>rfl
 have vo':∀ a b c d,(AV.aW a b c d).one=true:=fun _ _ _ _=>rfl
 have vd:∀ a b c d,(AV.aW a b c d).drop=.aW a b c d:=fun _ _ _ _=>rfl
 have bdA:∀ (a1 b1 c1 d1 a2 b2 c2 d2:Nat) (φ:AV→Prop),cw [AV.ag,AV.ag] [(0,1,.aW a1 b1 c1 d1),(1,1,.aW a2 b2 c2 d2)] φ=φ (.agg [.aW a1 b1 c1 d1,.aW a2 b2 c2 d2]):=by
  intro a1 b1 c1 d1 a2 b2 c2 d2 φ
  simp only [cw,gZ,eq_iff_iff]
  constructor
  ·rintro ⟨_,_,_,_,_,_,h⟩;exact h
  ·exact fun h=>⟨rfl,rfl,by simp,rfl,rfl,by simp [ah,AV.cells],h⟩
 have g3:∀ (a b c d:aa),[a,b,c,d][3]?=some d:=fun _ _ _ _=>rfl
 have sp2:∀ (a b x y:AV),ah [a,b] 0 [x,y]=[x,y]:=fun _ _ _ _=>rfl
 have lt1:∀ m:Nat,decide (m + 1 < m + 3 + 1)=true:=fun m=>by simp
 have lt2:∀ m:Nat,decide (m + 2 < m + 3 + 1)=true:=fun m=>by simp
 let S:List Int→List Int→List aa:=fun P Q=>H++[.cells [.ag,.ag],da P,da Q,.cells [.aW (H.length + 1) 0 n n,.aW (H.length + 2) 0 n n]]
 simp +contextual only [bdA,vo',g3,sp2,s3,lt1,lt2,ab7,a2,ho.aL,ho.len (by omega),sZ,Nat.reduceEqDiff,Nat.reduceAdd,↓reduceIte]
 refine aM ops.length (fun j (s:List Int×List Int)=>s.1.length=n∧s.2.length=n∧jH s.1 (ops.drop j) (pl.drop j)=qH n ops pl∧jH s.2 (ops.drop j) (st.drop j)=tB n ops st)
  (fun j s=>[(2,vp),(3,vs),(8,.ptr H.length 0),(10,.ptr (H.length + 3) 0),(24,vo),(25,.int .i64 ops.length),(26,.int .i64 j)]) (fun j s=>S s.1 s.2) (List.replicate n 255,List.replicate n 1) ⟨⟨by simp,by simp,rfl,rfl⟩,aB _ _ _⟩ fun j s hj hI=>?_
 obtain ⟨P,Q⟩:=s
 obtain ⟨hP,hQ,Vr,ZC⟩:=hI
 simp only at hP hQ Vr ZC
 by_cases hjo:(j:Int) < ops.length
 ·have qO:j < ops.length:=by omega
  have hri:=hr _ (aP qO)
  obtain ⟨x,hx⟩:=abu hri.1
  have hxn:x < n:=by omega
  have hxP:x < P.length:=by omega
  have hxQ:x < Q.length:=by omega
  simp +contextual only [S,hjo,decide_true,b2,c2,ho.lens,ho.idx,hp.lens,hp.idx,hs.lens,hs.idx,tN,hx,lC,g3,Md hxP,Md hxQ,sZ,Nat.reduceEqDiff,Nat.reduceAdd,Nat.reduceLT,↓reduceIte,reduceCtorEq]
  have stp:∀ (P q:List Int),q.length=ops.length→jH P (ops.drop j) (q.drop j)=jH (P.set x (q.getD j 0)) (ops.drop (j + 1)) (q.drop (j + 1)):=by
   intro P q hq
   have e1:ops.drop j=ops.getD j 0::ops.drop (j + 1):=by rw [aaG qO];simp [qO]
   have hjq:j < q.length:=by omega
   have e2:q.drop j=q.getD j 0::q.drop (j + 1):=by rw [aaG hjq];simp [hjq]
   rw [e1,e2,jH,hx,tN]
  rw [stp P pl uV] at Vr
  rw [stp Q st oU] at ZC
  have hgo:∃ (j':Nat) (t:List Int×List Int),(j'≤ops.length∧t.1.length=n∧t.2.length=n∧jH t.1 (ops.drop j') (pl.drop j')=qH n ops pl∧jH t.2 (ops.drop j') (st.drop j')=tB n ops st)∧ops.length - j' < ops.length - j∧
   sle H.length [(2,vp),(3,vs),(8,.ptr H.length 0),(10,.ptr (H.length + 3) 0),(24,vo),(25,.int .i64 ops.length),(26,.int .i64 (IntKind.i64.wrap (j + 1)))]
    (H++[.cells [.ag,.ag],da (P.set x (pl.getD j 0)),da (Q.set x (st.getD j 0)),.cells [.aW (H.length + 1) 0 n n,.aW (H.length + 2) 0 n n]])
    [(2,vp),(3,vs),(8,.ptr H.length 0),(10,.ptr (H.length + 3) 0),(24,vo),(25,.int .i64 ops.length),(26,.int .i64 j')]
    (H++[.cells [.ag,.ag],da t.1,da t.2,.cells [.aW (H.length + 1) 0 n n,.aW (H.length + 2) 0 n n]]):=
   ⟨j + 1,(P.set x (pl.getD j 0),Q.set x (st.getD j 0)),⟨qO,by simp [hP],by simp [hQ],Vr,ZC⟩,by omega,aD (by rw [au j (by omega)]) rfl⟩
  repeat' apply hV
  all_goals first | omega | exact hgo
 ·have Zh:j=ops.length:=by omega
  subst Zh
  rw [List.drop_length] at Vr ZC
  have eP:P=qH n ops pl:=by rw [← Vr];cases P <;> rfl
  have eQ:Q=tB n ops st:=by rw [← ZC];cases Q <;> rfl
  simp +contextual only [LK,S,hjo,decide_false,g3,vd,sZ,Nat.reduceEqDiff,↓reduceIte]
  have f1:(H++[aa.cells [AV.ag,.ag],da P,da Q,.cells [.aW (H.length + 1) 0 n n,.aW (H.length + 2) 0 n n]])[H.length + 1]?=some (da P):=by simp
  have f2:((H++[aa.cells [AV.ag,.ag],da P,da Q,.cells [.aW (H.length + 1) 0 n n,.aW (H.length + 2) 0 n n]]).set (H.length + 1) .dead)[H.length + 2]?=some (da Q):=by rw [tL (by omega)];simp
  have fz1:∀ {id n:Nat} {l:List Int} {H:List aa} (h:H[id]?=some (da l)) (hn:l.length=n) {K:AV→List aa→Prop} (hK:K (.ap 0 (ints l)) (H.set id .dead)),dN 1 (.aW id 0 n n) H K:=fun h hn K hK=>by subst hn;exact DV h hK
  refine fz1 f1 hP ?_
  refine fz1 f2 hQ ?_
  have es:((H++[aa.cells [AV.ag,.ag],da P,da Q,.cells [.aW (H.length + 1) 0 n n,.aW (H.length + 2) 0 n n]]).set (H.length + 1) .dead).set (H.length + 2) .dead=H++[aa.cells [AV.ag,.ag],.dead,.dead,.cells [.aW (H.length + 1) 0 n n,.aW (H.length + 2) 0 n n]]:=by simp []
  rw [es]
  have fb:∀ m,aj m [AV.ap 0 (ints P),.ap 0 (ints Q)]=true:=fun m=>by simp [bM,cZ,cc,bb]
  simp +contextual only [fb,sp2,ab7,sZ,Nat.reduceEqDiff,Nat.reduceAdd,↓reduceIte,reduceCtorEq]
  rw [eP,eQ]
  exact Hw ((aS _ _).2.2.2.2.2 _) rfl
end Go.aI
end
noncomputable section
set_option maxRecDepth 100000
namespace Go.aI
open Go Go.Proofs Go.eJ
def iZ (vals:List Int):Nat→List (List Int)
 | 0=>[[]]
 | n + 1=>vals.flatMap fun x=>(iZ vals n).map (x::·)
def fc {σ:Type} (step:σ→List Int→σ×Bool):List (List Int)→σ→σ×Bool
 | [],s=>(s,true)
 | l::r,s=>if (step s l).2=true then fc step r (step s l).1 else ((step s l).1,false)
theorem xH {σ:Type} {step:σ→List Int→σ×Bool}:∀ (a b:List (List Int)) (s:σ),fc step (a++b) s=if (fc step a s).2=true then fc step b (fc step a s).1 else ((fc step a s).1,false)
 | [],b,s=>by simp [fc]
 | x::a,b,s=>by
   rw [List.cons_append,fc,fc]
   split
   ·exact xH a b _
   ·simp
def dq (lo:Int) (n:Nat):List Int:=(List.range n).map fun i=>lo + (i:Nat)
theorem Gu (lo:Int) (n:Nat):dq lo (n + 1)=dq lo n++[lo + (n:Nat)]:=by simp [dq,acr]
theorem Ae {lo x:Int} {n:Nat}:x∈dq lo n↔lo≤x∧x < lo + n:=by
 simp only [dq,aaq,aaP]
 constructor
 ·rintro ⟨j,h,rfl⟩;omega
 ·intro h;exact ⟨(x - lo).toNat,by omega,by omega⟩
def HP (n:Nat) (id:Nat) (lo hi:Int) (q:Nat):AV:=.fn (.func 206) [] [.ai (.int .i64 n),.ai (.nN id),.ai (.int .i64 lo),.ai (.int .i64 hi),.ptr q 0]
structure YS {σ:Type} (n:Nat) (vals:List Int) (id:Nat) (St:σ→List aa) (Good:σ→Prop) (step:σ→List Int→σ×Bool):Prop where
 y:∀ l s X,l.length=n→(∀ x∈l,x∈vals)→Good s→ko Tryz.prog id [bt l] (St s++X) fun r H'=>r=.bool (step s l).2∧H'=St (step s l).1++X
 U9:∀ l s,Good s→(step s l).2=true→Good (step s l).1
 len:∀ s s',(St s).length=(St s').length
theorem Af {σ:Type} {n:Nat} {vals:List Int} {id:Nat} {St:σ→List aa} {Good:σ→Prop} {step:σ→List Int→σ×Bool} (h:YS n vals id St Good step):∀ (a:List (List Int)) (s:σ),Good s→(fc step a s).2=true→Good (fc step a s).1
 | [],s,hs,_=>hs
 | l::r,s,hs,hr=>by
   rw [fc] at hr ⊢
   split at hr
   ·rename_i h1
    rw [if_pos h1]
    exact Af h r _ (h.U9 l s hs h1) hr
   ·simp at hr
theorem Qx (l:List Int) (h:l≠[]):bt l=.ap 0 (ints l):=by cases l with
 | nil=>exact absurd rfl h
 | cons a r=>rfl
theorem ZD (l:List Int) (hb:l.length * 8≤140737488355328):Pure Tryz.prog 118 [bt l] (.ap 1 (ints l)):=by
 intro H
 cases l with
 | nil=>exact zp H
 | cons a r=>exact wW 0 (ints (a::r)) H (of_eq_true (mX _)) (by rw [ay];exact hb) (bb _ _)
theorem adg {σ:Type} {n:Nat} {lo hi:Int} (uN:-1000000≤lo∧lo≤1000000) (Kl:-1000000≤hi∧hi≤1000000) (hn:n≤1000000) {id:Nat} {St:σ→List aa} {Good:σ→Prop} {step:σ→List Int→σ×Bool} (hy:YS n (dq lo (hi + 1 - lo).toNat) id St Good step) (q:Nat) :
 ∀ (r:Nat) (l:List Int) (s:σ) (X:List aa),l.length + r=n→(∀ x∈l,x∈dq lo (hi + 1 - lo).toNat)→Good s→(∀ s',(St s'++X)[q]?=some (.cells [HP n id lo hi q]))→
  aw Tryz.prog 206 [bt l,.ai (.int .i64 n),.ai (.nN id),.ai (.int .i64 lo),.ai (.int .i64 hi),.ptr q 0] (St s++X) fun rr H'=>rr=.bool (fc step ((iZ (dq lo (hi + 1 - lo).toNat) r).map (l++·)) s).2∧H'=St (fc step ((iZ (dq lo (hi + 1 - lo).toNat) r).map (l++·)) s).1++X:=by
 intro r
 induction r with
 | zero=>
   intro l s X hl hm hs hq
   refine OI.2.calls rfl ?_
   simp only [OI,aJ]
   have ik:IL (bt l) l:=.inl rfl
   obtain ⟨a1,a2,a3,a4,a5⟩:=aG l
   have e1:((l.length:Int)=(n:Int))=True:=eq_true (by omega)
   have lyld:∀ (H:List aa) (φ:AV→Prop),aU none (.ai (.nN id)) H φ=φ (.nN id):=fun H φ=>by simp [aU,AV.one,AV.ab]
   have e2:fc step ((iZ (dq lo (hi + 1 - lo).toNat) 0).map (l++·)) s=step s l:=by
    simp only [iZ,List.map_cons,List.map_nil,aaV,fc]
    cases hb:(step s l).2 with
    | true=>rw [if_pos rfl,← hb]
    | false=>rw [if_neg (by simp),← hb]
   rw [e2]
   simp +contextual only [a2,ik.aL,ik.len (by omega),e1,decide_true,lyld,HM,sZ,Nat.reduceEqDiff,Nat.reduceAdd,↓reduceIte,reduceCtorEq]
   refine Aa (hy.y l s X (by omega) hm hs) ?_
   rintro rr H' ⟨rfl,rfl⟩
   simp +contextual only [sZ,↓reduceIte,reduceCtorEq]
   refine ba (St s++X).length (oN _) (by rw [aA,if_pos rfl];rfl) ?_
   rw [aA,if_pos rfl]
   exact ⟨rfl,by rw [aaw (by rw [aap,aap,hy.len _ s];exact oN _)]⟩
 | succ r ih=>
   intro l s X hl hm hs hq
   refine OI.2.calls rfl ?_
   simp only [OI,aJ]
   have ik:IL (bt l) l:=.inl rfl
   obtain ⟨a1,a2,a3,a4,a5⟩:=aG l
   have e1:((l.length:Int)=(n:Int))=False:=eq_false (by omega)
   have ry:∀ (b:Bool) (s':σ),b8 (St s++X).length [.t 7] [(7,.bool b)] (St s'++X) fun rr H'=>rr=.bool b∧H'=St s'++X:=by
    intro b s'
    refine ba (St s++X).length (oN _) (by rw [aA,if_pos rfl];rfl) ?_
    rw [aA,if_pos rfl]
    exact ⟨rfl,by rw [aaw (by rw [aap,aap,hy.len _ s];exact oN _)]⟩
   obtain ⟨m,VR⟩:∃ m,m=(hi + 1 - lo).toNat:=⟨_,rfl⟩
   rw [← VR] at ih hm ⊢
   obtain ⟨F,hF⟩:∃ F:Nat→List (List Int),F=fun k=>(dq lo k).flatMap fun x=>(iZ (dq lo m) r).map fun y=>l++x::y:=⟨_,rfl⟩
   have hF0:F 0=[]:=by rw [hF];rfl
   have hFs:∀ k,F (k + 1)=F k++(iZ (dq lo m) r).map ((l++[lo + (k:Nat)])++·):=by
    intro k
    rw [hF]
    simp only [Gu,acK,List.flatMap_cons,aeE,aaV,aaD,List.cons_append,List.nil_append]
   have hFm:(iZ (dq lo m) (r + 1)).map (l++·)=F m:=by
    rw [hF,iZ,List.map_flatMap]
    congr 1
    funext x
    rw [ab9];rfl
   rw [hFm]
   simp +contextual only [a2,ik.aL,ik.len (by omega),e1,decide_false,sZ,Nat.reduceEqDiff,Nat.reduceAdd,↓reduceIte,reduceCtorEq]
   refine aM m (fun k (_:Unit)=>(fc step (F k) s).2=true) (fun k _=>[(0,bt l),(4,.ai (.int .i64 hi)),(5,.ptr q 0),(8,.int .i64 (lo + (k:Nat)))]) (fun k _=>St (fc step (F k) s).1++X) () ⟨by rw [hF0];rfl,aD (by simp) (by rw [hF0];rfl)⟩ fun k _ hk hI=>?_
   have hg:=Af hy (F k) s hs hI
   generalize QZ:(fc step (F k) s).1=s1 at hg ⊢
   by_cases hkm:lo + (k:Int)≤hi
   ·have E2:k < m:=by omega
    have hql:=hq s1
    simp +contextual only [hkm,decide_true,a2,sZ,Nat.reduceEqDiff,↓reduceIte,reduceCtorEq]
    refine aE (ZD l (by omega)) ?_
    have jt:qP 1 [AV.int .i64 (lo + (k:Int))]:=of_eq_true (mX [_])
    have efn:(HP n id lo hi q).ab=.fn (.func 206) [] [.ai (.int .i64 n),.ai (.nN id),.ai (.int .i64 lo),.ai (.int .i64 hi),.ptr q 0]:=rfl
    have ea:ints l++[AV.int .i64 (lo + (k:Int))]=ints (l++[lo + (k:Int)]):=by simp [ints]
    have ek:AV.ap 0 (ints (l++[lo + (k:Int)]))=bt (l++[lo + (k:Int)]):=by rw [Qx _ (by simp)]
    simp +contextual only [hql,efn,ay,jt,ea,ek,Hp,sZ,Nat.reduceEqDiff,Nat.reduceAdd,Nat.reduceLT,↓reduceIte,reduceCtorEq]
    refine ⟨by omega,af (ih (l++[lo + (k:Int)]) s1 X (by simp;omega) (fun x hx=>?_) hg hq) ?_⟩
    ·rcases aaO.1 hx with h | h
     ·exact hm x h
     ·simp only [aan,aaH,or_false] at h
      subst h
      exact Ae.2 ⟨by omega,by omega⟩
    rintro rr H' ⟨rfl,rfl⟩
    have bL:fc step (F (k + 1)) s=fc step ((iZ (dq lo m) r).map ((l++[lo + (k:Int)])++·)) s1:=by
     rw [hFs,xH,if_pos hI,QZ]
    cases hb:(fc step ((iZ (dq lo m) r).map ((l++[lo + (k:Int)])++·)) s1).2 with
    | true=>
      simp +contextual only [Bool.not_true,sZ,Nat.reduceEqDiff,↓reduceIte,reduceCtorEq]
      refine ⟨k + 1,(),⟨E2,by rw [bL];exact hb⟩,by omega,aD ?_ (by rw [bL])⟩
      rw [cR _ (by omega)]
      have:lo + (k:Int) + 1=lo + ((k + 1:Nat):Int):=by omega
      rw [this]
    | false=>
      simp +contextual only [Bool.not_false,sZ,Nat.reduceEqDiff,↓reduceIte,reduceCtorEq]
      have iJ:fc step (F m) s=((fc step ((iZ (dq lo m) r).map ((l++[lo + (k:Int)])++·)) s1).1,false):=by
       have e:∃ R,F m=F (k + 1)++R:=by
        have:∀ d,∃ R,F (k + 1 + d)=F (k + 1)++R:=by
         intro d
         induction d with
         | zero=>exact ⟨[],by simp⟩
         | succ d ihd=>
           obtain ⟨R,hR⟩:=ihd
           exact ⟨R++_,by rw [show k + 1 + (d + 1)=(k + 1 + d) + 1 by omega,hFs,hR,aaD]⟩
        obtain ⟨R,hR⟩:=this (m - (k + 1))
        exact ⟨R,by rw [← hR];congr 1;omega⟩
       obtain ⟨R,hR⟩:=e
       rw [hR,xH,bL,hb,if_neg (by simp)]
      rw [iJ]
      exact ry false _
   ·have hke:k=m:=by omega
    simp +contextual only [hkm,decide_false,sZ,Nat.reduceEqDiff,↓reduceIte,reduceCtorEq]
    rw [← hke,hI,QZ]
    exact ry true s1
theorem ZE {σ:Type} {n:Nat} {lo hi:Int} (uN:-1000000≤lo∧lo≤1000000) (Kl:-1000000≤hi∧hi≤1000000) (hn:n≤1000000) {id:Nat} {St:σ→List aa} {Good:σ→Prop} {step:σ→List Int→σ×Bool} (hy:YS n (dq lo (hi + 1 - lo).toNat) id St Good step) (bm:∀ s,id < (St s).length) (s:σ) (hs:Good s) :
 aw Tryz.prog 205 [.nN id,.ai (.int .i64 n),.ai (.int .i64 lo),.ai (.int .i64 hi)] (St s) fun rr H'=>rr=.tuple []∧H'=St (fc step (iZ (dq lo (hi + 1 - lo).toNat) n) s).1:=by
 refine XH.2.calls rfl ?_
 simp only [XH,aJ]
 have ahT:=bm s
 have vy:(AV.nN id).val=true:=rfl
 have cy:(AV.nN id).cells=[.nN id]:=rfl
 have oy:(AV.nN id).one=true:=rfl
 have by':∀ m,(AV.nN id).a9 m=decide (id < m):=fun m=>by simp [AV.a9]
 have d1:decide (id < (St s).length + 1)=true:=decide_eq_true (by omega)
 have d2':decide ((St s).length < (St s).length + 1)=true:=decide_eq_true (by omega)
 have efn:(HP n id lo hi (St s).length).ab=.fn (.func 206) [] [.ai (.int .i64 n),.ai (.nN id),.ai (.int .i64 lo),.ai (.int .i64 hi),.ptr (St s).length 0]:=rfl
 simp +contextual only [vy,by',d1,d2',ab7,sp1,sZ,Nat.reduceEqDiff,Nat.reduceAdd,Nat.reduceLT,↓reduceIte,reduceCtorEq]
 have h:=adg uN Kl hn hy (St s).length n [] s [.cells [HP n id lo hi (St s).length]] (by simp) (fun x hx=>by cases hx) hs (fun s'=>by rw [← hy.len s' s];simp)
 have em:(iZ (dq lo (hi + 1 - lo).toNat) n).map ([]++·)=iZ (dq lo (hi + 1 - lo).toNat) n:=by simp
 rw [em] at h
 refine af h ?_
 rintro rr H' ⟨rfl,rfl⟩
 simp +contextual only [sZ,reduceCtorEq]
 refine ⟨(St s).length,oN _,[],trivial,rfl,rfl,?_⟩
 rw [hy.len s _,adn]
theorem ZF (n:Nat) (lo hi:Int):Pure Tryz.prog 166 [.int .i64 n,.int .i64 lo,.int .i64 hi] (.fn (.func 205) [] [.ai (.int .i64 n),.ai (.int .i64 lo),.ai (.int .i64 hi)]):=by
 refine fun H=>Xm.2.calls rfl ?_
 simp only [Xm,aJ]
 simp +contextual only [sZ,Nat.reduceEqDiff,Nat.reduceAdd,↓reduceIte,reduceCtorEq]
 exact bc rfl rfl
end Go.aI
end
noncomputable section
set_option maxRecDepth 100000
namespace Go.aI
open Go Go.Proofs Go.eJ
theorem adh (x:Int) (r:List Int) (hl:r.length≤1000000000):Pure Tryz.prog 207 [.ap 0 (ints (x::r))] (.int .i64 (r.foldl max x)):=by
 refine fun H=>XI.2.calls rfl ?_
 simp only [XI,aJ]
 have ix:IL (.ap 0 (ints (x::r))) (x::r):=.inr rfl
 have n1:(((x::r).length:Int) < 1)=False:=eq_false (by simp;omega)
 have g0':(x::r).getD (0:Int).toNat 0=x:=rfl
 have ll:(x::r).length≤1000000001:=by simp;omega
 generalize fS:x::r=xs at *
 have dG:0 < xs.length:=by rw [← fS];simp
 simp +contextual only [ix.aL,ix.len (by omega),n1,decide_false,ix.lens,ix.idx,g0',sZ,Nat.reduceEqDiff,Nat.reduceAdd,↓reduceIte,reduceCtorEq]
 refine ⟨by omega,?_⟩
 have hsplit:∀ j,j≤r.length→(r.take j).foldl max x=((xs.take (j + 1)).drop 1).foldl max x:=by intro j _;rw [← fS];simp
 refine aC r.length (fun j=>True) (fun j=>[(0,.ap 0 (ints xs)),(3,.int .i64 ((r.take j).foldl max x)),(4,.int .i64 ((j + 1:Nat):Int))]) (fun _=>H) ⟨trivial,aB _ _ _⟩ fun j hj _=>?_
 have GQ:xs.length=r.length + 1:=by rw [← fS];simp
 by_cases hjr:j < r.length
 ·have n2:(((j + 1:Nat):Int) < xs.length)=True:=eq_true (by omega)
  have gj:xs.getD (j + 1) 0=r.getD j 0:=by rw [← fS];simp
  have tk:(r.take (j + 1)).foldl max x=max ((r.take j).foldl max x) (r.getD j 0):=by
   rw [aaY hjr,List.foldl_append]
   simp [hjr]
  simp +contextual only [ix.aL,ix.len (by omega),n2,decide_true,ix.lens,ix.idx,tN,gj,sZ,Nat.reduceEqDiff,↓reduceIte,reduceCtorEq]
  exact ⟨by omega,j + 1,hjr,by omega,aD (by rw [cR _ (by omega),tk];rfl) rfl⟩
 ·have e:j=r.length:=by omega
  subst e
  have n2:(((r.length + 1:Nat):Int) < xs.length)=False:=eq_false (by omega)
  simp +contextual only [ix.aL,ix.len (by omega),n2,decide_false,sZ,Nat.reduceEqDiff,↓reduceIte,reduceCtorEq]
  exact bc rfl (by rw [aaC])
theorem adj (l:List Int) {v:AV} (h:IL v l) (hl:l.length≤1000000000) (y:Int):Pure Tryz.prog 111 [v,.int .i64 y] (.int .i64 (qG (fun z=>decide (y=z)) l 0)):=by
 refine fun H=>WT.2.calls rfl ?_
 simp only [WT,aJ]
 obtain ⟨a1,a2,a3,a4⟩:=h.one
 simp +contextual only [a2,h.aL,h.len (by omega),sZ,Nat.reduceEqDiff,Nat.reduceAdd,↓reduceIte,reduceCtorEq]
 refine aC l.length (fun i=>qG (fun z=>decide (y=z)) (l.drop i) i=qG (fun z=>decide (y=z)) l 0) (fun i=>[(0,v),(1,.int .i64 y),(7,.int .i64 l.length),(8,.int .i64 i)]) (fun _=>H) ⟨rfl,aB _ _ _⟩ fun i hi hI=>?_
 by_cases yc:i < l.length
 ·have n1:((i:Int) < l.length)=True:=eq_true (by omega)
  rw [Ad yc] at hI
  have egd:l.getD i default=l.getD i 0:=by simp [yc]
  rw [egd] at hI
  simp +contextual only [n1,decide_true,a2,h.lens,h.idx,tN,sZ,Nat.reduceEqDiff,↓reduceIte,reduceCtorEq]
  refine ⟨by omega,fun he=>?_,fun dG=>?_⟩
  ·rw [if_pos (by simpa using he)] at hI
   exact bc rfl (by rw [← hI])
  ·rw [if_neg (by simpa using dG)] at hI
   exact ⟨i + 1,⟨yc,hI⟩,by omega,aD (by rw [au i (by omega)]) rfl⟩
 ·have n1:((i:Int) < l.length)=False:=eq_false (by omega)
  rw [aaF (by omega)] at hI
  simp +contextual only [n1,decide_false,sZ,Nat.reduceEqDiff,↓reduceIte,reduceCtorEq]
  exact bc rfl (by rw [← hI];rfl)
theorem HQ {α:Type} {p:α→Bool}:∀ (l:List α) (i:Nat),0≤qG p l i↔∃ x∈l,p x=true
 | [],i=>by simp [qG]
 | x::r,i=>by
   rw [qG]
   by_cases h:p x=true
   ·rw [if_pos h];exact ⟨fun _=>⟨x,by simp,h⟩,fun _=>by omega⟩
   ·rw [if_neg h,HQ r (i + 1)]
    simp [h]
theorem adk (l:List Int) {v:AV} (h:IL v l) (hl:l.length≤1000000000) (y:Int):Pure Tryz.prog 208 [v,.int .i64 y] (.bool (decide (y∈l))):=by
 refine fun H=>XJ.2.calls rfl ?_
 simp only [XJ,aJ]
 obtain ⟨a1,a2,a3,a4⟩:=h.one
 simp +contextual only [a2,sZ,Nat.reduceEqDiff,Nat.reduceAdd,↓reduceIte,reduceCtorEq]
 refine ae (adj l h hl y) ?_
 simp +contextual only [sZ,↓reduceIte,reduceCtorEq]
 refine bc rfl ?_
 congr 1
 rw [decide_eq_decide,HQ]
 simp
def Eg (l:List Int):Int:=l.foldl max (-1)
def oK (l:List Int):Bool:=(List.range (Eg l + 1).toNat).all fun j=>decide ((j:Int)∈l)
theorem foldl_max:∀ (l:List Int) (x b:Int),x≤b→(∀ y∈l,y≤b)→x≤l.foldl max x∧l.foldl max x≤b
 | [],x,b,h,_=>⟨aeU _,h⟩
 | y::r,x,b,h,hr=>by
   have h1:=hr y (by simp)
   have:=foldl_max r (max x y) b (by omega) (fun z hz=>hr z (by simp [hz]))
   rw [List.foldl_cons];omega
theorem adl (l:List Int) {v:AV} (h:IL v l) (hl:l.length≤100000000) (hb:∀ x∈l,x≤1000000):Pure Tryz.prog 167 [v] (.bool (oK l)):=by
 refine fun H=>Xn.2.calls rfl ?_
 simp only [Xn,aJ]
 obtain ⟨a1,a2,a3,a4⟩:=h.one
 have WE:∀ ψ:List AV→Prop,bE 1 8 (.ap 1 [.int .i64 (-1)]) v ψ=ψ (ints (-1::l)):=by
  intro ψ
  have hr:dn v=some (ints l):=by
   rcases h with rfl | rfl
   ·cases l <;> rfl
   ·rfl
  have hal:ns 1 (.ap 1 [.int .i64 (-1)])=some [.int .i64 (-1)]:=rfl
  have ok:qP 1 (ints l):=of_eq_true (mX l)
  simp only [bE,hal,hr,eq_iff_iff]
  exact ⟨fun h=>h.2.2,fun k=>⟨by simp [ay];omega,ok,k⟩⟩
 have hm:=foldl_max l (-1) 1000000 (by omega) hb
 simp +contextual only [a2,WE,sZ,Nat.reduceEqDiff,Nat.reduceAdd,↓reduceIte,reduceCtorEq]
 refine ae (adh (-1) l (by omega)) ?_
 have em:l.foldl max (-1)=Eg l:=rfl
 rw [em] at hm ⊢
 have hw:IntKind.i64.wrap (Eg l + 1)=Eg l + 1:=cR _ (by omega)
 simp +contextual only [hw,sZ,Nat.reduceEqDiff,↓reduceIte,reduceCtorEq]
 refine aC (Eg l + 1).toNat (fun j=>∀ i,i < j→(i:Int)∈l) (fun j=>[(0,v),(8,.int .i64 (Eg l + 1)),(9,.int .i64 j)]) (fun _=>H) ⟨fun i hi=>by omega,aB _ _ _⟩ fun j hj hI=>?_
 by_cases ZG:(j:Int) < Eg l + 1
 ·simp +contextual only [ZG,decide_true,a2,sZ,Nat.reduceEqDiff,Nat.reduceAdd,↓reduceIte,reduceCtorEq]
  refine ae (adk l h (by omega) j) ?_
  by_cases nF:(j:Int)∈l
  ·simp +contextual only [nF,decide_true,Bool.not_true,sZ,Nat.reduceEqDiff,↓reduceIte,reduceCtorEq]
   refine ⟨j + 1,⟨by omega,fun i hi=>?_⟩,by omega,aD (by rw [au j (by omega)]) rfl⟩
   by_cases e:i=j
   ·subst e;exact nF
   ·exact hI i (by omega)
  ·simp +contextual only [nF,decide_false,Bool.not_false,sZ,Nat.reduceEqDiff,↓reduceIte,reduceCtorEq]
   refine bc rfl ?_
   congr 1
   have:oK l=false:=by
    unfold oK
    rw [List.all_eq_false]
    exact ⟨j,aaP.2 (by omega),by simpa using nF⟩
   rw [this]
 ·have e:j=(Eg l + 1).toNat:=by omega
  simp +contextual only [ZG,decide_false,sZ,Nat.reduceEqDiff,↓reduceIte,reduceCtorEq]
  refine bc rfl ?_
  congr 1
  have:oK l=true:=by
   unfold oK
   rw [aaJ]
   intro i hi
   exact decide_eq_true (hI i (by rw [e];exact aaP.1 hi))
  rw [this]
end Go.aI
end
noncomputable section
set_option maxRecDepth 100000
namespace Go.aI
open Go Go.Proofs Go.eJ
open Classical in
def xI (t:Ty) (ops pl st:List Int):Bool:=decide (jl t.s (qH t.s.ops.length ops pl) (tB t.s.ops.length ops st)=0∧sj t (qH t.s.ops.length ops pl) (tB t.s.ops.length ops st) < 0)
abbrev Fo:=Option (List Int×List Int)
def dB (t:Ty) (ops pl:List Int) (s:Fo) (st:List Int):Fo×Bool:=if xI t ops pl st=true then (some (qH t.s.ops.length ops pl,tB t.s.ops.length ops st),false) else (s,true)
def fx (t:Ty) (ops:List Int) (s:Fo) (pl:List Int):Fo×Bool:=if oK pl=true then fc (dB t ops pl) (iZ (dq 1 3) ops.length) s else (s,true)
def yL (t:Ty) (ops:List Int):Fo:=(fc (fx t ops) (iZ (dq 0 ops.length) ops.length) none).1
def o4 (s:Fo):aa:=match s with | none=>.cells [.ag,.ag] | some (P,S)=>.cells [.ap 0 (ints P),.ap 0 (ints S)]
def o5 (s:Fo):aa:=.cells [.bool s.isSome]
def jn (s:Fo):VO:=if s.isSome=true then .jump .ret else .ready
theorem BT:bg.n=41:=by kernel_rfl
theorem BU:bJ.n=41:=by kernel_rfl
theorem xJ:bg.ps=[15]:=by kernel_rfl
theorem xK:bJ.ps=[22]:=by kernel_rfl
theorem MG {n0 id:Nat} {R:AV→List aa→Prop} {H:List aa} {lc:jg} {es:List AV} (h:H[id]?=some (.loop .busy lc es)):rv n0 id R .ret H=IM n0 false (H.set id (.loop (.jump .ret) lc es)) R:=by
 unfold rv;rw [h]
theorem Eh {id:Nat} {H:List aa} {K:Option Code→List aa→Prop} {lc:jg} {es:List AV} {c:Code} (h:H[id]?=some (.loop (.jump c) lc es)):behind id H K=K (some c) (H.set id (.loop .eT lc es)):=by
 unfold behind;rw [h]
theorem BV (t:Ty) (ops pl:List Int):∀ (a:List (List Int)) (s:Fo),s=none→(fc (dB t ops pl) a s).2=(fc (dB t ops pl) a s).1.isNone
 | [],s,h=>by subst h;rfl
 | l::r,s,h=>by
   subst h
   rw [fc]
   by_cases ht:xI t ops pl l=true
   ·have e:dB t ops pl none l=(some (qH t.s.ops.length ops pl,tB t.s.ops.length ops l),false):=if_pos ht
    rw [e];rfl
   ·have e:dB t ops pl none l=(none,true):=if_neg ht
    rw [e]
    exact BV t ops pl r none rfl
structure BW (t:Ty):Prop where
 n:t.s.ops.length≤1000000000
 eq:∀ e∈t.es,∀ ps:List Int,ps.length=t.s.ops.length→ME ps e
theorem MH (n:Nat) (ops pl:List Int):(qH n ops pl).length=n:=by unfold qH;rw [xG];simp
theorem vN (A:List aa) (x:aa) (Y:List aa) (k:Nat) (h:A.length=k):(A++x::Y)[k]?=some x:=by subst h;simp
theorem vO (A:List aa) (x y:aa) (Y:List aa) (k:Nat) (h:A.length=k):(A++x::Y).set k y=A++y::Y:=by subst h;simp
def fz (H W:List aa) (s:Fo):List aa:=H++o4 s::o5 s::W
theorem eZ (H W:List aa) (s:Fo):(fz H W s).length=H.length + 2 + W.length:=by simp [fz];omega
theorem Sa (H W Y:List aa) (s:Fo):(fz H W s++Y)[H.length]?=some (o4 s):=by rw [tK (by rw [eZ];omega)];simp [fz]
theorem Sb (H W Y:List aa) (s:Fo):(fz H W s++Y)[H.length + 1]?=some (o5 s):=by rw [tK (by rw [eZ];omega)];simp [fz]
theorem Vs (H W Y:List aa) (s:Fo) (P S:List Int):((fz H W s++Y).set H.length (.cells [.ap 0 (ints P),.ap 0 (ints S)])).set (H.length + 1) (.cells [.bool true])=fz H W (some (P,S))++Y:=by
 rw [aeN _ _ (by rw [eZ];omega),aeN _ _ (by rw [abw,eZ];omega)]
 simp [fz,o4,o5]
theorem Vt {s:Sg} {ps ss:List Int} (h:jl s ps ss=0):Va ps ss:=(xy.1 h).2.va
theorem MJ {t:Ty} (ht:BW t) {ops:List Int} {vo:AV} (ho:IL vo ops) (hr:∀ i∈ops,0≤i∧i < t.s.ops.length) (jN:ops.length≤1000000) {pl:List Int} (vi:pl.length=ops.length) (H W:List aa) (es:List AV) (AD:es=ln 41 [(2,.ai t.av),(3,.ai vo),(4,.ptr H.length 0),(5,.ptr (H.length + 1) 0),(6,.ai (bt pl)),(21,.fn (.func 205) [] [.ai (.int .i64 ops.length),.ai (.int .i64 1),.ai (.int .i64 3)])])
 (l:List Int) (hl:l.length=ops.length) (Y:List aa) (id:Nat) (bm:id=H.length + 2 + W.length) :
 ko Tryz.prog id [bt l] (fz H W none++.loop .ready bJ es::Y) fun r H'=>r=.bool (dB t ops pl none l).2∧H'=fz H W (dB t ops pl none l).1++.loop (jn (dB t ops pl none l).1) bJ es::Y:=by
 have ees:es=[.any,.any,.ai t.av,.ai vo,.ptr H.length 0,.ptr (H.length + 1) 0,.ai (bt pl),.any,.any,.any,.any,.any,.any,.any,.any,.any,.any,.any,.any,.any,.any,.fn (.func 205) [] [.ai (.int .i64 ops.length),.ai (.int .i64 1),.ai (.int .i64 3)],.any,.any,.any,.any,.any,.any,.any,.any,.any,.any,.any,.any,.any,.any,.any,.any,.any,.any,.any]:=by rw [AD];rfl
 have hk:∀ s,(fz H W s).length=id:=fun s=>by rw [eZ,bm]
 have e0:∀ s st,(fz H W s++aa.loop st bJ es::Y)[id]?=some (.loop st bJ es):=fun s st=>vN _ _ _ _ (hk s)
 have gT:∀ s st st',(fz H W s++aa.loop st bJ es::Y).set id (.loop st' bJ es)=fz H W s++aa.loop st' bJ es::Y:=fun s st st'=>vO _ _ _ _ _ (hk s)
 have hlen:∀ s st,(fz H W s++aa.loop st bJ es::Y).length=(fz H W none++aa.loop .ready bJ es::Y).length:=fun s st=>by rw [aap,aap,hk,hk];rfl
 refine o6 (lc:=bJ) (es:=es) (e0 none .ready) S2 S3 ⟨by rw [ees,BU];rfl,by rw [xK];rfl,by rw [xK,BU];rfl,?_,?_⟩ (xD ?_)
 ·rw [ees];intro x hx;simp only [aan,aaH,or_false] at hx
  repeat' (first | (rcases hx with hx | hx;· subst hx;rfl) | (subst hx;rfl))
 ·intro x hx;simp only [aan,aaH,or_false] at hx;subst hx;exact (aG l).2.1
 ·have ez:(bJ.ps.zip [bt l]).reverse++bV 0 es=(22,bt l)::bV 0 es:=by rw [xK];rfl
  rw [ez]
  generalize yM:bV 0 es=ea
  have g2:get ea 2=.ai t.av:=by rw [← yM,ees];rfl
  have g3:get ea 3=.ai vo:=by rw [← yM,ees];rfl
  have g4:get ea 4=.ptr H.length 0:=by rw [← yM,ees];rfl
  have g5:get ea 5=.ptr (H.length + 1) 0:=by rw [← yM,ees];rfl
  have g6:get ea 6=.ai (bt pl):=by rw [← yM,ees];rfl
  simp only [KO,KP]
  have hb:∀ K,ky id (fz H W none++.loop .ready bJ es::Y) K=K (fz H W none++.loop .busy bJ es::Y):=fun K=>by rw [tx (e0 none .ready),gT]
  obtain ⟨e1,e2,e3,e4,e5,e6⟩:=Ty.facts t
  obtain ⟨a1,a2,a3,a4⟩:=ho.one
  obtain ⟨b1,b2,b3,b4,b5⟩:=aG pl
  obtain ⟨c1,c2,c3,c4,c5⟩:=aG l
  have lvo:∀ (H:List aa) (φ:AV→Prop),aU none (.ai vo) H φ=φ vo:=fun H φ=>by simp [aU,a1,a2]
  obtain ⟨q1,q2,q3,q4,q5,q6⟩:=aS (qH t.s.ops.length ops pl) (tB t.s.ops.length ops l)
  simp +contextual only [g2,g3,g4,g5,g6,c2,hb,nA,lvo,b7,b2,a2,e4,sZ,Nat.reduceEqDiff,Nat.reduceAdd,↓reduceIte]
  refine ae (adf t ops pl l ho (.inl rfl) (.inl rfl) vi hl hr ht.n (by omega)) ?_
  generalize hP:qH t.s.ops.length ops pl=P at *
  generalize hS:tB t.s.ops.length ops l=S at *
  simp +contextual only [aF,q1,q2,q3,q4,MF,bX,sZ,Nat.reduceEqDiff,Nat.reduceAdd,↓reduceIte]
  refine ae (c24 t.s P S) ?_
  have endN:∀ n0,n0=id + (Y.length + 1)→dB t ops pl none l=(none,true)→rv n0 id (fun r H'=>r=.bool (dB t ops pl none l).2∧H'=fz H W (dB t ops pl none l).1++.loop (jn (dB t ops pl none l).1) bJ es::Y) .normal (fz H W none++.loop .busy bJ es::Y):=by
   intro n0 GS bS
   rw [Gn (e0 none .busy),gT,bS]
   refine ⟨by rw [hlen,aap,hk];simp;omega,rfl,?_⟩
   rw [aaw (by rw [hlen,aap,hk];simp;omega)]
   rfl
  have endR:∀ n0,n0=id + (Y.length + 1)→dB t ops pl none l=(some (P,S),false)→rv n0 id (fun r H'=>r=.bool (dB t ops pl none l).2∧H'=fz H W (dB t ops pl none l).1++.loop (jn (dB t ops pl none l).1) bJ es::Y) .ret (fz H W (some (P,S))++.loop .busy bJ es::Y):=by
   intro n0 GS bS
   rw [MG (e0 _ .busy),gT,bS]
   refine ⟨by rw [hlen,aap,hk];simp;omega,rfl,?_⟩
   rw [aaw (by rw [hlen,aap,hk];simp;omega)]
   rfl
  by_cases h0:jl t.s P S=0
  ·simp +contextual only [h0,nA,bX,e4,q4,sZ,Nat.reduceEqDiff,Nat.reduceAdd,↓reduceIte]
   refine ae (c89 t P S (Vt h0) (fun e he=>ht.eq e he P (by rw [← hP];exact MH _ _ _))) ?_
   by_cases h1:sj t P S < 0
   ·have bS:dB t ops pl none l=(some (P,S),false):=by
     rw [dB,if_pos (by rw [xI,hP,hS];exact decide_eq_true ⟨h0,h1⟩),hP,hS]
    have k4:=Sa H W (.loop .busy bJ es::Y) none
    have k5:∀ o,((fz H W none++.loop .busy bJ es::Y).set H.length o)[H.length + 1]?=some (o5 none):=fun o=>by rw [tL (by omega),Sb]
    have ks:=Vs H W (.loop .busy bJ es::Y) none P S
    have o4n:o4 none=.cells [.ag,.ag]:=rfl
    have o5n:o5 none=.cells [.bool false]:=rfl
    rw [o4n] at k4
    simp only [o5n] at k5
    have qu:(eD P S).cells.map AV.ab=[.ap 0 (ints P),.ap 0 (ints S)]:=rfl
    have sp2:∀ (a b x y:AV),ah [a,b] 0 [x,y]=[x,y]:=fun _ _ _ _=>rfl
    have fb:∀ m,aj m [AV.ap 0 (ints P),.ap 0 (ints S)]=true:=fun m=>by simp [bM,cZ,cc,bb]
    simp +contextual only [h1,decide_true,bX,k4,k5,ks,q1,q2,q3,qu,sp2,fb,ab7,sZ,Nat.reduceEqDiff,Nat.reduceAdd,↓reduceIte]
    first
     | exact endR _ (by rw [hk]) bS
     | exact endR _ (by rw [hlen,aap,hk];rfl) bS
   ·simp +contextual only [h1,decide_false,sZ,Nat.reduceEqDiff,↓reduceIte]
    have bS:dB t ops pl none l=(none,true):=by
     rw [dB,if_neg (by rw [xI,hP,hS];simp [h1])]
    exact endN _ (by rw [hk]) bS
  ·simp +contextual only [h0,decide_false,sZ,Nat.reduceEqDiff,↓reduceIte]
   have bS:dB t ops pl none l=(none,true):=by
    rw [dB,if_neg (by rw [xI,hP,hS];simp [h0])]
   exact endN _ (by rw [hk]) bS
end Go.aI
end
noncomputable section
set_option maxRecDepth 100000
namespace Go.aI
open Go Go.Proofs Go.eJ
theorem ysI {t:Ty} (ht:BW t) {ops:List Int} {vo:AV} (ho:IL vo ops) (hr:∀ i∈ops,0≤i∧i < t.s.ops.length) (jN:ops.length≤1000000) {pl:List Int} (vi:pl.length=ops.length) (H W:List aa) (es:List AV) (AD:es=ln 41 [(2,.ai t.av),(3,.ai vo),(4,.ptr H.length 0),(5,.ptr (H.length + 1) 0),(6,.ai (bt pl)),(21,.fn (.func 205) [] [.ai (.int .i64 ops.length),.ai (.int .i64 1),.ai (.int .i64 3)])]) :
 YS ops.length (dq 1 ((3:Int) + 1 - 1).toNat) (H.length + 2 + W.length) (fun s:Fo=>fz H W s++[.loop (jn s) bJ es]) (fun s=>s=none) (dB t ops pl):=by
 refine ⟨fun l s X hl _ hs=>?_,fun l s hs bS=>?_,fun s s'=>?_⟩
 ·subst hs
  have:=MJ ht ho hr jN vi H W es AD l hl X _ rfl
  have el:jn none=.ready:=rfl
  refine fF.mono (by simpa [el,ko] using this) fun r H' h=>?_
  refine ⟨h.1,?_⟩
  rw [h.2];simp
 ·subst hs
  unfold dB at *
  split at bS
  ·cases bS
  ·rename_i h;rw [if_neg h]
 ·simp [eZ]
theorem MK {vals:List Int}:∀ {n:Nat} {l:List Int},l∈iZ vals n→l.length=n∧∀ x∈l,x∈vals
 | 0,l,h=>by
   simp only [iZ,aan,aaH,or_false] at h
   subst h;exact ⟨rfl,fun x hx=>by cases hx⟩
 | n + 1,l,h=>by
   simp only [iZ,aen,aaq] at h
   obtain ⟨x,hx,y,hy,rfl⟩:=h
   obtain ⟨h1,h2⟩:=MK hy
   exact ⟨by simp [h1],fun z hz=>by
    rcases aan.1 hz with rfl | hz
    ·exact hx
    ·exact h2 z hz⟩
theorem ML {t:Ty} (ht:BW t) {ops:List Int} {vo:AV} (ho:IL vo ops) (hr:∀ i∈ops,0≤i∧i < t.s.ops.length) (jN:ops.length≤1000000) (H:List aa) (es:List AV) (AD:es=ln 41 [(2,.ai t.av),(3,.ai vo),(4,.ptr H.length 0),(5,.ptr (H.length + 1) 0),(14,.fn (.func 205) [] [.ai (.int .i64 ops.length),.ai (.int .i64 0),.ai (.int .i64 ((ops.length:Int) - 1))])])
 (pl:List Int) (vi:pl.length=ops.length) (lB:∀ x∈pl,x≤1000000) (Y:List aa) :
 ko Tryz.prog (H.length + 2) [bt pl] (fz H [] none++.loop .ready bg es::Y) fun r H'=>r=.bool (fx t ops none pl).2∧H'=fz H [] (fx t ops none pl).1++.loop (jn (fx t ops none pl).1) bg es::Y:=by
 have ees:es=[.any,.any,.ai t.av,.ai vo,.ptr H.length 0,.ptr (H.length + 1) 0,.any,.any,.any,.any,.any,.any,.any,.any,.fn (.func 205) [] [.ai (.int .i64 ops.length),.ai (.int .i64 0),.ai (.int .i64 ((ops.length:Int) - 1))],.any,.any,.any,.any,.any,.any,.any,.any,.any,.any,.any,.any,.any,.any,.any,.any,.any,.any,.any,.any,.any,.any,.any,.any,.any,.any]:=by rw [AD];rfl
 have hk:∀ s,(fz H [] s).length=H.length + 2:=fun s=>by rw [eZ];rfl
 have e0:∀ s st Y,(fz H [] s++aa.loop st bg es::Y)[H.length + 2]?=some (.loop st bg es):=fun s st Y=>vN _ _ _ _ (hk s)
 have gT:∀ s st st' Y,(fz H [] s++aa.loop st bg es::Y).set (H.length + 2) (.loop st' bg es)=fz H [] s++aa.loop st' bg es::Y:=fun s st st' Y=>vO _ _ _ _ _ (hk s)
 refine o6 (lc:=bg) (es:=es) (e0 none .ready Y) S4 S5 ⟨by rw [ees,BT];rfl,by rw [xJ];rfl,by rw [xJ,BT];rfl,?_,?_⟩ (xD ?_)
 ·rw [ees];intro x hx;simp only [aan,aaH,or_false] at hx
  repeat' (first | (rcases hx with hx | hx;· subst hx;rfl) | (subst hx;rfl))
 ·intro x hx;simp only [aan,aaH,or_false] at hx;subst hx;exact (aG pl).2.1
 ·have ez:(bg.ps.zip [bt pl]).reverse++bV 0 es=(15,bt pl)::bV 0 es:=by rw [xJ];rfl
  rw [ez]
  generalize yM:bV 0 es=ea
  have g2:get ea 2=.ai t.av:=by rw [← yM,ees];rfl
  have g3:get ea 3=.ai vo:=by rw [← yM,ees];rfl
  have g4:get ea 4=.ptr H.length 0:=by rw [← yM,ees];rfl
  have g5:get ea 5=.ptr (H.length + 1) 0:=by rw [← yM,ees];rfl
  simp only [KQ,KR]
  have hb:∀ K,ky (H.length + 2) (fz H [] none++.loop .ready bg es::Y) K=K (fz H [] none++.loop .busy bg es::Y):=fun K=>by rw [tx (e0 none .ready Y),gT]
  obtain ⟨a1,a2,a3,a4⟩:=ho.one
  obtain ⟨b1,b2,b3,b4,b5⟩:=aG pl
  have lvo:∀ (H:List aa) (φ:AV→Prop),aU none (.ai vo) H φ=φ vo:=fun H φ=>by simp [aU,a1,a2]
  have ip:IL (bt pl) pl:=.inl rfl
  have hlen:(fz H [] none++.loop .ready bg es::Y).length=H.length + 2 + (Y.length + 1):=by rw [aap,hk];rfl
  have endN:∀ n0 Z,n0=H.length + 2 + (Y.length + 1)→fx t ops none pl=(none,true)→rv n0 (H.length + 2) (fun r H'=>r=.bool (fx t ops none pl).2∧H'=fz H [] (fx t ops none pl).1++.loop (jn (fx t ops none pl).1) bg es::Y) .normal (fz H [] none++.loop .busy bg es::(Y++Z)):=by
   intro n0 Z GS bS
   rw [Gn (e0 none .busy _),gT,bS]
   refine ⟨by rw [aap,hk];simp;omega,rfl,?_⟩
   rw [GS,← hlen,show fz H [] none++aa.loop .ready bg es::(Y++Z)=(fz H [] none++aa.loop .ready bg es::Y)++Z by simp,adn]
   rfl
  have endR:∀ n0 Z s,n0=H.length + 2 + (Y.length + 1)→fx t ops none pl=(s,false)→s.isSome=true→rv n0 (H.length + 2) (fun r H'=>r=.bool (fx t ops none pl).2∧H'=fz H [] (fx t ops none pl).1++.loop (jn (fx t ops none pl).1) bg es::Y) .ret (fz H [] s++.loop .busy bg es::(Y++Z)):=by
   intro n0 Z s GS bS hs
   have hlen2:(fz H [] s++.loop (.jump .ret) bg es::Y).length=H.length + 2 + (Y.length + 1):=by rw [aap,hk];rfl
   rw [MG (e0 _ .busy _),gT,bS]
   refine ⟨by rw [aap,hk];simp;omega,rfl,?_⟩
   rw [GS,← hlen2,show fz H [] s++aa.loop (.jump .ret) bg es::(Y++Z)=(fz H [] s++aa.loop (.jump .ret) bg es::Y)++Z by simp,adn]
   have:jn s=.jump .ret:=if_pos hs
   rw [this]
  simp +contextual only [g2,g3,g4,g5,hb,b7,b1,b2,b4,b5,sZ,Nat.reduceEqDiff,Nat.reduceAdd,↓reduceIte]
  refine ae (adl pl ip (by omega) lB) ?_
  cases hd:oK pl with
  | false=>
    have bS:fx t ops none pl=(none,true):=by rw [fx,if_neg (by rw [hd];simp)]
    simp +contextual only [Bool.not_false,sZ,Nat.reduceEqDiff,↓reduceIte]
    have:=endN ((fz H [] none).length + (Y.length + 1)) [] (by rw [hk]) bS
    rwa [aaV] at this
  | true=>
    have bS:fx t ops none pl=fc (dB t ops pl) (iZ (dq 1 3) ops.length) none:=by rw [fx,if_pos hd]
    simp +contextual only [Bool.not_true,lvo,ho.aL,ho.len (by omega),sZ,Nat.reduceEqDiff,Nat.reduceAdd,↓reduceIte]
    refine ae (ZF ops.length 1 3) ?_
    simp +contextual only [mV,sZ,Nat.reduceEqDiff,↓reduceIte]
    obtain ⟨W,hW⟩:∃ W,W=aa.loop .busy bg es::Y:=⟨_,rfl⟩
    have hH2:fz H [] none++aa.loop .busy bg es::Y=fz H W none:=by rw [hW];simp [fz]
    have hA:∀ s,fz H W s=fz H [] s++aa.loop .busy bg es::Y:=fun s=>by rw [hW];simp [fz]
    obtain ⟨esI,ZH⟩:∃ esI,esI=ln 41 [(2,AV.ai t.av),(3,.ai vo),(4,.ptr H.length 0),(5,.ptr (H.length + 1) 0),(6,.ai (bt pl)),(21,.fn (.func 205) [] [.ai (.int .i64 ops.length),.ai (.int .i64 1),.ai (.int .i64 3)])]:=⟨_,rfl⟩
    have ys:=ysI ht ho hr jN vi H W esI ZH
    have qX:(3:Int) + 1 - 1=3:=rfl
    have hvt:((3:Int)).toNat=3:=rfl
    rw [qX,hvt] at ys
    have MM:=ZE (n:=ops.length) (lo:=1) (hi:=3) (by omega) (by omega) jN (Good:=fun s:Fo=>s=none) (hy:=by rw [qX,hvt];exact ys) (fun s=>by simp [eZ]) none rfl
    rw [qX,hvt] at MM
    rw [hH2]
    have eln:(fz H W none).length=H.length + 2 + W.length:=eZ H W none
    refine tw (P:=Tryz.prog) (R:=fun r H'=>r=.tuple []∧H'=fz H W (fc (dB t ops pl) (iZ (dq 1 3) ops.length) none).1++[.loop (jn (fc (dB t ops pl) (iZ (dq 1 3) ops.length) none).1) bJ esI]) 205 [] _ bJ _ _ _ Tryz.call205 ?_ ?_
    ·rw [BU,← ZH,eln]
     exact MM
    ·have h2:=BV t ops pl (iZ (dq 1 3) ops.length) none rfl
     rintro r H' ⟨rfl,rfl⟩
     generalize SF:(fc (dB t ops pl) (iZ (dq 1 3) ops.length) none).1=s' at h2
     have ZI:fx t ops none pl=(s',s'.isNone):=by rw [bS];exact Prod.ext SF h2
     rw [eln]
     have eget:∀ st,(fz H W s'++[aa.loop st bJ esI])[H.length + 2 + W.length]?=some (.loop st bJ esI):=fun st=>vN _ _ _ _ (eZ H W s')
     have eset:∀ st st',(fz H W s'++[aa.loop st bJ esI]).set (H.length + 2 + W.length) (.loop st' bJ esI)=fz H W s'++[.loop st' bJ esI]:=fun st st'=>vO _ _ _ _ _ (eZ H W s')
     cases s' with
     | none=>
       have el:jn none=.ready:=rfl
       rw [el,xC (eget _),eset]
       simp +contextual only [qd]
       have:=endN ((fz H [] none).length + (Y.length + 1)) [.loop .eT bJ esI] (by rw [hk]) ZI
       rw [hA]
       simpa using this
     | some o=>
       have el:jn (some o)=.jump .ret:=rfl
       rw [el,Eh (eget _),eset]
       simp +contextual only [qd]
       have:=endR ((fz H [] none).length + (Y.length + 1)) [.loop .eT bJ esI] (some o) (by rw [hk]) ZI rfl
       rw [hA]
       simpa using this
end Go.aI
end
noncomputable section
set_option maxRecDepth 100000
namespace Go.aI
open Go Go.Proofs Go.eJ
theorem ysO {t:Ty} (ht:BW t) {ops:List Int} {vo:AV} (ho:IL vo ops) (hr:∀ i∈ops,0≤i∧i < t.s.ops.length) (jN:ops.length≤1000000) (H:List aa) (es:List AV) (AD:es=ln 41 [(2,.ai t.av),(3,.ai vo),(4,.ptr H.length 0),(5,.ptr (H.length + 1) 0),(14,.fn (.func 205) [] [.ai (.int .i64 ops.length),.ai (.int .i64 0),.ai (.int .i64 ((ops.length:Int) - 1))])]) :
 YS ops.length (dq 0 ops.length) (H.length + 2) (fun s:Fo=>fz H [] s++[.loop (jn s) bg es]) (fun s=>s=none) (fx t ops):=by
 refine ⟨fun l s X hl hm hs=>?_,fun l s hs bS=>?_,fun s s'=>?_⟩
 ·subst hs
  have:=ML ht ho hr jN H es AD l hl (fun x hx=>by have:=Ae.1 (hm x hx);omega) X
  have el:jn none=.ready:=rfl
  refine fF.mono (by simpa [el,ko] using this) fun r H' h=>?_
  refine ⟨h.1,?_⟩
  rw [h.2];simp
 ·subst hs
  have h2:(fx t ops none l).2=(fx t ops none l).1.isNone:=by
   unfold fx
   split
   ·exact BV t ops l _ none rfl
   ·rfl
  rw [bS] at h2
  exact Option.isNone_iff_eq_none.1 h2.symm
 ·simp [eZ]
def foA (s:Fo):AV:=match s with | none=>eD [] [] | some (P,S)=>eD P S
theorem HR (n0 s s':Nat) (sz sz':Option Nat) (env:Env) (H:List aa) (R:AV→List aa→Prop):b8 n0 [.c s sz,.c s' sz'] env H R=aU sz (get env s) H fun x=>aU sz' (get env s') H fun y=>uz n0 [x,y] H R:=ae0
theorem c93 {t:Ty} (ht:BW t) {ops:List Int} {vo:AV} (ho:IL vo ops) (hr:∀ i∈ops,0≤i∧i < t.s.ops.length) (jN:ops.length≤1000000):Pure Tryz.prog 93 [t.av,vo] (.tuple [foA (yL t ops),.bool (yL t ops).isSome]):=by
 refine fun H=>abH.calls rfl ?_
 simp only [WQ,WO]
 obtain ⟨e1,e2,e3,e4,e5,e6⟩:=Ty.facts t
 obtain ⟨a1,a2,a3,a4⟩:=ho.one
 have lvo:∀ (H:List aa) (φ:AV→Prop),aU none (.ai vo) H φ=φ vo:=fun H φ=>by simp [aU,a1,a2]
 have zf2:List.map AV.ab [AV.ag,.ag]=[.ag,.ag]:=rfl
 have zb2:∀ n,aj n [AV.ag,.ag]=true:=fun _=>rfl
 have hw:IntKind.i64.wrap ((ops.length:Int) - 1)=(ops.length:Int) - 1:=cR _ (by omega)
 simp +contextual only [e1,a3,lvo,zf2,zb2,ho.aL,ho.len (by omega),hw,sZ,Nat.reduceEqDiff,Nat.reduceAdd,↓reduceIte,reduceCtorEq]
 refine ae (ZF ops.length 0 ((ops.length:Int) - 1)) ?_
 simp +contextual only [mV,sZ,Nat.reduceEqDiff,↓reduceIte,reduceCtorEq]
 have hA0:H++[aa.cells [AV.ag,.ag],.cells [.bool false]]=fz H [] none:=rfl
 rw [hA0]
 obtain ⟨esO,AD⟩:∃ esO,esO=ln 41 [(2,AV.ai t.av),(3,.ai vo),(4,.ptr H.length 0),(5,.ptr (H.length + 1) 0),(14,.fn (.func 205) [] [.ai (.int .i64 ops.length),.ai (.int .i64 0),.ai (.int .i64 ((ops.length:Int) - 1))])]:=⟨_,rfl⟩
 have ys:=ysO ht ho hr jN H esO AD
 have hv:((ops.length:Int) - 1 + 1 - 0).toNat=ops.length:=by omega
 have MM:=ZE (n:=ops.length) (lo:=0) (hi:=(ops.length:Int) - 1) (by omega) (by omega) jN (Good:=fun s:Fo=>s=none) (hy:=by rw [hv];exact ys) (fun s=>by simp [eZ]) none rfl
 rw [hv] at MM
 have eln:∀ s,(fz H [] s).length=H.length + 2:=fun s=>eZ H [] s
 refine tw (P:=Tryz.prog) (R:=fun r H'=>r=.tuple []∧H'=fz H [] (yL t ops)++[.loop (jn (yL t ops)) bg esO]) 205 [] _ bg _ _ _ Tryz.call205 ?_ ?_
 ·rw [BT,← AD,eln]
  exact MM
 ·rintro r H' ⟨rfl,rfl⟩
  generalize yL t ops=s'
  have eget:∀ st,(fz H [] s'++[aa.loop st bg esO])[H.length + 2]?=some (.loop st bg esO):=fun st=>vN _ _ _ _ (eln s')
  have eset:∀ st st',(fz H [] s'++[aa.loop st bg esO]).set (H.length + 2) (.loop st' bg esO)=fz H [] s'++[.loop st' bg esO]:=fun st st'=>vO _ _ _ _ _ (eln s')
  have k4:=Sa H [] [.loop .eT bg esO] s'
  have k5:=Sb H [] [.loop .eT bg esO] s'
  have htk:(fz H [] s'++[aa.loop .eT bg esO]).take H.length=H:=by rw [aaA (by rw [eln];omega),fz,adn]
  have sp2:∀ (a b x y:AV),ah [a,b] 0 [x,y]=[x,y]:=fun _ _ _ _=>rfl
  rw [eln]
  cases s' with
  | none=>
    have el:jn none=.ready:=rfl
    rw [el,xC (eget _),eset]
    have o4n:o4 none=.cells [.ag,.ag]:=rfl
    have o5n:o5 none=.cells [.bool false]:=rfl
    rw [o4n] at k4
    rw [o5n] at k5
    have k4s:=fun o=>tO (a:=o) (aO k4)
    have k5s:∀ o,((fz H [] none++[aa.loop .eT bg esO]).set H.length o)[H.length + 1]?=some (.cells [.bool false]):=fun o=>by rw [tL (by omega)];exact k5
    have k5t:∀ o o',(((fz H [] none++[aa.loop .eT bg esO]).set H.length o).set (H.length + 1) o')[H.length + 1]?=some o':=fun o o'=>tO (by rw [abw];exact aO k5)
    have k4t:∀ o o',(((fz H [] none++[aa.loop .eT bg esO]).set H.length o).set (H.length + 1) o')[H.length]?=some o:=fun o o'=>by rw [tL (by omega)];exact k4s o
    have adp:∀ o o',(((fz H [] none++[aa.loop .eT bg esO]).set H.length o).set (H.length + 1) o').take H.length=H:=fun o o'=>by rw [aaM (by omega),aaM (by omega),htk]
    simp +contextual only [qd,k4,k5s,k4t,k5t,zf2,zb2,sp2,HR,sZ,Nat.reduceEqDiff,Nat.reduceAdd,Nat.reduceLT,↓reduceIte,reduceCtorEq]
    exact RE (adp _ _) ((aS [] []).2.2.2.2.2 _) rfl rfl rfl ⟨rfl,rfl⟩
  | some o=>
    obtain ⟨P,S⟩:=o
    have el:jn (some (P,S))=.jump .ret:=rfl
    rw [el,Eh (eget _),eset]
    have o4n:o4 (some (P,S))=.cells [.ap 0 (ints P),.ap 0 (ints S)]:=rfl
    have o5n:o5 (some (P,S))=.cells [.bool true]:=rfl
    rw [o4n] at k4
    rw [o5n] at k5
    simp +contextual only [qd,k4,k5,HR,sZ,Nat.reduceEqDiff,Nat.reduceAdd,Nat.reduceLT,↓reduceIte,reduceCtorEq]
    exact RE htk ((aS P S).2.2.2.2.2 _) rfl rfl rfl ⟨rfl,rfl⟩
end Go.aI
end
noncomputable section
set_option maxRecDepth 100000
set_option maxHeartbeats 0
namespace Go.aI
open Go Go.Proofs
def ZJ:=aJ Tryz.call75 Tryz.func75 Tryz.ntmps75 [(0,0,1),(5,2,1000),(6,0,1),(6,7,2),(6,8,1),(7,6,2),(7,9,2),(9,0,6004)] [(0,[1,2]),(1,[1,6]),(2,[1,6,7]),(3,[6,7,15,16,17]),(4,[6,7,15,16,17,18]),(5,[6,7,9,15,16,17]),(6,[6,7,9,15,16,17]),(7,[6,7,15,16,17]),(8,[6,7,15,16,17]),(9,[4,5])] [(7,(.take 1 true (.take 2 true (.take 3 true (.take 4 true (.take 5 true (.take 0 false (.br 6 (.take 7 true (.take 8 true (.br 9 .done .nil))) .nil))))))))]
end Go.aI
end
