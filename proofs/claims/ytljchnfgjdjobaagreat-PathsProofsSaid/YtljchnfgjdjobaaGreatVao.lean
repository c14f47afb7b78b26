/- Part 15 of 20 of the proof. -/
import Derived.Test.YtljchnfgjdjobaaGreatVan
import Derived.Test.YtljchnfgjdjobaaGreatVag
import Derived.KernelRfl
set_option linter.unusedVariables false
set_option linter.unusedSimpArgs false
set_option linter.defProp false
set_option linter.unusedSectionVars false
noncomputable section
set_option maxRecDepth 100000
namespace Go.aK
open Go Go.Proofs Go.eI
theorem aaz {c:Cx} (hc:c.Ok) {i k:Int} (hi:c.ep i) (hk:c.ep k) (hR:R c.O (c.tm i) (c.tm k)) (hr:iO c i k 3) (jy:∀ m,m < 3→¬ iO c i k m) (hp:∀ y∈c.kd k,R c.O (c.tm i) (c.tm y)→qj c i y) (Wd:∀ x∈c.kd i,∀ y∈c.kd k,R c.O (c.tm x) (c.tm y)→qj c x y):qj c i k:=by
 intro H hD
 refine E0.2.calls rfl ?_
 simp only [E0,aG]
 have k2:∀ l,(bu l).ab=bu l:=fun l=>(aI l).2.1
 have ki:=hc.kids i hi
 have kk:=hc.kids k hk
 have l1:=hc.kl i hi
 have l2:=hc.kl k hk
 obtain ⟨a1,a2,a3,a4,a5⟩:=aI (c.kd i)
 obtain ⟨b1,b2,b3,b4,b5⟩:=aI (c.kd k)
 have ii:IL (bu (c.kd i)) (c.kd i):=.inl rfl
 have ik:IL (bu (c.kd k)) (c.kd k):=.inl rfl
 have ei:(c.nd.getD i.toNat default).snd=c.kd i:=rfl
 have ek:(c.nd.getD k.toNat default).snd=c.kd k:=rfl
 obtain ⟨m1,m2,m3⟩:=hD.lt
 have ed:∀ X:List aa,(H++X)[c.d]?=H[c.d]?:=fun X=>yO m1
 have spv:∀ x:AV,ah [AV.ag] 0 [x]=[x]:=fun x=>rfl
 have spq:ah [AV.int .i64 0,.int .i64 0,.ag,.ag] 0 [AV.int .i64 0,.int .i64 0,.ag,.ag]=[AV.int .i64 0,.int .i64 0,.ag,.ag]:=rfl
 simp +contextual only [sZ,Nat.reduceEqDiff,Nat.reduceAdd,↓reduceIte,reduceCtorEq]
 refine mI (K1:=fun e G=>get e 1=.int .i64 i∧get e 3=.ai (.ptr c.d 0)∧get e 5=.ai (.int .i64 k)∧get e 6=.ptr H.length 0∧∃ x y,get e 7=.ptr x 0∧get e 8=.ptr y 0∧XY H x y∧PA c H x y i k G) ?_ ?_
 ·have P0:aa:=.cells [.int .i64 0,.int .i64 0,.ag,.ag]
  have A:∃ x y,AV.ptr (H.length + 1) 0=.ptr x 0∧AV.ptr (H.length + 2) 0=.ptr y 0∧XY H x y∧PA c H x y i k (H++[.cells [.int .i64 0,.int .i64 0,.ag,.ag],.cells [bu (c.kd i)],.cells [bu (c.kd k)]]):=
   ⟨_,_,rfl,rfl,⟨by omega,by omega,by omega,by omega⟩,⟨hD.ue _,by simp,by simp,by simp,by simp,fun j hj _ _=>yO hj⟩⟩
  have B:∃ x y,AV.ptr (H.length + 2) 0=.ptr x 0∧AV.ptr (H.length + 1) 0=.ptr y 0∧XY H x y∧PA c H x y i k (H++[.cells [.int .i64 0,.int .i64 0,.ag,.ag],.cells [bu (c.kd k)],.cells [bu (c.kd i)]]):=
   ⟨_,_,rfl,rfl,⟨by omega,by omega,by omega,by omega⟩,⟨hD.ue _,by simp,by simp,by simp,by simp,fun j hj _ _=>yO hj⟩⟩
  simp +contextual only [ed,hD.d,nK,FD,cT,cn,k2,ei,ek,a1,a3,a4,a5,b1,b3,b4,b5,List.map_cons,List.map_nil,spv,List.all_cons,List.all_nil,acb,bP,c9,sZ,Nat.reduceEqDiff,Nat.reduceAdd,Nat.reduceLT,↓reduceIte]
  refine ⟨hi,?_⟩
  repeat' apply hV
  all_goals first | exact hk.1 | exact hk.2 | exact A | exact B
 ·rintro e G ⟨e1,e3,e5,e6,x,y,e7,e8,w,CG⟩
  simp +contextual only [e1,e3,e5,e6,e7,e8,sZ,Nat.reduceEqDiff,↓reduceIte]
  refine aJ 2 (fun m (G:List aa)=>PA c H x y i k G)
   (fun m G=>[(1,.int .i64 i),(3,.ai (.ptr c.d 0)),(5,.ai (.int .i64 k)),(6,.ptr H.length 0),(7,.ptr x 0),(8,.ptr y 0),(9,.int .i64 ((m + 1:Nat):Int))]) (fun m G=>G) G ⟨CG,aB _ _ _⟩ fun m G hm CG=>?_
  have hf:eJ.cells[m + 1]?=some (.fn (.func (182 + (m + 1))) [] []):=by
   have:m=0∨m=1∨m=2∨m=3:=by omega
   rcases this with rfl | rfl | rfl | rfl <;> rfl
  have en:=W4 (m + 1) _ hf (by omega)
  simp +contextual only [sZ]
  refine ay Nj ?_
  simp +contextual only [nD,en _ rfl,sZ,Nat.reduceEqDiff,Nat.reduceAdd,↓reduceIte,reduceCtorEq]
  refine af ((wG hc hi hk).at (n:=m + 1) (by omega) (by omega) CG.du) ?_
  rintro r G1 ⟨z,rfl,hz,hU,oh⟩
  have rk:=CG.call hD w hU oh
  by_cases SP:m=2
  rotate_left
  ·have:z=false:=by
    cases z with
    | false=>rfl
    | true=>exact absurd (hz.1 rfl) (jy (m + 1) (by omega))
   subst this
   simp +contextual only [Bool.not_false,sZ,Nat.reduceEqDiff,↓reduceIte]
   exact ⟨m + 1,G1,⟨by omega,rk⟩,by omega,aE (by rw [au (m + 1) (by omega)]) rfl⟩
  subst SP
  have:z=true:=hz.2 hr
  subst this
  have rJ:=rk.len
  have lV:=fun es=>rk.ue w es
  have Wb:=fun es=>(lV es).gp
  have Q4:=fun es=>(lV es).gx
  have hgy:=fun es=>(lV es).gy
  have bX:∀ (o o':aa),(G1++[o]).set (H.length + 3) o'=G1++[o']:=fun o o'=>by rw [← rJ];simp
  have ec:((3:Nat):Int)=3:=rfl
  have zf:List.map AV.ab [AV.int .i64 (3:Int),.int .i64 0,.ag,.ag]=[.int .i64 (3:Int),.int .i64 0,.ag,.ag]:=rfl
  have zf0:List.map AV.ab [AV.int .i64 0,.int .i64 0,.ag,.ag]=[.int .i64 0,.int .i64 0,.ag,.ag]:=rfl
  have e86:∀ a b:Int,decide (a=b)=decide (a=b):=fun _ _=>rfl
  simp +contextual only [decide_true,decide_false,Bool.not_true,Bool.not_true,bdP,rJ,Wb,bX,ec,zf,zf0,KD,sZ,Nat.reduceEqDiff,Nat.reduceAdd,↓reduceIte,Int.reduceEq]
  have nP:=lV [.int .i64 3,.int .i64 0,.ag,.ag]
  generalize G1++[aa.cells [AV.int .i64 3,.int .i64 0,.ag,.ag]]=G2 at nP ⊢
  have ki2:(c.tm i).k=2:=(qE.1 hR).1
  have hlx:Ct c i k:=by
   rcases hr with h | h | h | h
   ·exact absurd h.1 (by decide)
   ·exact absurd h.1 (by decide)
   ·exact h.2
   ·exact absurd h.1 (by decide)
  obtain ⟨Nw,CE,hall0,n0,aeq,hn1,hn2⟩:=hlx
  have NB:=lE.1 Nw
  have kk2:(c.tm k).k=2:=NB.2.1
  have osi:dP c i=c.O.sp (c.O.pl (c.tm i).n):=by rw [dP,if_pos ki2]
  have hx:side (c.O.sp (c.O.pl (c.tm i).n)) (c.tm i).l=(bt (dP c i) (c.kd i)).map c.tm:=by rw [← osi,← ki.1,ij]
  have hy:side (c.O.sp (c.O.pl (c.tm i).n)) (c.tm k).l=(bt (dP c i) (c.kd k)).map c.tm:=by rw [← osi,← kk.1,ij]
  have lx:(bt (dP c i) (c.kd i)).length=(c.kd i).length:=hZ
  have ly:(bt (dP c i) (c.kd k)).length=(c.kd k).length:=hZ
  have nx:∀ z∈bt (dP c i) (c.kd i),z∈c.kd i:=fun z hz=>pU.1 hz
  have ny:∀ z∈bt (dP c i) (c.kd k),z∈c.kd k:=fun z hz=>pU.1 hz
  have hS:∀ (n:Nat) (l:List PP),Sh c.O (.mk 3 n [] l) (c.tm i) (c.tm k)↔CB (E c.O) (Sh c.O) n l (c.tm i) ((bt (dP c i) (c.kd i)).map c.tm) ((bt (dP c i) (c.kd k)).map c.tm) (c.tm k).l:=by
   intro n l
   rw [Sh3 rfl ki2,hx,hy]
   rw [osi] at CE
   exact ⟨fun h=>h.2.2.2.2,fun h=>⟨rfl,kk2,NB.2.2,CE,h⟩⟩
  refine af (rf hc hi nP.du) ?_
  rintro r G3 ⟨rfl,rfl⟩
  have gx0:=nP.gx
  have gy0:=nP.gy
  simp +contextual only [k2,dQ,gb,gf,gg,gx0,sZ,Nat.reduceEqDiff,Nat.reduceAdd,Nat.reduceLT,↓reduceIte]
  refine ay (Kr (c.kd i) (dP c i) (by omega)) ?_
  simp +contextual only [k2,gy0,sZ,Nat.reduceEqDiff,Nat.reduceAdd,Nat.reduceLT,↓reduceIte]
  refine ay (Kr (c.kd k) (dP c i) (by omega)) ?_
  generalize bt (dP c i) (c.kd i)=xs at *
  generalize bt (dP c i) (c.kd k)=ys at *
  have ix:IL (.al 0 (ints xs)) xs:=.inr rfl
  have iy:IL (.al 0 (ints ys)) ys:=.inr rfl
  simp +contextual only [sZ,Nat.reduceEqDiff,Nat.reduceAdd,↓reduceIte,reduceCtorEq]
  refine af (Z1 ix iy (by omega) (by omega) (fun z hz z' EN=>kV hc (ki.2 z (nx z hz)) (kk.2 z' (ny z' EN))) nP.du) ?_
  rintro r G4 ⟨n,rfl,hn,W1,W2⟩
  have en0:=hn.VP aeq
  subst en0
  have yp:=nP.call hD w W1 W2
  have gp4:=yp.gp
  have rH:=fun es=>yp.set (es':=es) hD w
  have gps:=fun es=>(rH es).gp
  have gxs:=fun es=>(rH es).gx
  have gys:=fun es=>(rH es).gy
  have un1:List.map AV.ab [AV.int .i64 (n:Int)]=[.int .i64 (n:Int)]:=rfl
  have hLS:∀ l,CB (E c.O) (Sh c.O) n l (c.tm i) (xs.map c.tm) (ys.map c.tm) (c.tm k).l↔(if (n:Int)=ys.length then lf (Sh c.O) l (c.tm i) ((c.kd k).map c.tm) else ∃ q r,l=q::r∧Sh c.O q (c.tm (xs.getD n 0)) (c.tm (ys.getD n 0))∧lf (Sh c.O) r (c.tm i) ((c.kd k).map c.tm)):=by
   intro l
   rw [aaq (kd:=c.kd k) kk.1]
   have h1:(0:Int)≤n∧(n:Int) < xs.length∧(n:Int)≤ys.length:=⟨by omega,by omega,by have:=hn.lb;omega⟩
   have h2:∀ j,j < (n:Int).toNat→E c.O (c.tm (xs.getD j 0)) (c.tm (ys.getD j 0)):=fun j hj=>hn.eq j (by omega)
   rw [yP]
   exact ⟨fun h=>h.2.2,fun h=>⟨h1,h2,h⟩⟩
  by_cases hny:n < ys.length
  ·have n4:((n:Int) < ys.length)=True:=eq_true (by omega)
   simp +contextual only [decide_true,gp4,Wa,un1,gps,iy.aO,iy.len (by omega),n4,ix.idx,iy.idx,ix.lens,iy.lens,yP,d3,s3,aeg,sZ,Nat.reduceEqDiff,Nat.reduceAdd,Nat.reduceLT,Nat.reduceLeDiff,↓reduceIte,reduceCtorEq]
   have mx:=nx _ (aT (l:=xs) (i:=n) (by omega))
   have my:=ny _ (aT hny)
   have Gb:qj c (xs.getD n 0) (ys.getD n 0):=Wd _ mx _ my (hn2.resolve_left (by omega))
   have Wc:∀ u qs,Sh c.O u (c.tm (xs.getD n 0)) (c.tm (ys.getD n 0))→lf (Sh c.O) qs (c.tm i) ((c.kd k).map c.tm)→Sh c.O (.mk 3 n [] (u::qs)) (c.tm i) (c.tm k):=by
    intro u qs hu hq
    rw [hS,hLS,if_neg (by omega)];exact ⟨u,qs,rfl,hu,hq⟩
   repeat' apply hV
   all_goals first | omega | skip
   all_goals
    refine af (Gb _ (rH _).du) ?_
    rintro r G5 ⟨u,rfl,hu,hU5,hD5⟩
    replace Wc:=fun qs=>Wc u qs hu
    have NA:=(rH _).call hD w hU5 hD5
    have gp5:=NA.gp
    have Hu:=fun es=>NA.set (es':=es) hD w
    have gps6:=fun es=>(Hu es).gp
    have gys6:=fun es=>(Hu es).gy
    obtain ⟨u1,u2,u3,u4,u5,u6,u7,u8,u9⟩:=aH u
    have ap1:∀ ψ,bF 4 64 .ag (.al 0 [dA u]) ψ=ψ (dx ([]++[u])):=fun ψ=>E1 [] u (by simp) 0 ψ
    have ea:dx ([]++[u])=[dA u]:=rfl
    rw [ea] at ap1
    simp +contextual only [k2,ik.aO,ik.len (by omega),u1,u2,u6,kx,ap1,gp5,gps6,gys6,d3,s3,aeg,sZ,Nat.reduceEqDiff,Nat.reduceAdd,Nat.reduceLT,↓reduceIte]
    refine mA (Ht hD w (l0:=[u]) (by simp) ik l2 (fun z hz=>hp z hz (hall0 z hz)) (Hu _)) ?_
    rintro e1 e G6 ⟨rfl,f6,f10,qs,iU,pf⟩
    replace pf:PB c H x y i k [.int .i64 3,.int .i64 n,.ag,qi (u::qs)] G6:=pf
    have gp6:=pf.gp
    have g66:=pf.g6
    have lp:=S5 3 n [] (u::qs)
    have tv0:vE []=AV.ag:=rfl
    rw [tv0] at lp
    have hs:Sh c.O (.mk 3 n [] (u::qs)) (c.tm i) (c.tm k):=Wc qs iU
    obtain ⟨q1,q2,q3,q4,q5,q6,q7,q8,q9⟩:=aH (.mk 3 n [] (u::qs))
    have lp2:=E3 (.mk 3 n [] (u::qs))
    have Nz:=yS (a:=aa.cells (dA (.mk 3 n [] (u::qs))).cells) (aR g66)
    have Ro:aj (H.length + 1) (dA (.mk 3 n [] (u::qs))).cells=true:=cL (gJ _ _)
    have mq:=PB.fin (to:=[]) (l:=(u::qs)) hD pf hs
    simp +contextual only [f6,f10,gp6,g66,lp,q1,q2,q3,q9,S7,Nz,lp2,Ro,sZ,Nat.reduceEqDiff,Nat.reduceAdd,↓reduceIte,reduceCtorEq]
    first | exact mq | exact ⟨by omega,mq⟩ | exact ⟨trivial,mq⟩
  ·have n4:((n:Int) < ys.length)=False:=eq_false (by omega)
   have Wc:∀ qs,lf (Sh c.O) qs (c.tm i) ((c.kd k).map c.tm)→Sh c.O (.mk 3 n [] qs) (c.tm i) (c.tm k):=by
    intro qs hq
    rw [hS,hLS,if_pos (by have:=hn.lb;omega)];exact hq
   simp +contextual only [k2,ik.aO,ik.len (by omega),decide_false,gp4,Wa,un1,gps,gys,iy.aO,iy.len (by omega),n4,sZ,Nat.reduceEqDiff,Nat.reduceAdd,Nat.reduceLT,Nat.reduceLeDiff,↓reduceIte]
   refine mA (Ht hD w (l0:=[]) (by simp) ik l2 (fun z hz=>hp z hz (hall0 z hz)) (rH _)) ?_
   rintro e1 e G6 ⟨rfl,f6,f10,qs,iU,pf⟩
   replace pf:PB c H x y i k [.int .i64 3,.int .i64 n,.ag,qi qs] G6:=pf
   have gp6:=pf.gp
   have g66:=pf.g6
   have lp:=S5 3 n [] qs
   have tv0:vE []=AV.ag:=rfl
   rw [tv0] at lp
   have hs:Sh c.O (.mk 3 n [] qs) (c.tm i) (c.tm k):=Wc qs iU
   obtain ⟨q1,q2,q3,q4,q5,q6,q7,q8,q9⟩:=aH (.mk 3 n [] qs)
   have lp2:=E3 (.mk 3 n [] qs)
   have Nz:=yS (a:=aa.cells (dA (.mk 3 n [] qs)).cells) (aR g66)
   have Ro:aj (H.length + 1) (dA (.mk 3 n [] qs)).cells=true:=cL (gJ _ _)
   have mq:=PB.fin (to:=[]) (l:=qs) hD pf hs
   simp +contextual only [f6,f10,gp6,g66,lp,q1,q2,q3,q9,S7,Nz,lp2,Ro,sZ,Nat.reduceEqDiff,Nat.reduceAdd,↓reduceIte,reduceCtorEq]
   first | exact mq | exact ⟨by omega,mq⟩ | exact ⟨trivial,mq⟩
end Go.aK
end
noncomputable section
set_option maxRecDepth 100000
namespace Go.aK
open Go Go.Proofs Go.eI
structure PC (c:Cx) (H:List aa) (x y:Nat) (i k:Int) (es:List AV) (o:aa) (G:List aa):Prop where
 du:Du c G
 gx:G[x]?=some (.cells [bu (c.kd i)])
 gy:G[y]?=some (.cells [bu (c.kd k)])
 g6:G[H.length]?=some (.cells [.int .i64 0,.int .i64 0,.ag,.ag])
 gp:G[H.length + 3]?=some (.cells es)
 go:G[H.length + 4]?=some o
 len:G.length=H.length + 5
 up:∀ j,j < H.length→j≠c.e→j≠c.g→G[j]?=H[j]?
theorem PB.aer {c:Cx} {H G:List aa} {x y:Nat} {i k:Int} {es:List AV} (w:XY H x y) (h:PB c H x y i k es G) (o:aa):PC c H x y i k es o (G++[o]):=by
 obtain ⟨w1,w2,w3,w4⟩:=w
 have hl:=h.len
 exact ⟨h.du.ue _,by rw [yO (by omega),h.gx],by rw [yO (by omega),h.gy],by rw [yO (by omega),h.g6],by rw [yO (by omega),h.gp],by rw [← hl];simp,by simp [hl],fun j h1 h2 h3=>by rw [yO (by omega),h.up j h1 h2 h3]⟩
theorem PC.call {c:Cx} {H G G':List aa} {x y:Nat} {i k:Int} {es:List AV} {o:aa} (hD:Du c H) (w:XY H x y) (h:PC c H x y i k es o G) (hU:Up c G G') (kh:Du c G'):PC c H x y i k es o G':=by
 obtain ⟨l1,l2,l3⟩:=hD.lt
 obtain ⟨w1,w2,w3,w4⟩:=w
 exact ⟨kh,by rw [hU.get x (by omega) (by omega),h.gx],by rw [hU.get y (by omega) (by omega),h.gy],by rw [hU.get _ (by omega) (by omega),h.g6],by rw [hU.get _ (by omega) (by omega),h.gp],by rw [hU.get _ (by omega) (by omega),h.go],by rw [hU.len,h.len],fun j h1 h2 h3=>by rw [hU.get j h2 h3,h.up j h1 h2 h3]⟩
theorem PC.set {c:Cx} {H G:List aa} {x y:Nat} {i k:Int} {es es':List AV} {o:aa} (hD:Du c H) (w:XY H x y) (h:PC c H x y i k es o G):PC c H x y i k es' o (G.set (H.length + 3) (.cells es')):=by
 obtain ⟨l1,l2,l3⟩:=hD.lt
 obtain ⟨w1,w2,w3,w4⟩:=w
 have hp:=aR h.gp
 exact ⟨h.du.set (by omega) (by omega) (by omega),by rw [yQ (by omega),h.gx],by rw [yQ (by omega),h.gy],by rw [yQ (by omega),h.g6],by rw [yS hp],by rw [yQ (by omega),h.go],by rw [acd,h.len],fun j h1 h2 h3=>by rw [yQ (by omega),h.up j h1 h2 h3]⟩
theorem PC.aes {c:Cx} {H G:List aa} {x y:Nat} {i k:Int} {es:List AV} {o o':aa} (hD:Du c H) (w:XY H x y) (h:PC c H x y i k es o G):PC c H x y i k es o' (G.set (H.length + 4) o'):=by
 obtain ⟨l1,l2,l3⟩:=hD.lt
 obtain ⟨w1,w2,w3,w4⟩:=w
 have hp:=aR h.go
 exact ⟨h.du.set (by omega) (by omega) (by omega),by rw [yQ (by omega),h.gx],by rw [yQ (by omega),h.gy],by rw [yQ (by omega),h.g6],by rw [yQ (by omega),h.gp],by rw [yS hp],by rw [acd,h.len],fun j h1 h2 h3=>by rw [yQ (by omega),h.up j h1 h2 h3]⟩
theorem PC.drop {c:Cx} {H G:List aa} {x y:Nat} {i k:Int} {es:List AV} {o:aa} (hD:Du c H) (w:XY H x y) (h:PC c H x y i k es o G):PB c H x y i k es (G.take (H.length + 4))∧G=G.take (H.length + 4)++[o]:=by
 obtain ⟨l1,l2,l3⟩:=hD.lt
 obtain ⟨w1,w2,w3,w4⟩:=w
 have hl:=h.len
 have t:∀ j,j < H.length + 4→(G.take (H.length + 4))[j]?=G[j]?:=fun j h1=>by rw [aax,if_pos h1]
 refine ⟨⟨h.du.take (by omega) (by omega) (by omega),by rw [t x (by omega),h.gx],by rw [t y (by omega),h.gy],by rw [t _ (by omega),h.g6],by rw [t _ (by omega),h.gp],by simp;omega,fun j h1 h2 h3=>by rw [t j (by omega),h.up j h1 h2 h3]⟩,?_⟩
 have e:G.drop (H.length + 4)=[o]:=by
  have h1:=h.go
  have aS:H.length + 4 < G.length:=by omega
  rw [abr aS]
  rw [Oq aS] at h1
  simp only [Option.some.injEq] at h1
  rw [h1,abu (by omega)]
 rw [← e,ad1]
structure MI (c:Cx) (a b:List Int) (us:List Bool) (to:List Int) (j:Nat) (ts:List Int) (ls:List PP):Prop where
 lt:ts.length=j
 ll:ls.length=j
 pa:∀ j',j' < j→0≤to.getD j' 0→ts.getD j' 0=to.getD j' 0∧(ls.getD j' default).nil
 ov:∀ j',j' < j→to.getD j' 0 < 0→(¬ (ls.getD j' default).nil∧Sh c.O (ls.getD j' default) (c.tm (a.getD (ts.getD j' 0).toNat 0)) (c.tm (b.getD j' 0)))∧∃ u:Nat,ts.getD j' 0=u∧u < a.length∧us.getD u false=false
theorem MI.snoc {c:Cx} {a b:List Int} {us:List Bool} {to:List Int} {j:Nat} {ts:List Int} {ls:List PP} (h:MI c a b us to j ts ls) (v:Int) (q:PP)
 (h1:0≤to.getD j 0→v=to.getD j 0∧q.nil) (h2:to.getD j 0 < 0→(¬ q.nil∧Sh c.O q (c.tm (a.getD v.toNat 0)) (c.tm (b.getD j 0)))∧∃ u:Nat,v=u∧u < a.length∧us.getD u false=false):MI c a b us to (j + 1) (ts++[v]) (ls++[q]):=by
 obtain ⟨k1,k2,k3,k4⟩:=h
 have e1:∀ j',j' < j→(ts++[v]).getD j' 0=ts.getD j' 0∧(ls++[q]).getD j' default=ls.getD j' default:=fun j' vY=>by
  constructor
  ·rw [rB,rB,yO (by omega)]
  ·rw [rB,rB,yO (by omega)]
 have e2:(ts++[v]).getD j 0=v∧(ls++[q]).getD j default=q:=by
  constructor
  ·rw [← k1];simp
  ·rw [← k2];simp
 refine ⟨by simp [k1],by simp [k2],fun j' vY h0=>?_,fun j' vY h0=>?_⟩
 ·by_cases e:j'=j
  ·subst e;rw [e2.1,e2.2];exact h1 h0
  ·have aS:j' < j:=by omega
   rw [(e1 j' aS).1,(e1 j' aS).2];exact k3 j' aS h0
 ·by_cases e:j'=j
  ·subst e;rw [e2.1,e2.2];exact h2 h0
  ·have aS:j' < j:=by omega
   rw [(e1 j' aS).1,(e1 j' aS).2];exact k4 j' aS h0
theorem yq {to:List Int} {x:Int}:∀ {n:Nat},(∀ j j',j < n→j' < n→to.getD j 0=x→to.getD j' 0=x→j=j')→cU to x n≤1
 | 0,_=>by simp [cU]
 | n + 1,h=>by
   rw [cU]
   have ih:=yq (n:=n) fun j j' h1 h2=>h j j' (by omega) (by omega)
   by_cases e:to.getD n 0=x
   ·rw [if_pos e]
    have:cU to x n=0:=by
     have h0:∀ m,m≤n→cU to x m=0:=by
      intro m
      induction m with
      | zero=>intro _;rfl
      | succ m ihm=>
        intro hm
        rw [cU,ihm (by omega),if_neg (fun e'=>by have:=h m n (by omega) (by omega) e' e;omega)]
     exact h0 n (rC _)
    omega
   ·rw [if_neg e];omega
theorem MI.cov {c:Cx} {a b:List Int} {us:List Bool} {to ts:List Int} {ls:List PP} (h:MI c a b us to b.length ts ls) (Cu:Pr (fun x y=>E c.O (c.tm x) (c.tm y)) a b b.length us to) (hl:∃ u:Nat,u < a.length∧us.getD u false=false):KA c ts ls a b:=by
 obtain ⟨k1,k2,k3,k4⟩:=h
 have cas:∀ j,j < b.length→(∃ u:Nat,to.getD j 0=u∧u < a.length∧us.getD u false=true∧E c.O (c.tm (a.getD u 0)) (c.tm (b.getD j 0)))∨to.getD j 0 < 0:=fun j hj=>by
  rcases Cu.t1 j hj with h | ⟨u,h1,h2,h3,h4⟩
  ·exact .inr (by omega)
  ·exact .inl ⟨u,h1,h2,h3,h4⟩
 refine ⟨k1,k2,fun j hj=>?_,fun x hx hp=>?_,?_⟩
 ·rcases cas j hj with ⟨u,h1,h2,h3,h4⟩ | hn
  ·obtain ⟨e1,e2⟩:=k3 j hj (by omega)
   rw [if_pos e2,e1,h1]
   exact ⟨by omega,by rw [yP];exact h4⟩
  ·obtain ⟨⟨e1,e2⟩,u,h1,h2,h3⟩:=k4 j hj hn
   rw [if_neg e1]
   exact ⟨by omega,e2⟩
 ·obtain ⟨j,hj,e1,e2⟩:=jj.1 hp
  have vD:∀ j',j' < b.length→ts.getD j' 0=(x:Int)→us.getD x false=true→to.getD j' 0=(x:Int):=by
   intro j' vY e ht
   rcases cas j' vY with ⟨u,h1,_⟩ | hn
   ·rw [← (k3 j' vY (by omega)).1];exact e
   ·obtain ⟨_,u,h1,h2,h3⟩:=k4 j' vY hn
    have:u=x:=by omega
    subst this;rw [h3] at ht;cases ht
  have hux:us.getD x false=true:=by
   rcases cas j hj with ⟨u,h1,h2,h3,_⟩ | hn
   ·have:=(k3 j hj (by omega)).1
    have:u=x:=by omega
    subst this;exact h3
   ·exact absurd e2 (k4 j hj hn).1.1
  refine yq fun j1 j2 h1 h2 e1 e2=>?_
  have t1:=vD j1 h1 e1 hux
  have t2:=vD j2 h2 e2 hux
  exact Cu.inj j1 j2 h1 h2 (by omega) (by omega)
 ·obtain ⟨u,hu,hf⟩:=hl
  refine ⟨u,hu,?_⟩
  by_cases h0:0 < cq ts ls u b.length
  ·obtain ⟨j,hj,e1,e2⟩:=jj.1 h0
   rcases cas j hj with ⟨u',h1,h2,h3,_⟩ | hn
   ·have:=(k3 j hj (by omega)).1
    have:u'=u:=by omega
    subst this;rw [hf] at h3;cases h3
   ·exact absurd e2 (k4 j hj hn).1.1
  ·omega
theorem Sh.ne_nil {O:Od} {p:PP} {a b:T} (h:Sh O p a b):¬ p.nil:=by
 rintro ⟨h1,_⟩
 exact Sh0 (by omega) (by omega) (by omega) (by omega) h
theorem aaA {c:Cx} (hc:c.Ok) {i k:Int} (hi:c.ep i) (hk:c.ep k) (hR:R c.O (c.tm i) (c.tm k)) (hr:iO c i k 4) (jy:∀ m,m < 4→¬ iO c i k m) (Wd:∀ x∈c.kd i,∀ y∈c.kd k,R c.O (c.tm x) (c.tm y)→qj c x y):qj c i k:=by
 intro H hD
 refine E0.2.calls rfl ?_
 simp only [E0,aG]
 have k2:∀ l,(bu l).ab=bu l:=fun l=>(aI l).2.1
 have ki:=hc.kids i hi
 have kk:=hc.kids k hk
 have l1:=hc.kl i hi
 have l2:=hc.kl k hk
 obtain ⟨a1,a2,a3,a4,a5⟩:=aI (c.kd i)
 obtain ⟨b1,b2,b3,b4,b5⟩:=aI (c.kd k)
 have ii:IL (bu (c.kd i)) (c.kd i):=.inl rfl
 have ik:IL (bu (c.kd k)) (c.kd k):=.inl rfl
 have ei:(c.nd.getD i.toNat default).snd=c.kd i:=rfl
 have ek:(c.nd.getD k.toNat default).snd=c.kd k:=rfl
 obtain ⟨m1,m2,m3⟩:=hD.lt
 have ed:∀ X:List aa,(H++X)[c.d]?=H[c.d]?:=fun X=>yO m1
 have spv:∀ x:AV,ah [AV.ag] 0 [x]=[x]:=fun x=>rfl
 have spq:ah [AV.int .i64 0,.int .i64 0,.ag,.ag] 0 [AV.int .i64 0,.int .i64 0,.ag,.ag]=[AV.int .i64 0,.int .i64 0,.ag,.ag]:=rfl
 simp +contextual only [sZ,Nat.reduceEqDiff,Nat.reduceAdd,↓reduceIte,reduceCtorEq]
 refine mI (K1:=fun e G=>get e 1=.int .i64 i∧get e 3=.ai (.ptr c.d 0)∧get e 5=.ai (.int .i64 k)∧get e 6=.ptr H.length 0∧∃ x y,get e 7=.ptr x 0∧get e 8=.ptr y 0∧XY H x y∧PA c H x y i k G) ?_ ?_
 ·have P0:aa:=.cells [.int .i64 0,.int .i64 0,.ag,.ag]
  have A:∃ x y,AV.ptr (H.length + 1) 0=.ptr x 0∧AV.ptr (H.length + 2) 0=.ptr y 0∧XY H x y∧PA c H x y i k (H++[.cells [.int .i64 0,.int .i64 0,.ag,.ag],.cells [bu (c.kd i)],.cells [bu (c.kd k)]]):=
   ⟨_,_,rfl,rfl,⟨by omega,by omega,by omega,by omega⟩,⟨hD.ue _,by simp,by simp,by simp,by simp,fun j hj _ _=>yO hj⟩⟩
  have B:∃ x y,AV.ptr (H.length + 2) 0=.ptr x 0∧AV.ptr (H.length + 1) 0=.ptr y 0∧XY H x y∧PA c H x y i k (H++[.cells [.int .i64 0,.int .i64 0,.ag,.ag],.cells [bu (c.kd k)],.cells [bu (c.kd i)]]):=
   ⟨_,_,rfl,rfl,⟨by omega,by omega,by omega,by omega⟩,⟨hD.ue _,by simp,by simp,by simp,by simp,fun j hj _ _=>yO hj⟩⟩
  simp +contextual only [ed,hD.d,nK,FD,cT,cn,k2,ei,ek,a1,a3,a4,a5,b1,b3,b4,b5,List.map_cons,List.map_nil,spv,List.all_cons,List.all_nil,acb,bP,c9,sZ,Nat.reduceEqDiff,Nat.reduceAdd,Nat.reduceLT,↓reduceIte]
  refine ⟨hi,?_⟩
  repeat' apply hV
  all_goals first | exact hk.1 | exact hk.2 | exact A | exact B
 ·rintro e G ⟨e1,e3,e5,e6,x,y,e7,e8,w,CG⟩
  simp +contextual only [e1,e3,e5,e6,e7,e8,sZ,Nat.reduceEqDiff,↓reduceIte]
  refine aJ 3 (fun m (G:List aa)=>PA c H x y i k G)
   (fun m G=>[(1,.int .i64 i),(3,.ai (.ptr c.d 0)),(5,.ai (.int .i64 k)),(6,.ptr H.length 0),(7,.ptr x 0),(8,.ptr y 0),(9,.int .i64 ((m + 1:Nat):Int))]) (fun m G=>G) G ⟨CG,aB _ _ _⟩ fun m G hm CG=>?_
  have hf:eJ.cells[m + 1]?=some (.fn (.func (182 + (m + 1))) [] []):=by
   have:m=0∨m=1∨m=2∨m=3:=by omega
   rcases this with rfl | rfl | rfl | rfl <;> rfl
  have en:=W4 (m + 1) _ hf (by omega)
  simp +contextual only [sZ]
  refine ay Nj ?_
  simp +contextual only [nD,en _ rfl,sZ,Nat.reduceEqDiff,Nat.reduceAdd,↓reduceIte,reduceCtorEq]
  refine af ((wG hc hi hk).at (n:=m + 1) (by omega) (by omega) CG.du) ?_
  rintro r G1 ⟨z,rfl,hz,hU,oh⟩
  have rk:=CG.call hD w hU oh
  by_cases SP:m=3
  rotate_left
  ·have:z=false:=by
    cases z with
    | false=>rfl
    | true=>exact absurd (hz.1 rfl) (jy (m + 1) (by omega))
   subst this
   simp +contextual only [Bool.not_false,sZ,Nat.reduceEqDiff,↓reduceIte]
   exact ⟨m + 1,G1,⟨by omega,rk⟩,by omega,aE (by rw [au (m + 1) (by omega)]) rfl⟩
  subst SP
  have:z=true:=hz.2 hr
  subst this
  have rJ:=rk.len
  have lV:=fun es=>rk.ue w es
  have Wb:=fun es=>(lV es).gp
  have Q4:=fun es=>(lV es).gx
  have hgy:=fun es=>(lV es).gy
  have bX:∀ (o o':aa),(G1++[o]).set (H.length + 3) o'=G1++[o']:=fun o o'=>by rw [← rJ];simp
  have ec:((4:Nat):Int)=4:=rfl
  have zf:List.map AV.ab [AV.int .i64 (4:Int),.int .i64 0,.ag,.ag]=[.int .i64 (4:Int),.int .i64 0,.ag,.ag]:=rfl
  have zf0:List.map AV.ab [AV.int .i64 0,.int .i64 0,.ag,.ag]=[.int .i64 0,.int .i64 0,.ag,.ag]:=rfl
  have e86:∀ a b:Int,decide (a=b)=decide (a=b):=fun _ _=>rfl
  simp +contextual only [k2,decide_true,decide_false,Bool.not_true,Bool.not_true,bdP,rJ,Wb,bX,ec,zf,zf0,KD,Q4,hgy,sZ,Nat.reduceEqDiff,Nat.reduceAdd,Nat.reduceLT,↓reduceIte,reduceCtorEq,Int.reduceEq]
  have nP:=lV [.int .i64 4,.int .i64 0,.ag,.ag]
  generalize G1++[aa.cells [AV.int .i64 4,.int .i64 0,.ag,.ag]]=G2 at nP ⊢
  have ki2:(c.tm i).k=2:=(qE.1 hR).1
  have hmq:zE c i k:=by
   rcases hr with h | h | h | h
   ·exact absurd h.1 (by decide)
   ·exact absurd h.1 (by decide)
   ·exact absurd h.1 (by decide)
   ·exact h.2
  obtain ⟨Nw,CE,VU⟩:=hmq
  have NB:=lE.1 Nw
  have kk2:(c.tm k).k=2:=NB.2.1
  have osi:dP c i=c.O.sp (c.O.pl (c.tm i).n):=by rw [dP,if_pos ki2]
  have gx0:=nP.gx
  have gy0:=nP.gy
  simp +contextual only [sZ]
  refine af (VT ii ik (by omega) (by omega) (fun z hz z' EN=>kV hc (ki.2 z hz) (kk.2 z' EN)) nP.du) ?_
  rintro r G3 ⟨us,to,Cu,rfl,Z3,Nh⟩
  have CF:=nP.call hD w Z3 Nh
  have WN:=(Pr.mu (f:=nf c) (G:=Gt c.O.sp) Cu).1 VU
  have lbl:=kw (c.kd i).length fun z=>!us.getD z false
  have il:IL (bu (below (c.kd i).length fun z=>!us.getD z false)) (below (c.kd i).length fun z=>!us.getD z false):=.inl rfl
  have mml:∀ {z:Int},z∈below (c.kd i).length (fun z=>!us.getD z false)→∃ u:Nat,z=u∧u < (c.kd i).length∧us.getD u false=false:=by
   intro z hz;obtain ⟨u,h1,h2,h3⟩:=ic.1 hz;exact ⟨u,h1,h2,by simpa using h3⟩
  have mmo:∀ {j:Nat},j < (c.kd k).length→to.getD j 0 < 0→∃ z∈below (c.kd i).length (fun z=>!us.getD z false),R c.O (c.tm ((c.kd i).getD z.toNat 0)) (c.tm ((c.kd k).getD j 0)):=by
   intro j hj hn
   exact WN.2 (j:Int) (ic.2 ⟨j,rfl,hj,by simpa using hn⟩)
  have aet:=WN.1
  generalize (below (c.kd i).length fun z=>!us.getD z false)=L at *
  have lto:=Cu.lt
  obtain ⟨v1,v2,v3,v4,v5⟩:=aI L
  simp +contextual only [k2,aw,sZ,Nat.reduceEqDiff,Nat.reduceAdd,Nat.reduceLT,↓reduceIte]
  intro _
  have hlne2:∃ u:Nat,u < (c.kd i).length∧us.getD u false=false:=by
   cases L with
   | nil=>exact absurd rfl aet
   | cons z r=>
     obtain ⟨u,_,h2,h3⟩:=mml (aaW (a:=z) (l:=r))
     exact ⟨u,h2,h3⟩
  refine aJ (c.kd k).length (fun j (s:List aa×List Int×List PP)=>PB c H x y i k [.int .i64 4,.int .i64 0,vE s.2.1,qi s.2.2] s.1∧MI c (c.kd i) (c.kd k) us to j s.2.1 s.2.2)
   (fun j s=>[(3,.ai (.ptr c.d 0)),(6,.ptr H.length 0),(7,.ptr x 0),(8,.ptr y 0),(10,.ptr (H.length + 3) 0),(11,bu L),(89,.al 0 (ints to)),(90,.int .i64 to.length),(91,.int .i64 j)]) (fun j s=>s.1) (G3,[],[])
   ⟨⟨CF,rfl,rfl,fun j h=>by omega,fun j h=>by omega⟩,aB _ _ _⟩ fun j s hj hI=>?_
  obtain ⟨G,ts,ls⟩:=s
  obtain ⟨lV,KP⟩:=hI
  simp only at lV KP
  have hlen:=lV.len
  by_cases EY:(j:Int) < to.length
  ·have mU:j < (c.kd k).length:=by omega
   have zf4:∀ n,aj n (List.map AV.ab [AV.int .i64 0,.int .i64 0,.ag,.ag])=true:=fun _=>rfl
   have zf5:List.map AV.ab [AV.int .i64 0,.int .i64 0,.ag,.ag]=[AV.int .i64 0,.int .i64 0,.ag,.ag]:=rfl
   obtain ⟨tj,htj⟩:∃ tj,to.getD j 0=tj:=⟨_,rfl⟩
   have hpc:=lV.aer w (.cells [.int .i64 0,.int .i64 0,.ag,.ag])
   by_cases ze:tj < 0
   ·simp +contextual only [k2,decide_true,EY,aM,dT,yP,htj,ze,hlen,zf5,sZ,Nat.reduceEqDiff,Nat.reduceAdd,↓reduceIte,reduceCtorEq]
    have mz:=fun (G':List aa) (eR:SD c (G++[aa.cells [AV.int .i64 0,.int .i64 0,.ag,.ag]]) G')=>hpc.call hD w eR.2 eR.1
    have hjz:(0:Int)≤j∧(j:Int) < (c.kd k).length:=⟨by omega,by omega⟩
    refine ⟨by omega,af (Ng (SD.Cs c (G++[.cells [.int .i64 0,.int .i64 0,.ag,.ag]])) il (by omega) 148 [] [.ai (.ptr c.d 0),.ptr x 0,.ptr y 0,.ai (.int .i64 j)] rfl rfl (Q:=fun z=>R c.O (c.tm ((c.kd i).getD z.toNat 0)) (c.tm ((c.kd k).getD (j:Int).toNat 0)))
     (fun z hz G' eR=>?_) ⟨hpc.du,Up.refl c _⟩) ?_⟩
    ·obtain ⟨u,rfl,hu,_⟩:=mml hz
     refine (aeo ii ik ⟨by omega,by omega⟩ hjz (kW hc (ki.2 _ (aT (by omega))) (kk.2 _ (aT (by omega)))) eR.1 (mz G' eR).gx (mz G' eR).gy).mono fun r H' hr=>hr.sb eR
    rintro r G4 ⟨hG4,vV⟩
    rcases vV with ⟨_,vV⟩ | ⟨m,rfl,hm,hQ,_⟩
    ·obtain ⟨z,hz,h⟩:=mmo mU (by rw [htj];exact ze)
     exact absurd h (vV z hz)
    obtain ⟨u,hu,Br,huf⟩:=mml (aT hm)
    have Rp:=mz G4 hG4
    have gx4:=Rp.gx
    have gy4:=Rp.gy
    rw [hu,yP,yP] at hQ
    simp +contextual only [k2,ii.lens,ik.lens,ii.idx,ik.idx,il.lens,il.idx,yP,hu,gx4,gy4,sZ,Nat.reduceEqDiff,Nat.reduceAdd,Nat.reduceLT,↓reduceIte,reduceCtorEq]
    refine ⟨by omega,⟨by omega,by omega⟩,by omega,?_⟩
    refine af (Wd _ (aT Br) _ (aT mU) hQ _ Rp.du) ?_
    rintro r G5 ⟨q,rfl,hq,hU5,hD5⟩
    have aaC:=Rp.call hD w hU5 hD5
    have go5:=aaC.go
    have hpo:=fun o=>aaC.aes (o':=o) hD w
    have n8:=fun o es=>(hpo o).set (es':=es) hD w
    have gq5:=fun o=>(hpo o).go
    have gp5:=fun o=>(hpo o).gp
    have gqs:=fun o es=>(n8 o es).go
    have gps:=fun o es=>(n8 o es).gp
    obtain ⟨u1,u2,u3,u4,u5,u6,u7,u8,u9⟩:=aH q
    have bq:aj (H.length + 4 + 1) (dA q).cells=true:=cL (gJ _ _)
    have We:=KP.snoc (u:Int) q (fun h=>by omega) (fun _=>⟨⟨Sh.ne_nil hq,by rw [yP];exact hq⟩,u,rfl,Br,huf⟩)
    have t1:=KP.lt
    have t2:=KP.ll
    have WR:∀ ψ,bF 1 8 (vE ts) (.al 0 [.int .i64 (u:Int)]) ψ=ψ (ints (ts++[(u:Int)])):=fun ψ=>S4 ts _ (by omega) 0 ψ
    have apl:∀ ψ,bF 4 64 (qi ls) (.al 0 [dA q]) ψ=ψ (dx (ls++[q])):=fun ψ=>E1 ls q (by omega) 0 ψ
    have lpq:=E3 q
    obtain ⟨x1,x2,x3,x4,x5,x6⟩:=mL (ts++[(u:Int)])
    obtain ⟨y1,y2,y3,y4,y5,y6⟩:=jk (ls++[q])
    obtain ⟨x1',x2',x3',x4',x5',x6'⟩:=mL ts
    obtain ⟨y1',y2',y3',y4',y5',y6'⟩:=jk ls
    have lvb:∀ n,aj n (dx (ls++[q]))=true:=fun n=>jG _ _
    have tvb:∀ n,aj n (ints (ts++[(u:Int)]))=true:=fun n=>bf _ _
    have si:∀ G',PC c H x y i k [.int .i64 4,.int .i64 0,vE (ts++[(u:Int)]),qi (ls++[q])] (.cells (dA q).cells) G'→∃ (j':Nat) (t:List aa×List Int×List PP),(j'≤(c.kd k).length∧PB c H x y i k [.int .i64 4,.int .i64 0,vE t.2.1,qi t.2.2] t.1∧MI c (c.kd i) (c.kd k) us to j' t.2.1 t.2.2)∧(c.kd k).length - j' < (c.kd k).length - j∧
     sle H.length [(3,.ai (.ptr c.d 0)),(6,.ptr H.length 0),(7,.ptr x 0),(8,.ptr y 0),(10,.ptr (H.length + 3) 0),(11,bu L),(89,.al 0 (ints to)),(90,.int .i64 to.length),(91,.int .i64 (IntKind.i64.wrap (j + 1)))] G' [(3,.ai (.ptr c.d 0)),(6,.ptr H.length 0),(7,.ptr x 0),(8,.ptr y 0),(10,.ptr (H.length + 3) 0),(11,bu L),(89,.al 0 (ints to)),(90,.int .i64 to.length),(91,.int .i64 j')] t.1:=by
     intro G' eR
     obtain ⟨z1,z2⟩:=eR.drop hD w
     have zl:=z1.len
     have Xo:=v3
     refine ⟨j + 1,(G'.take (H.length + 4),ts++[(u:Int)],ls++[q]),⟨mU,z1,We⟩,by omega,D1 (by rw [au j (by omega)]) (by rw [zl];omega) ?_ _ z2⟩
     obtain ⟨w1,w2,w3,w4⟩:=w
     rw [zl]
     simp only [qW,List.all_cons,List.all_nil,B7,qV,ji,bW,v3,bf,acb,Ot,decide_eq_true_eq]
     omega
    simp +contextual only [go5,S7,u1,u2,u3,u9,bq,gq5,gp5,gqs,gps,d2,d3,s2,s3,aeg,kx,WR,apl,lpq,E2,sT,x3,x4,y3,y4,sZ,Nat.reduceEqDiff,Nat.reduceAdd,Nat.reduceLT,↓reduceIte]
    repeat' apply hV
    all_goals exact si _ (n8 _ _)
   ·have t1:=KP.lt
    have t2:=KP.ll
    obtain ⟨q0,hq0⟩:∃ q0,q0=PP.mk 0 0 [] []:=⟨_,rfl⟩
    have oH:q0.nil:=by rw [hq0];exact ⟨rfl,rfl,rfl,rfl⟩
    have lpz:∀ φ,dd (some (.cells [.int .i64 0,.int .i64 0,.ag,.ag])) (some 4) 0 φ=φ (dA q0):=by rw [hq0];exact S5 0 0 [] []
    obtain ⟨u1,u2,u3,u4,u5,u6,u7,u8,u9⟩:=aH q0
    have We:=KP.snoc tj q0 (fun h=>⟨htj.symm,oH⟩) (fun h=>by omega)
    have WR:∀ ψ,bF 1 8 (vE ts) (.al 0 [.int .i64 tj]) ψ=ψ (ints (ts++[tj])):=fun ψ=>S4 ts _ (by omega) 0 ψ
    have apl:∀ ψ,bF 4 64 (qi ls) (.al 0 [dA q0]) ψ=ψ (dx (ls++[q0])):=fun ψ=>E1 ls q0 (by omega) 0 ψ
    have n8:=fun es=>hpc.set (es':=es) hD w
    have gp5:=hpc.gp
    have go5:=hpc.go
    have gqs:=fun es=>(n8 es).go
    have gps:=fun es=>(n8 es).gp
    obtain ⟨x1,x2,x3,x4,x5,x6⟩:=mL (ts++[tj])
    obtain ⟨y1,y2,y3,y4,y5,y6⟩:=jk (ls++[q0])
    obtain ⟨x1',x2',x3',x4',x5',x6'⟩:=mL ts
    obtain ⟨y1',y2',y3',y4',y5',y6'⟩:=jk ls
    have lvb:∀ n,aj n (dx (ls++[q0]))=true:=fun n=>jG _ _
    have tvb:∀ n,aj n (ints (ts++[tj]))=true:=fun n=>bf _ _
    have si:∀ G',PC c H x y i k [.int .i64 4,.int .i64 0,vE (ts++[tj]),qi (ls++[q0])] (.cells [.int .i64 0,.int .i64 0,.ag,.ag]) G'→∃ (j':Nat) (t:List aa×List Int×List PP),(j'≤(c.kd k).length∧PB c H x y i k [.int .i64 4,.int .i64 0,vE t.2.1,qi t.2.2] t.1∧MI c (c.kd i) (c.kd k) us to j' t.2.1 t.2.2)∧(c.kd k).length - j' < (c.kd k).length - j∧
     sle H.length [(3,.ai (.ptr c.d 0)),(6,.ptr H.length 0),(7,.ptr x 0),(8,.ptr y 0),(10,.ptr (H.length + 3) 0),(11,bu L),(89,.al 0 (ints to)),(90,.int .i64 to.length),(91,.int .i64 (IntKind.i64.wrap (j + 1)))] G' [(3,.ai (.ptr c.d 0)),(6,.ptr H.length 0),(7,.ptr x 0),(8,.ptr y 0),(10,.ptr (H.length + 3) 0),(11,bu L),(89,.al 0 (ints to)),(90,.int .i64 to.length),(91,.int .i64 j')] t.1:=by
     intro G' eR
     obtain ⟨z1,z2⟩:=eR.drop hD w
     have zl:=z1.len
     have Xo:=v3
     refine ⟨j + 1,(G'.take (H.length + 4),ts++[tj],ls++[q0]),⟨mU,z1,We⟩,by omega,D1 (by rw [au j (by omega)]) (by rw [zl];omega) ?_ _ z2⟩
     obtain ⟨w1,w2,w3,w4⟩:=w
     rw [zl]
     simp only [qW,List.all_cons,List.all_nil,B7,qV,ji,bW,v3,bf,acb,Ot,decide_eq_true_eq]
     omega
    simp +contextual only [decide_true,decide_false,EY,aM,dT,yP,htj,ze,hlen,zf5,u1,u2,gp5,go5,gqs,gps,d2,d3,s2,s3,aeg,kx,WR,apl,lpz,E2,sT,x3,x4,y3,y4,sZ,Nat.reduceEqDiff,Nat.reduceAdd,Nat.reduceLT,↓reduceIte]
    refine ⟨by omega,?_⟩
    repeat' apply hV
    all_goals exact si _ (n8 _)
  ·have V8:j=(c.kd k).length:=by omega
   subst V8
   have hs:Sh c.O (.mk 4 0 ts ls) (c.tm i) (c.tm k):=by
    rw [Sh4 rfl ki2]
    rw [osi] at CE
    refine ⟨rfl,kk2,NB.2.2,CE,?_⟩
    show Rl (E c.O) (Sh c.O) ts ls (c.tm i).l (c.tm k).l
    rw [← ki.1,← kk.1,← EW]
    exact KP.cov Cu hlne2
   have gp6:=lV.gp
   have g66:=lV.g6
   have lp:=S5 4 0 ts ls
   obtain ⟨q1,q2,q3,q4,q5,q6,q7,q8,q9⟩:=aH (.mk 4 0 ts ls)
   have lp2:=E3 (.mk 4 0 ts ls)
   have Nz:=yS (a:=aa.cells (dA (.mk 4 0 ts ls)).cells) (aR g66)
   have Ro:aj (H.length + 1) (dA (.mk 4 0 ts ls)).cells=true:=cL (gJ _ _)
   have mq:=PB.fin hD lV hs
   simp +contextual only [decide_false,EY,gp6,g66,lp,q1,q2,q3,q9,S7,Nz,lp2,Ro,sZ,Nat.reduceEqDiff,Nat.reduceAdd,↓reduceIte,reduceCtorEq]
   first | exact mq | exact ⟨by omega,mq⟩
end Go.aK
end
noncomputable section
set_option maxRecDepth 100000
namespace Go.aK
open Go Go.Proofs Go.eI
theorem NC {P:Nat→Prop}:∀ {n:Nat},P n→∃ m,m≤n∧P m∧∀ j,j < m→¬ P j:=by
 intro n
 induction n using Nat.strongRecOn with
 | _ n ih=>
   intro h
   by_cases hx:∃ j,j < n∧P j
   ·obtain ⟨j,hj,hp⟩:=hx
    obtain ⟨m,h1,h2,h3⟩:=ih j hj hp
    exact ⟨m,by omega,h2,h3⟩
   ·exact ⟨n,rC _,h,fun j hj hp=>hx ⟨j,hj,hp⟩⟩
theorem c86 {c:Cx} (hc:c.Ok):∀ (N:Nat) (i k:Int),c.ep i→c.ep k→wt (c.tm i) + wt (c.tm k)≤N→R c.O (c.tm i) (c.tm k)→qj c i k:=by
 intro N
 induction N with
 | zero=>intro i k _ _ h;have:=dH (c.tm i);omega
 | succ N ih=>
 intro i k hi hk hN hR
 have hx:∀ {j:Int},c.ep j→∀ x∈c.kd j,c.ep x∧wt (c.tm x) < wt (c.tm j):=fun {j} hj x hx=>by
  have h1:=hc.kids j hj
  exact ⟨h1.2 x hx,cR (by rw [← h1.1];exact aal.2 ⟨x,hx,rfl⟩)⟩
 have p1:∀ x∈c.kd i,R c.O (c.tm x) (c.tm k)→qj c x k:=fun x h r=>ih x k (hx hi x h).1 hk (by have:=(hx hi x h).2;omega) r
 have p2:∀ y∈c.kd k,R c.O (c.tm i) (c.tm y)→qj c i y:=fun y h r=>ih i y hi (hx hk y h).1 (by have:=(hx hk y h).2;omega) r
 have p3:∀ x∈c.kd i,∀ y∈c.kd k,R c.O (c.tm x) (c.tm y)→qj c x y:=fun x h y h' r=>ih x y (hx hi x h).1 (hx hk y h').1 (by have:=(hx hi x h).2;have:=(hx hk y h').2;omega) r
 obtain ⟨_,n,hn,hr⟩:=(ul hc hi hk).2 hR
 obtain ⟨m,hm,hr,jy⟩:=NC (P:=fun n=>iO c i k n) hr
 have:m=1∨m=2∨m=3∨m=4:=by
  rcases hr with h | h | h | h
  ·exact .inl h.1
  ·exact .inr (.inl h.1)
  ·exact .inr (.inr (.inl h.1))
  ·exact .inr (.inr (.inr h.1))
 rcases this with rfl | rfl | rfl | rfl
 ·exact aau hc hi hk hR hr jy p1
 ·exact aay hc hi hk hR hr jy p2
 ·exact aaz hc hi hk hR hr jy p2 p3
 ·exact aaA hc hi hk hR hr jy p3
theorem aaD {c:Cx} (hc:c.Ok) {i k:Int} (hi:c.ep i) (hk:c.ep k) (hR:R c.O (c.tm i) (c.tm k)):qj c i k:=c86 hc _ i k hi hk (rC _) hR
def KE:PP:=.mk 0 0 [] []
def Wf (s:Sg) (ps ss:List Int) (a b:T) (r:AV):Prop:=
 (ft s ps ss [a,b]≠0∧r=.tuple [dA KE,.bool false,.int .i64 (ft s ps ss [a,b])])∨
 (ft s ps ss [a,b]=0∧¬ R (b9 ps ss) a b∧r=.tuple [dA KE,.bool false,.int .i64 0])∨
 (ft s ps ss [a,b]=0∧∃ p,Sh (b9 ps ss) p a b∧r=.tuple [dA p,.bool true,.int .i64 0])
theorem Up.ky {c:Cx} {G0 G:List aa} (h:Up c G0 G) {n:Nat} (he:n≤c.e) (hg:n≤c.g):G.take n=G0.take n:=by
 apply abU
 intro j
 rw [aax,aax]
 split
 ·rename_i hj;exact h.get j (by omega) (by omega)
 ·rfl
theorem mM (n0 s s' s'':Nat) (sz:Option Nat) (env:Env) (H:List aa) (R:AV→List aa→Prop):bV n0 [.c s sz,.t s',.t s''] env H R=aV sz (get env s) H fun x=>vu n0 [x,get env s',get env s''] H R:=af4
theorem IP {Hs G:List aa} {n0:Nat} {u v w:AV} {R:AV→List aa→Prop} (hH:Hs.take n0=G) (hb:aj n0 [u,v,w]=true) (hu:[u,v,w].map AV.ab=[u,v,w]) (hR:R (.tuple [u,v,w]) G):vu n0 [u,v,w] Hs R:=by
 subst hH
 exact ⟨n0,rC _,_,by rw [hu];exact b8 _,hb,hR⟩
theorem wH {H G:List aa} {o:aa} (h:G.take H.length=H):(G.set H.length o).take H.length=H:=by
 rw [abI (rC _),h]
theorem c27 (s:Sg) (ps ss:List Int) (a b:T) (H:List aa):ax Tryz.prog 27 [s.av,dV ps ss,a.av,b.av] H fun r H'=>Wf s ps ss a b r∧H'=H:=by
 refine k27.2.calls rfl ?_
 simp only [k27,aG]
 obtain ⟨q1,q2,q3,q4,q5,q6⟩:=aQ ps ss
 have zf4:∀ n,aj n (List.map AV.ab [AV.int .i64 0,.int .i64 0,.ag,.ag])=true:=fun _=>rfl
 have zf5:List.map AV.ab [AV.int .i64 0,.int .i64 0,.ag,.ag]=[AV.int .i64 0,.int .i64 0,.ag,.ag]:=rfl
 simp +contextual only [aF,q1,q4,bm,zf5,sZ,Nat.reduceEqDiff,Nat.reduceAdd,↓reduceIte,reduceCtorEq]
 have g0:(H++[aa.cells [AV.int .i64 0,.int .i64 0,.ag,.ag]])[H.length]?=some (.cells [.int .i64 0,.int .i64 0,.ag,.ag]):=by simp
 have vS:(H++[aa.cells [AV.int .i64 0,.int .i64 0,.ag,.ag]]).length=H.length + 1:=by simp
 have VL:(H++[aa.cells [AV.int .i64 0,.int .i64 0,.ag,.ag]]).take H.length=H:=by simp
 refine ae (c74 s ps ss [a,b]) ?_
 generalize H++[aa.cells [AV.int .i64 0,.int .i64 0,.ag,.ag]]=H1 at g0 vS VL ⊢
 have ldz:∀ φ,dd (some (.cells [.int .i64 0,.int .i64 0,.ag,.ag])) (some 4) 0 φ=φ (dA KE):=S5 0 0 [] []
 have zb:∀ p b n,aj H.length [dA p,.bool b,.int .i64 n]=true:=fun p b n=>by simp [bP,c9,gJ,B6,ji]
 have zu:∀ p b n,[dA p,AV.bool b,.int .i64 n].map AV.ab=[dA p,.bool b,.int .i64 n]:=fun p b n=>by simp [(aH p).2.2.2.1,pH,oW]
 by_cases h0:ft s ps ss [a,b]=0
 ·have hr:=pQ h0
  have hw:=lF hr.tree
  have hc:=hr.cx (by simp) (by simp) H1.length
  have hd:=AP ps ss (ts:=[a,b]) (by simp) H1
  simp +contextual only [q4,bm,h0,sZ,Nat.reduceEqDiff,Nat.reduceAdd,↓reduceIte]
  refine af (ZT ps ss [a,b] _ (by simp at hw;omega)) ?_
  rintro r G ⟨rfl,rfl⟩
  have a0:=vC (ps:=ps) (ss:=ss) (ts:=[a,b]) (n:=H1.length) (j:=0) (by simp)
  have a1:=vC (ps:=ps) (ss:=ss) (ts:=[a,b]) (n:=H1.length) (j:=1) (by simp)
  have hl:=cS [a,b] 0
  rw [Rh]
  generalize ba [a,b] 0=ks at a0 a1 hl ⊢
  have pr:ks.length=2:=hl
  simp +contextual only [aM,pr,dT,sZ,Nat.reduceEqDiff,Nat.reduceAdd,Nat.reduceLT,↓reduceIte,reduceCtorEq]
  refine ⟨by decide,by decide,af (kW hc a0.1 a1.1 _ hd) ?_⟩
  rintro r G ⟨x,rfl,hx,hU,hD⟩
  rw [a0.2,a1.2] at hx
  have rD:x=true↔R (b9 ps ss) a b:=hx
  have he:(iu ps ss [a,b] H1.length).e=H.length + 1:=vS
  have hg:(iu ps ss [a,b] H1.length).g=H.length + 2:=by show H1.length + 1=_;omega
  have low:∀ G',Up (iu ps ss [a,b] H1.length) G G'→G'[H.length]?=some (.cells [.int .i64 0,.int .i64 0,.ag,.ag])∧G'.take H.length=H:=by
   intro G' hU'
   have SV:=hU.trans hU'
   refine ⟨by rw [SV.get _ (by omega) (by omega),yO (by omega)];exact g0,?_⟩
   rw [SV.ky (n:=H.length) (by omega) (by omega),aaR (by omega),VL]
  have gz:=low G (Up.refl _ _)
  have gz1:=gz.1
  have gzs:=fun o=>yS (a:=o) (aR gz1)
  have nilc:(dA KE).cells=[AV.int .i64 0,.int .i64 0,.al 0 [],.al 0 []]:=rfl
  cases x with
  | false=>
    simp +contextual only [Bool.not_false,gz1,gzs,zf5,KD,mM,ldz,sZ,Nat.reduceEqDiff,Nat.reduceAdd,↓reduceIte,reduceCtorEq]
    refine IP (wH gz.2) (zb _ _ _) (zu _ _ _) ⟨.inr (.inl ⟨h0,fun h=>absurd (rD.2 h) (by simp),rfl⟩),rfl⟩
  | true=>
    simp +contextual only [Bool.not_true,aM,pr,dT,sZ,Nat.reduceEqDiff,Nat.reduceAdd,↓reduceIte,reduceCtorEq]
    refine ⟨by decide,by decide,af (aaD hc a0.1 a1.1 (by rw [a0.2,a1.2];exact rD.1 rfl) _ hD) ?_⟩
    rintro r G2 ⟨p,rfl,hp,SV,C2⟩
    rw [a0.2,a1.2] at hp
    obtain ⟨gy1,gy2⟩:=low G2 SV
    have gys:=fun o=>yS (a:=o) (aR gy1)
    obtain ⟨u1,u2,u3,u4,u5,u6,u7,u8,u9⟩:=aH p
    have lpq:=E3 p
    have Ro:aj (H.length + 1) (dA p).cells=true:=cL (gJ _ _)
    simp +contextual only [gy1,gys,u1,u2,u3,u9,S7,lpq,Ro,mM,sZ,Nat.reduceEqDiff,Nat.reduceAdd,↓reduceIte,reduceCtorEq]
    first | exact IP (wH gy2) (zb _ _ _) (zu _ _ _) ⟨.inr (.inr ⟨h0,p,hp,rfl⟩),rfl⟩ | exact ⟨by omega,IP (wH gy2) (zb _ _ _) (zu _ _ _) ⟨.inr (.inr ⟨h0,p,hp,rfl⟩),rfl⟩⟩
 ·have gs:∀ o,(H1.set H.length o)[H.length]?=some o:=fun o=>yS (by omega)
  simp +contextual only [h0,g0,gs,zf5,KD,mM,ldz,sZ,Nat.reduceEqDiff,Nat.reduceAdd,↓reduceIte,reduceCtorEq]
  refine IP (wH VL) (zb _ _ _) (zu _ _ _) ⟨.inl ⟨h0,rfl⟩,rfl⟩
end Go.aK
end
noncomputable section
set_option maxRecDepth 100000
namespace Go.aK
open Go Go.Proofs Go.eI
def v7 (l:List ot):List AV:=l.map ot.av
theorem E4 (l:List ot):(v7 l).length=l.length:=by simp [v7]
theorem ND (n:Nat) (l:List ot):aj n (v7 l)=true:=by
 rw [a9];intro x hx;obtain ⟨y,_,rfl⟩:=aal.1 hx
 exact y.facts.2.2.2.2.2 n
theorem IQ (o:Nat) (l:List ot):(∀ (own:Nat) (xs:List AV),AV.al o (v7 l)=AV.al own xs→∀ z∈xs,z.cells.length=8)=True:=by
 simp only [eq_iff_iff,iff_true]
 intro own xs e z hz
 cases e
 obtain ⟨y,_,rfl⟩:=aal.1 hz;rfl
theorem idx_eq (e o:Nat) (l:List ot) (k:IntKind) (i:Nat) (φ:AV→Prop):aC e (.al o (v7 l)) (.int k (i:Int)) φ=(i < l.length∧φ (.ai (l.getD i default).av)):=by
 simp only [aC,E4,yP,eq_iff_iff]
 constructor
 ·rintro ⟨_,h,h2⟩;refine ⟨h,?_⟩;simpa [v7,h] using h2
 ·rintro ⟨h,h2⟩;refine ⟨by omega,h,?_⟩;simpa [v7,h] using h2
theorem S8 (e:ot) (H:List aa) (φ:AV→Prop):aV (some 8) (.ai e.av) H φ=φ e.av:=by simp [aV,ot.av,AV.cells]
structure NE (ps:List Int) (e:ot):Prop where
 few:e.cs.length≤1000
 tree:∀ t∈e.a::e.rest,t.tree=true
 ops:∀ t∈e.a::e.rest,zC (fun n=>0≤n∧n < ps.length) t
open Classical in
def zK (ps ss:List Int) (e:ot):Bool:=decide (Rj ps ss e)
theorem aaE (ps ss:List Int) (e:ot) (hv:Va ps ss) (he:NE ps e):Pure Tryz.prog 163 [dV ps ss,e.av] (.bool (zK ps ss e)):=by
 intro H
 refine (ad5 ps ss e hv he.few he.tree he.ops H).mono ?_
 rintro r H' ⟨⟨b,rfl,hb⟩,rfl⟩
 refine ⟨?_,rfl⟩
 congr 1
 rw [abY,hb]
 simp [zK]
theorem aev (ps ss:List Int) (e:ot) (hv:Va ps ss) (he:NE ps e):Pure Tryz.prog 162 [e.av,.ai (dV ps ss)] (.bool (!zK ps ss e)):=by
 refine fun H=>Yn.2.calls rfl ?_
 simp only [Yn,aG]
 obtain ⟨q1,q2,q3,q4,q5,q6⟩:=aQ ps ss
 obtain ⟨e1,e2,e3,e4,e5,e6⟩:=ot.facts e
 simp +contextual only [q4,e1,e4,bm,S8,sZ,Nat.reduceEqDiff,Nat.reduceAdd,↓reduceIte,reduceCtorEq]
 refine ae (aaE ps ss e hv he) ?_
 simp +contextual only [sZ,↓reduceIte,reduceCtorEq]
 exact a8 rfl rfl
def rn {α:Type} (p:α→Bool):List α→Nat→Int
 | [],_=>-1
 | x::r,i=>if p x=true then (i:Int) else rn p r (i + 1)
theorem A4 {α:Type} [Inhabited α] {p:α→Bool} {l:List α} {i:Nat} (h:i < l.length):rn p (l.drop i) i=if p (l.getD i default)=true then (i:Int) else rn p (l.drop (i + 1)) (i + 1):=by
 have e:l.getD i default=l[i]:=by simp [h]
 rw [abr h,rn,e]
theorem aew (ps ss:List Int) (l:List ot) (hv:Va ps ss) (he:∀ e∈l,NE ps e):Pure Tryz.prog 161 [.al 0 (v7 l),.fn (.func 162) [] [.ai (dV ps ss)]] (.int .i64 (rn (fun e=>!zK ps ss e) l 0)):=by
 refine fun H=>Pv.2.calls rfl ?_
 simp only [Pv,aG]
 simp +contextual only [E4,sZ,Nat.reduceEqDiff,Nat.reduceAdd,↓reduceIte,reduceCtorEq]
 intro hl
 refine aD l.length (fun i=>rn (fun e=>!zK ps ss e) (l.drop i) i=rn (fun e=>!zK ps ss e) l 0) (fun i=>[(0,.al 0 (v7 l)),(1,.fn (.func 162) [] [.ai (dV ps ss)]),(7,.int .i64 l.length),(8,.int .i64 i)]) (fun _=>H) ⟨rfl,aB _ _ _⟩ fun i hi hI=>?_
 obtain ⟨e1,e2,e3,e4,e5,e6⟩:=ot.facts (l.getD i default)
 simp +contextual only [IQ,idx_eq,S8,e4,sZ,Nat.reduceEqDiff,Nat.reduceAdd,↓reduceIte,reduceCtorEq]
 refine ⟨fun aS=>?_,fun jw=>?_⟩
 ·have aS:=bN aS
  have hm:l.getD i default∈l:=by
   rw [rB,Oq aS];exact acf aS
  rw [A4 aS] at hI
  refine ⟨aS,ae (aev ps ss _ hv (he _ hm)) ?_⟩
  cases hb:zK ps ss (l.getD i default) with
  | false=>
    rw [if_pos (by rw [hb];rfl)] at hI
    simp +contextual only [Bool.not_false,sZ,Nat.reduceEqDiff,↓reduceIte,reduceCtorEq]
    exact a8 rfl (by rw [← hI])
  | true=>
    rw [if_neg (by rw [hb];simp)] at hI
    simp +contextual only [Bool.not_true,sZ,Nat.reduceEqDiff,↓reduceIte,reduceCtorEq]
    exact ⟨i + 1,⟨aS,hI⟩,by omega,aE (by rw [au i (by omega)]) rfl⟩
 ·rw [abu (dh jw)] at hI
  exact a8 rfl (by rw [← hI];rfl)
structure Ty where
 s:Sg
 es:List ot
deriving Inhabited
def Ty.av (t:Ty):AV:=.agg [.al 0 (strs t.s.aY),.al 0 (qg t.s.ops),.al 0 (v7 t.es)]
theorem Ty.facts (t:Ty):t.av.val=true∧t.av.cells.length=3∧t.av.cells.all AV.one=true∧t.av.ab=t.av∧t.av.drop=t.av∧∀ n,t.av.bc n=true:=
 ⟨rfl,rfl,rfl,rfl,rfl,fun n=>by simp [Ty.av,AV.bc,aj,yf,ye,ND]⟩
theorem NF (t:Ty) (φ:AV→Prop):ap 0 (some 2) (.ai t.av) φ=φ (.ai t.s.av):=by simp [ap,apart,Ty.av,Sg.av,AV.cells]
theorem fY2 (t:Ty) (φ:AV→Prop):ap 2 none (.ai t.av) φ=φ (.ai (.al 0 (v7 t.es))):=by simp [ap,apart,Ty.av,AV.cells,AV.one]
theorem fS1 (s:Sg) (φ:AV→Prop):ap 1 none (.ai s.av) φ=φ (.ai (.al 0 (qg s.ops))):=by simp [ap,apart,Sg.av,AV.cells,AV.one]
theorem nX (t:Ty) (H:List aa) (φ:AV→Prop):aV (some 3) (.ai t.av) H φ=φ t.av:=by simp [aV,Ty.av,AV.cells]
def sU (t:Ty) (ps ss:List Int):Int:=rn (fun e=>!zK ps ss e) t.es 0
theorem c89 (t:Ty) (ps ss:List Int) (hv:Va ps ss) (he:∀ e∈t.es,NE ps e):Pure Tryz.prog 89 [t.av,dV ps ss] (.int .i64 (sU t ps ss)):=by
 refine fun H=>k89.2.calls rfl ?_
 simp only [k89,aG]
 obtain ⟨q1,q2,q3,q4,q5,q6⟩:=aQ ps ss
 obtain ⟨e1,e2,e3,e4,e5,e6⟩:=Ty.facts t
 simp +contextual only [q1,e1,fY2,sZ,Nat.reduceEqDiff,Nat.reduceAdd,↓reduceIte,reduceCtorEq]
 refine ae (aew ps ss t.es hv he) ?_
 simp +contextual only [sZ,↓reduceIte,reduceCtorEq]
 exact a8 rfl rfl
end Go.aK
end
noncomputable section
set_option maxRecDepth 100000
set_option maxHeartbeats 0
namespace Go.aK
open Go Go.Proofs
def S9:=aG Tryz.call112 Tryz.func112 Tryz.ntmps112 [(0,0,1),(8,0,3001)] [(0,[1,2,3,4,8]),(1,[1,2,3,8,9]),(2,[1,2,3,8,10]),(3,[2,3,8,10,24,25,26]),(4,[2,3,8,10,24,25,26,27]),(5,[2,3,8,10,11,12,24,25,26]),(6,[2,3,8,10,24,25,26]),(7,[2,3,8,10,24,25,26]),(8,[8])] [(6,(.take 0 true (.take 1 true (.take 2 true (.take 6 true (.take 7 true (.take 8 true (.take 9 true (.take 10 true (.take 11 true (.take 12 true (.take 13 true (.take 14 true (.take 3 false (.take 5 false (.br 4 (.br 15 (.take 16 true (.br 17 .done .nil)) .nil) (.br 15 (.take 4 true (.take 16 true (.br 17 .done .nil))) .nil)))))))))))))))))]
end Go.aK
end
noncomputable section
set_option maxRecDepth 100000
namespace Go.aK
open Go Go.Proofs Go.eI
def jY:List Int→List Int→List Int→List Int
 | l,i::r,x::s=>jY (l.set i.toNat x) r s
 | l,_,_=>l
def rp (n:Nat) (ops pl:List Int):List Int:=jY (List.replicate n 255) ops pl
def uw (n:Nat) (ops st:List Int):List Int:=jY (List.replicate n 1) ops st
theorem yr:∀ (l r s:List Int),(jY l r s).length=l.length
 | l,[],_=>by cases l <;> rfl
 | l,_::_,[]=>rfl
 | l,i::r,x::s=>by rw [jY,yr];simp
theorem aex (t:Ty) (ops pl st:List Int) {vo vp vs:AV} (ho:IL vo ops) (hp:IL vp pl) (hs:IL vs st) (vS:pl.length=ops.length) (pr:st.length=ops.length) (hr:∀ i∈ops,0≤i∧i < t.s.ops.length) (hn:t.s.ops.length≤1000000000) (jy:ops.length≤1000000000):Pure Tryz.prog 112 [t.av,vo,vp,vs] (dV (rp t.s.ops.length ops pl) (uw t.s.ops.length ops st)):=by
 refine fun H=>S9.2.calls rfl ?_
 simp only [S9,aG]
 obtain ⟨e1,e2,e3,e4,e5,e6⟩:=Ty.facts t
 obtain ⟨a1,a2,a3,a4⟩:=ho.one
 obtain ⟨b1,b2,b3,b4⟩:=hp.one
 obtain ⟨c1,c2,c3,c4⟩:=hs.one
 simp +contextual only [e1,NF,fS1,yd,sZ,Nat.reduceEqDiff,Nat.reduceAdd,↓reduceIte,reduceCtorEq]
 intro _
 refine af (VS 0 255 t.s.ops.length hn _) ?_
 rintro r G ⟨rfl,rfl⟩
 simp +contextual only [sZ,Nat.reduceEqDiff,Nat.reduceAdd,↓reduceIte]
 refine af (VS 0 1 t.s.ops.length hn _) ?_
 rintro r G ⟨rfl,rfl⟩
 simp +contextual only [sZ,Nat.reduceEqDiff,Nat.reduceAdd,↓reduceIte]
 obtain ⟨n,Rq⟩:∃ n,n=t.s.ops.length:=⟨_,rfl⟩
 rw [← Rq] at hn hr ⊢
 have va:∀ a b c d,(AV.aZ a b c d).val=true:=fun _ _ _ _=>rfl
 have vc:∀ a b c d,(AV.aZ a b c d).cells=[.aZ a b c d]:=fun _ _ _ _=>rfl
 have vo':∀ a b c d,(AV.aZ a b c d).one=true:=fun _ _ _ _=>rfl
 have vd:∀ a b c d,(AV.aZ a b c d).drop=.aZ a b c d:=fun _ _ _ _=>rfl
 have bdA:∀ (a1 b1 c1 d1 a2 b2 c2 d2:Nat) (φ:AV→Prop),cH [AV.ag,AV.ag] [(0,1,.aZ a1 b1 c1 d1),(1,1,.aZ a2 b2 c2 d2)] φ=φ (.agg [.aZ a1 b1 c1 d1,.aZ a2 b2 c2 d2]):=by
  intro a1 b1 c1 d1 a2 b2 c2 d2 φ
  simp only [cH,iB,eq_iff_iff]
  constructor
  ·rintro ⟨_,_,_,_,_,_,h⟩;exact h
  ·exact fun h=>⟨rfl,rfl,by simp,rfl,rfl,by simp [ah,AV.cells],h⟩
 have g3:∀ (a b c d:aa),[a,b,c,d][3]?=some d:=fun _ _ _ _=>rfl
 have sp2:∀ (a b x y:AV),ah [a,b] 0 [x,y]=[x,y]:=fun _ _ _ _=>rfl
 have lt1:∀ m:Nat,decide (m + 1 < m + 3 + 1)=true:=fun m=>by simp
 have lt2:∀ m:Nat,decide (m + 2 < m + 3 + 1)=true:=fun m=>by simp
 let S:List Int→List Int→List aa:=fun P Q=>H++[.cells [.ag,.ag],cD P,cD Q,.cells [.aZ (H.length + 1) 0 n n,.aZ (H.length + 2) 0 n n]]
 simp +contextual only [bdA,vo',g3,sp2,s3,lt1,lt2,aco,a2,ho.aO,ho.len (by omega),sZ,Nat.reduceEqDiff,Nat.reduceAdd,↓reduceIte]
 refine aJ ops.length (fun j (s:List Int×List Int)=>s.1.length=n∧s.2.length=n∧jY s.1 (ops.drop j) (pl.drop j)=rp n ops pl∧jY s.2 (ops.drop j) (st.drop j)=uw n ops st)
  (fun j s=>[(2,vp),(3,vs),(8,.ptr H.length 0),(10,.ptr (H.length + 3) 0),(24,vo),(25,.int .i64 ops.length),(26,.int .i64 j)]) (fun j s=>S s.1 s.2) (List.replicate n 255,List.replicate n 1) ⟨⟨by simp,by simp,rfl,rfl⟩,aB _ _ _⟩ fun j s hj hI=>?_
 obtain ⟨P,Q⟩:=s
 obtain ⟨hP,hQ,Wg,hI2⟩:=hI
 simp only at hP hQ Wg hI2
 by_cases hjo:(j:Int) < ops.length
 ·have mU:j < ops.length:=by omega
  have hri:=hr _ (aT mU)
  obtain ⟨x,hx⟩:=abV hri.1
  have hxn:x < n:=by omega
  have hxP:x < P.length:=by omega
  have hxQ:x < Q.length:=by omega
  simp +contextual only [S,hjo,decide_true,b2,c2,ho.lens,ho.idx,hp.lens,hp.idx,hs.lens,hs.idx,yP,hx,iV,g3,He hxP,He hxQ,sZ,Nat.reduceEqDiff,Nat.reduceAdd,Nat.reduceLT,↓reduceIte,reduceCtorEq]
  have stp:∀ (P q:List Int),q.length=ops.length→jY P (ops.drop j) (q.drop j)=jY (P.set x (q.getD j 0)) (ops.drop (j + 1)) (q.drop (j + 1)):=by
   intro P q hq
   have e1:ops.drop j=ops.getD j 0::ops.drop (j + 1):=by rw [abr mU];simp [mU]
   have hjq:j < q.length:=by omega
   have e2:q.drop j=q.getD j 0::q.drop (j + 1):=by rw [abr hjq];simp [hjq]
   rw [e1,e2,jY,hx,yP]
  rw [stp P pl vS] at Wg
  rw [stp Q st pr] at hI2
  have hgo:∃ (j':Nat) (t:List Int×List Int),(j'≤ops.length∧t.1.length=n∧t.2.length=n∧jY t.1 (ops.drop j') (pl.drop j')=rp n ops pl∧jY t.2 (ops.drop j') (st.drop j')=uw n ops st)∧ops.length - j' < ops.length - j∧
   sle H.length [(2,vp),(3,vs),(8,.ptr H.length 0),(10,.ptr (H.length + 3) 0),(24,vo),(25,.int .i64 ops.length),(26,.int .i64 (IntKind.i64.wrap (j + 1)))]
    (H++[.cells [.ag,.ag],cD (P.set x (pl.getD j 0)),cD (Q.set x (st.getD j 0)),.cells [.aZ (H.length + 1) 0 n n,.aZ (H.length + 2) 0 n n]])
    [(2,vp),(3,vs),(8,.ptr H.length 0),(10,.ptr (H.length + 3) 0),(24,vo),(25,.int .i64 ops.length),(26,.int .i64 j')]
    (H++[.cells [.ag,.ag],cD t.1,cD t.2,.cells [.aZ (H.length + 1) 0 n n,.aZ (H.length + 2) 0 n n]]):=
   ⟨j + 1,(P.set x (pl.getD j 0),Q.set x (st.getD j 0)),⟨mU,by simp [hP],by simp [hQ],Wg,hI2⟩,by omega,aE (by rw [au j (by omega)]) rfl⟩
  repeat' apply hV
  all_goals first | omega | exact hgo
 ·have V8:j=ops.length:=by omega
  subst V8
  rw [List.drop_length] at Wg hI2
  have eP:P=rp n ops pl:=by rw [← Wg];cases P <;> rfl
  have eQ:Q=uw n ops st:=by rw [← hI2];cases Q <;> rfl
  simp +contextual only [ML,S,hjo,decide_false,g3,vd,sZ,Nat.reduceEqDiff,↓reduceIte]
  have f1:(H++[aa.cells [AV.ag,.ag],cD P,cD Q,.cells [.aZ (H.length + 1) 0 n n,.aZ (H.length + 2) 0 n n]])[H.length + 1]?=some (cD P):=by simp
  have f2:((H++[aa.cells [AV.ag,.ag],cD P,cD Q,.cells [.aZ (H.length + 1) 0 n n,.aZ (H.length + 2) 0 n n]]).set (H.length + 1) .dead)[H.length + 2]?=some (cD Q):=by rw [yQ (by omega)];simp
  have fz1:∀ {id n:Nat} {l:List Int} {H:List aa} (h:H[id]?=some (cD l)) (hn:l.length=n) {K:AV→List aa→Prop} (hK:K (.al 0 (ints l)) (H.set id .dead)),dZ 1 (.aZ id 0 n n) H K:=fun h hn K hK=>by subst hn;exact EK h hK
  refine fz1 f1 hP ?_
  refine fz1 f2 hQ ?_
  have es:((H++[aa.cells [AV.ag,.ag],cD P,cD Q,.cells [.aZ (H.length + 1) 0 n n,.aZ (H.length + 2) 0 n n]]).set (H.length + 1) .dead).set (H.length + 2) .dead=H++[aa.cells [AV.ag,.ag],.dead,.dead,.cells [.aZ (H.length + 1) 0 n n,.aZ (H.length + 2) 0 n n]]:=by simp []
  rw [es]
  have fb:∀ m,aj m [AV.al 0 (ints P),.al 0 (ints Q)]=true:=fun m=>by simp [bP,c9,bW,bf]
  simp +contextual only [fb,sp2,aco,sZ,Nat.reduceEqDiff,Nat.reduceAdd,↓reduceIte,reduceCtorEq]
  rw [eP,eQ]
  exact vv ((aQ _ _).2.2.2.2.2 _) rfl
end Go.aK
end
noncomputable section
set_option maxRecDepth 100000
namespace Go.aK
open Go Go.Proofs Go.eI
def jl (vals:List Int):Nat→List (List Int)
 | 0=>[[]]
 | n + 1=>vals.flatMap fun x=>(jl vals n).map (x::·)
def fw {σ:Type} (step:σ→List Int→σ×Bool):List (List Int)→σ→σ×Bool
 | [],s=>(s,true)
 | l::r,s=>if (step s l).2=true then fw step r (step s l).1 else ((step s l).1,false)
theorem yu {σ:Type} {step:σ→List Int→σ×Bool}:∀ (a b:List (List Int)) (s:σ),fw step (a++b) s=if (fw step a s).2=true then fw step b (fw step a s).1 else ((fw step a s).1,false)
 | [],b,s=>by simp [fw]
 | x::a,b,s=>by
   rw [List.cons_append,fw,fw]
   split
   ·exact yu a b _
   ·simp
def dC (lo:Int) (n:Nat):List Int:=(List.range n).map fun i=>lo + (i:Nat)
theorem Hv (lo:Int) (n:Nat):dC lo (n + 1)=dC lo n++[lo + (n:Nat)]:=by simp [dC,acJ]
theorem A5 {lo x:Int} {n:Nat}:x∈dC lo n↔lo≤x∧x < lo + n:=by
 simp only [dC,aal,abK]
 constructor
 ·rintro ⟨j,h,rfl⟩;omega
 ·intro h;exact ⟨(x - lo).toNat,by omega,by omega⟩
def IS (n:Nat) (id:Nat) (lo hi:Int) (q:Nat):AV:=.fn (.func 206) [] [.ai (.int .i64 n),.ai (.ou id),.ai (.int .i64 lo),.ai (.int .i64 hi),.ptr q 0]
structure YS {σ:Type} (n:Nat) (vals:List Int) (id:Nat) (St:σ→List aa) (Good:σ→Prop) (step:σ→List Int→σ×Bool):Prop where
 y:∀ l s X,l.length=n→(∀ x∈l,x∈vals)→Good s→kI Tryz.prog id [bu l] (St s++X) fun r H'=>r=.bool (step s l).2∧H'=St (step s l).1++X
 V0:∀ l s,Good s→(step s l).2=true→Good (step s l).1
 len:∀ s s',(St s).length=(St s').length
theorem A6 {σ:Type} {n:Nat} {vals:List Int} {id:Nat} {St:σ→List aa} {Good:σ→Prop} {step:σ→List Int→σ×Bool} (h:YS n vals id St Good step):∀ (a:List (List Int)) (s:σ),Good s→(fw step a s).2=true→Good (fw step a s).1
 | [],s,hs,_=>hs
 | l::r,s,hs,hr=>by
   rw [fw] at hr ⊢
   split at hr
   ·rename_i h1
    rw [if_pos h1]
    exact A6 h r _ (h.V0 l s hs h1) hr
   ·simp at hr
theorem Rr (l:List Int) (h:l≠[]):bu l=.al 0 (ints l):=by cases l with
 | nil=>exact absurd rfl h
 | cons a r=>rfl
theorem aaG (l:List Int) (hb:l.length * 8≤140737488355328):Pure Tryz.prog 118 [bu l] (.al 1 (ints l)):=by
 intro H
 cases l with
 | nil=>exact Al H
 | cons a r=>exact xE 0 (ints (a::r)) H (of_eq_true (nF _)) (by rw [aw];exact hb) (bf _ _)
theorem aey {σ:Type} {n:Nat} {lo hi:Int} (vL:-1000000≤lo∧lo≤1000000) (Lj:-1000000≤hi∧hi≤1000000) (hn:n≤1000000) {id:Nat} {St:σ→List aa} {Good:σ→Prop} {step:σ→List Int→σ×Bool} (hy:YS n (dC lo (hi + 1 - lo).toNat) id St Good step) (q:Nat) :
 ∀ (r:Nat) (l:List Int) (s:σ) (X:List aa),l.length + r=n→(∀ x∈l,x∈dC lo (hi + 1 - lo).toNat)→Good s→(∀ s',(St s'++X)[q]?=some (.cells [IS n id lo hi q]))→
  ax Tryz.prog 206 [bu l,.ai (.int .i64 n),.ai (.ou id),.ai (.int .i64 lo),.ai (.int .i64 hi),.ptr q 0] (St s++X) fun rr H'=>rr=.bool (fw step ((jl (dC lo (hi + 1 - lo).toNat) r).map (l++·)) s).2∧H'=St (fw step ((jl (dC lo (hi + 1 - lo).toNat) r).map (l++·)) s).1++X:=by
 intro r
 induction r with
 | zero=>
   intro l s X hl hm hs hq
   refine PK.2.calls rfl ?_
   simp only [PK,aG]
   have ik:IL (bu l) l:=.inl rfl
   obtain ⟨a1,a2,a3,a4,a5⟩:=aI l
   have e1:((l.length:Int)=(n:Int))=True:=eq_true (by omega)
   have lyld:∀ (H:List aa) (φ:AV→Prop),aV none (.ai (.ou id)) H φ=φ (.ou id):=fun H φ=>by simp [aV,AV.one,AV.ab]
   have e2:fw step ((jl (dC lo (hi + 1 - lo).toNat) 0).map (l++·)) s=step s l:=by
    simp only [jl,List.map_cons,List.map_nil,abQ,fw]
    cases hb:(step s l).2 with
    | true=>rw [if_pos rfl,← hb]
    | false=>rw [if_neg (by simp),← hb]
   rw [e2]
   simp +contextual only [a2,ik.aO,ik.len (by omega),e1,decide_true,lyld,IN,sZ,Nat.reduceEqDiff,Nat.reduceAdd,↓reduceIte,reduceCtorEq]
   refine AY (hy.y l s X (by omega) hm hs) ?_
   rintro rr H' ⟨rfl,rfl⟩
   simp +contextual only [sZ,↓reduceIte,reduceCtorEq]
   refine aX (St s++X).length (rC _) (by rw [aA,if_pos rfl];rfl) ?_
   rw [aA,if_pos rfl]
   exact ⟨rfl,by rw [aaw (by rw [aaf,aaf,hy.len _ s];exact rC _)]⟩
 | succ r ih=>
   intro l s X hl hm hs hq
   refine PK.2.calls rfl ?_
   simp only [PK,aG]
   have ik:IL (bu l) l:=.inl rfl
   obtain ⟨a1,a2,a3,a4,a5⟩:=aI l
   have e1:((l.length:Int)=(n:Int))=False:=eq_false (by omega)
   have si:∀ (b:Bool) (s':σ),bV (St s++X).length [.t 7] [(7,.bool b)] (St s'++X) fun rr H'=>rr=.bool b∧H'=St s'++X:=by
    intro b s'
    refine aX (St s++X).length (rC _) (by rw [aA,if_pos rfl];rfl) ?_
    rw [aA,if_pos rfl]
    exact ⟨rfl,by rw [aaw (by rw [aaf,aaf,hy.len _ s];exact rC _)]⟩
   obtain ⟨m,WN⟩:∃ m,m=(hi + 1 - lo).toNat:=⟨_,rfl⟩
   rw [← WN] at ih hm ⊢
   obtain ⟨F,hF⟩:∃ F:Nat→List (List Int),F=fun k=>(dC lo k).flatMap fun x=>(jl (dC lo m) r).map fun y=>l++x::y:=⟨_,rfl⟩
   have hF0:F 0=[]:=by rw [hF];rfl
   have hFs:∀ k,F (k + 1)=F k++(jl (dC lo m) r).map ((l++[lo + (k:Nat)])++·):=by
    intro k
    rw [hF]
    simp only [Hv,acY,List.flatMap_cons,afB,abQ,abb,List.cons_append,List.nil_append]
   have hFm:(jl (dC lo m) (r + 1)).map (l++·)=F m:=by
    rw [hF,jl,List.map_flatMap]
    congr 1
    funext x
    rw [acs];rfl
   rw [hFm]
   simp +contextual only [a2,ik.aO,ik.len (by omega),e1,decide_false,sZ,Nat.reduceEqDiff,Nat.reduceAdd,↓reduceIte,reduceCtorEq]
   refine aJ m (fun k (_:Unit)=>(fw step (F k) s).2=true) (fun k _=>[(0,bu l),(4,.ai (.int .i64 hi)),(5,.ptr q 0),(8,.int .i64 (lo + (k:Nat)))]) (fun k _=>St (fw step (F k) s).1++X) () ⟨by rw [hF0];rfl,aE (by simp) (by rw [hF0];rfl)⟩ fun k _ hk hI=>?_
   have hg:=A6 hy (F k) s hs hI
   generalize R2:(fw step (F k) s).1=s1 at hg ⊢
   by_cases hkm:lo + (k:Int)≤hi
   ·have FY:k < m:=by omega
    have hql:=hq s1
    simp +contextual only [hkm,decide_true,a2,sZ,Nat.reduceEqDiff,↓reduceIte,reduceCtorEq]
    refine ay (aaG l (by omega)) ?_
    have jM:rE 1 [AV.int .i64 (lo + (k:Int))]:=of_eq_true (nF [_])
    have efn:(IS n id lo hi q).ab=.fn (.func 206) [] [.ai (.int .i64 n),.ai (.ou id),.ai (.int .i64 lo),.ai (.int .i64 hi),.ptr q 0]:=rfl
    have ea:ints l++[AV.int .i64 (lo + (k:Int))]=ints (l++[lo + (k:Int)]):=by simp [ints]
    have ek:AV.al 0 (ints (l++[lo + (k:Int)]))=bu (l++[lo + (k:Int)]):=by rw [Rr _ (by simp)]
    simp +contextual only [hql,efn,aw,jM,ea,ek,Ir,sZ,Nat.reduceEqDiff,Nat.reduceAdd,Nat.reduceLT,↓reduceIte,reduceCtorEq]
    refine ⟨by omega,af (ih (l++[lo + (k:Int)]) s1 X (by simp;omega) (fun x hx=>?_) hg hq) ?_⟩
    ·rcases abJ.1 hx with h | h
     ·exact hm x h
     ·simp only [aai,abD,or_false] at h
      subst h
      exact A5.2 ⟨by omega,by omega⟩
    rintro rr H' ⟨rfl,rfl⟩
    have bO:fw step (F (k + 1)) s=fw step ((jl (dC lo m) r).map ((l++[lo + (k:Int)])++·)) s1:=by
     rw [hFs,yu,if_pos hI,R2]
    cases hb:(fw step ((jl (dC lo m) r).map ((l++[lo + (k:Int)])++·)) s1).2 with
    | true=>
      simp +contextual only [Bool.not_true,sZ,Nat.reduceEqDiff,↓reduceIte,reduceCtorEq]
      refine ⟨k + 1,(),⟨FY,by rw [bO];exact hb⟩,by omega,aE ?_ (by rw [bO])⟩
      rw [cr _ (by omega)]
      have:lo + (k:Int) + 1=lo + ((k + 1:Nat):Int):=by omega
      rw [this]
    | false=>
      simp +contextual only [Bool.not_false,sZ,Nat.reduceEqDiff,↓reduceIte,reduceCtorEq]
      have iU:fw step (F m) s=((fw step ((jl (dC lo m) r).map ((l++[lo + (k:Int)])++·)) s1).1,false):=by
       have e:∃ R,F m=F (k + 1)++R:=by
        have:∀ d,∃ R,F (k + 1 + d)=F (k + 1)++R:=by
         intro d
         induction d with
         | zero=>exact ⟨[],by simp⟩
         | succ d ihd=>
           obtain ⟨R,hR⟩:=ihd
           exact ⟨R++_,by rw [show k + 1 + (d + 1)=(k + 1 + d) + 1 by omega,hFs,hR,abb]⟩
        obtain ⟨R,hR⟩:=this (m - (k + 1))
        exact ⟨R,by rw [← hR];congr 1;omega⟩
       obtain ⟨R,hR⟩:=e
       rw [hR,yu,bO,hb,if_neg (by simp)]
      rw [iU]
      exact si false _
   ·have hke:k=m:=by omega
    simp +contextual only [hkm,decide_false,sZ,Nat.reduceEqDiff,↓reduceIte,reduceCtorEq]
    rw [← hke,hI,R2]
    exact si true s1
theorem aaH {σ:Type} {n:Nat} {lo hi:Int} (vL:-1000000≤lo∧lo≤1000000) (Lj:-1000000≤hi∧hi≤1000000) (hn:n≤1000000) {id:Nat} {St:σ→List aa} {Good:σ→Prop} {step:σ→List Int→σ×Bool} (hy:YS n (dC lo (hi + 1 - lo).toNat) id St Good step) (bn:∀ s,id < (St s).length) (s:σ) (hs:Good s) :
 ax Tryz.prog 205 [.ou id,.ai (.int .i64 n),.ai (.int .i64 lo),.ai (.int .i64 hi)] (St s) fun rr H'=>rr=.tuple []∧H'=St (fw step (jl (dC lo (hi + 1 - lo).toNat) n) s).1:=by
 refine YO.2.calls rfl ?_
 simp only [YO,aG]
 have ajk:=bn s
 have vy:(AV.ou id).val=true:=rfl
 have cy:(AV.ou id).cells=[.ou id]:=rfl
 have oy:(AV.ou id).one=true:=rfl
 have by':∀ m,(AV.ou id).bc m=decide (id < m):=fun m=>by simp [AV.bc]
 have d1:decide (id < (St s).length + 1)=true:=decide_eq_true (by omega)
 have d2':decide ((St s).length < (St s).length + 1)=true:=decide_eq_true (by omega)
 have efn:(IS n id lo hi (St s).length).ab=.fn (.func 206) [] [.ai (.int .i64 n),.ai (.ou id),.ai (.int .i64 lo),.ai (.int .i64 hi),.ptr (St s).length 0]:=rfl
 simp +contextual only [vy,by',d1,d2',aco,sp1,sZ,Nat.reduceEqDiff,Nat.reduceAdd,Nat.reduceLT,↓reduceIte,reduceCtorEq]
 have h:=aey vL Lj hn hy (St s).length n [] s [.cells [IS n id lo hi (St s).length]] (by simp) (fun x hx=>by cases hx) hs (fun s'=>by rw [← hy.len s' s];simp)
 have em:(jl (dC lo (hi + 1 - lo).toNat) n).map ([]++·)=jl (dC lo (hi + 1 - lo).toNat) n:=by simp
 rw [em] at h
 refine af h ?_
 rintro rr H' ⟨rfl,rfl⟩
 simp +contextual only [sZ,reduceCtorEq]
 refine ⟨(St s).length,rC _,[],trivial,rfl,rfl,?_⟩
 rw [hy.len s _,adH]
theorem aaI (n:Nat) (lo hi:Int):Pure Tryz.prog 166 [.int .i64 n,.int .i64 lo,.int .i64 hi] (.fn (.func 205) [] [.ai (.int .i64 n),.ai (.int .i64 lo),.ai (.int .i64 hi)]):=by
 refine fun H=>Yp.2.calls rfl ?_
 simp only [Yp,aG]
 simp +contextual only [sZ,Nat.reduceEqDiff,Nat.reduceAdd,↓reduceIte,reduceCtorEq]
 exact a8 rfl rfl
end Go.aK
end
noncomputable section
set_option maxRecDepth 100000
namespace Go.aK
open Go Go.Proofs Go.eI
theorem aez (x:Int) (r:List Int) (hl:r.length≤1000000000):Pure Tryz.prog 207 [.al 0 (ints (x::r))] (.int .i64 (r.foldl max x)):=by
 refine fun H=>YP.2.calls rfl ?_
 simp only [YP,aG]
 have ix:IL (.al 0 (ints (x::r))) (x::r):=.inr rfl
 have n1:(((x::r).length:Int) < 1)=False:=eq_false (by simp;omega)
 have g0':(x::r).getD (0:Int).toNat 0=x:=rfl
 have ll:(x::r).length≤1000000001:=by simp;omega
 generalize fx:x::r=xs at *
 have dJ:0 < xs.length:=by rw [← fx];simp
 simp +contextual only [ix.aO,ix.len (by omega),n1,decide_false,ix.lens,ix.idx,g0',sZ,Nat.reduceEqDiff,Nat.reduceAdd,↓reduceIte,reduceCtorEq]
 refine ⟨by omega,?_⟩
 have hsplit:∀ j,j≤r.length→(r.take j).foldl max x=((xs.take (j + 1)).drop 1).foldl max x:=by intro j _;rw [← fx];simp
 refine aD r.length (fun j=>True) (fun j=>[(0,.al 0 (ints xs)),(3,.int .i64 ((r.take j).foldl max x)),(4,.int .i64 ((j + 1:Nat):Int))]) (fun _=>H) ⟨trivial,aB _ _ _⟩ fun j hj _=>?_
 have HU:xs.length=r.length + 1:=by rw [← fx];simp
 by_cases hjr:j < r.length
 ·have n2:(((j + 1:Nat):Int) < xs.length)=True:=eq_true (by omega)
  have gj:xs.getD (j + 1) 0=r.getD j 0:=by rw [← fx];simp
  have tk:(r.take (j + 1)).foldl max x=max ((r.take j).foldl max x) (r.getD j 0):=by
   rw [abT hjr,List.foldl_append]
   simp [hjr]
  simp +contextual only [ix.aO,ix.len (by omega),n2,decide_true,ix.lens,ix.idx,yP,gj,sZ,Nat.reduceEqDiff,↓reduceIte,reduceCtorEq]
  exact ⟨by omega,j + 1,hjr,by omega,aE (by rw [cr _ (by omega),tk];rfl) rfl⟩
 ·have e:j=r.length:=by omega
  subst e
  have n2:(((r.length + 1:Nat):Int) < xs.length)=False:=eq_false (by omega)
  simp +contextual only [ix.aO,ix.len (by omega),n2,decide_false,sZ,Nat.reduceEqDiff,↓reduceIte,reduceCtorEq]
  exact a8 rfl (by rw [abp])
theorem aeB (l:List Int) {v:AV} (h:IL v l) (hl:l.length≤1000000000) (y:Int):Pure Tryz.prog 111 [v,.int .i64 y] (.int .i64 (rn (fun z=>decide (y=z)) l 0)):=by
 refine fun H=>XP.2.calls rfl ?_
 simp only [XP,aG]
 obtain ⟨a1,a2,a3,a4⟩:=h.one
 simp +contextual only [a2,h.aO,h.len (by omega),sZ,Nat.reduceEqDiff,Nat.reduceAdd,↓reduceIte,reduceCtorEq]
 refine aD l.length (fun i=>rn (fun z=>decide (y=z)) (l.drop i) i=rn (fun z=>decide (y=z)) l 0) (fun i=>[(0,v),(1,.int .i64 y),(7,.int .i64 l.length),(8,.int .i64 i)]) (fun _=>H) ⟨rfl,aB _ _ _⟩ fun i hi hI=>?_
 by_cases y8:i < l.length
 ·have n1:((i:Int) < l.length)=True:=eq_true (by omega)
  rw [A4 y8] at hI
  have egd:l.getD i default=l.getD i 0:=by simp [y8]
  rw [egd] at hI
  simp +contextual only [n1,decide_true,a2,h.lens,h.idx,yP,sZ,Nat.reduceEqDiff,↓reduceIte,reduceCtorEq]
  refine ⟨by omega,fun he=>?_,fun dJ=>?_⟩
  ·rw [if_pos (by simpa using he)] at hI
   exact a8 rfl (by rw [← hI])
  ·rw [if_neg (by simpa using dJ)] at hI
   exact ⟨i + 1,⟨y8,hI⟩,by omega,aE (by rw [au i (by omega)]) rfl⟩
 ·have n1:((i:Int) < l.length)=False:=eq_false (by omega)
  rw [abu (by omega)] at hI
  simp +contextual only [n1,decide_false,sZ,Nat.reduceEqDiff,↓reduceIte,reduceCtorEq]
  exact a8 rfl (by rw [← hI];rfl)
theorem IT {α:Type} {p:α→Bool}:∀ (l:List α) (i:Nat),0≤rn p l i↔∃ x∈l,p x=true
 | [],i=>by simp [rn]
 | x::r,i=>by
   rw [rn]
   by_cases h:p x=true
   ·rw [if_pos h];exact ⟨fun _=>⟨x,by simp,h⟩,fun _=>by omega⟩
   ·rw [if_neg h,IT r (i + 1)]
    simp [h]
theorem aeC (l:List Int) {v:AV} (h:IL v l) (hl:l.length≤1000000000) (y:Int):Pure Tryz.prog 208 [v,.int .i64 y] (.bool (decide (y∈l))):=by
 refine fun H=>YQ.2.calls rfl ?_
 simp only [YQ,aG]
 obtain ⟨a1,a2,a3,a4⟩:=h.one
 simp +contextual only [a2,sZ,Nat.reduceEqDiff,Nat.reduceAdd,↓reduceIte,reduceCtorEq]
 refine ae (aeB l h hl y) ?_
 simp +contextual only [sZ,↓reduceIte,reduceCtorEq]
 refine a8 rfl ?_
 congr 1
 rw [decide_eq_decide,IT]
 simp
def E5 (l:List Int):Int:=l.foldl max (-1)
def pg (l:List Int):Bool:=(List.range (E5 l + 1).toNat).all fun j=>decide ((j:Int)∈l)
theorem foldl_max:∀ (l:List Int) (x b:Int),x≤b→(∀ y∈l,y≤b)→x≤l.foldl max x∧l.foldl max x≤b
 | [],x,b,h,_=>⟨afW _,h⟩
 | y::r,x,b,h,hr=>by
   have h1:=hr y (by simp)
   have:=foldl_max r (max x y) b (by omega) (fun z hz=>hr z (by simp [hz]))
   rw [List.foldl_cons];omega
theorem aeD (l:List Int) {v:AV} (h:IL v l) (hl:l.length≤100000000) (hb:∀ x∈l,x≤1000000):Pure Tryz.prog 167 [v] (.bool (pg l)):=by
 refine fun H=>Yq.2.calls rfl ?_
 simp only [Yq,aG]
 obtain ⟨a1,a2,a3,a4⟩:=h.one
 have XC:∀ ψ:List AV→Prop,bF 1 8 (.al 1 [.int .i64 (-1)]) v ψ=ψ (ints (-1::l)):=by
  intro ψ
  have hr:dB v=some (ints l):=by
   rcases h with rfl | rfl
   ·cases l <;> rfl
   ·rfl
  have hal:nS 1 (.al 1 [.int .i64 (-1)])=some [.int .i64 (-1)]:=rfl
  have ok:rE 1 (ints l):=of_eq_true (nF l)
  simp only [bF,hal,hr,eq_iff_iff]
  exact ⟨fun h=>h.2.2,fun k=>⟨by simp [aw];omega,ok,k⟩⟩
 have hm:=foldl_max l (-1) 1000000 (by omega) hb
 simp +contextual only [a2,XC,sZ,Nat.reduceEqDiff,Nat.reduceAdd,↓reduceIte,reduceCtorEq]
 refine ae (aez (-1) l (by omega)) ?_
 have em:l.foldl max (-1)=E5 l:=rfl
 rw [em] at hm ⊢
 have hw:IntKind.i64.wrap (E5 l + 1)=E5 l + 1:=cr _ (by omega)
 simp +contextual only [hw,sZ,Nat.reduceEqDiff,↓reduceIte,reduceCtorEq]
 refine aD (E5 l + 1).toNat (fun j=>∀ i,i < j→(i:Int)∈l) (fun j=>[(0,v),(8,.int .i64 (E5 l + 1)),(9,.int .i64 j)]) (fun _=>H) ⟨fun i hi=>by omega,aB _ _ _⟩ fun j hj hI=>?_
 by_cases hjm:(j:Int) < E5 l + 1
 ·simp +contextual only [hjm,decide_true,a2,sZ,Nat.reduceEqDiff,Nat.reduceAdd,↓reduceIte,reduceCtorEq]
  refine ae (aeC l h (by omega) j) ?_
  by_cases k8:(j:Int)∈l
  ·simp +contextual only [k8,decide_true,Bool.not_true,sZ,Nat.reduceEqDiff,↓reduceIte,reduceCtorEq]
   refine ⟨j + 1,⟨by omega,fun i hi=>?_⟩,by omega,aE (by rw [au j (by omega)]) rfl⟩
   by_cases e:i=j
   ·subst e;exact k8
   ·exact hI i (by omega)
  ·simp +contextual only [k8,decide_false,Bool.not_false,sZ,Nat.reduceEqDiff,↓reduceIte,reduceCtorEq]
   refine a8 rfl ?_
   congr 1
   have:pg l=false:=by
    unfold pg
    rw [List.all_eq_false]
    exact ⟨j,abK.2 (by omega),by simpa using k8⟩
   rw [this]
 ·have e:j=(E5 l + 1).toNat:=by omega
  simp +contextual only [hjm,decide_false,sZ,Nat.reduceEqDiff,↓reduceIte,reduceCtorEq]
  refine a8 rfl ?_
  congr 1
  have:pg l=true:=by
   unfold pg
   rw [abF]
   intro i hi
   exact decide_eq_true (hI i (by rw [e];exact abK.1 hi))
  rw [this]
end Go.aK
end
noncomputable section
set_option maxRecDepth 100000
namespace Go.aK
open Go Go.Proofs Go.eI
open Classical in
def yv (t:Ty) (ops pl st:List Int):Bool:=decide (jF t.s (rp t.s.ops.length ops pl) (uw t.s.ops.length ops st)=0∧sU t (rp t.s.ops.length ops pl) (uw t.s.ops.length ops st) < 0)
abbrev Fo:=Option (List Int×List Int)
def dL (t:Ty) (ops pl:List Int) (s:Fo) (st:List Int):Fo×Bool:=if yv t ops pl st=true then (some (rp t.s.ops.length ops pl,uw t.s.ops.length ops st),false) else (s,true)
def fN (t:Ty) (ops:List Int) (s:Fo) (pl:List Int):Fo×Bool:=if pg pl=true then fw (dL t ops pl) (jl (dC 1 3) ops.length) s else (s,true)
def zL (t:Ty) (ops:List Int):Fo:=(fw (fN t ops) (jl (dC 0 ops.length) ops.length) none).1
def o4 (s:Fo):aa:=match s with | none=>.cells [.ag,.ag] | some (P,S)=>.cells [.al 0 (ints P),.al 0 (ints S)]
def o5 (s:Fo):aa:=.cells [.bool s.isSome]
def jH (s:Fo):WK:=if s.isSome=true then .jump .ret else .ready
theorem CH:bg.n=41:=by kernel_rfl
theorem CK:bL.n=41:=by kernel_rfl
theorem yw:bg.ps=[15]:=by kernel_rfl
theorem yx:bL.ps=[22]:=by kernel_rfl
theorem NG {n0 id:Nat} {R:AV→List aa→Prop} {H:List aa} {lc:ju} {es:List AV} (h:H[id]?=some (.loop .busy lc es)):sg n0 id R .ret H=JI n0 false (H.set id (.loop (.jump .ret) lc es)) R:=by
 unfold sg;rw [h]
theorem E6 {id:Nat} {H:List aa} {K:Option Code→List aa→Prop} {lc:ju} {es:List AV} {c:Code} (h:H[id]?=some (.loop (.jump c) lc es)):behind id H K=K (some c) (H.set id (.loop .ff lc es)):=by
 unfold behind;rw [h]
theorem CL (t:Ty) (ops pl:List Int):∀ (a:List (List Int)) (s:Fo),s=none→(fw (dL t ops pl) a s).2=(fw (dL t ops pl) a s).1.isNone
 | [],s,h=>by subst h;rfl
 | l::r,s,h=>by
   subst h
   rw [fw]
   by_cases ht:yv t ops pl l=true
   ·have e:dL t ops pl none l=(some (rp t.s.ops.length ops pl,uw t.s.ops.length ops l),false):=if_pos ht
    rw [e];rfl
   ·have e:dL t ops pl none l=(none,true):=if_neg ht
    rw [e]
    exact CL t ops pl r none rfl
structure CM (t:Ty):Prop where
 n:t.s.ops.length≤1000000000
 eq:∀ e∈t.es,∀ ps:List Int,ps.length=t.s.ops.length→NE ps e
theorem NH (n:Nat) (ops pl:List Int):(rp n ops pl).length=n:=by unfold rp;rw [yr];simp
theorem wI (A:List aa) (x:aa) (Y:List aa) (k:Nat) (h:A.length=k):(A++x::Y)[k]?=some x:=by subst h;simp
theorem wJ (A:List aa) (x y:aa) (Y:List aa) (k:Nat) (h:A.length=k):(A++x::Y).set k y=A++y::Y:=by subst h;simp
def fQ (H W:List aa) (s:Fo):List aa:=H++o4 s::o5 s::W
theorem fp (H W:List aa) (s:Fo):(fQ H W s).length=H.length + 2 + W.length:=by simp [fQ];omega
theorem Ta (H W Y:List aa) (s:Fo):(fQ H W s++Y)[H.length]?=some (o4 s):=by rw [yO (by rw [fp];omega)];simp [fQ]
theorem Tc (H W Y:List aa) (s:Fo):(fQ H W s++Y)[H.length + 1]?=some (o5 s):=by rw [yO (by rw [fp];omega)];simp [fQ]
theorem Wh (H W Y:List aa) (s:Fo) (P S:List Int):((fQ H W s++Y).set H.length (.cells [.al 0 (ints P),.al 0 (ints S)])).set (H.length + 1) (.cells [.bool true])=fQ H W (some (P,S))++Y:=by
 rw [afQ _ _ (by rw [fp];omega),afQ _ _ (by rw [acd,fp];omega)]
 simp [fQ,o4,o5]
theorem Wi {s:Sg} {ps ss:List Int} (h:jF s ps ss=0):Va ps ss:=(yg.1 h).2.va
theorem NI {t:Ty} (ht:CM t) {ops:List Int} {vo:AV} (ho:IL vo ops) (hr:∀ i∈ops,0≤i∧i < t.s.ops.length) (jy:ops.length≤1000000) {pl:List Int} (ta:pl.length=ops.length) (H W:List aa) (es:List AV) (Bw:es=lQ 41 [(2,.ai t.av),(3,.ai vo),(4,.ptr H.length 0),(5,.ptr (H.length + 1) 0),(6,.ai (bu pl)),(21,.fn (.func 205) [] [.ai (.int .i64 ops.length),.ai (.int .i64 1),.ai (.int .i64 3)])])
 (l:List Int) (hl:l.length=ops.length) (Y:List aa) (id:Nat) (bn:id=H.length + 2 + W.length) :
 kI Tryz.prog id [bu l] (fQ H W none++.loop .ready bL es::Y) fun r H'=>r=.bool (dL t ops pl none l).2∧H'=fQ H W (dL t ops pl none l).1++.loop (jH (dL t ops pl none l).1) bL es::Y:=by
 have ees:es=[.any,.any,.ai t.av,.ai vo,.ptr H.length 0,.ptr (H.length + 1) 0,.ai (bu pl),.any,.any,.any,.any,.any,.any,.any,.any,.any,.any,.any,.any,.any,.any,.fn (.func 205) [] [.ai (.int .i64 ops.length),.ai (.int .i64 1),.ai (.int .i64 3)],.any,.any,.any,.any,.any,.any,.any,.any,.any,.any,.any,.any,.any,.any,.any,.any,.any,.any,.any]:=by rw [Bw];rfl
 have hk:∀ s,(fQ H W s).length=id:=fun s=>by rw [fp,bn]
 have e0:∀ s st,(fQ H W s++aa.loop st bL es::Y)[id]?=some (.loop st bL es):=fun s st=>wI _ _ _ _ (hk s)
 have gr:∀ s st st',(fQ H W s++aa.loop st bL es::Y).set id (.loop st' bL es)=fQ H W s++aa.loop st' bL es::Y:=fun s st st'=>wJ _ _ _ _ _ (hk s)
 have hlen:∀ s st,(fQ H W s++aa.loop st bL es::Y).length=(fQ H W none++aa.loop .ready bL es::Y).length:=fun s st=>by rw [aaf,aaf,hk,hk];rfl
 refine pC (lc:=bL) (es:=es) (e0 none .ready) TX TY ⟨by rw [ees,CK];rfl,by rw [yx];rfl,by rw [yx,CK];rfl,?_,?_⟩ (yo ?_)
 ·rw [ees];intro x hx;simp only [aai,abD,or_false] at hx
  repeat' (first | (rcases hx with hx | hx;· subst hx;rfl) | (subst hx;rfl))
 ·intro x hx;simp only [aai,abD,or_false] at hx;subst hx;exact (aI l).2.1
 ·have ez:(bL.ps.zip [bu l]).reverse++b7 0 es=(22,bu l)::b7 0 es:=by rw [yx];rfl
  rw [ez]
  generalize zM:b7 0 es=ea
  have g2:get ea 2=.ai t.av:=by rw [← zM,ees];rfl
  have g3:get ea 3=.ai vo:=by rw [← zM,ees];rfl
  have g4:get ea 4=.ptr H.length 0:=by rw [← zM,ees];rfl
  have g5:get ea 5=.ptr (H.length + 1) 0:=by rw [← zM,ees];rfl
  have g6:get ea 6=.ai (bu pl):=by rw [← zM,ees];rfl
  simp only [LO,LP]
  have hb:∀ K,kP id (fQ H W none++.loop .ready bL es::Y) K=K (fQ H W none++.loop .busy bL es::Y):=fun K=>by rw [ur (e0 none .ready),gr]
  obtain ⟨e1,e2,e3,e4,e5,e6⟩:=Ty.facts t
  obtain ⟨a1,a2,a3,a4⟩:=ho.one
  obtain ⟨b1,b2,b3,b4,b5⟩:=aI pl
  obtain ⟨c1,c2,c3,c4,c5⟩:=aI l
  have lvo:∀ (H:List aa) (φ:AV→Prop),aV none (.ai vo) H φ=φ vo:=fun H φ=>by simp [aV,a1,a2]
  obtain ⟨q1,q2,q3,q4,q5,q6⟩:=aQ (rp t.s.ops.length ops pl) (uw t.s.ops.length ops l)
  simp +contextual only [g2,g3,g4,g5,g6,c2,hb,nX,lvo,cn,b2,a2,e4,sZ,Nat.reduceEqDiff,Nat.reduceAdd,↓reduceIte]
  refine ae (aex t ops pl l ho (.inl rfl) (.inl rfl) ta hl hr ht.n (by omega)) ?_
  generalize hP:rp t.s.ops.length ops pl=P at *
  generalize hS:uw t.s.ops.length ops l=S at *
  simp +contextual only [aF,q1,q2,q3,q4,NF,bm,sZ,Nat.reduceEqDiff,Nat.reduceAdd,↓reduceIte]
  refine ae (c24 t.s P S) ?_
  have endN:∀ n0,n0=id + (Y.length + 1)→dL t ops pl none l=(none,true)→sg n0 id (fun r H'=>r=.bool (dL t ops pl none l).2∧H'=fQ H W (dL t ops pl none l).1++.loop (jH (dL t ops pl none l).1) bL es::Y) .normal (fQ H W none++.loop .busy bL es::Y):=by
   intro n0 HV bX
   rw [Ho (e0 none .busy),gr,bX]
   refine ⟨by rw [hlen,aaf,hk];simp;omega,rfl,?_⟩
   rw [aaw (by rw [hlen,aaf,hk];simp;omega)]
   rfl
  have endR:∀ n0,n0=id + (Y.length + 1)→dL t ops pl none l=(some (P,S),false)→sg n0 id (fun r H'=>r=.bool (dL t ops pl none l).2∧H'=fQ H W (dL t ops pl none l).1++.loop (jH (dL t ops pl none l).1) bL es::Y) .ret (fQ H W (some (P,S))++.loop .busy bL es::Y):=by
   intro n0 HV bX
   rw [NG (e0 _ .busy),gr,bX]
   refine ⟨by rw [hlen,aaf,hk];simp;omega,rfl,?_⟩
   rw [aaw (by rw [hlen,aaf,hk];simp;omega)]
   rfl
  by_cases h0:jF t.s P S=0
  ·simp +contextual only [h0,nX,bm,e4,q4,sZ,Nat.reduceEqDiff,Nat.reduceAdd,↓reduceIte]
   refine ae (c89 t P S (Wi h0) (fun e he=>ht.eq e he P (by rw [← hP];exact NH _ _ _))) ?_
   by_cases h1:sU t P S < 0
   ·have bX:dL t ops pl none l=(some (P,S),false):=by
     rw [dL,if_pos (by rw [yv,hP,hS];exact decide_eq_true ⟨h0,h1⟩),hP,hS]
    have k4:=Ta H W (.loop .busy bL es::Y) none
    have k5:∀ o,((fQ H W none++.loop .busy bL es::Y).set H.length o)[H.length + 1]?=some (o5 none):=fun o=>by rw [yQ (by omega),Tc]
    have ks:=Wh H W (.loop .busy bL es::Y) none P S
    have o4n:o4 none=.cells [.ag,.ag]:=rfl
    have o5n:o5 none=.cells [.bool false]:=rfl
    rw [o4n] at k4
    simp only [o5n] at k5
    have qu:(dV P S).cells.map AV.ab=[.al 0 (ints P),.al 0 (ints S)]:=rfl
    have sp2:∀ (a b x y:AV),ah [a,b] 0 [x,y]=[x,y]:=fun _ _ _ _=>rfl
    have fb:∀ m,aj m [AV.al 0 (ints P),.al 0 (ints S)]=true:=fun m=>by simp [bP,c9,bW,bf]
    simp +contextual only [h1,decide_true,bm,k4,k5,ks,q1,q2,q3,qu,sp2,fb,aco,sZ,Nat.reduceEqDiff,Nat.reduceAdd,↓reduceIte]
    first
     | exact endR _ (by rw [hk]) bX
     | exact endR _ (by rw [hlen,aaf,hk];rfl) bX
   ·simp +contextual only [h1,decide_false,sZ,Nat.reduceEqDiff,↓reduceIte]
    have bX:dL t ops pl none l=(none,true):=by
     rw [dL,if_neg (by rw [yv,hP,hS];simp [h1])]
    exact endN _ (by rw [hk]) bX
  ·simp +contextual only [h0,decide_false,sZ,Nat.reduceEqDiff,↓reduceIte]
   have bX:dL t ops pl none l=(none,true):=by
    rw [dL,if_neg (by rw [yv,hP,hS];simp [h0])]
   exact endN _ (by rw [hk]) bX
end Go.aK
end
noncomputable section
set_option maxRecDepth 100000
namespace Go.aK
open Go Go.Proofs Go.eI
theorem ysI {t:Ty} (ht:CM t) {ops:List Int} {vo:AV} (ho:IL vo ops) (hr:∀ i∈ops,0≤i∧i < t.s.ops.length) (jy:ops.length≤1000000) {pl:List Int} (ta:pl.length=ops.length) (H W:List aa) (es:List AV) (Bw:es=lQ 41 [(2,.ai t.av),(3,.ai vo),(4,.ptr H.length 0),(5,.ptr (H.length + 1) 0),(6,.ai (bu pl)),(21,.fn (.func 205) [] [.ai (.int .i64 ops.length),.ai (.int .i64 1),.ai (.int .i64 3)])]) :
 YS ops.length (dC 1 ((3:Int) + 1 - 1).toNat) (H.length + 2 + W.length) (fun s:Fo=>fQ H W s++[.loop (jH s) bL es]) (fun s=>s=none) (dL t ops pl):=by
 refine ⟨fun l s X hl _ hs=>?_,fun l s hs bX=>?_,fun s s'=>?_⟩
 ·subst hs
  have:=NI ht ho hr jy ta H W es Bw l hl X _ rfl
  have el:jH none=.ready:=rfl
  refine fV.mono (by simpa [el,kI] using this) fun r H' h=>?_
  refine ⟨h.1,?_⟩
  rw [h.2];simp
 ·subst hs
  unfold dL at *
  split at bX
  ·cases bX
  ·rename_i h;rw [if_neg h]
 ·simp [fp]
theorem NJ {vals:List Int}:∀ {n:Nat} {l:List Int},l∈jl vals n→l.length=n∧∀ x∈l,x∈vals
 | 0,l,h=>by
   simp only [jl,aai,abD,or_false] at h
   subst h;exact ⟨rfl,fun x hx=>by cases hx⟩
 | n + 1,l,h=>by
   simp only [jl,aek,aal] at h
   obtain ⟨x,hx,y,hy,rfl⟩:=h
   obtain ⟨h1,h2⟩:=NJ hy
   exact ⟨by simp [h1],fun z hz=>by
    rcases aai.1 hz with rfl | hz
    ·exact hx
    ·exact h2 z hz⟩
theorem NK {t:Ty} (ht:CM t) {ops:List Int} {vo:AV} (ho:IL vo ops) (hr:∀ i∈ops,0≤i∧i < t.s.ops.length) (jy:ops.length≤1000000) (H:List aa) (es:List AV) (Bw:es=lQ 41 [(2,.ai t.av),(3,.ai vo),(4,.ptr H.length 0),(5,.ptr (H.length + 1) 0),(14,.fn (.func 205) [] [.ai (.int .i64 ops.length),.ai (.int .i64 0),.ai (.int .i64 ((ops.length:Int) - 1))])])
 (pl:List Int) (ta:pl.length=ops.length) (lV:∀ x∈pl,x≤1000000) (Y:List aa) :
 kI Tryz.prog (H.length + 2) [bu pl] (fQ H [] none++.loop .ready bg es::Y) fun r H'=>r=.bool (fN t ops none pl).2∧H'=fQ H [] (fN t ops none pl).1++.loop (jH (fN t ops none pl).1) bg es::Y:=by
 have ees:es=[.any,.any,.ai t.av,.ai vo,.ptr H.length 0,.ptr (H.length + 1) 0,.any,.any,.any,.any,.any,.any,.any,.any,.fn (.func 205) [] [.ai (.int .i64 ops.length),.ai (.int .i64 0),.ai (.int .i64 ((ops.length:Int) - 1))],.any,.any,.any,.any,.any,.any,.any,.any,.any,.any,.any,.any,.any,.any,.any,.any,.any,.any,.any,.any,.any,.any,.any,.any,.any,.any]:=by rw [Bw];rfl
 have hk:∀ s,(fQ H [] s).length=H.length + 2:=fun s=>by rw [fp];rfl
 have e0:∀ s st Y,(fQ H [] s++aa.loop st bg es::Y)[H.length + 2]?=some (.loop st bg es):=fun s st Y=>wI _ _ _ _ (hk s)
 have gr:∀ s st st' Y,(fQ H [] s++aa.loop st bg es::Y).set (H.length + 2) (.loop st' bg es)=fQ H [] s++aa.loop st' bg es::Y:=fun s st st' Y=>wJ _ _ _ _ _ (hk s)
 refine pC (lc:=bg) (es:=es) (e0 none .ready Y) TZ T1 ⟨by rw [ees,CH];rfl,by rw [yw];rfl,by rw [yw,CH];rfl,?_,?_⟩ (yo ?_)
 ·rw [ees];intro x hx;simp only [aai,abD,or_false] at hx
  repeat' (first | (rcases hx with hx | hx;· subst hx;rfl) | (subst hx;rfl))
 ·intro x hx;simp only [aai,abD,or_false] at hx;subst hx;exact (aI pl).2.1
 ·have ez:(bg.ps.zip [bu pl]).reverse++b7 0 es=(15,bu pl)::b7 0 es:=by rw [yw];rfl
  rw [ez]
  generalize zM:b7 0 es=ea
  have g2:get ea 2=.ai t.av:=by rw [← zM,ees];rfl
  have g3:get ea 3=.ai vo:=by rw [← zM,ees];rfl
  have g4:get ea 4=.ptr H.length 0:=by rw [← zM,ees];rfl
  have g5:get ea 5=.ptr (H.length + 1) 0:=by rw [← zM,ees];rfl
  simp only [LQ,LR]
  have hb:∀ K,kP (H.length + 2) (fQ H [] none++.loop .ready bg es::Y) K=K (fQ H [] none++.loop .busy bg es::Y):=fun K=>by rw [ur (e0 none .ready Y),gr]
  obtain ⟨a1,a2,a3,a4⟩:=ho.one
  obtain ⟨b1,b2,b3,b4,b5⟩:=aI pl
  have lvo:∀ (H:List aa) (φ:AV→Prop),aV none (.ai vo) H φ=φ vo:=fun H φ=>by simp [aV,a1,a2]
  have ip:IL (bu pl) pl:=.inl rfl
  have hlen:(fQ H [] none++.loop .ready bg es::Y).length=H.length + 2 + (Y.length + 1):=by rw [aaf,hk];rfl
  have endN:∀ n0 Z,n0=H.length + 2 + (Y.length + 1)→fN t ops none pl=(none,true)→sg n0 (H.length + 2) (fun r H'=>r=.bool (fN t ops none pl).2∧H'=fQ H [] (fN t ops none pl).1++.loop (jH (fN t ops none pl).1) bg es::Y) .normal (fQ H [] none++.loop .busy bg es::(Y++Z)):=by
   intro n0 Z HV bX
   rw [Ho (e0 none .busy _),gr,bX]
   refine ⟨by rw [aaf,hk];simp;omega,rfl,?_⟩
   rw [HV,← hlen,show fQ H [] none++aa.loop .ready bg es::(Y++Z)=(fQ H [] none++aa.loop .ready bg es::Y)++Z by simp,adH]
   rfl
  have endR:∀ n0 Z s,n0=H.length + 2 + (Y.length + 1)→fN t ops none pl=(s,false)→s.isSome=true→sg n0 (H.length + 2) (fun r H'=>r=.bool (fN t ops none pl).2∧H'=fQ H [] (fN t ops none pl).1++.loop (jH (fN t ops none pl).1) bg es::Y) .ret (fQ H [] s++.loop .busy bg es::(Y++Z)):=by
   intro n0 Z s HV bX hs
   have hlen2:(fQ H [] s++.loop (.jump .ret) bg es::Y).length=H.length + 2 + (Y.length + 1):=by rw [aaf,hk];rfl
   rw [NG (e0 _ .busy _),gr,bX]
   refine ⟨by rw [aaf,hk];simp;omega,rfl,?_⟩
   rw [HV,← hlen2,show fQ H [] s++aa.loop (.jump .ret) bg es::(Y++Z)=(fQ H [] s++aa.loop (.jump .ret) bg es::Y)++Z by simp,adH]
   have:jH s=.jump .ret:=if_pos hs
   rw [this]
  simp +contextual only [g2,g3,g4,g5,hb,cn,b1,b2,b4,b5,sZ,Nat.reduceEqDiff,Nat.reduceAdd,↓reduceIte]
  refine ae (aeD pl ip (by omega) lV) ?_
  cases hd:pg pl with
  | false=>
    have bX:fN t ops none pl=(none,true):=by rw [fN,if_neg (by rw [hd];simp)]
    simp +contextual only [Bool.not_false,sZ,Nat.reduceEqDiff,↓reduceIte]
    have:=endN ((fQ H [] none).length + (Y.length + 1)) [] (by rw [hk]) bX
    rwa [abQ] at this
  | true=>
    have bX:fN t ops none pl=fw (dL t ops pl) (jl (dC 1 3) ops.length) none:=by rw [fN,if_pos hd]
    simp +contextual only [Bool.not_true,lvo,ho.aO,ho.len (by omega),sZ,Nat.reduceEqDiff,Nat.reduceAdd,↓reduceIte]
    refine ae (aaI ops.length 1 3) ?_
    simp +contextual only [nD,sZ,Nat.reduceEqDiff,↓reduceIte]
    obtain ⟨W,hW⟩:∃ W,W=aa.loop .busy bg es::Y:=⟨_,rfl⟩
    have hH2:fQ H [] none++aa.loop .busy bg es::Y=fQ H W none:=by rw [hW];simp [fQ]
    have hA:∀ s,fQ H W s=fQ H [] s++aa.loop .busy bg es::Y:=fun s=>by rw [hW];simp [fQ]
    obtain ⟨esI,aaK⟩:∃ esI,esI=lQ 41 [(2,AV.ai t.av),(3,.ai vo),(4,.ptr H.length 0),(5,.ptr (H.length + 1) 0),(6,.ai (bu pl)),(21,.fn (.func 205) [] [.ai (.int .i64 ops.length),.ai (.int .i64 1),.ai (.int .i64 3)])]:=⟨_,rfl⟩
    have ys:=ysI ht ho hr jy ta H W esI aaK
    have rN:(3:Int) + 1 - 1=3:=rfl
    have hvt:((3:Int)).toNat=3:=rfl
    rw [rN,hvt] at ys
    have NL:=aaH (n:=ops.length) (lo:=1) (hi:=3) (by omega) (by omega) jy (Good:=fun s:Fo=>s=none) (hy:=by rw [rN,hvt];exact ys) (fun s=>by simp [fp]) none rfl
    rw [rN,hvt] at NL
    rw [hH2]
    have eln:(fQ H W none).length=H.length + 2 + W.length:=fp H W none
    refine uq (P:=Tryz.prog) (R:=fun r H'=>r=.tuple []∧H'=fQ H W (fw (dL t ops pl) (jl (dC 1 3) ops.length) none).1++[.loop (jH (fw (dL t ops pl) (jl (dC 1 3) ops.length) none).1) bL esI]) 205 [] _ bL _ _ _ Tryz.call205 ?_ ?_
    ·rw [CK,← aaK,eln]
     exact NL
    ·have h2:=CL t ops pl (jl (dC 1 3) ops.length) none rfl
     rintro r H' ⟨rfl,rfl⟩
     generalize TD:(fw (dL t ops pl) (jl (dC 1 3) ops.length) none).1=s' at h2
     have aaL:fN t ops none pl=(s',s'.isNone):=by rw [bX];exact Prod.ext TD h2
     rw [eln]
     have eget:∀ st,(fQ H W s'++[aa.loop st bL esI])[H.length + 2 + W.length]?=some (.loop st bL esI):=fun st=>wI _ _ _ _ (fp H W s')
     have eset:∀ st st',(fQ H W s'++[aa.loop st bL esI]).set (H.length + 2 + W.length) (.loop st' bL esI)=fQ H W s'++[.loop st' bL esI]:=fun st st'=>wJ _ _ _ _ _ (fp H W s')
     cases s' with
     | none=>
       have el:jH none=.ready:=rfl
       rw [el,yn (eget _),eset]
       simp +contextual only [qL]
       have:=endN ((fQ H [] none).length + (Y.length + 1)) [.loop .ff bL esI] (by rw [hk]) aaL
       rw [hA]
       simpa using this
     | some o=>
       have el:jH (some o)=.jump .ret:=rfl
       rw [el,E6 (eget _),eset]
       simp +contextual only [qL]
       have:=endR ((fQ H [] none).length + (Y.length + 1)) [.loop .ff bL esI] (some o) (by rw [hk]) aaL rfl
       rw [hA]
       simpa using this
end Go.aK
end
noncomputable section
set_option maxRecDepth 100000
namespace Go.aK
open Go Go.Proofs Go.eI
theorem ysO {t:Ty} (ht:CM t) {ops:List Int} {vo:AV} (ho:IL vo ops) (hr:∀ i∈ops,0≤i∧i < t.s.ops.length) (jy:ops.length≤1000000) (H:List aa) (es:List AV) (Bw:es=lQ 41 [(2,.ai t.av),(3,.ai vo),(4,.ptr H.length 0),(5,.ptr (H.length + 1) 0),(14,.fn (.func 205) [] [.ai (.int .i64 ops.length),.ai (.int .i64 0),.ai (.int .i64 ((ops.length:Int) - 1))])]) :
 YS ops.length (dC 0 ops.length) (H.length + 2) (fun s:Fo=>fQ H [] s++[.loop (jH s) bg es]) (fun s=>s=none) (fN t ops):=by
 refine ⟨fun l s X hl hm hs=>?_,fun l s hs bX=>?_,fun s s'=>?_⟩
 ·subst hs
  have:=NK ht ho hr jy H es Bw l hl (fun x hx=>by have:=A5.1 (hm x hx);omega) X
  have el:jH none=.ready:=rfl
  refine fV.mono (by simpa [el,kI] using this) fun r H' h=>?_
  refine ⟨h.1,?_⟩
  rw [h.2];simp
 ·subst hs
  have h2:(fN t ops none l).2=(fN t ops none l).1.isNone:=by
   unfold fN
   split
   ·exact CL t ops l _ none rfl
   ·rfl
  rw [bX] at h2
  exact Option.isNone_iff_eq_none.1 h2.symm
 ·simp [fp]
def foA (s:Fo):AV:=match s with | none=>dV [] [] | some (P,S)=>dV P S
theorem IU (n0 s s':Nat) (sz sz':Option Nat) (env:Env) (H:List aa) (R:AV→List aa→Prop):bV n0 [.c s sz,.c s' sz'] env H R=aV sz (get env s) H fun x=>aV sz' (get env s') H fun y=>vu n0 [x,y] H R:=af4
theorem c93 {t:Ty} (ht:CM t) {ops:List Int} {vo:AV} (ho:IL vo ops) (hr:∀ i∈ops,0≤i∧i < t.s.ops.length) (jy:ops.length≤1000000):Pure Tryz.prog 93 [t.av,vo] (.tuple [foA (zL t ops),.bool (zL t ops).isSome]):=by
 refine fun H=>acU.calls rfl ?_
 simp only [XM,XL]
 obtain ⟨e1,e2,e3,e4,e5,e6⟩:=Ty.facts t
 obtain ⟨a1,a2,a3,a4⟩:=ho.one
 have lvo:∀ (H:List aa) (φ:AV→Prop),aV none (.ai vo) H φ=φ vo:=fun H φ=>by simp [aV,a1,a2]
 have zf2:List.map AV.ab [AV.ag,.ag]=[.ag,.ag]:=rfl
 have zb2:∀ n,aj n [AV.ag,.ag]=true:=fun _=>rfl
 have hw:IntKind.i64.wrap ((ops.length:Int) - 1)=(ops.length:Int) - 1:=cr _ (by omega)
 simp +contextual only [e1,a3,lvo,zf2,zb2,ho.aO,ho.len (by omega),hw,sZ,Nat.reduceEqDiff,Nat.reduceAdd,↓reduceIte,reduceCtorEq]
 refine ae (aaI ops.length 0 ((ops.length:Int) - 1)) ?_
 simp +contextual only [nD,sZ,Nat.reduceEqDiff,↓reduceIte,reduceCtorEq]
 have hA0:H++[aa.cells [AV.ag,.ag],.cells [.bool false]]=fQ H [] none:=rfl
 rw [hA0]
 obtain ⟨esO,Bw⟩:∃ esO,esO=lQ 41 [(2,AV.ai t.av),(3,.ai vo),(4,.ptr H.length 0),(5,.ptr (H.length + 1) 0),(14,.fn (.func 205) [] [.ai (.int .i64 ops.length),.ai (.int .i64 0),.ai (.int .i64 ((ops.length:Int) - 1))])]:=⟨_,rfl⟩
 have ys:=ysO ht ho hr jy H esO Bw
 have hv:((ops.length:Int) - 1 + 1 - 0).toNat=ops.length:=by omega
 have NL:=aaH (n:=ops.length) (lo:=0) (hi:=(ops.length:Int) - 1) (by omega) (by omega) jy (Good:=fun s:Fo=>s=none) (hy:=by rw [hv];exact ys) (fun s=>by simp [fp]) none rfl
 rw [hv] at NL
 have eln:∀ s,(fQ H [] s).length=H.length + 2:=fun s=>fp H [] s
 refine uq (P:=Tryz.prog) (R:=fun r H'=>r=.tuple []∧H'=fQ H [] (zL t ops)++[.loop (jH (zL t ops)) bg esO]) 205 [] _ bg _ _ _ Tryz.call205 ?_ ?_
 ·rw [CH,← Bw,eln]
  exact NL
 ·rintro r H' ⟨rfl,rfl⟩
  generalize zL t ops=s'
  have eget:∀ st,(fQ H [] s'++[aa.loop st bg esO])[H.length + 2]?=some (.loop st bg esO):=fun st=>wI _ _ _ _ (eln s')
  have eset:∀ st st',(fQ H [] s'++[aa.loop st bg esO]).set (H.length + 2) (.loop st' bg esO)=fQ H [] s'++[.loop st' bg esO]:=fun st st'=>wJ _ _ _ _ _ (eln s')
  have k4:=Ta H [] [.loop .ff bg esO] s'
  have k5:=Tc H [] [.loop .ff bg esO] s'
  have htk:(fQ H [] s'++[aa.loop .ff bg esO]).take H.length=H:=by rw [aaR (by rw [eln];omega),fQ,adH]
  have sp2:∀ (a b x y:AV),ah [a,b] 0 [x,y]=[x,y]:=fun _ _ _ _=>rfl
  rw [eln]
  cases s' with
  | none=>
    have el:jH none=.ready:=rfl
    rw [el,yn (eget _),eset]
    have o4n:o4 none=.cells [.ag,.ag]:=rfl
    have o5n:o5 none=.cells [.bool false]:=rfl
    rw [o4n] at k4
    rw [o5n] at k5
    have k4s:=fun o=>yS (a:=o) (aR k4)
    have k5s:∀ o,((fQ H [] none++[aa.loop .ff bg esO]).set H.length o)[H.length + 1]?=some (.cells [.bool false]):=fun o=>by rw [yQ (by omega)];exact k5
    have k5t:∀ o o',(((fQ H [] none++[aa.loop .ff bg esO]).set H.length o).set (H.length + 1) o')[H.length + 1]?=some o':=fun o o'=>yS (by rw [acd];exact aR k5)
    have k4t:∀ o o',(((fQ H [] none++[aa.loop .ff bg esO]).set H.length o).set (H.length + 1) o')[H.length]?=some o:=fun o o'=>by rw [yQ (by omega)];exact k4s o
    have aeH:∀ o o',(((fQ H [] none++[aa.loop .ff bg esO]).set H.length o).set (H.length + 1) o').take H.length=H:=fun o o'=>by rw [abI (by omega),abI (by omega),htk]
    simp +contextual only [qL,k4,k5s,k4t,k5t,zf2,zb2,sp2,IU,sZ,Nat.reduceEqDiff,Nat.reduceAdd,Nat.reduceLT,↓reduceIte,reduceCtorEq]
    exact vw (aeH _ _) ((aQ [] []).2.2.2.2.2 _) rfl rfl rfl ⟨rfl,rfl⟩
  | some o=>
    obtain ⟨P,S⟩:=o
    have el:jH (some (P,S))=.jump .ret:=rfl
    rw [el,E6 (eget _),eset]
    have o4n:o4 (some (P,S))=.cells [.al 0 (ints P),.al 0 (ints S)]:=rfl
    have o5n:o5 (some (P,S))=.cells [.bool true]:=rfl
    rw [o4n] at k4
    rw [o5n] at k5
    simp +contextual only [qL,k4,k5,IU,sZ,Nat.reduceEqDiff,Nat.reduceAdd,Nat.reduceLT,↓reduceIte,reduceCtorEq]
    exact vw htk ((aQ P S).2.2.2.2.2 _) rfl rfl rfl ⟨rfl,rfl⟩
end Go.aK
end
noncomputable section
set_option maxRecDepth 100000
set_option maxHeartbeats 0
namespace Go.aK
open Go Go.Proofs
def aaM:=aG Tryz.call75 Tryz.func75 Tryz.ntmps75 [(0,0,1),(5,2,1000),(6,0,1),(6,7,2),(6,8,1),(7,6,2),(7,9,2),(9,0,6004)] [(0,[1,2]),(1,[1,6]),(2,[1,6,7]),(3,[6,7,15,16,17]),(4,[6,7,15,16,17,18]),(5,[6,7,9,15,16,17]),(6,[6,7,9,15,16,17]),(7,[6,7,15,16,17]),(8,[6,7,15,16,17]),(9,[4,5])] [(7,(.take 1 true (.take 2 true (.take 3 true (.take 4 true (.take 5 true (.take 0 false (.br 6 (.take 7 true (.take 8 true (.br 9 .done .nil))) .nil))))))))]
end Go.aK
end
