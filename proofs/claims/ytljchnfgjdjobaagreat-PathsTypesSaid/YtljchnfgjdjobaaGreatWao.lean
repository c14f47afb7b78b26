/- Part 15 of 20 of the proof. -/
import Derived.Test.YtljchnfgjdjobaaGreatWan
import Derived.Test.YtljchnfgjdjobaaGreatWag
import Derived.KernelRfl
set_option linter.unusedVariables false
set_option linter.unusedSimpArgs false
set_option linter.defProp false
set_option linter.unusedSectionVars false
section
set_option maxRecDepth 100000
namespace Go.aI
open Go Go.Proofs Go.dV
structure PA (c:Cx) (H:List aa) (x y:Nat) (i k:Int) (G:List aa):Prop where
 du:Du c G
 gx:G[x]?=some (.cells [bu (c.kd i)])
 gy:G[y]?=some (.cells [bu (c.kd k)])
 g6:G[H.length]?=some (.cells [.int .i64 0,.int .i64 0,.ag,.ag])
 len:G.length=H.length + 3
 up:∀ j,j < H.length→j≠c.e→j≠c.g→G[j]?=H[j]?
theorem PA.call {c:Cx} {H G G':List aa} {x y:Nat} {i k:Int} (hD:Du c H) (w:XY H x y) (h:PA c H x y i k G) (hU:Up c G G') (kv:Du c G'):PA c H x y i k G':=by
 obtain ⟨l1,l2,l3⟩:=hD.lt
 obtain ⟨w1,w2,w3,w4⟩:=w
 exact ⟨kv,by rw [hU.get x (by omega) (by omega),h.gx],by rw [hU.get y (by omega) (by omega),h.gy],by rw [hU.get _ (by omega) (by omega),h.g6],by rw [hU.len,h.len],fun j h1 h2 h3=>by rw [hU.get j h2 h3,h.up j h1 h2 h3]⟩
theorem PA.um {c:Cx} {H G:List aa} {x y:Nat} {i k:Int} (w:XY H x y) (h:PA c H x y i k G) (es:List AV):PB c H x y i k es (G++[.cells es]):=by
 obtain ⟨w1,w2,w3,w4⟩:=w
 have hl:=h.len
 exact ⟨h.du.um _,by rw [zR (by omega),h.gx],by rw [zR (by omega),h.gy],by rw [zR (by omega),h.g6],by rw [← hl];simp,by simp [hl],fun j h1 h2 h3=>by rw [zR (by omega),h.up j h1 h2 h3]⟩
theorem bdP (r:Int) (φ:AV→Prop):cD [.int .i64 0,.int .i64 0,.ag,.ag] [(0,1,.int .i64 r)] φ=φ (.agg [.int .i64 r,.int .i64 0,.ag,.ag]):=by
 simp only [cD,iJ,eq_iff_iff]
 constructor
 ·rintro ⟨_,_,_,h⟩;exact h
 ·exact fun h=>⟨rfl,rfl,by simp,h⟩
theorem PB.fin {c:Cx} {H G:List aa} {x y:Nat} {i k:Int} {r i':Int} {to:List Int} {l:List PP} (hD:Du c H) (h:PB c H x y i k [.int .i64 r,.int .i64 i',vJ to,qp l] G) (hs:Sh c.O (.mk r i' to l) (c.tm i) (c.tm k)) :
 Av H.length (eO (.mk r i' to l)) (G.set H.length (.cells (eO (.mk r i' to l)).cells)) (aaY c i k H):=by
 obtain ⟨l1,l2,l3⟩:=hD.lt
 refine Tk (G:=(G.set H.length (.cells (eO (.mk r i' to l)).cells)).take H.length) rfl (gM _ _) rfl ⟨_,rfl,hs,⟨?_,fun j h1 h2=>?_⟩,?_⟩
 ·have:=h.len;simp;omega
 ·rw [aaM]
  split
  ·rename_i hj;rw [zS (by omega),h.up j hj h1 h2]
  ·rename_i hj;rw [aci (by omega)]
 ·exact (h.du.set (by omega) (by omega) (by omega)).take l1 l2 l3
theorem Fg (p:PP) (φ:AV→Prop):c8 (some (.cells (eO p).cells)) (some 4) 0 φ=φ (eO p):=by
 obtain ⟨_,h2,_,_,_,_,h7,h8,_⟩:=bf p
 simp only [c8,List.drop_zero,h2,aaJ (Nat.le_of_eq h2),h8,h7]
 simp
theorem TL (p:PP):ah [AV.int .i64 0,.int .i64 0,.ag,.ag] 0 (eO p).cells=(eO p).cells:=by rw [px];rfl
theorem wL {c:Cx} (hc:c.Ok) {i k:Int} (hi:c.ew i) (hk:c.ew k):IU c i k:=by
 have ki:=hc.kids i hi
 have kk:=hc.kids k hk
 exact ⟨fun H hD=>aap hc hi (fun x hx=>k8 hc (ki.2 x hx) hk) (fun x hx=>k9 hc (ki.2 x hx) hk) hD,fun H hD=>aaq hc hi hk (fun y hy=>k9 hc hi (kk.2 y hy)) hD,
  fun H hD=>aas hc hi hk (fun y hy=>k9 hc hi (kk.2 y hy)) (fun x hx y hy=>k8 hc (ki.2 x hx) (kk.2 y hy)) (fun x hx y hy=>k9 hc (ki.2 x hx) (kk.2 y hy)) hD,
  fun H hD=>aay hc hi hk (fun x hx y hy=>k8 hc (ki.2 x hx) (kk.2 y hy)) (fun x hx y hy=>k9 hc (ki.2 x hx) (kk.2 y hy)) hD⟩
theorem aaZ {c:Cx} (hc:c.Ok) {i k:Int} (hi:c.ew i) (hk:c.ew k) (hR:R c.O (c.tm i) (c.tm k)) (hr:iX c i k 1) (kq:∀ m,m < 1→¬ iX c i k m) (hp:∀ x∈c.kd i,R c.O (c.tm x) (c.tm k)→qq c x k):qq c i k:=by
 intro H hD
 refine Fc.2.calls rfl ?_
 simp only [Fc,aH]
 have k2:∀ l,(bu l).ab=bu l:=fun l=>(aJ l).2.1
 have ki:=hc.kids i hi
 have kk:=hc.kids k hk
 have l1:=hc.kl i hi
 have l2:=hc.kl k hk
 obtain ⟨a1,a2,a3,a4,a5⟩:=aJ (c.kd i)
 obtain ⟨b1,b2,b3,b4,b5⟩:=aJ (c.kd k)
 have ii:IL (bu (c.kd i)) (c.kd i):=.inl rfl
 have ik:IL (bu (c.kd k)) (c.kd k):=.inl rfl
 have ei:(c.nd.getD i.toNat default).snd=c.kd i:=rfl
 have ek:(c.nd.getD k.toNat default).snd=c.kd k:=rfl
 obtain ⟨m1,m2,m3⟩:=hD.lt
 have ed:∀ X:List aa,(H++X)[c.d]?=H[c.d]?:=fun X=>zR m1
 have spv:∀ x:AV,ah [AV.ag] 0 [x]=[x]:=fun x=>rfl
 have spq:ah [AV.int .i64 0,.int .i64 0,.ag,.ag] 0 [AV.int .i64 0,.int .i64 0,.ag,.ag]=[AV.int .i64 0,.int .i64 0,.ag,.ag]:=rfl
 simp +contextual only [sZ,Nat.reduceEqDiff,Nat.reduceAdd,↓reduceIte,reduceCtorEq]
 refine mN (K1:=fun e G=>get e 1=.int .i64 i∧get e 3=.ai (.ptr c.d 0)∧get e 5=.ai (.int .i64 k)∧get e 6=.ptr H.length 0∧∃ x y,get e 7=.ptr x 0∧get e 8=.ptr y 0∧XY H x y∧PA c H x y i k G) ?_ ?_
 ·have P0:aa:=.cells [.int .i64 0,.int .i64 0,.ag,.ag]
  have A:∃ x y,AV.ptr (H.length + 1) 0=.ptr x 0∧AV.ptr (H.length + 2) 0=.ptr y 0∧XY H x y∧PA c H x y i k (H++[.cells [.int .i64 0,.int .i64 0,.ag,.ag],.cells [bu (c.kd i)],.cells [bu (c.kd k)]]):=
   ⟨_,_,rfl,rfl,⟨by omega,by omega,by omega,by omega⟩,⟨hD.um _,by simp,by simp,by simp,by simp,fun j hj _ _=>zR hj⟩⟩
  have B:∃ x y,AV.ptr (H.length + 2) 0=.ptr x 0∧AV.ptr (H.length + 1) 0=.ptr y 0∧XY H x y∧PA c H x y i k (H++[.cells [.int .i64 0,.int .i64 0,.ag,.ag],.cells [bu (c.kd k)],.cells [bu (c.kd i)]]):=
   ⟨_,_,rfl,rfl,⟨by omega,by omega,by omega,by omega⟩,⟨hD.um _,by simp,by simp,by simp,by simp,fun j hj _ _=>zR hj⟩⟩
  simp +contextual only [ed,hD.d,nT,FQ,cN,cb,k2,ei,ek,a1,a3,a4,a5,b1,b3,b4,b5,List.map_cons,List.map_nil,spv,List.all_cons,List.all_nil,acJ,bN,da,sZ,Nat.reduceEqDiff,Nat.reduceAdd,Nat.reduceLT,↓reduceIte]
  refine ⟨hi,?_⟩
  repeat' apply hV
  all_goals first | exact hk.1 | exact hk.2 | exact A | exact B
 ·rintro e G ⟨e1,e3,e5,e6,x,y,e7,e8,w,CN⟩
  simp +contextual only [e1,e3,e5,e6,e7,e8,sZ,Nat.reduceEqDiff,↓reduceIte]
  refine aG 0 (fun m (G:List aa)=>PA c H x y i k G)
   (fun m G=>[(1,.int .i64 i),(3,.ai (.ptr c.d 0)),(5,.ai (.int .i64 k)),(6,.ptr H.length 0),(7,.ptr x 0),(8,.ptr y 0),(9,.int .i64 ((m + 1:Nat):Int))]) (fun m G=>G) G ⟨CN,aA _ _ _⟩ fun m G hm CN=>?_
  have hf:eI.cells[m + 1]?=some (.fn (.func (182 + (m + 1))) [] []):=by
   have:m=0∨m=1∨m=2∨m=3:=by omega
   rcases this with rfl | rfl | rfl | rfl <;> rfl
  have en:=XB (m + 1) _ hf (by omega)
  simp +contextual only [sZ]
  refine aF Ny ?_
  simp +contextual only [nK,en _ rfl,sZ,Nat.reduceEqDiff,Nat.reduceAdd,↓reduceIte,reduceCtorEq]
  refine af ((wL hc hi hk).at (n:=m + 1) (by omega) (by omega) CN.du) ?_
  rintro r G1 ⟨z,rfl,hz,hU,oD⟩
  have rC:=CN.call hD w hU oD
  by_cases Tq:m=0
  rotate_left
  ·have:z=false:=by
    cases z with
    | false=>rfl
    | true=>exact absurd (hz.1 rfl) (kq (m + 1) (by omega))
   subst this
   simp +contextual only [Bool.not_false,sZ,Nat.reduceEqDiff,↓reduceIte]
   exact ⟨m + 1,G1,⟨by omega,rC⟩,by omega,aD (by rw [aq (m + 1) (by omega)]) rfl⟩
  subst Tq
  have:z=true:=hz.2 hr
  subst this
  have rP:=rC.len
  have l8:=fun es=>rC.um w es
  have WL:=fun es=>(l8 es).gp
  have RI:=fun es=>(l8 es).gx
  have hgy:=fun es=>(l8 es).gy
  have bV:∀ (o o':aa),(G1++[o]).set (H.length + 3) o'=G1++[o']:=fun o o'=>by rw [← rP];simp
  have ec:((1:Nat):Int)=1:=rfl
  have zf:List.map AV.ab [AV.int .i64 (1:Int),.int .i64 0,.ag,.ag]=[.int .i64 (1:Int),.int .i64 0,.ag,.ag]:=rfl
  have zf0:List.map AV.ab [AV.int .i64 0,.int .i64 0,.ag,.ag]=[.int .i64 0,.int .i64 0,.ag,.ag]:=rfl
  have e86:∀ a b:Int,decide (a=b)=decide (a=b):=fun _ _=>rfl
  simp +contextual only [k2,decide_true,Bool.not_true,Bool.not_true,bdP,rP,WL,bV,ec,zf,zf0,KU,RI,sZ,Nat.reduceEqDiff,Nat.reduceAdd,Nat.reduceLT,↓reduceIte,reduceCtorEq]
  have nY:=l8 [.int .i64 1,.int .i64 0,.ag,.ag]
  generalize G1++[aa.cells [AV.int .i64 1,.int .i64 0,.ag,.ag]]=G2 at nY ⊢
  have gP:∃ z∈c.kd i,E c.O (c.tm z) (c.tm k)∨R c.O (c.tm z) (c.tm k):=by
   rcases hr with h | h | h | h
   ·exact h.2
   all_goals (exact absurd h.1 (by decide))
  refine af (Nu (SD.Cv c G2) ii (by omega) 147 [] [.ai (.ptr c.d 0),.ai (.int .i64 k)] rfl rfl (Q:=fun z=>E c.O (c.tm z) (c.tm k)∨R c.O (c.tm z) (c.tm k))
   (fun z hz G hG=>(aeR (k8 hc (ki.2 z hz) hk) (k9 hc (ki.2 z hz) hk) hG.1).mono fun r H' hr=>hr.sb hG) ⟨nY.du,Up.refl c _⟩) ?_
  rintro r G3 ⟨hG3,v8⟩
  rcases v8 with ⟨_,v8⟩ | ⟨q,rfl,hq,hQ,_⟩
  ·obtain ⟨z,hz,h⟩:=gP
   exact absurd h (v8 z hz)
  have CM:=nY.call hD w hG3.2 hG3.1
  have qB:=fun es=>CM.set (es':=es) hD w
  have gp3:=CM.gp
  have gps:=fun es=>(qB es).gp
  have gxs:=fun es=>(qB es).gx
  have g6s:=fun es=>(qB es).g6
  have jS:(c.kd i).getD q 0∈c.kd i:=aV hq
  have un1:List.map AV.ab [AV.int .i64 (q:Int)]=[.int .i64 (q:Int)]:=rfl
  simp +contextual only [k2,ii.lens,ii.idx,gp3,WK,un1,gps,gxs,zV,sZ,Nat.reduceEqDiff,Nat.reduceAdd,Nat.reduceLT,Nat.reduceLeDiff,↓reduceIte,reduceCtorEq]
  refine ⟨by omega,?_⟩
  refine af (k8 hc (ki.2 _ jS) hk _ (qB _).du) ?_
  rintro r G4 ⟨v,rfl,hv,Xy,Xz⟩
  have yB:=(qB _).call hD w Xy Xz
  have gp4:=yB.gp
  have gx4:=yB.gx
  have g64:=yB.g6
  have cod:∀ l:List PP,((c.tm i).l.getD q default)=c.tm ((c.kd i).getD q 0):=fun _=>by rw [← ki.1,cA hq]
  have klen:(c.tm i).l.length=(c.kd i).length:=by rw [← ki.1];simp
  have ki2:(c.tm i).k=2:=by
   have:=(uy hc hi hk).1
   have hh:=(qL.1 (show R c.O (c.tm i) (c.tm k) from hR)).1
   exact hh
  cases v with
  | true=>
    have hs:Sh c.O (.mk 1 q [] []) (c.tm i) (c.tm k):=by
     rw [Sh1 rfl ki2]
     refine ⟨rfl,⟨by show (0:Int)≤q;omega,by show (q:Int) < _;omega⟩,.inl ⟨rfl,?_⟩⟩
     show E c.O ((c.tm i).l.getD (q:Int).toNat default) (c.tm k)
     rw [zV,cod []];exact hv.1 rfl
    have e4:(AV.int .i64 (q:Int))=AV.int .i64 (q:Int):=rfl
    have lp:=TJ 1 q [] []
    obtain ⟨q1,q2,q3,q4,q5,q6,q7,q8,q9⟩:=bf (.mk 1 q [] [])
    have lp2:=Fg (.mk 1 q [] [])
    have NR:(G4.set H.length (.cells (eO (.mk 1 q [] [])).cells))[H.length]?=some (.cells (eO (.mk 1 q [] [])).cells):=by rw [aai (aQ g64)]
    change ∀ φ,c8 (some (.cells [.int .i64 1,.int .i64 (q:Int),.ag,.ag])) (some 4) 0 φ=φ (eO (.mk 1 q [] [])) at lp
    simp +contextual only [Bool.not_true,gp4,lp,g64,q1,q2,q3,q9,TL,NR,lp2,sZ,Nat.reduceEqDiff,Nat.reduceAdd,↓reduceIte,reduceCtorEq]
    refine ⟨by first | exact cG (gM _ _) | omega,yB.fin hD hs⟩
  | false=>
    have hRx:R c.O (c.tm ((c.kd i).getD q 0)) (c.tm k):=hQ.resolve_left fun h=>absurd (hv.2 h) (by simp)
    simp +contextual only [k2,ii.lens,ii.idx,Bool.not_false,gp4,gx4,zV,sZ,Nat.reduceEqDiff,Nat.reduceAdd,Nat.reduceLT,↓reduceIte,reduceCtorEq]
    refine ⟨by omega,af (hp _ jS hRx _ yB.du) ?_⟩
    rintro r G5 ⟨u,rfl,hu,hU5,hD5⟩
    have NS:=yB.call hD w hU5 hD5
    have gp5:=NS.gp
    have HB:=fun es=>NS.set (es':=es) hD w
    have gp6:=fun es=>(HB es).gp
    have g66:=fun es=>(HB es).g6
    have hs:Sh c.O (.mk 1 q [] [u]) (c.tm i) (c.tm k):=by
     rw [Sh1 rfl ki2]
     refine ⟨rfl,⟨by show (0:Int)≤q;omega,by show (q:Int) < _;omega⟩,.inr ⟨u,rfl,?_⟩⟩
     show Sh c.O u ((c.tm i).l.getD (q:Int).toNat default) (c.tm k)
     rw [zV,cod []];exact hu
    have lp:=TJ 1 q [] [u]
    change ∀ φ,c8 (some (.cells [.int .i64 1,.int .i64 (q:Int),.ag,.aj 4 [eO u]])) (some 4) 0 φ=φ (eO (.mk 1 q [] [u])) at lp
    obtain ⟨q1,q2,q3,q4,q5,q6,q7,q8,q9⟩:=bf (.mk 1 q [] [u])
    obtain ⟨u1,u2,u3,u4,u5,u6,u7,u8,u9⟩:=bf u
    have lp2:=Fg (.mk 1 q [] [u])
    have NR:=fun es=>aai (a:=aa.cells (eO (.mk 1 q [] [u])).cells) (aQ (g66 es))
    simp +contextual only [gp5,gp6,g66,lp,q1,q2,q3,q9,TL,NR,lp2,u1,u2,u6,kF,s3,sZ,Nat.reduceEqDiff,Nat.reduceAdd,Nat.reduceLT,↓reduceIte,reduceCtorEq]
    refine ⟨by first | exact cG (gM _ _) | omega,?_⟩
    exact PB.fin (to:=[]) (l:=[u]) hD (HB _) hs
end Go.aI
end
section
set_option maxRecDepth 100000
namespace Go.aI
open Go Go.Proofs Go.dV
theorem aa3 {c:Cx} (hc:c.Ok) {i k:Int} (hi:c.ew i) (hk:c.ew k) (hR:R c.O (c.tm i) (c.tm k)) (hr:iX c i k 2) (kq:∀ m,m < 2→¬ iX c i k m) (hp:∀ y∈c.kd k,R c.O (c.tm i) (c.tm y)→qq c i y):qq c i k:=by
 intro H hD
 refine Fc.2.calls rfl ?_
 simp only [Fc,aH]
 have k2:∀ l,(bu l).ab=bu l:=fun l=>(aJ l).2.1
 have ki:=hc.kids i hi
 have kk:=hc.kids k hk
 have l1:=hc.kl i hi
 have l2:=hc.kl k hk
 obtain ⟨a1,a2,a3,a4,a5⟩:=aJ (c.kd i)
 obtain ⟨b1,b2,b3,b4,b5⟩:=aJ (c.kd k)
 have ii:IL (bu (c.kd i)) (c.kd i):=.inl rfl
 have ik:IL (bu (c.kd k)) (c.kd k):=.inl rfl
 have ei:(c.nd.getD i.toNat default).snd=c.kd i:=rfl
 have ek:(c.nd.getD k.toNat default).snd=c.kd k:=rfl
 obtain ⟨m1,m2,m3⟩:=hD.lt
 have ed:∀ X:List aa,(H++X)[c.d]?=H[c.d]?:=fun X=>zR m1
 have spv:∀ x:AV,ah [AV.ag] 0 [x]=[x]:=fun x=>rfl
 have spq:ah [AV.int .i64 0,.int .i64 0,.ag,.ag] 0 [AV.int .i64 0,.int .i64 0,.ag,.ag]=[AV.int .i64 0,.int .i64 0,.ag,.ag]:=rfl
 simp +contextual only [sZ,Nat.reduceEqDiff,Nat.reduceAdd,↓reduceIte,reduceCtorEq]
 refine mN (K1:=fun e G=>get e 1=.int .i64 i∧get e 3=.ai (.ptr c.d 0)∧get e 5=.ai (.int .i64 k)∧get e 6=.ptr H.length 0∧∃ x y,get e 7=.ptr x 0∧get e 8=.ptr y 0∧XY H x y∧PA c H x y i k G) ?_ ?_
 ·have P0:aa:=.cells [.int .i64 0,.int .i64 0,.ag,.ag]
  have A:∃ x y,AV.ptr (H.length + 1) 0=.ptr x 0∧AV.ptr (H.length + 2) 0=.ptr y 0∧XY H x y∧PA c H x y i k (H++[.cells [.int .i64 0,.int .i64 0,.ag,.ag],.cells [bu (c.kd i)],.cells [bu (c.kd k)]]):=
   ⟨_,_,rfl,rfl,⟨by omega,by omega,by omega,by omega⟩,⟨hD.um _,by simp,by simp,by simp,by simp,fun j hj _ _=>zR hj⟩⟩
  have B:∃ x y,AV.ptr (H.length + 2) 0=.ptr x 0∧AV.ptr (H.length + 1) 0=.ptr y 0∧XY H x y∧PA c H x y i k (H++[.cells [.int .i64 0,.int .i64 0,.ag,.ag],.cells [bu (c.kd k)],.cells [bu (c.kd i)]]):=
   ⟨_,_,rfl,rfl,⟨by omega,by omega,by omega,by omega⟩,⟨hD.um _,by simp,by simp,by simp,by simp,fun j hj _ _=>zR hj⟩⟩
  simp +contextual only [ed,hD.d,nT,FQ,cN,cb,k2,ei,ek,a1,a3,a4,a5,b1,b3,b4,b5,List.map_cons,List.map_nil,spv,List.all_cons,List.all_nil,acJ,bN,da,sZ,Nat.reduceEqDiff,Nat.reduceAdd,Nat.reduceLT,↓reduceIte]
  refine ⟨hi,?_⟩
  repeat' apply hV
  all_goals first | exact hk.1 | exact hk.2 | exact A | exact B
 ·rintro e G ⟨e1,e3,e5,e6,x,y,e7,e8,w,CN⟩
  simp +contextual only [e1,e3,e5,e6,e7,e8,sZ,Nat.reduceEqDiff,↓reduceIte]
  refine aG 1 (fun m (G:List aa)=>PA c H x y i k G)
   (fun m G=>[(1,.int .i64 i),(3,.ai (.ptr c.d 0)),(5,.ai (.int .i64 k)),(6,.ptr H.length 0),(7,.ptr x 0),(8,.ptr y 0),(9,.int .i64 ((m + 1:Nat):Int))]) (fun m G=>G) G ⟨CN,aA _ _ _⟩ fun m G hm CN=>?_
  have hf:eI.cells[m + 1]?=some (.fn (.func (182 + (m + 1))) [] []):=by
   have:m=0∨m=1∨m=2∨m=3:=by omega
   rcases this with rfl | rfl | rfl | rfl <;> rfl
  have en:=XB (m + 1) _ hf (by omega)
  simp +contextual only [sZ]
  refine aF Ny ?_
  simp +contextual only [nK,en _ rfl,sZ,Nat.reduceEqDiff,Nat.reduceAdd,↓reduceIte,reduceCtorEq]
  refine af ((wL hc hi hk).at (n:=m + 1) (by omega) (by omega) CN.du) ?_
  rintro r G1 ⟨z,rfl,hz,hU,oD⟩
  have rC:=CN.call hD w hU oD
  by_cases Tq:m=1
  rotate_left
  ·have:z=false:=by
    cases z with
    | false=>rfl
    | true=>exact absurd (hz.1 rfl) (kq (m + 1) (by omega))
   subst this
   simp +contextual only [Bool.not_false,sZ,Nat.reduceEqDiff,↓reduceIte]
   exact ⟨m + 1,G1,⟨by omega,rC⟩,by omega,aD (by rw [aq (m + 1) (by omega)]) rfl⟩
  subst Tq
  have:z=true:=hz.2 hr
  subst this
  have rP:=rC.len
  have l8:=fun es=>rC.um w es
  have WL:=fun es=>(l8 es).gp
  have RI:=fun es=>(l8 es).gx
  have hgy:=fun es=>(l8 es).gy
  have bV:∀ (o o':aa),(G1++[o]).set (H.length + 3) o'=G1++[o']:=fun o o'=>by rw [← rP];simp
  have ec:((2:Nat):Int)=2:=rfl
  have zf:List.map AV.ab [AV.int .i64 (2:Int),.int .i64 0,.ag,.ag]=[.int .i64 (2:Int),.int .i64 0,.ag,.ag]:=rfl
  have zf0:List.map AV.ab [AV.int .i64 0,.int .i64 0,.ag,.ag]=[.int .i64 0,.int .i64 0,.ag,.ag]:=rfl
  have e86:∀ a b:Int,decide (a=b)=decide (a=b):=fun _ _=>rfl
  simp +contextual only [k2,ik.aO,ik.len (by omega),decide_false,Bool.not_true,Bool.not_true,bdP,rP,WL,bV,ec,zf,zf0,KU,hgy,sZ,Nat.reduceEqDiff,Nat.reduceAdd,Nat.reduceLT,↓reduceIte,Int.reduceEq]
  have nY:=l8 [.int .i64 2,.int .i64 0,.ag,.ag]
  generalize G1++[aa.cells [AV.int .i64 2,.int .i64 0,.ag,.ag]]=G2 at nY ⊢
  have ki2:(c.tm i).k=2:=(qL.1 hR).1
  have wh:ux c i k:=by
   rcases hr with h | h | h | h
   ·exact absurd h.1 (by decide)
   ·exact h.2
   all_goals (exact absurd h.1 (by decide))
  obtain ⟨Ho,aP,hall0⟩:=wh
  have kk2:(c.tm k).k=2:=of_decide_eq_true Ho
  have WM:∀ qs,mO (Sh c.O) qs (c.tm i) ((c.kd k).map c.tm)→Sh c.O (.mk 2 0 [] qs) (c.tm i) (c.tm k):=by
   intro qs hq
   rw [Sh2 rfl ki2]
   rw [kk.1] at hq
   refine ⟨rfl,rfl,kk2,?_,hq⟩
   rw [rq,if_pos kk2,rq,if_pos ki2] at aP;exact aP
  refine mE (HA hD w (l0:=[]) (by simp) ik l2 (fun z hz=>hp z hz (hall0 z hz)) nY) ?_
  rintro e1 e G6 ⟨rfl,f6,f10,qs,fU,py⟩
  replace py:PB c H x y i k [.int .i64 2,.int .i64 0,.ag,qp qs] G6:=py
  have gp6:=py.gp
  have g66:=py.g6
  have lp:=TJ 2 0 [] qs
  have tv0:vJ []=AV.ag:=rfl
  rw [tv0] at lp
  have hs:Sh c.O (.mk 2 0 [] qs) (c.tm i) (c.tm k):=WM qs fU
  obtain ⟨q1,q2,q3,q4,q5,q6,q7,q8,q9⟩:=bf (.mk 2 0 [] qs)
  have lp2:=Fg (.mk 2 0 [] qs)
  have NR:=aai (a:=aa.cells (eO (.mk 2 0 [] qs)).cells) (aQ g66)
  have R3:al (H.length + 1) (eO (.mk 2 0 [] qs)).cells=true:=cG (gM _ _)
  have mw:=PB.fin (to:=[]) (l:=qs) hD py hs
  simp +contextual only [f6,f10,gp6,g66,lp,q1,q2,q3,q9,TL,NR,lp2,R3,sZ,Nat.reduceEqDiff,Nat.reduceAdd,↓reduceIte,reduceCtorEq]
  first | exact mw | exact ⟨by omega,mw⟩ | exact ⟨trivial,mw⟩
end Go.aI
end
section
set_option maxRecDepth 100000
namespace Go.aI
open Go Go.Proofs Go.dV
theorem aa4 {c:Cx} (hc:c.Ok) {i k:Int} (hi:c.ew i) (hk:c.ew k) (hR:R c.O (c.tm i) (c.tm k)) (hr:iX c i k 3) (kq:∀ m,m < 3→¬ iX c i k m) (hp:∀ y∈c.kd k,R c.O (c.tm i) (c.tm y)→qq c i y) (WN:∀ x∈c.kd i,∀ y∈c.kd k,R c.O (c.tm x) (c.tm y)→qq c x y):qq c i k:=by
 intro H hD
 refine Fc.2.calls rfl ?_
 simp only [Fc,aH]
 have k2:∀ l,(bu l).ab=bu l:=fun l=>(aJ l).2.1
 have ki:=hc.kids i hi
 have kk:=hc.kids k hk
 have l1:=hc.kl i hi
 have l2:=hc.kl k hk
 obtain ⟨a1,a2,a3,a4,a5⟩:=aJ (c.kd i)
 obtain ⟨b1,b2,b3,b4,b5⟩:=aJ (c.kd k)
 have ii:IL (bu (c.kd i)) (c.kd i):=.inl rfl
 have ik:IL (bu (c.kd k)) (c.kd k):=.inl rfl
 have ei:(c.nd.getD i.toNat default).snd=c.kd i:=rfl
 have ek:(c.nd.getD k.toNat default).snd=c.kd k:=rfl
 obtain ⟨m1,m2,m3⟩:=hD.lt
 have ed:∀ X:List aa,(H++X)[c.d]?=H[c.d]?:=fun X=>zR m1
 have spv:∀ x:AV,ah [AV.ag] 0 [x]=[x]:=fun x=>rfl
 have spq:ah [AV.int .i64 0,.int .i64 0,.ag,.ag] 0 [AV.int .i64 0,.int .i64 0,.ag,.ag]=[AV.int .i64 0,.int .i64 0,.ag,.ag]:=rfl
 simp +contextual only [sZ,Nat.reduceEqDiff,Nat.reduceAdd,↓reduceIte,reduceCtorEq]
 refine mN (K1:=fun e G=>get e 1=.int .i64 i∧get e 3=.ai (.ptr c.d 0)∧get e 5=.ai (.int .i64 k)∧get e 6=.ptr H.length 0∧∃ x y,get e 7=.ptr x 0∧get e 8=.ptr y 0∧XY H x y∧PA c H x y i k G) ?_ ?_
 ·have P0:aa:=.cells [.int .i64 0,.int .i64 0,.ag,.ag]
  have A:∃ x y,AV.ptr (H.length + 1) 0=.ptr x 0∧AV.ptr (H.length + 2) 0=.ptr y 0∧XY H x y∧PA c H x y i k (H++[.cells [.int .i64 0,.int .i64 0,.ag,.ag],.cells [bu (c.kd i)],.cells [bu (c.kd k)]]):=
   ⟨_,_,rfl,rfl,⟨by omega,by omega,by omega,by omega⟩,⟨hD.um _,by simp,by simp,by simp,by simp,fun j hj _ _=>zR hj⟩⟩
  have B:∃ x y,AV.ptr (H.length + 2) 0=.ptr x 0∧AV.ptr (H.length + 1) 0=.ptr y 0∧XY H x y∧PA c H x y i k (H++[.cells [.int .i64 0,.int .i64 0,.ag,.ag],.cells [bu (c.kd k)],.cells [bu (c.kd i)]]):=
   ⟨_,_,rfl,rfl,⟨by omega,by omega,by omega,by omega⟩,⟨hD.um _,by simp,by simp,by simp,by simp,fun j hj _ _=>zR hj⟩⟩
  simp +contextual only [ed,hD.d,nT,FQ,cN,cb,k2,ei,ek,a1,a3,a4,a5,b1,b3,b4,b5,List.map_cons,List.map_nil,spv,List.all_cons,List.all_nil,acJ,bN,da,sZ,Nat.reduceEqDiff,Nat.reduceAdd,Nat.reduceLT,↓reduceIte]
  refine ⟨hi,?_⟩
  repeat' apply hV
  all_goals first | exact hk.1 | exact hk.2 | exact A | exact B
 ·rintro e G ⟨e1,e3,e5,e6,x,y,e7,e8,w,CN⟩
  simp +contextual only [e1,e3,e5,e6,e7,e8,sZ,Nat.reduceEqDiff,↓reduceIte]
  refine aG 2 (fun m (G:List aa)=>PA c H x y i k G)
   (fun m G=>[(1,.int .i64 i),(3,.ai (.ptr c.d 0)),(5,.ai (.int .i64 k)),(6,.ptr H.length 0),(7,.ptr x 0),(8,.ptr y 0),(9,.int .i64 ((m + 1:Nat):Int))]) (fun m G=>G) G ⟨CN,aA _ _ _⟩ fun m G hm CN=>?_
  have hf:eI.cells[m + 1]?=some (.fn (.func (182 + (m + 1))) [] []):=by
   have:m=0∨m=1∨m=2∨m=3:=by omega
   rcases this with rfl | rfl | rfl | rfl <;> rfl
  have en:=XB (m + 1) _ hf (by omega)
  simp +contextual only [sZ]
  refine aF Ny ?_
  simp +contextual only [nK,en _ rfl,sZ,Nat.reduceEqDiff,Nat.reduceAdd,↓reduceIte,reduceCtorEq]
  refine af ((wL hc hi hk).at (n:=m + 1) (by omega) (by omega) CN.du) ?_
  rintro r G1 ⟨z,rfl,hz,hU,oD⟩
  have rC:=CN.call hD w hU oD
  by_cases Tq:m=2
  rotate_left
  ·have:z=false:=by
    cases z with
    | false=>rfl
    | true=>exact absurd (hz.1 rfl) (kq (m + 1) (by omega))
   subst this
   simp +contextual only [Bool.not_false,sZ,Nat.reduceEqDiff,↓reduceIte]
   exact ⟨m + 1,G1,⟨by omega,rC⟩,by omega,aD (by rw [aq (m + 1) (by omega)]) rfl⟩
  subst Tq
  have:z=true:=hz.2 hr
  subst this
  have rP:=rC.len
  have l8:=fun es=>rC.um w es
  have WL:=fun es=>(l8 es).gp
  have RI:=fun es=>(l8 es).gx
  have hgy:=fun es=>(l8 es).gy
  have bV:∀ (o o':aa),(G1++[o]).set (H.length + 3) o'=G1++[o']:=fun o o'=>by rw [← rP];simp
  have ec:((3:Nat):Int)=3:=rfl
  have zf:List.map AV.ab [AV.int .i64 (3:Int),.int .i64 0,.ag,.ag]=[.int .i64 (3:Int),.int .i64 0,.ag,.ag]:=rfl
  have zf0:List.map AV.ab [AV.int .i64 0,.int .i64 0,.ag,.ag]=[.int .i64 0,.int .i64 0,.ag,.ag]:=rfl
  have e86:∀ a b:Int,decide (a=b)=decide (a=b):=fun _ _=>rfl
  simp +contextual only [decide_true,decide_false,Bool.not_true,Bool.not_true,bdP,rP,WL,bV,ec,zf,zf0,KU,sZ,Nat.reduceEqDiff,Nat.reduceAdd,↓reduceIte,Int.reduceEq]
  have nY:=l8 [.int .i64 3,.int .i64 0,.ag,.ag]
  generalize G1++[aa.cells [AV.int .i64 3,.int .i64 0,.ag,.ag]]=G2 at nY ⊢
  have ki2:(c.tm i).k=2:=(qL.1 hR).1
  have hlx:Cw c i k:=by
   rcases hr with h | h | h | h
   ·exact absurd h.1 (by decide)
   ·exact absurd h.1 (by decide)
   ·exact h.2
   ·exact absurd h.1 (by decide)
  obtain ⟨NN,CL,hall0,n0,aeU,hn1,hn2⟩:=hlx
  have NT:=lJ.1 NN
  have kk2:(c.tm k).k=2:=NT.2.1
  have osi:dN c i=c.O.sp (c.O.pl (c.tm i).n):=by rw [dN,if_pos ki2]
  have hx:side (c.O.sp (c.O.pl (c.tm i).n)) (c.tm i).l=(bt (dN c i) (c.kd i)).map c.tm:=by rw [← osi,← ki.1,iB]
  have hy:side (c.O.sp (c.O.pl (c.tm i).n)) (c.tm k).l=(bt (dN c i) (c.kd k)).map c.tm:=by rw [← osi,← kk.1,iB]
  have lx:(bt (dN c i) (c.kd i)).length=(c.kd i).length:=iz
  have ly:(bt (dN c i) (c.kd k)).length=(c.kd k).length:=iz
  have nx:∀ z∈bt (dN c i) (c.kd i),z∈c.kd i:=fun z hz=>qc.1 hz
  have ny:∀ z∈bt (dN c i) (c.kd k),z∈c.kd k:=fun z hz=>qc.1 hz
  have hS:∀ (n:Nat) (l:List PP),Sh c.O (.mk 3 n [] l) (c.tm i) (c.tm k)↔E4 (E c.O) (Sh c.O) n l (c.tm i) ((bt (dN c i) (c.kd i)).map c.tm) ((bt (dN c i) (c.kd k)).map c.tm) (c.tm k).l:=by
   intro n l
   rw [Sh3 rfl ki2,hx,hy]
   rw [osi] at CL
   exact ⟨fun h=>h.2.2.2.2,fun h=>⟨rfl,kk2,NT.2.2,CL,h⟩⟩
  refine af (ru hc hi nY.du) ?_
  rintro r G3 ⟨rfl,rfl⟩
  have gx0:=nY.gx
  have gy0:=nY.gy
  simp +contextual only [k2,dO,gh,gk,gl,gx0,sZ,Nat.reduceEqDiff,Nat.reduceAdd,Nat.reduceLT,↓reduceIte]
  refine aF (KF (c.kd i) (dN c i) (by omega)) ?_
  simp +contextual only [k2,gy0,sZ,Nat.reduceEqDiff,Nat.reduceAdd,Nat.reduceLT,↓reduceIte]
  refine aF (KF (c.kd k) (dN c i) (by omega)) ?_
  generalize bt (dN c i) (c.kd i)=xs at *
  generalize bt (dN c i) (c.kd k)=ys at *
  have ix:IL (.aj 0 (ints xs)) xs:=.inr rfl
  have iy:IL (.aj 0 (ints ys)) ys:=.inr rfl
  simp +contextual only [sZ,Nat.reduceEqDiff,Nat.reduceAdd,↓reduceIte,reduceCtorEq]
  refine af (aar ix iy (by omega) (by omega) (fun z hz z' ym=>k8 hc (ki.2 z (nx z hz)) (kk.2 z' (ny z' ym))) nY.du) ?_
  rintro r G4 ⟨n,rfl,hn,Xy,Xz⟩
  have en0:=hn.Wl aeU
  subst en0
  have yB:=nY.call hD w Xy Xz
  have gp4:=yB.gp
  have qB:=fun es=>yB.set (es':=es) hD w
  have gps:=fun es=>(qB es).gp
  have gxs:=fun es=>(qB es).gx
  have gys:=fun es=>(qB es).gy
  have un1:List.map AV.ab [AV.int .i64 (n:Int)]=[.int .i64 (n:Int)]:=rfl
  have hLS:∀ l,E4 (E c.O) (Sh c.O) n l (c.tm i) (xs.map c.tm) (ys.map c.tm) (c.tm k).l↔(if (n:Int)=ys.length then mO (Sh c.O) l (c.tm i) ((c.kd k).map c.tm) else ∃ q r,l=q::r∧Sh c.O q (c.tm (xs.getD n 0)) (c.tm (ys.getD n 0))∧mO (Sh c.O) r (c.tm i) ((c.kd k).map c.tm)):=by
   intro l
   rw [aaV (kd:=c.kd k) kk.1]
   have h1:(0:Int)≤n∧(n:Int) < xs.length∧(n:Int)≤ys.length:=⟨by omega,by omega,by have:=hn.lb;omega⟩
   have h2:∀ j,j < (n:Int).toNat→E c.O (c.tm (xs.getD j 0)) (c.tm (ys.getD j 0)):=fun j hj=>hn.eq j (by omega)
   rw [zV]
   exact ⟨fun h=>h.2.2,fun h=>⟨h1,h2,h⟩⟩
  by_cases hny:n < ys.length
  ·have n4:((n:Int) < ys.length)=True:=eq_true (by omega)
   simp +contextual only [decide_true,gp4,WK,un1,gps,iy.aO,iy.len (by omega),n4,ix.idx,iy.idx,ix.lens,iy.lens,zV,d3,s3,aeP,sZ,Nat.reduceEqDiff,Nat.reduceAdd,Nat.reduceLT,Nat.reduceLeDiff,↓reduceIte,reduceCtorEq]
   have mx:=nx _ (aV (l:=xs) (i:=n) (by omega))
   have my:=ny _ (aV hny)
   have Gq:qq c (xs.getD n 0) (ys.getD n 0):=WN _ mx _ my (hn2.resolve_left (by omega))
   have WM:∀ u qs,Sh c.O u (c.tm (xs.getD n 0)) (c.tm (ys.getD n 0))→mO (Sh c.O) qs (c.tm i) ((c.kd k).map c.tm)→Sh c.O (.mk 3 n [] (u::qs)) (c.tm i) (c.tm k):=by
    intro u qs hu hq
    rw [hS,hLS,if_neg (by omega)];exact ⟨u,qs,rfl,hu,hq⟩
   repeat' apply hV
   all_goals first | omega | skip
   all_goals
    refine af (Gq _ (qB _).du) ?_
    rintro r G5 ⟨u,rfl,hu,hU5,hD5⟩
    replace WM:=fun qs=>WM u qs hu
    have NS:=(qB _).call hD w hU5 hD5
    have gp5:=NS.gp
    have HB:=fun es=>NS.set (es':=es) hD w
    have gps6:=fun es=>(HB es).gp
    have gys6:=fun es=>(HB es).gy
    obtain ⟨u1,u2,u3,u4,u5,u6,u7,u8,u9⟩:=bf u
    have ap1:∀ ψ,bw 4 64 .ag (.aj 0 [eO u]) ψ=ψ (eK ([]++[u])):=fun ψ=>Fe [] u (by simp) 0 ψ
    have ea:eK ([]++[u])=[eO u]:=rfl
    rw [ea] at ap1
    simp +contextual only [k2,ik.aO,ik.len (by omega),u1,u2,u6,kF,ap1,gp5,gps6,gys6,d3,s3,aeP,sZ,Nat.reduceEqDiff,Nat.reduceAdd,Nat.reduceLT,↓reduceIte]
    refine mE (HA hD w (l0:=[u]) (by simp) ik l2 (fun z hz=>hp z hz (hall0 z hz)) (HB _)) ?_
    rintro e1 e G6 ⟨rfl,f6,f10,qs,fU,py⟩
    replace py:PB c H x y i k [.int .i64 3,.int .i64 n,.ag,qp (u::qs)] G6:=py
    have gp6:=py.gp
    have g66:=py.g6
    have lp:=TJ 3 n [] (u::qs)
    have tv0:vJ []=AV.ag:=rfl
    rw [tv0] at lp
    have hs:Sh c.O (.mk 3 n [] (u::qs)) (c.tm i) (c.tm k):=WM qs fU
    obtain ⟨q1,q2,q3,q4,q5,q6,q7,q8,q9⟩:=bf (.mk 3 n [] (u::qs))
    have lp2:=Fg (.mk 3 n [] (u::qs))
    have NR:=aai (a:=aa.cells (eO (.mk 3 n [] (u::qs))).cells) (aQ g66)
    have R3:al (H.length + 1) (eO (.mk 3 n [] (u::qs))).cells=true:=cG (gM _ _)
    have mw:=PB.fin (to:=[]) (l:=(u::qs)) hD py hs
    simp +contextual only [f6,f10,gp6,g66,lp,q1,q2,q3,q9,TL,NR,lp2,R3,sZ,Nat.reduceEqDiff,Nat.reduceAdd,↓reduceIte,reduceCtorEq]
    first | exact mw | exact ⟨by omega,mw⟩ | exact ⟨trivial,mw⟩
  ·have n4:((n:Int) < ys.length)=False:=eq_false (by omega)
   have WM:∀ qs,mO (Sh c.O) qs (c.tm i) ((c.kd k).map c.tm)→Sh c.O (.mk 3 n [] qs) (c.tm i) (c.tm k):=by
    intro qs hq
    rw [hS,hLS,if_pos (by have:=hn.lb;omega)];exact hq
   simp +contextual only [k2,ik.aO,ik.len (by omega),decide_false,gp4,WK,un1,gps,gys,iy.aO,iy.len (by omega),n4,sZ,Nat.reduceEqDiff,Nat.reduceAdd,Nat.reduceLT,Nat.reduceLeDiff,↓reduceIte]
   refine mE (HA hD w (l0:=[]) (by simp) ik l2 (fun z hz=>hp z hz (hall0 z hz)) (qB _)) ?_
   rintro e1 e G6 ⟨rfl,f6,f10,qs,fU,py⟩
   replace py:PB c H x y i k [.int .i64 3,.int .i64 n,.ag,qp qs] G6:=py
   have gp6:=py.gp
   have g66:=py.g6
   have lp:=TJ 3 n [] qs
   have tv0:vJ []=AV.ag:=rfl
   rw [tv0] at lp
   have hs:Sh c.O (.mk 3 n [] qs) (c.tm i) (c.tm k):=WM qs fU
   obtain ⟨q1,q2,q3,q4,q5,q6,q7,q8,q9⟩:=bf (.mk 3 n [] qs)
   have lp2:=Fg (.mk 3 n [] qs)
   have NR:=aai (a:=aa.cells (eO (.mk 3 n [] qs)).cells) (aQ g66)
   have R3:al (H.length + 1) (eO (.mk 3 n [] qs)).cells=true:=cG (gM _ _)
   have mw:=PB.fin (to:=[]) (l:=qs) hD py hs
   simp +contextual only [f6,f10,gp6,g66,lp,q1,q2,q3,q9,TL,NR,lp2,R3,sZ,Nat.reduceEqDiff,Nat.reduceAdd,↓reduceIte,reduceCtorEq]
   first | exact mw | exact ⟨by omega,mw⟩ | exact ⟨trivial,mw⟩
end Go.aI
end
section
set_option maxRecDepth 100000
namespace Go.aI
open Go Go.Proofs Go.dV
structure PC (c:Cx) (H:List aa) (x y:Nat) (i k:Int) (es:List AV) (o:aa) (G:List aa):Prop where
 du:Du c G
 gx:G[x]?=some (.cells [bu (c.kd i)])
 gy:G[y]?=some (.cells [bu (c.kd k)])
 g6:G[H.length]?=some (.cells [.int .i64 0,.int .i64 0,.ag,.ag])
 gp:G[H.length + 3]?=some (.cells es)
 go:G[H.length + 4]?=some o
 len:G.length=H.length + 5
 up:∀ j,j < H.length→j≠c.e→j≠c.g→G[j]?=H[j]?
theorem PB.aeV {c:Cx} {H G:List aa} {x y:Nat} {i k:Int} {es:List AV} (w:XY H x y) (h:PB c H x y i k es G) (o:aa):PC c H x y i k es o (G++[o]):=by
 obtain ⟨w1,w2,w3,w4⟩:=w
 have hl:=h.len
 exact ⟨h.du.um _,by rw [zR (by omega),h.gx],by rw [zR (by omega),h.gy],by rw [zR (by omega),h.g6],by rw [zR (by omega),h.gp],by rw [← hl];simp,by simp [hl],fun j h1 h2 h3=>by rw [zR (by omega),h.up j h1 h2 h3]⟩
theorem PC.call {c:Cx} {H G G':List aa} {x y:Nat} {i k:Int} {es:List AV} {o:aa} (hD:Du c H) (w:XY H x y) (h:PC c H x y i k es o G) (hU:Up c G G') (kv:Du c G'):PC c H x y i k es o G':=by
 obtain ⟨l1,l2,l3⟩:=hD.lt
 obtain ⟨w1,w2,w3,w4⟩:=w
 exact ⟨kv,by rw [hU.get x (by omega) (by omega),h.gx],by rw [hU.get y (by omega) (by omega),h.gy],by rw [hU.get _ (by omega) (by omega),h.g6],by rw [hU.get _ (by omega) (by omega),h.gp],by rw [hU.get _ (by omega) (by omega),h.go],by rw [hU.len,h.len],fun j h1 h2 h3=>by rw [hU.get j h2 h3,h.up j h1 h2 h3]⟩
theorem PC.set {c:Cx} {H G:List aa} {x y:Nat} {i k:Int} {es es':List AV} {o:aa} (hD:Du c H) (w:XY H x y) (h:PC c H x y i k es o G):PC c H x y i k es' o (G.set (H.length + 3) (.cells es')):=by
 obtain ⟨l1,l2,l3⟩:=hD.lt
 obtain ⟨w1,w2,w3,w4⟩:=w
 have hp:=aQ h.gp
 exact ⟨h.du.set (by omega) (by omega) (by omega),by rw [zS (by omega),h.gx],by rw [zS (by omega),h.gy],by rw [zS (by omega),h.g6],by rw [aai hp],by rw [zS (by omega),h.go],by rw [acK,h.len],fun j h1 h2 h3=>by rw [zS (by omega),h.up j h1 h2 h3]⟩
theorem PC.aeW {c:Cx} {H G:List aa} {x y:Nat} {i k:Int} {es:List AV} {o o':aa} (hD:Du c H) (w:XY H x y) (h:PC c H x y i k es o G):PC c H x y i k es o' (G.set (H.length + 4) o'):=by
 obtain ⟨l1,l2,l3⟩:=hD.lt
 obtain ⟨w1,w2,w3,w4⟩:=w
 have hp:=aQ h.go
 exact ⟨h.du.set (by omega) (by omega) (by omega),by rw [zS (by omega),h.gx],by rw [zS (by omega),h.gy],by rw [zS (by omega),h.g6],by rw [zS (by omega),h.gp],by rw [aai hp],by rw [acK,h.len],fun j h1 h2 h3=>by rw [zS (by omega),h.up j h1 h2 h3]⟩
theorem PC.drop {c:Cx} {H G:List aa} {x y:Nat} {i k:Int} {es:List AV} {o:aa} (hD:Du c H) (w:XY H x y) (h:PC c H x y i k es o G):PB c H x y i k es (G.take (H.length + 4))∧G=G.take (H.length + 4)++[o]:=by
 obtain ⟨l1,l2,l3⟩:=hD.lt
 obtain ⟨w1,w2,w3,w4⟩:=w
 have hl:=h.len
 have t:∀ j,j < H.length + 4→(G.take (H.length + 4))[j]?=G[j]?:=fun j h1=>by rw [aaM,if_pos h1]
 refine ⟨⟨h.du.take (by omega) (by omega) (by omega),by rw [t x (by omega),h.gx],by rw [t y (by omega),h.gy],by rw [t _ (by omega),h.g6],by rw [t _ (by omega),h.gp],by simp;omega,fun j h1 h2 h3=>by rw [t j (by omega),h.up j h1 h2 h3]⟩,?_⟩
 have e:G.drop (H.length + 4)=[o]:=by
  have h1:=h.go
  have aP:H.length + 4 < G.length:=by omega
  rw [aaP aP]
  rw [T1 aP] at h1
  simp only [Option.some.injEq] at h1
  rw [h1,aaN (by omega)]
 rw [← e,aeB]
structure MI (c:Cx) (a b:List Int) (us:List Bool) (to:List Int) (j:Nat) (ts:List Int) (ls:List PP):Prop where
 lt:ts.length=j
 ll:ls.length=j
 pa:∀ j',j' < j→0≤to.getD j' 0→ts.getD j' 0=to.getD j' 0∧(ls.getD j' default).nil
 ov:∀ j',j' < j→to.getD j' 0 < 0→(¬ (ls.getD j' default).nil∧Sh c.O (ls.getD j' default) (c.tm (a.getD (ts.getD j' 0).toNat 0)) (c.tm (b.getD j' 0)))∧∃ u:Nat,ts.getD j' 0=u∧u < a.length∧us.getD u false=false
theorem MI.snoc {c:Cx} {a b:List Int} {us:List Bool} {to:List Int} {j:Nat} {ts:List Int} {ls:List PP} (h:MI c a b us to j ts ls) (v:Int) (q:PP)
 (h1:0≤to.getD j 0→v=to.getD j 0∧q.nil) (h2:to.getD j 0 < 0→(¬ q.nil∧Sh c.O q (c.tm (a.getD v.toNat 0)) (c.tm (b.getD j 0)))∧∃ u:Nat,v=u∧u < a.length∧us.getD u false=false):MI c a b us to (j + 1) (ts++[v]) (ls++[q]):=by
 obtain ⟨k1,k2,k3,k4⟩:=h
 have e1:∀ j',j' < j→(ts++[v]).getD j' 0=ts.getD j' 0∧(ls++[q]).getD j' default=ls.getD j' default:=fun j' wI=>by
  constructor
  ·rw [tu,tu,zR (by omega)]
  ·rw [tu,tu,zR (by omega)]
 have e2:(ts++[v]).getD j 0=v∧(ls++[q]).getD j default=q:=by
  constructor
  ·rw [← k1];simp
  ·rw [← k2];simp
 refine ⟨by simp [k1],by simp [k2],fun j' wI h0=>?_,fun j' wI h0=>?_⟩
 ·by_cases e:j'=j
  ·subst e;rw [e2.1,e2.2];exact h1 h0
  ·have aP:j' < j:=by omega
   rw [(e1 j' aP).1,(e1 j' aP).2];exact k3 j' aP h0
 ·by_cases e:j'=j
  ·subst e;rw [e2.1,e2.2];exact h2 h0
  ·have aP:j' < j:=by omega
   rw [(e1 j' aP).1,(e1 j' aP).2];exact k4 j' aP h0
theorem yC {to:List Int} {x:Int}:∀ {n:Nat},(∀ j j',j < n→j' < n→to.getD j 0=x→to.getD j' 0=x→j=j')→dI to x n≤1
 | 0,_=>by simp [dI]
 | n + 1,h=>by
   rw [dI]
   have ih:=yC (n:=n) fun j j' h1 h2=>h j j' (by omega) (by omega)
   by_cases e:to.getD n 0=x
   ·rw [if_pos e]
    have:dI to x n=0:=by
     have h0:∀ m,m≤n→dI to x m=0:=by
      intro m
      induction m with
      | zero=>intro _;rfl
      | succ m ihm=>
        intro hm
        rw [dI,ihm (by omega),if_neg (fun e'=>by have:=h m n (by omega) (by omega) e' e;omega)]
     exact h0 n (tv _)
    omega
   ·rw [if_neg e];omega
theorem MI.cov {c:Cx} {a b:List Int} {us:List Bool} {to ts:List Int} {ls:List PP} (h:MI c a b us to b.length ts ls) (Cz:Pr (fun x y=>E c.O (c.tm x) (c.tm y)) a b b.length us to) (hl:∃ u:Nat,u < a.length∧us.getD u false=false):KQ c ts ls a b:=by
 obtain ⟨k1,k2,k3,k4⟩:=h
 have cas:∀ j,j < b.length→(∃ u:Nat,to.getD j 0=u∧u < a.length∧us.getD u false=true∧E c.O (c.tm (a.getD u 0)) (c.tm (b.getD j 0)))∨to.getD j 0 < 0:=fun j hj=>by
  rcases Cz.t1 j hj with h | ⟨u,h1,h2,h3,h4⟩
  ·exact .inr (by omega)
  ·exact .inl ⟨u,h1,h2,h3,h4⟩
 refine ⟨k1,k2,fun j hj=>?_,fun x hx hp=>?_,?_⟩
 ·rcases cas j hj with ⟨u,h1,h2,h3,h4⟩ | hn
  ·obtain ⟨e1,e2⟩:=k3 j hj (by omega)
   rw [if_pos e2,e1,h1]
   exact ⟨by omega,by rw [zV];exact h4⟩
  ·obtain ⟨⟨e1,e2⟩,u,h1,h2,h3⟩:=k4 j hj hn
   rw [if_neg e1]
   exact ⟨by omega,e2⟩
 ·obtain ⟨j,hj,e1,e2⟩:=jv.1 hp
  have Db:∀ j',j' < b.length→ts.getD j' 0=(x:Int)→us.getD x false=true→to.getD j' 0=(x:Int):=by
   intro j' wI e ht
   rcases cas j' wI with ⟨u,h1,_⟩ | hn
   ·rw [← (k3 j' wI (by omega)).1];exact e
   ·obtain ⟨_,u,h1,h2,h3⟩:=k4 j' wI hn
    have:u=x:=by omega
    subst this;rw [h3] at ht;cases ht
  have hux:us.getD x false=true:=by
   rcases cas j hj with ⟨u,h1,h2,h3,_⟩ | hn
   ·have:=(k3 j hj (by omega)).1
    have:u=x:=by omega
    subst this;exact h3
   ·exact absurd e2 (k4 j hj hn).1.1
  refine yC fun j1 j2 h1 h2 e1 e2=>?_
  have t1:=Db j1 h1 e1 hux
  have t2:=Db j2 h2 e2 hux
  exact Cz.inj j1 j2 h1 h2 (by omega) (by omega)
 ·obtain ⟨u,hu,hf⟩:=hl
  refine ⟨u,hu,?_⟩
  by_cases h0:0 < dz ts ls u b.length
  ·obtain ⟨j,hj,e1,e2⟩:=jv.1 h0
   rcases cas j hj with ⟨u',h1,h2,h3,_⟩ | hn
   ·have:=(k3 j hj (by omega)).1
    have:u'=u:=by omega
    subst this;rw [hf] at h3;cases h3
   ·exact absurd e2 (k4 j hj hn).1.1
  ·omega
theorem Sh.ne_nil {O:Od} {p:PP} {a b:T} (h:Sh O p a b):¬ p.nil:=by
 rintro ⟨h1,_⟩
 exact Sh0 (by omega) (by omega) (by omega) (by omega) h
theorem aa5 {c:Cx} (hc:c.Ok) {i k:Int} (hi:c.ew i) (hk:c.ew k) (hR:R c.O (c.tm i) (c.tm k)) (hr:iX c i k 4) (kq:∀ m,m < 4→¬ iX c i k m) (WN:∀ x∈c.kd i,∀ y∈c.kd k,R c.O (c.tm x) (c.tm y)→qq c x y):qq c i k:=by
 intro H hD
 refine Fc.2.calls rfl ?_
 simp only [Fc,aH]
 have k2:∀ l,(bu l).ab=bu l:=fun l=>(aJ l).2.1
 have ki:=hc.kids i hi
 have kk:=hc.kids k hk
 have l1:=hc.kl i hi
 have l2:=hc.kl k hk
 obtain ⟨a1,a2,a3,a4,a5⟩:=aJ (c.kd i)
 obtain ⟨b1,b2,b3,b4,b5⟩:=aJ (c.kd k)
 have ii:IL (bu (c.kd i)) (c.kd i):=.inl rfl
 have ik:IL (bu (c.kd k)) (c.kd k):=.inl rfl
 have ei:(c.nd.getD i.toNat default).snd=c.kd i:=rfl
 have ek:(c.nd.getD k.toNat default).snd=c.kd k:=rfl
 obtain ⟨m1,m2,m3⟩:=hD.lt
 have ed:∀ X:List aa,(H++X)[c.d]?=H[c.d]?:=fun X=>zR m1
 have spv:∀ x:AV,ah [AV.ag] 0 [x]=[x]:=fun x=>rfl
 have spq:ah [AV.int .i64 0,.int .i64 0,.ag,.ag] 0 [AV.int .i64 0,.int .i64 0,.ag,.ag]=[AV.int .i64 0,.int .i64 0,.ag,.ag]:=rfl
 simp +contextual only [sZ,Nat.reduceEqDiff,Nat.reduceAdd,↓reduceIte,reduceCtorEq]
 refine mN (K1:=fun e G=>get e 1=.int .i64 i∧get e 3=.ai (.ptr c.d 0)∧get e 5=.ai (.int .i64 k)∧get e 6=.ptr H.length 0∧∃ x y,get e 7=.ptr x 0∧get e 8=.ptr y 0∧XY H x y∧PA c H x y i k G) ?_ ?_
 ·have P0:aa:=.cells [.int .i64 0,.int .i64 0,.ag,.ag]
  have A:∃ x y,AV.ptr (H.length + 1) 0=.ptr x 0∧AV.ptr (H.length + 2) 0=.ptr y 0∧XY H x y∧PA c H x y i k (H++[.cells [.int .i64 0,.int .i64 0,.ag,.ag],.cells [bu (c.kd i)],.cells [bu (c.kd k)]]):=
   ⟨_,_,rfl,rfl,⟨by omega,by omega,by omega,by omega⟩,⟨hD.um _,by simp,by simp,by simp,by simp,fun j hj _ _=>zR hj⟩⟩
  have B:∃ x y,AV.ptr (H.length + 2) 0=.ptr x 0∧AV.ptr (H.length + 1) 0=.ptr y 0∧XY H x y∧PA c H x y i k (H++[.cells [.int .i64 0,.int .i64 0,.ag,.ag],.cells [bu (c.kd k)],.cells [bu (c.kd i)]]):=
   ⟨_,_,rfl,rfl,⟨by omega,by omega,by omega,by omega⟩,⟨hD.um _,by simp,by simp,by simp,by simp,fun j hj _ _=>zR hj⟩⟩
  simp +contextual only [ed,hD.d,nT,FQ,cN,cb,k2,ei,ek,a1,a3,a4,a5,b1,b3,b4,b5,List.map_cons,List.map_nil,spv,List.all_cons,List.all_nil,acJ,bN,da,sZ,Nat.reduceEqDiff,Nat.reduceAdd,Nat.reduceLT,↓reduceIte]
  refine ⟨hi,?_⟩
  repeat' apply hV
  all_goals first | exact hk.1 | exact hk.2 | exact A | exact B
 ·rintro e G ⟨e1,e3,e5,e6,x,y,e7,e8,w,CN⟩
  simp +contextual only [e1,e3,e5,e6,e7,e8,sZ,Nat.reduceEqDiff,↓reduceIte]
  refine aG 3 (fun m (G:List aa)=>PA c H x y i k G)
   (fun m G=>[(1,.int .i64 i),(3,.ai (.ptr c.d 0)),(5,.ai (.int .i64 k)),(6,.ptr H.length 0),(7,.ptr x 0),(8,.ptr y 0),(9,.int .i64 ((m + 1:Nat):Int))]) (fun m G=>G) G ⟨CN,aA _ _ _⟩ fun m G hm CN=>?_
  have hf:eI.cells[m + 1]?=some (.fn (.func (182 + (m + 1))) [] []):=by
   have:m=0∨m=1∨m=2∨m=3:=by omega
   rcases this with rfl | rfl | rfl | rfl <;> rfl
  have en:=XB (m + 1) _ hf (by omega)
  simp +contextual only [sZ]
  refine aF Ny ?_
  simp +contextual only [nK,en _ rfl,sZ,Nat.reduceEqDiff,Nat.reduceAdd,↓reduceIte,reduceCtorEq]
  refine af ((wL hc hi hk).at (n:=m + 1) (by omega) (by omega) CN.du) ?_
  rintro r G1 ⟨z,rfl,hz,hU,oD⟩
  have rC:=CN.call hD w hU oD
  by_cases Tq:m=3
  rotate_left
  ·have:z=false:=by
    cases z with
    | false=>rfl
    | true=>exact absurd (hz.1 rfl) (kq (m + 1) (by omega))
   subst this
   simp +contextual only [Bool.not_false,sZ,Nat.reduceEqDiff,↓reduceIte]
   exact ⟨m + 1,G1,⟨by omega,rC⟩,by omega,aD (by rw [aq (m + 1) (by omega)]) rfl⟩
  subst Tq
  have:z=true:=hz.2 hr
  subst this
  have rP:=rC.len
  have l8:=fun es=>rC.um w es
  have WL:=fun es=>(l8 es).gp
  have RI:=fun es=>(l8 es).gx
  have hgy:=fun es=>(l8 es).gy
  have bV:∀ (o o':aa),(G1++[o]).set (H.length + 3) o'=G1++[o']:=fun o o'=>by rw [← rP];simp
  have ec:((4:Nat):Int)=4:=rfl
  have zf:List.map AV.ab [AV.int .i64 (4:Int),.int .i64 0,.ag,.ag]=[.int .i64 (4:Int),.int .i64 0,.ag,.ag]:=rfl
  have zf0:List.map AV.ab [AV.int .i64 0,.int .i64 0,.ag,.ag]=[.int .i64 0,.int .i64 0,.ag,.ag]:=rfl
  have e86:∀ a b:Int,decide (a=b)=decide (a=b):=fun _ _=>rfl
  simp +contextual only [k2,decide_true,decide_false,Bool.not_true,Bool.not_true,bdP,rP,WL,bV,ec,zf,zf0,KU,RI,hgy,sZ,Nat.reduceEqDiff,Nat.reduceAdd,Nat.reduceLT,↓reduceIte,reduceCtorEq,Int.reduceEq]
  have nY:=l8 [.int .i64 4,.int .i64 0,.ag,.ag]
  generalize G1++[aa.cells [AV.int .i64 4,.int .i64 0,.ag,.ag]]=G2 at nY ⊢
  have ki2:(c.tm i).k=2:=(qL.1 hR).1
  have hmq:zD c i k:=by
   rcases hr with h | h | h | h
   ·exact absurd h.1 (by decide)
   ·exact absurd h.1 (by decide)
   ·exact absurd h.1 (by decide)
   ·exact h.2
  obtain ⟨NN,CL,Wq⟩:=hmq
  have NT:=lJ.1 NN
  have kk2:(c.tm k).k=2:=NT.2.1
  have osi:dN c i=c.O.sp (c.O.pl (c.tm i).n):=by rw [dN,if_pos ki2]
  have gx0:=nY.gx
  have gy0:=nY.gy
  simp +contextual only [sZ]
  refine af (Wp ii ik (by omega) (by omega) (fun z hz z' ym=>k8 hc (ki.2 z hz) (kk.2 z' ym)) nY.du) ?_
  rintro r G3 ⟨us,to,Cz,rfl,hU3,Nv⟩
  have CM:=nY.call hD w hU3 Nv
  have Xm:=(Pr.mu (f:=nf c) (G:=Gt c.O.sp) Cz).1 Wq
  have lbl:=kD (c.kd i).length fun z=>!us.getD z false
  have il:IL (bu (below (c.kd i).length fun z=>!us.getD z false)) (below (c.kd i).length fun z=>!us.getD z false):=.inl rfl
  have mml:∀ {z:Int},z∈below (c.kd i).length (fun z=>!us.getD z false)→∃ u:Nat,z=u∧u < (c.kd i).length∧us.getD u false=false:=by
   intro z hz;obtain ⟨u,h1,h2,h3⟩:=iA.1 hz;exact ⟨u,h1,h2,by simpa using h3⟩
  have mmo:∀ {j:Nat},j < (c.kd k).length→to.getD j 0 < 0→∃ z∈below (c.kd i).length (fun z=>!us.getD z false),R c.O (c.tm ((c.kd i).getD z.toNat 0)) (c.tm ((c.kd k).getD j 0)):=by
   intro j hj hn
   exact Xm.2 (j:Int) (iA.2 ⟨j,rfl,hj,by simpa using hn⟩)
  have aeX:=Xm.1
  generalize (below (c.kd i).length fun z=>!us.getD z false)=L at *
  have lto:=Cz.lt
  obtain ⟨v1,v2,v3,v4,v5⟩:=aJ L
  simp +contextual only [k2,aw,sZ,Nat.reduceEqDiff,Nat.reduceAdd,Nat.reduceLT,↓reduceIte]
  intro _
  have hlne2:∃ u:Nat,u < (c.kd i).length∧us.getD u false=false:=by
   cases L with
   | nil=>exact absurd rfl aeX
   | cons z r=>
     obtain ⟨u,_,h2,h3⟩:=mml (aa2 (a:=z) (l:=r))
     exact ⟨u,h2,h3⟩
  refine aG (c.kd k).length (fun j (s:List aa×List Int×List PP)=>PB c H x y i k [.int .i64 4,.int .i64 0,vJ s.2.1,qp s.2.2] s.1∧MI c (c.kd i) (c.kd k) us to j s.2.1 s.2.2)
   (fun j s=>[(3,.ai (.ptr c.d 0)),(6,.ptr H.length 0),(7,.ptr x 0),(8,.ptr y 0),(10,.ptr (H.length + 3) 0),(11,bu L),(89,.aj 0 (ints to)),(90,.int .i64 to.length),(91,.int .i64 j)]) (fun j s=>s.1) (G3,[],[])
   ⟨⟨CM,rfl,rfl,fun j h=>by omega,fun j h=>by omega⟩,aA _ _ _⟩ fun j s hj hI=>?_
  obtain ⟨G,ts,ls⟩:=s
  obtain ⟨l8,K7⟩:=hI
  simp only at l8 K7
  have hlen:=l8.len
  by_cases NL:(j:Int) < to.length
  ·have rK:j < (c.kd k).length:=by omega
   have zf4:∀ n,al n (List.map AV.ab [AV.int .i64 0,.int .i64 0,.ag,.ag])=true:=fun _=>rfl
   have zf5:List.map AV.ab [AV.int .i64 0,.int .i64 0,.ag,.ag]=[AV.int .i64 0,.int .i64 0,.ag,.ag]:=rfl
   obtain ⟨tj,htj⟩:∃ tj,to.getD j 0=tj:=⟨_,rfl⟩
   have hpc:=l8.aeV w (.cells [.int .i64 0,.int .i64 0,.ag,.ag])
   by_cases zc:tj < 0
   ·simp +contextual only [k2,decide_true,NL,aR,dS,zV,htj,zc,hlen,zf5,sZ,Nat.reduceEqDiff,Nat.reduceAdd,↓reduceIte,reduceCtorEq]
    have mz:=fun (G':List aa) (eW:SD c (G++[aa.cells [AV.int .i64 0,.int .i64 0,.ag,.ag]]) G')=>hpc.call hD w eW.2 eW.1
    have hjz:(0:Int)≤j∧(j:Int) < (c.kd k).length:=⟨by omega,by omega⟩
    refine ⟨by omega,af (Nu (SD.Cv c (G++[.cells [.int .i64 0,.int .i64 0,.ag,.ag]])) il (by omega) 148 [] [.ai (.ptr c.d 0),.ptr x 0,.ptr y 0,.ai (.int .i64 j)] rfl rfl (Q:=fun z=>R c.O (c.tm ((c.kd i).getD z.toNat 0)) (c.tm ((c.kd k).getD (j:Int).toNat 0)))
     (fun z hz G' eW=>?_) ⟨hpc.du,Up.refl c _⟩) ?_⟩
    ·obtain ⟨u,rfl,hu,_⟩:=mml hz
     refine (aeS ii ik ⟨by omega,by omega⟩ hjz (k9 hc (ki.2 _ (aV (by omega))) (kk.2 _ (aV (by omega)))) eW.1 (mz G' eW).gx (mz G' eW).gy).mono fun r H' hr=>hr.sb eW
    rintro r G4 ⟨hG4,v8⟩
    rcases v8 with ⟨_,v8⟩ | ⟨m,rfl,hm,hQ,_⟩
    ·obtain ⟨z,hz,h⟩:=mmo rK (by rw [htj];exact zc)
     exact absurd h (v8 z hz)
    obtain ⟨u,hu,Bq,huf⟩:=mml (aV hm)
    have R4:=mz G4 hG4
    have gx4:=R4.gx
    have gy4:=R4.gy
    rw [hu,zV,zV] at hQ
    simp +contextual only [k2,ii.lens,ik.lens,ii.idx,ik.idx,il.lens,il.idx,zV,hu,gx4,gy4,sZ,Nat.reduceEqDiff,Nat.reduceAdd,Nat.reduceLT,↓reduceIte,reduceCtorEq]
    refine ⟨by omega,⟨by omega,by omega⟩,by omega,?_⟩
    refine af (WN _ (aV Bq) _ (aV rK) hQ _ R4.du) ?_
    rintro r G5 ⟨q,rfl,hq,hU5,hD5⟩
    have aa7:=R4.call hD w hU5 hD5
    have go5:=aa7.go
    have hpo:=fun o=>aa7.aeW (o':=o) hD w
    have ox:=fun o es=>(hpo o).set (es':=es) hD w
    have gq5:=fun o=>(hpo o).go
    have gp5:=fun o=>(hpo o).gp
    have gqs:=fun o es=>(ox o es).go
    have gps:=fun o es=>(ox o es).gp
    obtain ⟨u1,u2,u3,u4,u5,u6,u7,u8,u9⟩:=bf q
    have bq:al (H.length + 4 + 1) (eO q).cells=true:=cG (gM _ _)
    have WO:=K7.snoc (u:Int) q (fun h=>by omega) (fun _=>⟨⟨Sh.ne_nil hq,by rw [zV];exact hq⟩,u,rfl,Bq,huf⟩)
    have t1:=K7.lt
    have t2:=K7.ll
    have Xo:∀ ψ,bw 1 8 (vJ ts) (.aj 0 [.int .i64 (u:Int)]) ψ=ψ (ints (ts++[(u:Int)])):=fun ψ=>TI ts _ (by omega) 0 ψ
    have apl:∀ ψ,bw 4 64 (qp ls) (.aj 0 [eO q]) ψ=ψ (eK (ls++[q])):=fun ψ=>Fe ls q (by omega) 0 ψ
    have lpq:=Fg q
    obtain ⟨x1,x2,x3,x4,x5,x6⟩:=mQ (ts++[(u:Int)])
    obtain ⟨y1,y2,y3,y4,y5,y6⟩:=jw (ls++[q])
    obtain ⟨x1',x2',x3',x4',x5',x6'⟩:=mQ ts
    obtain ⟨y1',y2',y3',y4',y5',y6'⟩:=jw ls
    have lvb:∀ n,al n (eK (ls++[q]))=true:=fun n=>jM _ _
    have tvb:∀ n,al n (ints (ts++[(u:Int)]))=true:=fun n=>aT _ _
    have sm:∀ G',PC c H x y i k [.int .i64 4,.int .i64 0,vJ (ts++[(u:Int)]),qp (ls++[q])] (.cells (eO q).cells) G'→∃ (j':Nat) (t:List aa×List Int×List PP),(j'≤(c.kd k).length∧PB c H x y i k [.int .i64 4,.int .i64 0,vJ t.2.1,qp t.2.2] t.1∧MI c (c.kd i) (c.kd k) us to j' t.2.1 t.2.2)∧(c.kd k).length - j' < (c.kd k).length - j∧
     sle H.length [(3,.ai (.ptr c.d 0)),(6,.ptr H.length 0),(7,.ptr x 0),(8,.ptr y 0),(10,.ptr (H.length + 3) 0),(11,bu L),(89,.aj 0 (ints to)),(90,.int .i64 to.length),(91,.int .i64 (IntKind.i64.wrap (j + 1)))] G' [(3,.ai (.ptr c.d 0)),(6,.ptr H.length 0),(7,.ptr x 0),(8,.ptr y 0),(10,.ptr (H.length + 3) 0),(11,bu L),(89,.aj 0 (ints to)),(90,.int .i64 to.length),(91,.int .i64 j')] t.1:=by
     intro G' eW
     obtain ⟨z1,z2⟩:=eW.drop hD w
     have zl:=z1.len
     have XT:=v3
     refine ⟨j + 1,(G'.take (H.length + 4),ts++[(u:Int)],ls++[q]),⟨rK,z1,WO⟩,by omega,xN (by rw [aq j (by omega)]) (by rw [zl];omega) ?_ _ z2⟩
     obtain ⟨w1,w2,w3,w4⟩:=w
     rw [zl]
     simp only [ph,List.all_cons,List.all_nil,B6,rf,iR,bM,v3,aT,acJ,zU,decide_eq_true_eq]
     omega
    simp +contextual only [go5,TL,u1,u2,u3,u9,bq,gq5,gp5,gqs,gps,d2,d3,s2,s3,aeP,kF,Xo,apl,lpq,Ff,s8,x3,x4,y3,y4,sZ,Nat.reduceEqDiff,Nat.reduceAdd,Nat.reduceLT,↓reduceIte]
    repeat' apply hV
    all_goals exact sm _ (ox _ _)
   ·have t1:=K7.lt
    have t2:=K7.ll
    obtain ⟨q0,hq0⟩:∃ q0,q0=PP.mk 0 0 [] []:=⟨_,rfl⟩
    have vU:q0.nil:=by rw [hq0];exact ⟨rfl,rfl,rfl,rfl⟩
    have lpz:∀ φ,c8 (some (.cells [.int .i64 0,.int .i64 0,.ag,.ag])) (some 4) 0 φ=φ (eO q0):=by rw [hq0];exact TJ 0 0 [] []
    obtain ⟨u1,u2,u3,u4,u5,u6,u7,u8,u9⟩:=bf q0
    have WO:=K7.snoc tj q0 (fun h=>⟨htj.symm,vU⟩) (fun h=>by omega)
    have Xo:∀ ψ,bw 1 8 (vJ ts) (.aj 0 [.int .i64 tj]) ψ=ψ (ints (ts++[tj])):=fun ψ=>TI ts _ (by omega) 0 ψ
    have apl:∀ ψ,bw 4 64 (qp ls) (.aj 0 [eO q0]) ψ=ψ (eK (ls++[q0])):=fun ψ=>Fe ls q0 (by omega) 0 ψ
    have ox:=fun es=>hpc.set (es':=es) hD w
    have gp5:=hpc.gp
    have go5:=hpc.go
    have gqs:=fun es=>(ox es).go
    have gps:=fun es=>(ox es).gp
    obtain ⟨x1,x2,x3,x4,x5,x6⟩:=mQ (ts++[tj])
    obtain ⟨y1,y2,y3,y4,y5,y6⟩:=jw (ls++[q0])
    obtain ⟨x1',x2',x3',x4',x5',x6'⟩:=mQ ts
    obtain ⟨y1',y2',y3',y4',y5',y6'⟩:=jw ls
    have lvb:∀ n,al n (eK (ls++[q0]))=true:=fun n=>jM _ _
    have tvb:∀ n,al n (ints (ts++[tj]))=true:=fun n=>aT _ _
    have sm:∀ G',PC c H x y i k [.int .i64 4,.int .i64 0,vJ (ts++[tj]),qp (ls++[q0])] (.cells [.int .i64 0,.int .i64 0,.ag,.ag]) G'→∃ (j':Nat) (t:List aa×List Int×List PP),(j'≤(c.kd k).length∧PB c H x y i k [.int .i64 4,.int .i64 0,vJ t.2.1,qp t.2.2] t.1∧MI c (c.kd i) (c.kd k) us to j' t.2.1 t.2.2)∧(c.kd k).length - j' < (c.kd k).length - j∧
     sle H.length [(3,.ai (.ptr c.d 0)),(6,.ptr H.length 0),(7,.ptr x 0),(8,.ptr y 0),(10,.ptr (H.length + 3) 0),(11,bu L),(89,.aj 0 (ints to)),(90,.int .i64 to.length),(91,.int .i64 (IntKind.i64.wrap (j + 1)))] G' [(3,.ai (.ptr c.d 0)),(6,.ptr H.length 0),(7,.ptr x 0),(8,.ptr y 0),(10,.ptr (H.length + 3) 0),(11,bu L),(89,.aj 0 (ints to)),(90,.int .i64 to.length),(91,.int .i64 j')] t.1:=by
     intro G' eW
     obtain ⟨z1,z2⟩:=eW.drop hD w
     have zl:=z1.len
     have XT:=v3
     refine ⟨j + 1,(G'.take (H.length + 4),ts++[tj],ls++[q0]),⟨rK,z1,WO⟩,by omega,xN (by rw [aq j (by omega)]) (by rw [zl];omega) ?_ _ z2⟩
     obtain ⟨w1,w2,w3,w4⟩:=w
     rw [zl]
     simp only [ph,List.all_cons,List.all_nil,B6,rf,iR,bM,v3,aT,acJ,zU,decide_eq_true_eq]
     omega
    simp +contextual only [decide_true,decide_false,NL,aR,dS,zV,htj,zc,hlen,zf5,u1,u2,gp5,go5,gqs,gps,d2,d3,s2,s3,aeP,kF,Xo,apl,lpz,Ff,s8,x3,x4,y3,y4,sZ,Nat.reduceEqDiff,Nat.reduceAdd,Nat.reduceLT,↓reduceIte]
    refine ⟨by omega,?_⟩
    repeat' apply hV
    all_goals exact sm _ (ox _)
  ·have hje:j=(c.kd k).length:=by omega
   subst hje
   have hs:Sh c.O (.mk 4 0 ts ls) (c.tm i) (c.tm k):=by
    rw [Sh4 rfl ki2]
    rw [osi] at CL
    refine ⟨rfl,kk2,NT.2.2,CL,?_⟩
    show TE (E c.O) (Sh c.O) ts ls (c.tm i).l (c.tm k).l
    rw [← ki.1,← kk.1,← E8]
    exact K7.cov Cz hlne2
   have gp6:=l8.gp
   have g66:=l8.g6
   have lp:=TJ 4 0 ts ls
   obtain ⟨q1,q2,q3,q4,q5,q6,q7,q8,q9⟩:=bf (.mk 4 0 ts ls)
   have lp2:=Fg (.mk 4 0 ts ls)
   have NR:=aai (a:=aa.cells (eO (.mk 4 0 ts ls)).cells) (aQ g66)
   have R3:al (H.length + 1) (eO (.mk 4 0 ts ls)).cells=true:=cG (gM _ _)
   have mw:=PB.fin hD l8 hs
   simp +contextual only [decide_false,NL,gp6,g66,lp,q1,q2,q3,q9,TL,NR,lp2,R3,sZ,Nat.reduceEqDiff,Nat.reduceAdd,↓reduceIte,reduceCtorEq]
   first | exact mw | exact ⟨by omega,mw⟩
end Go.aI
end
section
set_option maxRecDepth 100000
namespace Go.aI
open Go Go.Proofs Go.dV
theorem NU {P:Nat→Prop}:∀ {n:Nat},P n→∃ m,m≤n∧P m∧∀ j,j < m→¬ P j:=by
 intro n
 induction n using Nat.strongRecOn with
 | _ n ih=>
   intro h
   by_cases hx:∃ j,j < n∧P j
   ·obtain ⟨j,hj,hp⟩:=hx
    obtain ⟨m,h1,h2,h3⟩:=ih j hj hp
    exact ⟨m,by omega,h2,h3⟩
   ·exact ⟨n,tv _,h,fun j hj hp=>hx ⟨j,hj,hp⟩⟩
theorem c86 {c:Cx} (hc:c.Ok):∀ (N:Nat) (i k:Int),c.ew i→c.ew k→wt (c.tm i) + wt (c.tm k)≤N→R c.O (c.tm i) (c.tm k)→qq c i k:=by
 intro N
 induction N with
 | zero=>intro i k _ _ h;have:=dH (c.tm i);omega
 | succ N ih=>
 intro i k hi hk hN hR
 have hx:∀ {j:Int},c.ew j→∀ x∈c.kd j,c.ew x∧wt (c.tm x) < wt (c.tm j):=fun {j} hj x hx=>by
  have h1:=hc.kids j hj
  exact ⟨h1.2 x hx,cu (by rw [← h1.1];exact aan.2 ⟨x,hx,rfl⟩)⟩
 have p1:∀ x∈c.kd i,R c.O (c.tm x) (c.tm k)→qq c x k:=fun x h r=>ih x k (hx hi x h).1 hk (by have:=(hx hi x h).2;omega) r
 have p2:∀ y∈c.kd k,R c.O (c.tm i) (c.tm y)→qq c i y:=fun y h r=>ih i y hi (hx hk y h).1 (by have:=(hx hk y h).2;omega) r
 have p3:∀ x∈c.kd i,∀ y∈c.kd k,R c.O (c.tm x) (c.tm y)→qq c x y:=fun x h y h' r=>ih x y (hx hi x h).1 (hx hk y h').1 (by have:=(hx hi x h).2;have:=(hx hk y h').2;omega) r
 obtain ⟨_,n,hn,hr⟩:=(uy hc hi hk).2 hR
 obtain ⟨m,hm,hr,kq⟩:=NU (P:=fun n=>iX c i k n) hr
 have:m=1∨m=2∨m=3∨m=4:=by
  rcases hr with h | h | h | h
  ·exact .inl h.1
  ·exact .inr (.inl h.1)
  ·exact .inr (.inr (.inl h.1))
  ·exact .inr (.inr (.inr h.1))
 rcases this with rfl | rfl | rfl | rfl
 ·exact aaZ hc hi hk hR hr kq p1
 ·exact aa3 hc hi hk hR hr kq p2
 ·exact aa4 hc hi hk hR hr kq p2 p3
 ·exact aa5 hc hi hk hR hr kq p3
theorem aa8 {c:Cx} (hc:c.Ok) {i k:Int} (hi:c.ew i) (hk:c.ew k) (hR:R c.O (c.tm i) (c.tm k)):qq c i k:=c86 hc _ i k hi hk (tv _) hR
def R5:PP:=.mk 0 0 [] []
def WQ (s:Sg) (ps ss:List Int) (a b:T) (r:AV):Prop:=
 (jt s ps ss [a,b]≠0∧r=.tuple [eO R5,.bool false,.int .i64 (jt s ps ss [a,b])])∨
 (jt s ps ss [a,b]=0∧¬ R (gZ ps ss) a b∧r=.tuple [eO R5,.bool false,.int .i64 0])∨
 (jt s ps ss [a,b]=0∧∃ p,Sh (gZ ps ss) p a b∧r=.tuple [eO p,.bool true,.int .i64 0])
theorem Up.kH {c:Cx} {G0 G:List aa} (h:Up c G0 G) {n:Nat} (he:n≤c.e) (hg:n≤c.g):G.take n=G0.take n:=by
 apply acr
 intro j
 rw [aaM,aaM]
 split
 ·rename_i hj;exact h.get j (by omega) (by omega)
 ·rfl
theorem mR (n0 s s' s'':Nat) (sz:Option Nat) (env:Env) (H:List aa) (R:AV→List aa→Prop):bS n0 [.c s sz,.t s',.t s''] env H R=aY sz (get env s) H fun x=>vD n0 [x,get env s',get env s''] H R:=agI
theorem I2 {Hs G:List aa} {n0:Nat} {u v w:AV} {R:AV→List aa→Prop} (hH:Hs.take n0=G) (hb:al n0 [u,v,w]=true) (hu:[u,v,w].map AV.ab=[u,v,w]) (hR:R (.tuple [u,v,w]) G):vD n0 [u,v,w] Hs R:=by
 subst hH
 exact ⟨n0,tv _,_,by rw [hu];exact bZ _,hb,hR⟩
theorem wM {H G:List aa} {o:aa} (h:G.take H.length=H):(G.set H.length o).take H.length=H:=by
 rw [ace (tv _),h]
theorem c27 (s:Sg) (ps ss:List Int) (a b:T) (H:List aa):ax Tryz.prog 27 [s.av,eN ps ss,a.av,b.av] H fun r H'=>WQ s ps ss a b r∧H'=H:=by
 refine k27.2.calls rfl ?_
 simp only [k27,aH]
 obtain ⟨q1,q2,q3,q4,q5,q6⟩:=aX ps ss
 have zf4:∀ n,al n (List.map AV.ab [AV.int .i64 0,.int .i64 0,.ag,.ag])=true:=fun _=>rfl
 have zf5:List.map AV.ab [AV.int .i64 0,.int .i64 0,.ag,.ag]=[AV.int .i64 0,.int .i64 0,.ag,.ag]:=rfl
 simp +contextual only [aB,q1,q4,b7,zf5,sZ,Nat.reduceEqDiff,Nat.reduceAdd,↓reduceIte,reduceCtorEq]
 have g0:(H++[aa.cells [AV.int .i64 0,.int .i64 0,.ag,.ag]])[H.length]?=some (.cells [.int .i64 0,.int .i64 0,.ag,.ag]):=by simp
 have vZ:(H++[aa.cells [AV.int .i64 0,.int .i64 0,.ag,.ag]]).length=H.length + 1:=by simp
 have Wh:(H++[aa.cells [AV.int .i64 0,.int .i64 0,.ag,.ag]]).take H.length=H:=by simp
 refine ae (c74 s ps ss [a,b]) ?_
 generalize H++[aa.cells [AV.int .i64 0,.int .i64 0,.ag,.ag]]=H1 at g0 vZ Wh ⊢
 have ldz:∀ φ,c8 (some (.cells [.int .i64 0,.int .i64 0,.ag,.ag])) (some 4) 0 φ=φ (eO R5):=TJ 0 0 [] []
 have zb:∀ p b n,al H.length [eO p,.bool b,.int .i64 n]=true:=fun p b n=>by simp [bN,da,gM,sD,iR]
 have zu:∀ p b n,[eO p,AV.bool b,.int .i64 n].map AV.ab=[eO p,.bool b,.int .i64 n]:=fun p b n=>by simp [(bf p).2.2.2.1,pS,pg]
 by_cases h0:jt s ps ss [a,b]=0
 ·have hr:=sY h0
  have hw:=lK hr.tree
  have hc:=hr.cx (by simp) (by simp) H1.length
  have hd:=AR ps ss (ts:=[a,b]) (by simp) H1
  simp +contextual only [q4,b7,h0,sZ,Nat.reduceEqDiff,Nat.reduceAdd,↓reduceIte]
  refine af (c75 ps ss [a,b] _ (by simp at hw;omega)) ?_
  rintro r G ⟨rfl,rfl⟩
  have a0:=vI (ps:=ps) (ss:=ss) (ts:=[a,b]) (n:=H1.length) (j:=0) (by simp)
  have a1:=vI (ps:=ps) (ss:=ss) (ts:=[a,b]) (n:=H1.length) (j:=1) (by simp)
  have hl:=cM [a,b] 0
  rw [RY]
  generalize ba [a,b] 0=ks at a0 a1 hl ⊢
  have mW:ks.length=2:=hl
  simp +contextual only [aR,mW,dS,sZ,Nat.reduceEqDiff,Nat.reduceAdd,Nat.reduceLT,↓reduceIte,reduceCtorEq]
  refine ⟨by decide,by decide,af (k9 hc a0.1 a1.1 _ hd) ?_⟩
  rintro r G ⟨x,rfl,hx,hU,hD⟩
  rw [a0.2,a1.2] at hx
  have rJ:x=true↔R (gZ ps ss) a b:=hx
  have he:(iE ps ss [a,b] H1.length).e=H.length + 1:=vZ
  have hg:(iE ps ss [a,b] H1.length).g=H.length + 2:=by show H1.length + 1=_;omega
  have low:∀ G',Up (iE ps ss [a,b] H1.length) G G'→G'[H.length]?=some (.cells [.int .i64 0,.int .i64 0,.ag,.ag])∧G'.take H.length=H:=by
   intro G' hU'
   have TA:=hU.trans hU'
   refine ⟨by rw [TA.get _ (by omega) (by omega),zR (by omega)];exact g0,?_⟩
   rw [TA.kH (n:=H.length) (by omega) (by omega),aa1 (by omega),Wh]
  have gz:=low G (Up.refl _ _)
  have gz1:=gz.1
  have gzs:=fun o=>aai (a:=o) (aQ gz1)
  have nilc:(eO R5).cells=[AV.int .i64 0,.int .i64 0,.aj 0 [],.aj 0 []]:=rfl
  cases x with
  | false=>
    simp +contextual only [Bool.not_false,gz1,gzs,zf5,KU,mR,ldz,sZ,Nat.reduceEqDiff,Nat.reduceAdd,↓reduceIte,reduceCtorEq]
    refine I2 (wM gz.2) (zb _ _ _) (zu _ _ _) ⟨.inr (.inl ⟨h0,fun h=>absurd (rJ.2 h) (by simp),rfl⟩),rfl⟩
  | true=>
    simp +contextual only [Bool.not_true,aR,mW,dS,sZ,Nat.reduceEqDiff,Nat.reduceAdd,↓reduceIte,reduceCtorEq]
    refine ⟨by decide,by decide,af (aa8 hc a0.1 a1.1 (by rw [a0.2,a1.2];exact rJ.1 rfl) _ hD) ?_⟩
    rintro r G2 ⟨p,rfl,hp,TA,Da⟩
    rw [a0.2,a1.2] at hp
    obtain ⟨gy1,gy2⟩:=low G2 TA
    have gys:=fun o=>aai (a:=o) (aQ gy1)
    obtain ⟨u1,u2,u3,u4,u5,u6,u7,u8,u9⟩:=bf p
    have lpq:=Fg p
    have R3:al (H.length + 1) (eO p).cells=true:=cG (gM _ _)
    simp +contextual only [gy1,gys,u1,u2,u3,u9,TL,lpq,R3,mR,sZ,Nat.reduceEqDiff,Nat.reduceAdd,↓reduceIte,reduceCtorEq]
    first | exact I2 (wM gy2) (zb _ _ _) (zu _ _ _) ⟨.inr (.inr ⟨h0,p,hp,rfl⟩),rfl⟩ | exact ⟨by omega,I2 (wM gy2) (zb _ _ _) (zu _ _ _) ⟨.inr (.inr ⟨h0,p,hp,rfl⟩),rfl⟩⟩
 ·have gs:∀ o,(H1.set H.length o)[H.length]?=some o:=fun o=>aai (by omega)
  simp +contextual only [h0,g0,gs,zf5,KU,mR,ldz,sZ,Nat.reduceEqDiff,Nat.reduceAdd,↓reduceIte,reduceCtorEq]
  refine I2 (wM Wh) (zb _ _ _) (zu _ _ _) ⟨.inl ⟨h0,rfl⟩,rfl⟩
end Go.aI
end
section
set_option maxRecDepth 100000
namespace Go.aI
open Go Go.Proofs Go.dV
def nZ (l:List ju):List AV:=l.map ju.av
theorem eL (l:List ju):(nZ l).length=l.length:=by simp [nZ]
theorem NV (n:Nat) (l:List ju):al n (nZ l)=true:=by
 rw [a9];intro x hx;obtain ⟨y,_,rfl⟩:=aan.1 hx
 exact y.facts.2.2.2.2.2 n
theorem lL (o:Nat) (l:List ju):(∀ (own:Nat) (xs:List AV),AV.aj o (nZ l)=AV.aj own xs→∀ z∈xs,z.cells.length=8)=True:=by
 simp only [eq_iff_iff,iff_true]
 intro own xs e z hz
 cases e
 obtain ⟨y,_,rfl⟩:=aan.1 hz;rfl
theorem idx_eq (e o:Nat) (l:List ju) (k:IntKind) (i:Nat) (φ:AV→Prop):aE e (.aj o (nZ l)) (.int k (i:Int)) φ=(i < l.length∧φ (.ai (l.getD i default).av)):=by
 simp only [aE,eL,zV,eq_iff_iff]
 constructor
 ·rintro ⟨_,h,h2⟩;refine ⟨h,?_⟩;simpa [nZ,h] using h2
 ·rintro ⟨h,h2⟩;refine ⟨by omega,h,?_⟩;simpa [nZ,h] using h2
theorem s9 (e:ju) (H:List aa) (φ:AV→Prop):aY (some 8) (.ai e.av) H φ=φ e.av:=by simp [aY,ju.av,AV.cells]
structure zK (ps:List Int) (e:ju):Prop where
 few:e.cs.length≤1000
 tree:∀ t∈e.a::e.rest,t.tree=true
 ops:∀ t∈e.a::e.rest,v9 (fun n=>0≤n∧n < ps.length) t
open Classical in
noncomputable def oF (ps ss:List Int) (e:ju):Bool:=decide (CE ps ss e)
theorem aa9 (ps ss:List Int) (e:ju) (hv:Va ps ss) (he:zK ps e):Pure Tryz.prog 163 [eN ps ss,e.av] (.bool (oF ps ss e)):=by
 intro H
 refine (aeE ps ss e hv he.few he.tree he.ops H).mono ?_
 rintro r H' ⟨⟨b,rfl,hb⟩,rfl⟩
 refine ⟨?_,rfl⟩
 congr 1
 rw [acw,hb]
 simp [oF]
theorem aeZ (ps ss:List Int) (e:ju) (hv:Va ps ss) (he:zK ps e):Pure Tryz.prog 162 [e.av,.ai (eN ps ss)] (.bool (!oF ps ss e)):=by
 refine fun H=>YJ.2.calls rfl ?_
 simp only [YJ,aH]
 obtain ⟨q1,q2,q3,q4,q5,q6⟩:=aX ps ss
 obtain ⟨e1,e2,e3,e4,e5,e6⟩:=ju.facts e
 simp +contextual only [q4,e1,e4,b7,s9,sZ,Nat.reduceEqDiff,Nat.reduceAdd,↓reduceIte,reduceCtorEq]
 refine ae (aa9 ps ss e hv he) ?_
 simp +contextual only [sZ,↓reduceIte,reduceCtorEq]
 exact aM rfl rfl
def mS {α:Type} (p:α→Bool):List α→Nat→Int
 | [],_=>-1
 | x::r,i=>if p x=true then (i:Int) else mS p r (i + 1)
theorem qd {α:Type} [Inhabited α] {p:α→Bool} {l:List α} {i:Nat} (h:i < l.length):mS p (l.drop i) i=if p (l.getD i default)=true then (i:Int) else mS p (l.drop (i + 1)) (i + 1):=by
 have e:l.getD i default=l[i]:=by simp [h]
 rw [aaP h,mS,e]
theorem ae0 (ps ss:List Int) (l:List ju) (hv:Va ps ss) (he:∀ e∈l,zK ps e):Pure Tryz.prog 161 [.aj 0 (nZ l),.fn (.func 162) [] [.ai (eN ps ss)]] (.int .i64 (mS (fun e=>!oF ps ss e) l 0)):=by
 refine fun H=>J2.2.calls rfl ?_
 simp only [J2,aH]
 simp +contextual only [eL,sZ,Nat.reduceEqDiff,Nat.reduceAdd,↓reduceIte,reduceCtorEq]
 intro hl
 refine ay l.length (fun i=>mS (fun e=>!oF ps ss e) (l.drop i) i=mS (fun e=>!oF ps ss e) l 0) (fun i=>[(0,.aj 0 (nZ l)),(1,.fn (.func 162) [] [.ai (eN ps ss)]),(7,.int .i64 l.length),(8,.int .i64 i)]) (fun _=>H) ⟨rfl,aA _ _ _⟩ fun i hi hI=>?_
 obtain ⟨e1,e2,e3,e4,e5,e6⟩:=ju.facts (l.getD i default)
 simp +contextual only [lL,idx_eq,s9,e4,sZ,Nat.reduceEqDiff,Nat.reduceAdd,↓reduceIte,reduceCtorEq]
 refine ⟨fun aP=>?_,fun iq=>?_⟩
 ·have aP:=bA aP
  have hm:l.getD i default∈l:=by
   rw [tu,T1 aP];exact acP aP
  rw [qd aP] at hI
  refine ⟨aP,ae (aeZ ps ss _ hv (he _ hm)) ?_⟩
  cases hb:oF ps ss (l.getD i default) with
  | false=>
    rw [if_pos (by rw [hb];rfl)] at hI
    simp +contextual only [Bool.not_false,sZ,Nat.reduceEqDiff,↓reduceIte,reduceCtorEq]
    exact aM rfl (by rw [← hI])
  | true=>
    rw [if_neg (by rw [hb];simp)] at hI
    simp +contextual only [Bool.not_true,sZ,Nat.reduceEqDiff,↓reduceIte,reduceCtorEq]
    exact ⟨i + 1,⟨aP,hI⟩,by omega,aD (by rw [aq i (by omega)]) rfl⟩
 ·rw [aaN (cc iq)] at hI
  exact aM rfl (by rw [← hI];rfl)
structure Ty where
 s:Sg
 es:List ju
deriving Inhabited
def Ty.av (t:Ty):AV:=.agg [.aj 0 (strs t.s.aS),.aj 0 (po t.s.ops),.aj 0 (nZ t.es)]
theorem Ty.facts (t:Ty):t.av.val=true∧t.av.cells.length=3∧t.av.cells.all AV.one=true∧t.av.ab=t.av∧t.av.drop=t.av∧∀ n,t.av.bb n=true:=
 ⟨rfl,rfl,rfl,rfl,rfl,fun n=>by simp [Ty.av,AV.bb,al,yr,yq,NV]⟩
theorem Dc (t:Ty) (φ:AV→Prop):ap 0 (some 2) (.ai t.av) φ=φ (.ai t.s.av):=by simp [ap,apart,Ty.av,Sg.av,AV.cells]
theorem Lh (t:Ty) (φ:AV→Prop):ap 2 none (.ai t.av) φ=φ (.ai (.aj 0 (nZ t.es))):=by simp [ap,apart,Ty.av,AV.cells,AV.one]
theorem fS1 (s:Sg) (φ:AV→Prop):ap 1 none (.ai s.av) φ=φ (.ai (.aj 0 (po s.ops))):=by simp [ap,apart,Sg.av,AV.cells,AV.one]
theorem fw (t:Ty) (H:List aa) (φ:AV→Prop):aY (some 3) (.ai t.av) H φ=φ t.av:=by simp [aY,Ty.av,AV.cells]
noncomputable def iC (t:Ty) (ps ss:List Int):Int:=mS (fun e=>!oF ps ss e) t.es 0
theorem c89 (t:Ty) (ps ss:List Int) (hv:Va ps ss) (he:∀ e∈t.es,zK ps e):Pure Tryz.prog 89 [t.av,eN ps ss] (.int .i64 (iC t ps ss)):=by
 refine fun H=>k89.2.calls rfl ?_
 simp only [k89,aH]
 obtain ⟨q1,q2,q3,q4,q5,q6⟩:=aX ps ss
 obtain ⟨e1,e2,e3,e4,e5,e6⟩:=Ty.facts t
 simp +contextual only [q1,e1,Lh,sZ,Nat.reduceEqDiff,Nat.reduceAdd,↓reduceIte,reduceCtorEq]
 refine ae (ae0 ps ss t.es hv he) ?_
 simp +contextual only [sZ,↓reduceIte,reduceCtorEq]
 exact aM rfl rfl
end Go.aI
end
section
set_option maxRecDepth 100000
set_option maxHeartbeats 0
namespace Go.aI
open Go Go.Proofs
noncomputable def TM:=aH Tryz.call112 Tryz.func112 Tryz.ntmps112 [(0,0,1),(8,0,3001)] [(0,[1,2,3,4,8]),(1,[1,2,3,8,9]),(2,[1,2,3,8,10]),(3,[2,3,8,10,24,25,26]),(4,[2,3,8,10,24,25,26,27]),(5,[2,3,8,10,11,12,24,25,26]),(6,[2,3,8,10,24,25,26]),(7,[2,3,8,10,24,25,26]),(8,[8])] [(6,(.take 0 true (.take 1 true (.take 2 true (.take 6 true (.take 7 true (.take 8 true (.take 9 true (.take 10 true (.take 11 true (.take 12 true (.take 13 true (.take 14 true (.take 3 false (.take 5 false (.br 4 (.br 15 (.take 16 true (.br 17 .done .nil)) .nil) (.br 15 (.take 4 true (.take 16 true (.br 17 .done .nil))) .nil)))))))))))))))))]
end Go.aI
end
section
set_option maxRecDepth 100000
namespace Go.aI
open Go Go.Proofs Go.dV
def ke:List Int→List Int→List Int→List Int
 | l,i::r,x::s=>ke (l.set i.toNat x) r s
 | l,_,_=>l
def rD (n:Nat) (ops pl:List Int):List Int:=ke (List.replicate n 255) ops pl
def uE (n:Nat) (ops st:List Int):List Int:=ke (List.replicate n 1) ops st
theorem yD:∀ (l r s:List Int),(ke l r s).length=l.length
 | l,[],_=>by cases l <;> rfl
 | l,_::_,[]=>rfl
 | l,i::r,x::s=>by rw [ke,yD];simp
theorem ae1 (t:Ty) (ops pl st:List Int) {vo vp vs:AV} (ho:IL vo ops) (hp:IL vp pl) (hs:IL vs st) (vZ:pl.length=ops.length) (mW:st.length=ops.length) (hr:∀ i∈ops,0≤i∧i < t.s.ops.length) (hn:t.s.ops.length≤1000000000) (kq:ops.length≤1000000000):Pure Tryz.prog 112 [t.av,vo,vp,vs] (eN (rD t.s.ops.length ops pl) (uE t.s.ops.length ops st)):=by
 refine fun H=>TM.2.calls rfl ?_
 simp only [TM,aH]
 obtain ⟨e1,e2,e3,e4,e5,e6⟩:=Ty.facts t
 obtain ⟨a1,a2,a3,a4⟩:=ho.one
 obtain ⟨b1,b2,b3,b4⟩:=hp.one
 obtain ⟨c1,c2,c3,c4⟩:=hs.one
 simp +contextual only [e1,Dc,fS1,yp,sZ,Nat.reduceEqDiff,Nat.reduceAdd,↓reduceIte,reduceCtorEq]
 intro _
 refine af (Wo 0 255 t.s.ops.length hn _) ?_
 rintro r G ⟨rfl,rfl⟩
 simp +contextual only [sZ,Nat.reduceEqDiff,Nat.reduceAdd,↓reduceIte]
 refine af (Wo 0 1 t.s.ops.length hn _) ?_
 rintro r G ⟨rfl,rfl⟩
 simp +contextual only [sZ,Nat.reduceEqDiff,Nat.reduceAdd,↓reduceIte]
 obtain ⟨n,hn'⟩:∃ n,n=t.s.ops.length:=⟨_,rfl⟩
 rw [← hn'] at hn hr ⊢
 have va:∀ a b c d,(AV.a7 a b c d).val=true:=fun _ _ _ _=>rfl
 have vc:∀ a b c d,(AV.a7 a b c d).cells=[.a7 a b c d]:=fun _ _ _ _=>rfl
 have vo':∀ a b c d,(AV.a7 a b c d).one=true:=fun _ _ _ _=>rfl
 have vd:∀ a b c d,(AV.a7 a b c d).drop=.a7 a b c d:=fun _ _ _ _=>rfl
 have bdA:∀ (a1 b1 c1 d1 a2 b2 c2 d2:Nat) (φ:AV→Prop),cD [AV.ag,AV.ag] [(0,1,.a7 a1 b1 c1 d1),(1,1,.a7 a2 b2 c2 d2)] φ=φ (.agg [.a7 a1 b1 c1 d1,.a7 a2 b2 c2 d2]):=by
  intro a1 b1 c1 d1 a2 b2 c2 d2 φ
  simp only [cD,iJ,eq_iff_iff]
  constructor
  ·rintro ⟨_,_,_,_,_,_,h⟩;exact h
  ·exact fun h=>⟨rfl,rfl,by simp,rfl,rfl,by simp [ah,AV.cells],h⟩
 have g3:∀ (a b c d:aa),[a,b,c,d][3]?=some d:=fun _ _ _ _=>rfl
 have sp2:∀ (a b x y:AV),ah [a,b] 0 [x,y]=[x,y]:=fun _ _ _ _=>rfl
 have lt1:∀ m:Nat,decide (m + 1 < m + 3 + 1)=true:=fun m=>by simp
 have lt2:∀ m:Nat,decide (m + 2 < m + 3 + 1)=true:=fun m=>by simp
 let S:List Int→List Int→List aa:=fun P Q=>H++[.cells [.ag,.ag],dd P,dd Q,.cells [.a7 (H.length + 1) 0 n n,.a7 (H.length + 2) 0 n n]]
 simp +contextual only [bdA,vo',g3,sp2,s3,lt1,lt2,acS,a2,ho.aO,ho.len (by omega),sZ,Nat.reduceEqDiff,Nat.reduceAdd,↓reduceIte]
 refine aG ops.length (fun j (s:List Int×List Int)=>s.1.length=n∧s.2.length=n∧ke s.1 (ops.drop j) (pl.drop j)=rD n ops pl∧ke s.2 (ops.drop j) (st.drop j)=uE n ops st)
  (fun j s=>[(2,vp),(3,vs),(8,.ptr H.length 0),(10,.ptr (H.length + 3) 0),(24,vo),(25,.int .i64 ops.length),(26,.int .i64 j)]) (fun j s=>S s.1 s.2) (List.replicate n 255,List.replicate n 1) ⟨⟨by simp,by simp,rfl,rfl⟩,aA _ _ _⟩ fun j s hj hI=>?_
 obtain ⟨P,Q⟩:=s
 obtain ⟨hP,hQ,WR,hI2⟩:=hI
 simp only at hP hQ WR hI2
 by_cases hjo:(j:Int) < ops.length
 ·have rK:j < ops.length:=by omega
  have hri:=hr _ (aV rK)
  obtain ⟨x,hx⟩:=acE hri.1
  have hxn:x < n:=by omega
  have hxP:x < P.length:=by omega
  have hxQ:x < Q.length:=by omega
  simp +contextual only [S,hjo,decide_true,b2,c2,ho.lens,ho.idx,hp.lens,hp.idx,hs.lens,hs.idx,zV,hx,l9,g3,Nw hxP,Nw hxQ,sZ,Nat.reduceEqDiff,Nat.reduceAdd,Nat.reduceLT,↓reduceIte,reduceCtorEq]
  have stp:∀ (P q:List Int),q.length=ops.length→ke P (ops.drop j) (q.drop j)=ke (P.set x (q.getD j 0)) (ops.drop (j + 1)) (q.drop (j + 1)):=by
   intro P q hq
   have e1:ops.drop j=ops.getD j 0::ops.drop (j + 1):=by rw [aaP rK];simp [rK]
   have hjq:j < q.length:=by omega
   have e2:q.drop j=q.getD j 0::q.drop (j + 1):=by rw [aaP hjq];simp [hjq]
   rw [e1,e2,ke,hx,zV]
  rw [stp P pl vZ] at WR
  rw [stp Q st mW] at hI2
  have hgo:∃ (j':Nat) (t:List Int×List Int),(j'≤ops.length∧t.1.length=n∧t.2.length=n∧ke t.1 (ops.drop j') (pl.drop j')=rD n ops pl∧ke t.2 (ops.drop j') (st.drop j')=uE n ops st)∧ops.length - j' < ops.length - j∧
   sle H.length [(2,vp),(3,vs),(8,.ptr H.length 0),(10,.ptr (H.length + 3) 0),(24,vo),(25,.int .i64 ops.length),(26,.int .i64 (IntKind.i64.wrap (j + 1)))]
    (H++[.cells [.ag,.ag],dd (P.set x (pl.getD j 0)),dd (Q.set x (st.getD j 0)),.cells [.a7 (H.length + 1) 0 n n,.a7 (H.length + 2) 0 n n]])
    [(2,vp),(3,vs),(8,.ptr H.length 0),(10,.ptr (H.length + 3) 0),(24,vo),(25,.int .i64 ops.length),(26,.int .i64 j')]
    (H++[.cells [.ag,.ag],dd t.1,dd t.2,.cells [.a7 (H.length + 1) 0 n n,.a7 (H.length + 2) 0 n n]]):=
   ⟨j + 1,(P.set x (pl.getD j 0),Q.set x (st.getD j 0)),⟨rK,by simp [hP],by simp [hQ],WR,hI2⟩,by omega,aD (by rw [aq j (by omega)]) rfl⟩
  repeat' apply hV
  all_goals first | omega | exact hgo
 ·have hje:j=ops.length:=by omega
  subst hje
  rw [List.drop_length] at WR hI2
  have eP:P=rD n ops pl:=by rw [← WR];cases P <;> rfl
  have eQ:Q=uE n ops st:=by rw [← hI2];cases Q <;> rfl
  simp +contextual only [M6,S,hjo,decide_false,g3,vd,sZ,Nat.reduceEqDiff,↓reduceIte]
  have f1:(H++[aa.cells [AV.ag,.ag],dd P,dd Q,.cells [.a7 (H.length + 1) 0 n n,.a7 (H.length + 2) 0 n n]])[H.length + 1]?=some (dd P):=by simp
  have f2:((H++[aa.cells [AV.ag,.ag],dd P,dd Q,.cells [.a7 (H.length + 1) 0 n n,.a7 (H.length + 2) 0 n n]]).set (H.length + 1) .dead)[H.length + 2]?=some (dd Q):=by rw [zS (by omega)];simp
  have fz1:∀ {id n:Nat} {l:List Int} {H:List aa} (h:H[id]?=some (dd l)) (hn:l.length=n) {K:AV→List aa→Prop} (hK:K (.aj 0 (ints l)) (H.set id .dead)),ee 1 (.a7 id 0 n n) H K:=fun h hn K hK=>by subst hn;exact EU h hK
  refine fz1 f1 hP ?_
  refine fz1 f2 hQ ?_
  have es:((H++[aa.cells [AV.ag,.ag],dd P,dd Q,.cells [.a7 (H.length + 1) 0 n n,.a7 (H.length + 2) 0 n n]]).set (H.length + 1) .dead).set (H.length + 2) .dead=H++[aa.cells [AV.ag,.ag],.dead,.dead,.cells [.a7 (H.length + 1) 0 n n,.a7 (H.length + 2) 0 n n]]:=by simp []
  rw [es]
  have fb:∀ m,al m [AV.aj 0 (ints P),.aj 0 (ints Q)]=true:=fun m=>by simp [bN,da,bM,aT]
  simp +contextual only [fb,sp2,acS,sZ,Nat.reduceEqDiff,Nat.reduceAdd,↓reduceIte,reduceCtorEq]
  rw [eP,eQ]
  exact ID ((aX _ _).2.2.2.2.2 _) rfl
end Go.aI
end
section
set_option maxRecDepth 100000
namespace Go.aI
open Go Go.Proofs Go.dV
def jy (vals:List Int):Nat→List (List Int)
 | 0=>[[]]
 | n + 1=>vals.flatMap fun x=>(jy vals n).map (x::·)
def fz {σ:Type} (step:σ→List Int→σ×Bool):List (List Int)→σ→σ×Bool
 | [],s=>(s,true)
 | l::r,s=>if (step s l).2=true then fz step r (step s l).1 else ((step s l).1,false)
theorem yE {σ:Type} {step:σ→List Int→σ×Bool}:∀ (a b:List (List Int)) (s:σ),fz step (a++b) s=if (fz step a s).2=true then fz step b (fz step a s).1 else ((fz step a s).1,false)
 | [],b,s=>by simp [fz]
 | x::a,b,s=>by
   rw [List.cons_append,fz,fz]
   split
   ·exact yE a b _
   ·simp
def dB (lo:Int) (n:Nat):List Int:=(List.range n).map fun i=>lo + (i:Nat)
theorem HC (lo:Int) (n:Nat):dB lo (n + 1)=dB lo n++[lo + (n:Nat)]:=by simp [dB,adi]
theorem A4 {lo x:Int} {n:Nat}:x∈dB lo n↔lo≤x∧x < lo + n:=by
 simp only [dB,aan,acf]
 constructor
 ·rintro ⟨j,h,rfl⟩;omega
 ·intro h;exact ⟨(x - lo).toNat,by omega,by omega⟩
def I3 (n:Nat) (id:Nat) (lo hi:Int) (q:Nat):AV:=.fn (.func 206) [] [.ai (.int .i64 n),.ai (.oJ id),.ai (.int .i64 lo),.ai (.int .i64 hi),.ptr q 0]
structure YS {σ:Type} (n:Nat) (vals:List Int) (id:Nat) (St:σ→List aa) (Good:σ→Prop) (step:σ→List Int→σ×Bool):Prop where
 y:∀ l s X,l.length=n→(∀ x∈l,x∈vals)→Good s→kP Tryz.prog id [bu l] (St s++X) fun r H'=>r=.bool (step s l).2∧H'=St (step s l).1++X
 Ww:∀ l s,Good s→(step s l).2=true→Good (step s l).1
 len:∀ s s',(St s).length=(St s').length
theorem A5 {σ:Type} {n:Nat} {vals:List Int} {id:Nat} {St:σ→List aa} {Good:σ→Prop} {step:σ→List Int→σ×Bool} (h:YS n vals id St Good step):∀ (a:List (List Int)) (s:σ),Good s→(fz step a s).2=true→Good (fz step a s).1
 | [],s,hs,_=>hs
 | l::r,s,hs,hr=>by
   rw [fz] at hr ⊢
   split at hr
   ·rename_i h1
    rw [if_pos h1]
    exact A5 h r _ (h.Ww l s hs h1) hr
   ·simp at hr
theorem R6 (l:List Int) (h:l≠[]):bu l=.aj 0 (ints l):=by cases l with
 | nil=>exact absurd rfl h
 | cons a r=>rfl
theorem abb (l:List Int) (hb:l.length * 8≤140737488355328):Pure Tryz.prog 118 [bu l] (.aj 1 (ints l)):=by
 intro H
 cases l with
 | nil=>exact Ao H
 | cons a r=>exact xK 0 (ints (a::r)) H (of_eq_true (nM _)) (by rw [aw];exact hb) (aT _ _)
theorem ae2 {σ:Type} {n:Nat} {lo hi:Int} (vQ:-1000000≤lo∧lo≤1000000) (LB:-1000000≤hi∧hi≤1000000) (hn:n≤1000000) {id:Nat} {St:σ→List aa} {Good:σ→Prop} {step:σ→List Int→σ×Bool} (hy:YS n (dB lo (hi + 1 - lo).toNat) id St Good step) (q:Nat) :
 ∀ (r:Nat) (l:List Int) (s:σ) (X:List aa),l.length + r=n→(∀ x∈l,x∈dB lo (hi + 1 - lo).toNat)→Good s→(∀ s',(St s'++X)[q]?=some (.cells [I3 n id lo hi q]))→
  ax Tryz.prog 206 [bu l,.ai (.int .i64 n),.ai (.oJ id),.ai (.int .i64 lo),.ai (.int .i64 hi),.ptr q 0] (St s++X) fun rr H'=>rr=.bool (fz step ((jy (dB lo (hi + 1 - lo).toNat) r).map (l++·)) s).2∧H'=St (fz step ((jy (dB lo (hi + 1 - lo).toNat) r).map (l++·)) s).1++X:=by
 intro r
 induction r with
 | zero=>
   intro l s X hl hm hs hq
   refine Qe.2.calls rfl ?_
   simp only [Qe,aH]
   have ik:IL (bu l) l:=.inl rfl
   obtain ⟨a1,a2,a3,a4,a5⟩:=aJ l
   have e1:((l.length:Int)=(n:Int))=True:=eq_true (by omega)
   have lyld:∀ (H:List aa) (φ:AV→Prop),aY none (.ai (.oJ id)) H φ=φ (.oJ id):=fun H φ=>by simp [aY,AV.one,AV.ab]
   have e2:fz step ((jy (dB lo (hi + 1 - lo).toNat) 0).map (l++·)) s=step s l:=by
    simp only [jy,List.map_cons,List.map_nil,ack,fz]
    cases hb:(step s l).2 with
    | true=>rw [if_pos rfl,← hb]
    | false=>rw [if_neg (by simp),← hb]
   rw [e2]
   simp +contextual only [a2,ik.aO,ik.len (by omega),e1,decide_true,lyld,I1,sZ,Nat.reduceEqDiff,Nat.reduceAdd,↓reduceIte,reduceCtorEq]
   refine AY (hy.y l s X (by omega) hm hs) ?_
   rintro rr H' ⟨rfl,rfl⟩
   simp +contextual only [sZ,↓reduceIte,reduceCtorEq]
   refine a8 (St s++X).length (tv _) (by rw [aC,if_pos rfl];rfl) ?_
   rw [aC,if_pos rfl]
   exact ⟨rfl,by rw [aaJ (by rw [aaj,aaj,hy.len _ s];exact tv _)]⟩
 | succ r ih=>
   intro l s X hl hm hs hq
   refine Qe.2.calls rfl ?_
   simp only [Qe,aH]
   have ik:IL (bu l) l:=.inl rfl
   obtain ⟨a1,a2,a3,a4,a5⟩:=aJ l
   have e1:((l.length:Int)=(n:Int))=False:=eq_false (by omega)
   have sm:∀ (b:Bool) (s':σ),bS (St s++X).length [.t 7] [(7,.bool b)] (St s'++X) fun rr H'=>rr=.bool b∧H'=St s'++X:=by
    intro b s'
    refine a8 (St s++X).length (tv _) (by rw [aC,if_pos rfl];rfl) ?_
    rw [aC,if_pos rfl]
    exact ⟨rfl,by rw [aaJ (by rw [aaj,aaj,hy.len _ s];exact tv _)]⟩
   obtain ⟨m,Xm⟩:∃ m,m=(hi + 1 - lo).toNat:=⟨_,rfl⟩
   rw [← Xm] at ih hm ⊢
   obtain ⟨F,hF⟩:∃ F:Nat→List (List Int),F=fun k=>(dB lo k).flatMap fun x=>(jy (dB lo m) r).map fun y=>l++x::y:=⟨_,rfl⟩
   have hF0:F 0=[]:=by rw [hF];rfl
   have hFs:∀ k,F (k + 1)=F k++(jy (dB lo m) r).map ((l++[lo + (k:Nat)])++·):=by
    intro k
    rw [hF]
    simp only [HC,adz,List.flatMap_cons,agb,ack,aa6,List.cons_append,List.nil_append]
   have hFm:(jy (dB lo m) (r + 1)).map (l++·)=F m:=by
    rw [hF,jy,List.map_flatMap]
    congr 1
    funext x
    rw [ac0];rfl
   rw [hFm]
   simp +contextual only [a2,ik.aO,ik.len (by omega),e1,decide_false,sZ,Nat.reduceEqDiff,Nat.reduceAdd,↓reduceIte,reduceCtorEq]
   refine aG m (fun k (_:Unit)=>(fz step (F k) s).2=true) (fun k _=>[(0,bu l),(4,.ai (.int .i64 hi)),(5,.ptr q 0),(8,.int .i64 (lo + (k:Nat)))]) (fun k _=>St (fz step (F k) s).1++X) () ⟨by rw [hF0];rfl,aD (by simp) (by rw [hF0];rfl)⟩ fun k _ hk hI=>?_
   have hg:=A5 hy (F k) s hs hI
   generalize SF:(fz step (F k) s).1=s1 at hg ⊢
   by_cases hkm:lo + (k:Int)≤hi
   ·have C8:k < m:=by omega
    have hql:=hq s1
    simp +contextual only [hkm,decide_true,a2,sZ,Nat.reduceEqDiff,↓reduceIte,reduceCtorEq]
    refine aF (abb l (by omega)) ?_
    have jF:qQ 1 [AV.int .i64 (lo + (k:Int))]:=of_eq_true (nM [_])
    have efn:(I3 n id lo hi q).ab=.fn (.func 206) [] [.ai (.int .i64 n),.ai (.oJ id),.ai (.int .i64 lo),.ai (.int .i64 hi),.ptr q 0]:=rfl
    have ea:ints l++[AV.int .i64 (lo + (k:Int))]=ints (l++[lo + (k:Int)]):=by simp [ints]
    have ek:AV.aj 0 (ints (l++[lo + (k:Int)]))=bu (l++[lo + (k:Int)]):=by rw [R6 _ (by simp)]
    simp +contextual only [hql,efn,aw,jF,ea,ek,Iy,sZ,Nat.reduceEqDiff,Nat.reduceAdd,Nat.reduceLT,↓reduceIte,reduceCtorEq]
    refine ⟨by omega,af (ih (l++[lo + (k:Int)]) s1 X (by simp;omega) (fun x hx=>?_) hg hq) ?_⟩
    ·rcases abZ.1 hx with h | h
     ·exact hm x h
     ·simp only [Xi,abr,or_false] at h
      subst h
      exact A4.2 ⟨by omega,by omega⟩
    rintro rr H' ⟨rfl,rfl⟩
    have bL:fz step (F (k + 1)) s=fz step ((jy (dB lo m) r).map ((l++[lo + (k:Int)])++·)) s1:=by
     rw [hFs,yE,if_pos hI,SF]
    cases hb:(fz step ((jy (dB lo m) r).map ((l++[lo + (k:Int)])++·)) s1).2 with
    | true=>
      simp +contextual only [Bool.not_true,sZ,Nat.reduceEqDiff,↓reduceIte,reduceCtorEq]
      refine ⟨k + 1,(),⟨C8,by rw [bL];exact hb⟩,by omega,aD ?_ (by rw [bL])⟩
      rw [dk _ (by omega)]
      have:lo + (k:Int) + 1=lo + ((k + 1:Nat):Int):=by omega
      rw [this]
    | false=>
      simp +contextual only [Bool.not_false,sZ,Nat.reduceEqDiff,↓reduceIte,reduceCtorEq]
      have fU:fz step (F m) s=((fz step ((jy (dB lo m) r).map ((l++[lo + (k:Int)])++·)) s1).1,false):=by
       have e:∃ R,F m=F (k + 1)++R:=by
        have:∀ d,∃ R,F (k + 1 + d)=F (k + 1)++R:=by
         intro d
         induction d with
         | zero=>exact ⟨[],by simp⟩
         | succ d ihd=>
           obtain ⟨R,hR⟩:=ihd
           exact ⟨R++_,by rw [show k + 1 + (d + 1)=(k + 1 + d) + 1 by omega,hFs,hR,aa6]⟩
        obtain ⟨R,hR⟩:=this (m - (k + 1))
        exact ⟨R,by rw [← hR];congr 1;omega⟩
       obtain ⟨R,hR⟩:=e
       rw [hR,yE,bL,hb,if_neg (by simp)]
      rw [fU]
      exact sm false _
   ·have hke:k=m:=by omega
    simp +contextual only [hkm,decide_false,sZ,Nat.reduceEqDiff,↓reduceIte,reduceCtorEq]
    rw [← hke,hI,SF]
    exact sm true s1
theorem abc {σ:Type} {n:Nat} {lo hi:Int} (vQ:-1000000≤lo∧lo≤1000000) (LB:-1000000≤hi∧hi≤1000000) (hn:n≤1000000) {id:Nat} {St:σ→List aa} {Good:σ→Prop} {step:σ→List Int→σ×Bool} (hy:YS n (dB lo (hi + 1 - lo).toNat) id St Good step) (bn:∀ s,id < (St s).length) (s:σ) (hs:Good s) :
 ax Tryz.prog 205 [.oJ id,.ai (.int .i64 n),.ai (.int .i64 lo),.ai (.int .i64 hi)] (St s) fun rr H'=>rr=.tuple []∧H'=St (fz step (jy (dB lo (hi + 1 - lo).toNat) n) s).1:=by
 refine Y5.2.calls rfl ?_
 simp only [Y5,aH]
 have ajP:=bn s
 have vy:(AV.oJ id).val=true:=rfl
 have cy:(AV.oJ id).cells=[.oJ id]:=rfl
 have oy:(AV.oJ id).one=true:=rfl
 have by':∀ m,(AV.oJ id).bb m=decide (id < m):=fun m=>by simp [AV.bb]
 have d1:decide (id < (St s).length + 1)=true:=decide_eq_true (by omega)
 have d2':decide ((St s).length < (St s).length + 1)=true:=decide_eq_true (by omega)
 have efn:(I3 n id lo hi (St s).length).ab=.fn (.func 206) [] [.ai (.int .i64 n),.ai (.oJ id),.ai (.int .i64 lo),.ai (.int .i64 hi),.ptr (St s).length 0]:=rfl
 simp +contextual only [vy,by',d1,d2',acS,sp1,sZ,Nat.reduceEqDiff,Nat.reduceAdd,Nat.reduceLT,↓reduceIte,reduceCtorEq]
 have h:=ae2 vQ LB hn hy (St s).length n [] s [.cells [I3 n id lo hi (St s).length]] (by simp) (fun x hx=>by cases hx) hs (fun s'=>by rw [← hy.len s' s];simp)
 have em:(jy (dB lo (hi + 1 - lo).toNat) n).map ([]++·)=jy (dB lo (hi + 1 - lo).toNat) n:=by simp
 rw [em] at h
 refine af h ?_
 rintro rr H' ⟨rfl,rfl⟩
 simp +contextual only [sZ,reduceCtorEq]
 refine ⟨(St s).length,tv _,[],trivial,rfl,rfl,?_⟩
 rw [hy.len s _,aec]
theorem abd (n:Nat) (lo hi:Int):Pure Tryz.prog 166 [.int .i64 n,.int .i64 lo,.int .i64 hi] (.fn (.func 205) [] [.ai (.int .i64 n),.ai (.int .i64 lo),.ai (.int .i64 hi)]):=by
 refine fun H=>YM.2.calls rfl ?_
 simp only [YM,aH]
 simp +contextual only [sZ,Nat.reduceEqDiff,Nat.reduceAdd,↓reduceIte,reduceCtorEq]
 exact aM rfl rfl
end Go.aI
end
section
set_option maxRecDepth 100000
namespace Go.aI
open Go Go.Proofs Go.dV
theorem ae3 (x:Int) (r:List Int) (hl:r.length≤1000000000):Pure Tryz.prog 207 [.aj 0 (ints (x::r))] (.int .i64 (r.foldl max x)):=by
 refine fun H=>Y6.2.calls rfl ?_
 simp only [Y6,aH]
 have ix:IL (.aj 0 (ints (x::r))) (x::r):=.inr rfl
 have n1:(((x::r).length:Int) < 1)=False:=eq_false (by simp;omega)
 have g0':(x::r).getD (0:Int).toNat 0=x:=rfl
 have ll:(x::r).length≤1000000001:=by simp;omega
 generalize eR:x::r=xs at *
 have dP:0 < xs.length:=by rw [← eR];simp
 simp +contextual only [ix.aO,ix.len (by omega),n1,decide_false,ix.lens,ix.idx,g0',sZ,Nat.reduceEqDiff,Nat.reduceAdd,↓reduceIte,reduceCtorEq]
 refine ⟨by omega,?_⟩
 have hsplit:∀ j,j≤r.length→(r.take j).foldl max x=((xs.take (j + 1)).drop 1).foldl max x:=by intro j _;rw [← eR];simp
 refine ay r.length (fun j=>True) (fun j=>[(0,.aj 0 (ints xs)),(3,.int .i64 ((r.take j).foldl max x)),(4,.int .i64 ((j + 1:Nat):Int))]) (fun _=>H) ⟨trivial,aA _ _ _⟩ fun j hj _=>?_
 have FM:xs.length=r.length + 1:=by rw [← eR];simp
 by_cases hjr:j < r.length
 ·have n2:(((j + 1:Nat):Int) < xs.length)=True:=eq_true (by omega)
  have gj:xs.getD (j + 1) 0=r.getD j 0:=by rw [← eR];simp
  have tk:(r.take (j + 1)).foldl max x=max ((r.take j).foldl max x) (r.getD j 0):=by
   rw [acq hjr,List.foldl_append]
   simp [hjr]
  simp +contextual only [ix.aO,ix.len (by omega),n2,decide_true,ix.lens,ix.idx,zV,gj,sZ,Nat.reduceEqDiff,↓reduceIte,reduceCtorEq]
  exact ⟨by omega,j + 1,hjr,by omega,aD (by rw [dk _ (by omega),tk];rfl) rfl⟩
 ·have e:j=r.length:=by omega
  subst e
  have n2:(((r.length + 1:Nat):Int) < xs.length)=False:=eq_false (by omega)
  simp +contextual only [ix.aO,ix.len (by omega),n2,decide_false,sZ,Nat.reduceEqDiff,↓reduceIte,reduceCtorEq]
  exact aM rfl (by rw [abe])
theorem ae5 (l:List Int) {v:AV} (h:IL v l) (hl:l.length≤1000000000) (y:Int):Pure Tryz.prog 111 [v,.int .i64 y] (.int .i64 (mS (fun z=>decide (y=z)) l 0)):=by
 refine fun H=>Ym.2.calls rfl ?_
 simp only [Ym,aH]
 obtain ⟨a1,a2,a3,a4⟩:=h.one
 simp +contextual only [a2,h.aO,h.len (by omega),sZ,Nat.reduceEqDiff,Nat.reduceAdd,↓reduceIte,reduceCtorEq]
 refine ay l.length (fun i=>mS (fun z=>decide (y=z)) (l.drop i) i=mS (fun z=>decide (y=z)) l 0) (fun i=>[(0,v),(1,.int .i64 y),(7,.int .i64 l.length),(8,.int .i64 i)]) (fun _=>H) ⟨rfl,aA _ _ _⟩ fun i hi hI=>?_
 by_cases y7:i < l.length
 ·have n1:((i:Int) < l.length)=True:=eq_true (by omega)
  rw [qd y7] at hI
  have egd:l.getD i default=l.getD i 0:=by simp [y7]
  rw [egd] at hI
  simp +contextual only [n1,decide_true,a2,h.lens,h.idx,zV,sZ,Nat.reduceEqDiff,↓reduceIte,reduceCtorEq]
  refine ⟨by omega,fun he=>?_,fun dP=>?_⟩
  ·rw [if_pos (by simpa using he)] at hI
   exact aM rfl (by rw [← hI])
  ·rw [if_neg (by simpa using dP)] at hI
   exact ⟨i + 1,⟨y7,hI⟩,by omega,aD (by rw [aq i (by omega)]) rfl⟩
 ·have n1:((i:Int) < l.length)=False:=eq_false (by omega)
  rw [aaN (by omega)] at hI
  simp +contextual only [n1,decide_false,sZ,Nat.reduceEqDiff,↓reduceIte,reduceCtorEq]
  exact aM rfl (by rw [← hI];rfl)
theorem CO {α:Type} {p:α→Bool}:∀ (l:List α) (i:Nat),0≤mS p l i↔∃ x∈l,p x=true
 | [],i=>by simp [mS]
 | x::r,i=>by
   rw [mS]
   by_cases h:p x=true
   ·rw [if_pos h];exact ⟨fun _=>⟨x,by simp,h⟩,fun _=>by omega⟩
   ·rw [if_neg h,CO r (i + 1)]
    simp [h]
theorem ae6 (l:List Int) {v:AV} (h:IL v l) (hl:l.length≤1000000000) (y:Int):Pure Tryz.prog 208 [v,.int .i64 y] (.bool (decide (y∈l))):=by
 refine fun H=>Y7.2.calls rfl ?_
 simp only [Y7,aH]
 obtain ⟨a1,a2,a3,a4⟩:=h.one
 simp +contextual only [a2,sZ,Nat.reduceEqDiff,Nat.reduceAdd,↓reduceIte,reduceCtorEq]
 refine ae (ae5 l h hl y) ?_
 simp +contextual only [sZ,↓reduceIte,reduceCtorEq]
 refine aM rfl ?_
 congr 1
 rw [decide_eq_decide,CO]
 simp
def Fh (l:List Int):Int:=l.foldl max (-1)
def pA (l:List Int):Bool:=(List.range (Fh l + 1).toNat).all fun j=>decide ((j:Int)∈l)
theorem foldl_max:∀ (l:List Int) (x b:Int),x≤b→(∀ y∈l,y≤b)→x≤l.foldl max x∧l.foldl max x≤b
 | [],x,b,h,_=>⟨agD _,h⟩
 | y::r,x,b,h,hr=>by
   have h1:=hr y (by simp)
   have:=foldl_max r (max x y) b (by omega) (fun z hz=>hr z (by simp [hz]))
   rw [List.foldl_cons];omega
theorem ae7 (l:List Int) {v:AV} (h:IL v l) (hl:l.length≤100000000) (hb:∀ x∈l,x≤1000000):Pure Tryz.prog 167 [v] (.bool (pA l)):=by
 refine fun H=>YN.2.calls rfl ?_
 simp only [YN,aH]
 obtain ⟨a1,a2,a3,a4⟩:=h.one
 have X9:∀ ψ:List AV→Prop,bw 1 8 (.aj 1 [.int .i64 (-1)]) v ψ=ψ (ints (-1::l)):=by
  intro ψ
  have hr:dA v=some (ints l):=by
   rcases h with rfl | rfl
   ·cases l <;> rfl
   ·rfl
  have hal:oa 1 (.aj 1 [.int .i64 (-1)])=some [.int .i64 (-1)]:=rfl
  have ok:qQ 1 (ints l):=of_eq_true (nM l)
  simp only [bw,hal,hr,eq_iff_iff]
  exact ⟨fun h=>h.2.2,fun k=>⟨by simp [aw];omega,ok,k⟩⟩
 have hm:=foldl_max l (-1) 1000000 (by omega) hb
 simp +contextual only [a2,X9,sZ,Nat.reduceEqDiff,Nat.reduceAdd,↓reduceIte,reduceCtorEq]
 refine ae (ae3 (-1) l (by omega)) ?_
 have em:l.foldl max (-1)=Fh l:=rfl
 rw [em] at hm ⊢
 have hw:IntKind.i64.wrap (Fh l + 1)=Fh l + 1:=dk _ (by omega)
 simp +contextual only [hw,sZ,Nat.reduceEqDiff,↓reduceIte,reduceCtorEq]
 refine ay (Fh l + 1).toNat (fun j=>∀ i,i < j→(i:Int)∈l) (fun j=>[(0,v),(8,.int .i64 (Fh l + 1)),(9,.int .i64 j)]) (fun _=>H) ⟨fun i hi=>by omega,aA _ _ _⟩ fun j hj hI=>?_
 by_cases hjm:(j:Int) < Fh l + 1
 ·simp +contextual only [hjm,decide_true,a2,sZ,Nat.reduceEqDiff,Nat.reduceAdd,↓reduceIte,reduceCtorEq]
  refine ae (ae6 l h (by omega) j) ?_
  by_cases me:(j:Int)∈l
  ·simp +contextual only [me,decide_true,Bool.not_true,sZ,Nat.reduceEqDiff,↓reduceIte,reduceCtorEq]
   refine ⟨j + 1,⟨by omega,fun i hi=>?_⟩,by omega,aD (by rw [aq j (by omega)]) rfl⟩
   by_cases e:i=j
   ·subst e;exact me
   ·exact hI i (by omega)
  ·simp +contextual only [me,decide_false,Bool.not_false,sZ,Nat.reduceEqDiff,↓reduceIte,reduceCtorEq]
   refine aM rfl ?_
   congr 1
   have:pA l=false:=by
    unfold pA
    rw [acZ]
    exact ⟨j,acf.2 (by omega),by simpa using me⟩
   rw [this]
 ·have e:j=(Fh l + 1).toNat:=by omega
  simp +contextual only [hjm,decide_false,sZ,Nat.reduceEqDiff,↓reduceIte,reduceCtorEq]
  refine aM rfl ?_
  congr 1
  have:pA l=true:=by
   unfold pA
   rw [aaO]
   intro i hi
   exact decide_eq_true (hI i (by rw [e];exact acf.1 hi))
  rw [this]
end Go.aI
end
section
set_option maxRecDepth 100000
namespace Go.aI
open Go Go.Proofs Go.dV
open Classical in
noncomputable def yF (t:Ty) (ops pl st:List Int):Bool:=decide (jr t.s (rD t.s.ops.length ops pl) (uE t.s.ops.length ops st)=0∧iC t (rD t.s.ops.length ops pl) (uE t.s.ops.length ops st) < 0)
abbrev Fo:=Option (List Int×List Int)
noncomputable def dL (t:Ty) (ops pl:List Int) (s:Fo) (st:List Int):Fo×Bool:=if yF t ops pl st=true then (some (rD t.s.ops.length ops pl,uE t.s.ops.length ops st),false) else (s,true)
noncomputable def fO (t:Ty) (ops:List Int) (s:Fo) (pl:List Int):Fo×Bool:=if pA pl=true then fz (dL t ops pl) (jy (dB 1 3) ops.length) s else (s,true)
noncomputable def zL (t:Ty) (ops:List Int):Fo:=(fz (fO t ops) (jy (dB 0 ops.length) ops.length) none).1
def o4 (s:Fo):aa:=match s with | none=>.cells [.ag,.ag] | some (P,S)=>.cells [.aj 0 (ints P),.aj 0 (ints S)]
def o5 (s:Fo):aa:=.cells [.bool s.isSome]
noncomputable def jN (s:Fo):Xj:=if s.isSome=true then .jump .ret else .ready
theorem CP:bg.n=41:=by kernel_rfl
theorem CQ:bJ.n=41:=by kernel_rfl
theorem yG:bg.ps=[15]:=by kernel_rfl
theorem yH:bJ.ps=[22]:=by kernel_rfl
theorem NW {n0 id:Nat} {R:AV→List aa→Prop} {H:List aa} {lc:jE} {es:List AV} (h:H[id]?=some (.loop .busy lc es)):sl n0 id R .ret H=JT n0 false (H.set id (.loop (.jump .ret) lc es)) R:=by
 unfold sl;rw [h]
theorem Fi {id:Nat} {H:List aa} {K:Option Code→List aa→Prop} {lc:jE} {es:List AV} {c:Code} (h:H[id]?=some (.loop (.jump c) lc es)):behind id H K=K (some c) (H.set id (.loop .fh lc es)):=by
 unfold behind;rw [h]
theorem CR (t:Ty) (ops pl:List Int):∀ (a:List (List Int)) (s:Fo),s=none→(fz (dL t ops pl) a s).2=(fz (dL t ops pl) a s).1.isNone
 | [],s,h=>by subst h;rfl
 | l::r,s,h=>by
   subst h
   rw [fz]
   by_cases ht:yF t ops pl l=true
   ·have e:dL t ops pl none l=(some (rD t.s.ops.length ops pl,uE t.s.ops.length ops l),false):=if_pos ht
    rw [e];rfl
   ·have e:dL t ops pl none l=(none,true):=if_neg ht
    rw [e]
    exact CR t ops pl r none rfl
structure zM (t:Ty):Prop where
 n:t.s.ops.length≤1000000000
 eq:∀ e∈t.es,∀ ps:List Int,ps.length=t.s.ops.length→zK ps e
theorem NX (n:Nat) (ops pl:List Int):(rD n ops pl).length=n:=by unfold rD;rw [yD];simp
theorem wN (A:List aa) (x:aa) (Y:List aa) (k:Nat) (h:A.length=k):(A++x::Y)[k]?=some x:=by subst h;simp
theorem wO (A:List aa) (x y:aa) (Y:List aa) (k:Nat) (h:A.length=k):(A++x::Y).set k y=A++y::Y:=by subst h;simp
def fQ (H W:List aa) (s:Fo):List aa:=H++o4 s::o5 s::W
theorem fx (H W:List aa) (s:Fo):(fQ H W s).length=H.length + 2 + W.length:=by simp [fQ];omega
theorem TN (H W Y:List aa) (s:Fo):(fQ H W s++Y)[H.length]?=some (o4 s):=by rw [zR (by rw [fx];omega)];simp [fQ]
theorem TO (H W Y:List aa) (s:Fo):(fQ H W s++Y)[H.length + 1]?=some (o5 s):=by rw [zR (by rw [fx];omega)];simp [fQ]
theorem WS (H W Y:List aa) (s:Fo) (P S:List Int):((fQ H W s++Y).set H.length (.cells [.aj 0 (ints P),.aj 0 (ints S)])).set (H.length + 1) (.cells [.bool true])=fQ H W (some (P,S))++Y:=by
 rw [agw _ _ (by rw [fx];omega),agw _ _ (by rw [acK,fx];omega)]
 simp [fQ,o4,o5]
theorem WT {s:Sg} {ps ss:List Int} (h:jr s ps ss=0):Va ps ss:=(sX.1 h).2.va
theorem NY {t:Ty} (ht:zM t) {ops:List Int} {vo:AV} (ho:IL vo ops) (hr:∀ i∈ops,0≤i∧i < t.s.ops.length) (kq:ops.length≤1000000) {pl:List Int} (wh:pl.length=ops.length) (H W:List aa) (es:List AV) (Bv:es=lV 41 [(2,.ai t.av),(3,.ai vo),(4,.ptr H.length 0),(5,.ptr (H.length + 1) 0),(6,.ai (bu pl)),(21,.fn (.func 205) [] [.ai (.int .i64 ops.length),.ai (.int .i64 1),.ai (.int .i64 3)])])
 (l:List Int) (hl:l.length=ops.length) (Y:List aa) (id:Nat) (bn:id=H.length + 2 + W.length) :
 kP Tryz.prog id [bu l] (fQ H W none++.loop .ready bJ es::Y) fun r H'=>r=.bool (dL t ops pl none l).2∧H'=fQ H W (dL t ops pl none l).1++.loop (jN (dL t ops pl none l).1) bJ es::Y:=by
 have ees:es=[.any,.any,.ai t.av,.ai vo,.ptr H.length 0,.ptr (H.length + 1) 0,.ai (bu pl),.any,.any,.any,.any,.any,.any,.any,.any,.any,.any,.any,.any,.any,.any,.fn (.func 205) [] [.ai (.int .i64 ops.length),.ai (.int .i64 1),.ai (.int .i64 3)],.any,.any,.any,.any,.any,.any,.any,.any,.any,.any,.any,.any,.any,.any,.any,.any,.any,.any,.any]:=by rw [Bv];rfl
 have hk:∀ s,(fQ H W s).length=id:=fun s=>by rw [fx,bn]
 have e0:∀ s st,(fQ H W s++aa.loop st bJ es::Y)[id]?=some (.loop st bJ es):=fun s st=>wN _ _ _ _ (hk s)
 have iD:∀ s st st',(fQ H W s++aa.loop st bJ es::Y).set id (.loop st' bJ es)=fQ H W s++aa.loop st' bJ es::Y:=fun s st st'=>wO _ _ _ _ _ (hk s)
 have hlen:∀ s st,(fQ H W s++aa.loop st bJ es::Y).length=(fQ H W none++aa.loop .ready bJ es::Y).length:=fun s st=>by rw [aaj,aaj,hk,hk];rfl
 refine pN (lc:=bJ) (es:=es) (e0 none .ready) Uw Ux ⟨by rw [ees,CQ];rfl,by rw [yH];rfl,by rw [yH,CQ];rfl,?_,?_⟩ (yA ?_)
 ·rw [ees];intro x hx;simp only [Xi,abr,or_false] at hx
  repeat' (first | (rcases hx with hx | hx;· subst hx;rfl) | (subst hx;rfl))
 ·intro x hx;simp only [Xi,abr,or_false] at hx;subst hx;exact (aJ l).2.1
 ·have ez:(bJ.ps.zip [bu l]).reverse++bY 0 es=(22,bu l)::bY 0 es:=by rw [yH];rfl
  rw [ez]
  generalize zO:bY 0 es=ea
  have g2:get ea 2=.ai t.av:=by rw [← zO,ees];rfl
  have g3:get ea 3=.ai vo:=by rw [← zO,ees];rfl
  have g4:get ea 4=.ptr H.length 0:=by rw [← zO,ees];rfl
  have g5:get ea 5=.ptr (H.length + 1) 0:=by rw [← zO,ees];rfl
  have g6:get ea 6=.ai (bu pl):=by rw [← zO,ees];rfl
  simp only [L9,Ma]
  have hb:∀ K,kW id (fQ H W none++.loop .ready bJ es::Y) K=K (fQ H W none++.loop .busy bJ es::Y):=fun K=>by rw [uC (e0 none .ready),iD]
  obtain ⟨e1,e2,e3,e4,e5,e6⟩:=Ty.facts t
  obtain ⟨a1,a2,a3,a4⟩:=ho.one
  obtain ⟨b1,b2,b3,b4,b5⟩:=aJ pl
  obtain ⟨c1,c2,c3,c4,c5⟩:=aJ l
  have lvo:∀ (H:List aa) (φ:AV→Prop),aY none (.ai vo) H φ=φ vo:=fun H φ=>by simp [aY,a1,a2]
  obtain ⟨q1,q2,q3,q4,q5,q6⟩:=aX (rD t.s.ops.length ops pl) (uE t.s.ops.length ops l)
  simp +contextual only [g2,g3,g4,g5,g6,c2,hb,fw,lvo,cb,b2,a2,e4,sZ,Nat.reduceEqDiff,Nat.reduceAdd,↓reduceIte]
  refine ae (ae1 t ops pl l ho (.inl rfl) (.inl rfl) wh hl hr ht.n (by omega)) ?_
  generalize hP:rD t.s.ops.length ops pl=P at *
  generalize hS:uE t.s.ops.length ops l=S at *
  simp +contextual only [aB,q1,q2,q3,q4,Dc,b7,sZ,Nat.reduceEqDiff,Nat.reduceAdd,↓reduceIte]
  refine ae (c24 t.s P S) ?_
  have endN:∀ n0,n0=id + (Y.length + 1)→dL t ops pl none l=(none,true)→sl n0 id (fun r H'=>r=.bool (dL t ops pl none l).2∧H'=fQ H W (dL t ops pl none l).1++.loop (jN (dL t ops pl none l).1) bJ es::Y) .normal (fQ H W none++.loop .busy bJ es::Y):=by
   intro n0 H6 bV
   rw [Hy (e0 none .busy),iD,bV]
   refine ⟨by rw [hlen,aaj,hk];simp;omega,rfl,?_⟩
   rw [aaJ (by rw [hlen,aaj,hk];simp;omega)]
   rfl
  have endR:∀ n0,n0=id + (Y.length + 1)→dL t ops pl none l=(some (P,S),false)→sl n0 id (fun r H'=>r=.bool (dL t ops pl none l).2∧H'=fQ H W (dL t ops pl none l).1++.loop (jN (dL t ops pl none l).1) bJ es::Y) .ret (fQ H W (some (P,S))++.loop .busy bJ es::Y):=by
   intro n0 H6 bV
   rw [NW (e0 _ .busy),iD,bV]
   refine ⟨by rw [hlen,aaj,hk];simp;omega,rfl,?_⟩
   rw [aaJ (by rw [hlen,aaj,hk];simp;omega)]
   rfl
  by_cases h0:jr t.s P S=0
  ·simp +contextual only [h0,fw,b7,e4,q4,sZ,Nat.reduceEqDiff,Nat.reduceAdd,↓reduceIte]
   refine ae (c89 t P S (WT h0) (fun e he=>ht.eq e he P (by rw [← hP];exact NX _ _ _))) ?_
   by_cases h1:iC t P S < 0
   ·have bV:dL t ops pl none l=(some (P,S),false):=by
     rw [dL,if_pos (by rw [yF,hP,hS];exact decide_eq_true ⟨h0,h1⟩),hP,hS]
    have k4:=TN H W (.loop .busy bJ es::Y) none
    have k5:∀ o,((fQ H W none++.loop .busy bJ es::Y).set H.length o)[H.length + 1]?=some (o5 none):=fun o=>by rw [zS (by omega),TO]
    have ks:=WS H W (.loop .busy bJ es::Y) none P S
    have o4n:o4 none=.cells [.ag,.ag]:=rfl
    have o5n:o5 none=.cells [.bool false]:=rfl
    rw [o4n] at k4
    simp only [o5n] at k5
    have qu:(eN P S).cells.map AV.ab=[.aj 0 (ints P),.aj 0 (ints S)]:=rfl
    have sp2:∀ (a b x y:AV),ah [a,b] 0 [x,y]=[x,y]:=fun _ _ _ _=>rfl
    have fb:∀ m,al m [AV.aj 0 (ints P),.aj 0 (ints S)]=true:=fun m=>by simp [bN,da,bM,aT]
    simp +contextual only [h1,decide_true,b7,k4,k5,ks,q1,q2,q3,qu,sp2,fb,acS,sZ,Nat.reduceEqDiff,Nat.reduceAdd,↓reduceIte]
    first
     | exact endR _ (by rw [hk]) bV
     | exact endR _ (by rw [hlen,aaj,hk];rfl) bV
   ·simp +contextual only [h1,decide_false,sZ,Nat.reduceEqDiff,↓reduceIte]
    have bV:dL t ops pl none l=(none,true):=by
     rw [dL,if_neg (by rw [yF,hP,hS];simp [h1])]
    exact endN _ (by rw [hk]) bV
  ·simp +contextual only [h0,decide_false,sZ,Nat.reduceEqDiff,↓reduceIte]
   have bV:dL t ops pl none l=(none,true):=by
    rw [dL,if_neg (by rw [yF,hP,hS];simp [h0])]
   exact endN _ (by rw [hk]) bV
end Go.aI
end
