/- Part 15 of 18 of the proof. -/
import Derived.Test.YtljchnfgjdjobaaGreatWan
import Derived.Test.YtljchnfgjdjobaaGreatWag
import Derived.KernelRfl
set_option linter.unusedVariables false
set_option linter.unusedSimpArgs false
set_option linter.defProp false
set_option linter.unusedSectionVars false
section
set_option maxRecDepth 100000
namespace Go.aH
open Go Go.Proofs Go.fm
structure PA (c:Cx) (H:List aa) (x y:Nat) (i k:Int) (G:List aa):Prop where
 du:Du c G
 gx:G[x]?=some (.cells [bm (c.kd i)])
 gy:G[y]?=some (.cells [bm (c.kd k)])
 g6:G[H.length]?=some (.cells [.int .i64 0,.int .i64 0,.ah,.ah])
 len:G.length=H.length + 3
 up:∀ j,j < H.length→j≠c.e→j≠c.g→G[j]?=H[j]?
theorem PA.call {c:Cx} {H G G':List aa} {x y:Nat} {i k:Int} (hD:Du c H) (w:XY H x y) (h:PA c H x y i k G) (hU:Up c G G') (jn:Du c G'):PA c H x y i k G':=by
 obtain ⟨l1,l2,l3⟩:=hD.lt
 obtain ⟨w1,w2,w3,w4⟩:=w
 exact ⟨jn,by rw [hU.get x (by omega) (by omega),h.gx],by rw [hU.get y (by omega) (by omega),h.gy],by rw [hU.get _ (by omega) (by omega),h.g6],by rw [hU.len,h.len],fun j h1 h2 h3=>by rw [hU.get j h2 h3,h.up j h1 h2 h3]⟩
theorem PA.sn {c:Cx} {H G:List aa} {x y:Nat} {i k:Int} (w:XY H x y) (h:PA c H x y i k G) (es:List AV):PB c H x y i k es (G++[.cells es]):=by
 obtain ⟨w1,w2,w3,w4⟩:=w
 have hl:=h.len
 exact ⟨h.du.sn _,by rw [List.getElem?_append_left (by omega),h.gx],by rw [List.getElem?_append_left (by omega),h.gy],by rw [List.getElem?_append_left (by omega),h.g6],by rw [← hl];simp,by simp [hl],fun j h1 h2 h3=>by rw [List.getElem?_append_left (by omega),h.up j h1 h2 h3]⟩
theorem Yw (r:Int) (φ:AV→Prop):cu [.int .i64 0,.int .i64 0,.ah,.ah] [(0,1,.int .i64 r)] φ=φ (.agg [.int .i64 r,.int .i64 0,.ah,.ah]):=by
 simp only [cu,gI,eq_iff_iff]
 constructor
 ·rintro ⟨_,_,_,h⟩;exact h
 ·exact fun h=>⟨rfl,rfl,by simp,h⟩
theorem PB.fin {c:Cx} {H G:List aa} {x y:Nat} {i k:Int} {r i':Int} {to:List Int} {l:List PP} (hD:Du c H) (h:PB c H x y i k [.int .i64 r,.int .i64 i',tI to,oQ l] G) (hs:Sh c.O (.mk r i' to l) (c.tm i) (c.tm k)) :
 yj H.length (eg (.mk r i' to l)) (G.set H.length (.cells (eg (.mk r i' to l)).cells)) (W4 c i k H):=by
 obtain ⟨l1,l2,l3⟩:=hD.lt
 refine PO (G:=(G.set H.length (.cells (eg (.mk r i' to l)).cells)).take H.length) rfl (fQ _ _) rfl ⟨_,rfl,hs,⟨?_,fun j h1 h2=>?_⟩,?_⟩
 ·have:=h.len;simp;omega
 ·rw [List.getElem?_take]
  split
  ·rename_i hj;rw [List.getElem?_set_ne (by omega),h.up j hj h1 h2]
  ·rename_i hj;rw [List.getElem?_eq_none (by omega)]
 ·exact (h.du.set (by omega) (by omega) (by omega)).take l1 l2 l3
theorem Dd (p:PP) (φ:AV→Prop):c8 (some (.cells (eg p).cells)) (some 4) 0 φ=φ (eg p):=by
 obtain ⟨_,h2,_,_,_,_,h7,h8,_⟩:=a7 p
 simp only [c8,List.drop_zero,h2,List.take_of_length_le (Nat.le_of_eq h2),h8,h7]
 simp
theorem Qe (p:PP):ag [AV.int .i64 0,.int .i64 0,.ah,.ah] 0 (eg p).cells=(eg p).cells:=by rw [n7];rfl
theorem uw {c:Cx} (hc:c.Ok) {i k:Int} (hi:c.dP i) (hk:c.dP k):F9 c i k:=by
 have ki:=hc.kids i hi
 have kk:=hc.kids k hk
 exact ⟨fun H hD=>Ws hc hi (fun x hx=>jW hc (ki.2 x hx) hk) (fun x hx=>jX hc (ki.2 x hx) hk) hD,fun H hD=>Wt hc hi hk (fun y hy=>jX hc hi (kk.2 y hy)) hD,
  fun H hD=>Wv hc hi hk (fun y hy=>jX hc hi (kk.2 y hy)) (fun x hx y hy=>jW hc (ki.2 x hx) (kk.2 y hy)) (fun x hx y hy=>jX hc (ki.2 x hx) (kk.2 y hy)) hD,
  fun H hD=>WB hc hi hk (fun x hx y hy=>jW hc (ki.2 x hx) (kk.2 y hy)) (fun x hx y hy=>jX hc (ki.2 x hx) (kk.2 y hy)) hD⟩
theorem W5 {c:Cx} (hc:c.Ok) {i k:Int} (hi:c.dP i) (hk:c.dP k) (hR:R c.O (c.tm i) (c.tm k)) (hr:gR c i k 1) (j3:∀ m,m < 1→¬ gR c i k m) (hp:∀ x∈c.kd i,R c.O (c.tm x) (c.tm k)→oR c x k):oR c i k:=by
 intro H hD
 refine Da.2.calls rfl ?_
 simp only [Da,aJ]
 have k2:∀ l,(bm l).ab=bm l:=fun l=>(aC l).2.1
 have ki:=hc.kids i hi
 have kk:=hc.kids k hk
 have l1:=hc.kl i hi
 have l2:=hc.kl k hk
 obtain ⟨a1,a2,a3,a4,a5⟩:=aC (c.kd i)
 obtain ⟨b1,b2,b3,b4,b5⟩:=aC (c.kd k)
 have ii:IL (bm (c.kd i)) (c.kd i):=.inl rfl
 have ik:IL (bm (c.kd k)) (c.kd k):=.inl rfl
 have ei:(c.nd.getD i.toNat default).snd=c.kd i:=rfl
 have ek:(c.nd.getD k.toNat default).snd=c.kd k:=rfl
 obtain ⟨m1,m2,m3⟩:=hD.lt
 have ed:∀ X:List aa,(H++X)[c.d]?=H[c.d]?:=fun X=>List.getElem?_append_left m1
 have spv:∀ x:AV,ag [AV.ah] 0 [x]=[x]:=fun x=>rfl
 have spq:ag [AV.int .i64 0,.int .i64 0,.ah,.ah] 0 [AV.int .i64 0,.int .i64 0,.ah,.ah]=[AV.int .i64 0,.int .i64 0,.ah,.ah]:=rfl
 simp +contextual only [sZ,Nat.reduceEqDiff,Nat.reduceAdd,↓reduceIte,reduceCtorEq]
 refine lB (K1:=fun e G=>get e 1=.int .i64 i∧get e 3=.ai (.ptr c.d 0)∧get e 5=.ai (.int .i64 k)∧get e 6=.ptr H.length 0∧∃ x y,get e 7=.ptr x 0∧get e 8=.ptr y 0∧XY H x y∧PA c H x y i k G) ?_ ?_
 ·have P0:aa:=.cells [.int .i64 0,.int .i64 0,.ah,.ah]
  have A:∃ x y,AV.ptr (H.length + 1) 0=.ptr x 0∧AV.ptr (H.length + 2) 0=.ptr y 0∧XY H x y∧PA c H x y i k (H++[.cells [.int .i64 0,.int .i64 0,.ah,.ah],.cells [bm (c.kd i)],.cells [bm (c.kd k)]]):=
   ⟨_,_,rfl,rfl,⟨by omega,by omega,by omega,by omega⟩,⟨hD.sn _,by simp,by simp,by simp,by simp,fun j hj _ _=>List.getElem?_append_left hj⟩⟩
  have B:∃ x y,AV.ptr (H.length + 2) 0=.ptr x 0∧AV.ptr (H.length + 1) 0=.ptr y 0∧XY H x y∧PA c H x y i k (H++[.cells [.int .i64 0,.int .i64 0,.ah,.ah],.cells [bm (c.kd k)],.cells [bm (c.kd i)]]):=
   ⟨_,_,rfl,rfl,⟨by omega,by omega,by omega,by omega⟩,⟨hD.sn _,by simp,by simp,by simp,by simp,fun j hj _ _=>List.getElem?_append_left hj⟩⟩
  simp +contextual only [ed,hD.d,mE,Dv,cF,bT,k2,ei,ek,a1,a3,a4,a5,b1,b3,b4,b5,List.map_cons,List.map_nil,spv,List.all_cons,List.all_nil,Bool.and_true,bG,cZ,sZ,Nat.reduceEqDiff,Nat.reduceAdd,Nat.reduceLT,↓reduceIte]
  refine ⟨hi,?_⟩
  repeat' apply And.intro
  all_goals first | exact hk.1 | exact hk.2 | exact A | exact B
 ·rintro e G ⟨e1,e3,e5,e6,x,y,e7,e8,w,AN⟩
  simp +contextual only [e1,e3,e5,e6,e7,e8,sZ,Nat.reduceEqDiff,↓reduceIte]
  refine aE 0 (fun m (G:List aa)=>PA c H x y i k G)
   (fun m G=>[(1,.int .i64 i),(3,.ai (.ptr c.d 0)),(5,.ai (.int .i64 k)),(6,.ptr H.length 0),(7,.ptr x 0),(8,.ptr y 0),(9,.int .i64 ((m + 1:Nat):Int))]) (fun m G=>G) G ⟨AN,aA _ _ _⟩ fun m G hm AN=>?_
  have hf:dY.cells[m + 1]?=some (.fn (.func (182 + (m + 1))) [] []):=by
   have:m=0∨m=1∨m=2∨m=3:=by omega
   rcases this with rfl | rfl | rfl | rfl <;> rfl
  have en:=T6 (m + 1) _ hf (by omega)
  simp +contextual only [sZ]
  refine aF KE ?_
  simp +contextual only [mq,en _ rfl,sZ,Nat.reduceEqDiff,Nat.reduceAdd,↓reduceIte,reduceCtorEq]
  refine af ((uw hc hi hk).at (n:=m + 1) (by omega) (by omega) AN.du) ?_
  rintro r G1 ⟨z,rfl,hz,hU,nc⟩
  have pM:=AN.call hD w hU nc
  by_cases PX:m=0
  rotate_left
  ·have:z=false:=by
    cases z with
    | false=>rfl
    | true=>exact absurd (hz.1 rfl) (j3 (m + 1) (by omega))
   subst this
   simp +contextual only [Bool.not_false,sZ,Nat.reduceEqDiff,↓reduceIte]
   exact ⟨m + 1,G1,⟨by omega,pM⟩,by omega,aI (by rw [ax (m + 1) (by omega)]) rfl⟩
  subst PX
  have:z=true:=hz.2 hr
  subst this
  have Gh:=pM.len
  have kN:=fun es=>pM.sn w es
  have Tn:=fun es=>(kN es).gp
  have Oq:=fun es=>(kN es).gx
  have W6:=fun es=>(kN es).gy
  have bO:∀ (o o':aa),(G1++[o]).set (H.length + 3) o'=G1++[o']:=fun o o'=>by rw [← Gh];simp
  have ec:((1:Nat):Int)=1:=rfl
  have zf:List.map AV.ab [AV.int .i64 (1:Int),.int .i64 0,.ah,.ah]=[.int .i64 (1:Int),.int .i64 0,.ah,.ah]:=rfl
  have zf0:List.map AV.ab [AV.int .i64 0,.int .i64 0,.ah,.ah]=[.int .i64 0,.int .i64 0,.ah,.ah]:=rfl
  have e86:∀ a b:Int,decide (a=b)=decide (a=b):=fun _ _=>rfl
  simp +contextual only [k2,decide_true,Bool.not_true,Bool.not_true,Yw,Gh,Tn,bO,ec,zf,zf0,Ik,Oq,sZ,Nat.reduceEqDiff,Nat.reduceAdd,Nat.reduceLT,↓reduceIte,reduceCtorEq]
  have mJ:=kN [.int .i64 1,.int .i64 0,.ah,.ah]
  generalize G1++[aa.cells [AV.int .i64 1,.int .i64 0,.ah,.ah]]=G2 at mJ ⊢
  have fT:∃ z∈c.kd i,E c.O (c.tm z) (c.tm k)∨R c.O (c.tm z) (c.tm k):=by
   rcases hr with h | h | h | h
   ·exact h.2
   all_goals (exact absurd h.1 (by decide))
  refine af (KA (SD.Au c G2) ii (by omega) 147 [] [.ai (.ptr c.d 0),.ai (.int .i64 k)] rfl rfl (Q:=fun z=>E c.O (c.tm z) (c.tm k)∨R c.O (c.tm z) (c.tm k))
   (fun z hz G hG=>(aau (jW hc (ki.2 z hz) hk) (jX hc (ki.2 z hz) hk) hG.1).mono fun r H' hr=>hr.sb hG) ⟨mJ.du,Up.refl c _⟩) ?_
  rintro r G3 ⟨hG3,tV⟩
  rcases tV with ⟨_,tV⟩ | ⟨q,rfl,hq,hQ,_⟩
  ·obtain ⟨z,hz,h⟩:=fT
   exact absurd h (tV z hz)
  have AM:=mJ.call hD w hG3.2 hG3.1
  have oV:=fun es=>AM.set (es':=es) hD w
  have gp3:=AM.gp
  have gps:=fun es=>(oV es).gp
  have gxs:=fun es=>(oV es).gx
  have g6s:=fun es=>(oV es).g6
  have gU:(c.kd i).getD q 0∈c.kd i:=aN hq
  have un1:List.map AV.ab [AV.int .i64 (q:Int)]=[.int .i64 (q:Int)]:=rfl
  simp +contextual only [k2,ii.lens,ii.idx,gp3,Tm,un1,gps,gxs,Int.toNat_natCast,sZ,Nat.reduceEqDiff,Nat.reduceAdd,Nat.reduceLT,Nat.reduceLeDiff,↓reduceIte,reduceCtorEq]
  refine ⟨by omega,?_⟩
  refine af (jW hc (ki.2 _ gU) hk _ (oV _).du) ?_
  rintro r G4 ⟨v,rfl,hv,T3,T4⟩
  have wu:=(oV _).call hD w T3 T4
  have gp4:=wu.gp
  have gx4:=wu.gx
  have g64:=wu.g6
  have cod:∀ l:List PP,((c.tm i).l.getD q default)=c.tm ((c.kd i).getD q 0):=fun _=>by rw [← ki.1,cq hq]
  have klen:(c.tm i).l.length=(c.kd i).length:=by rw [← ki.1];simp
  have ki2:(c.tm i).k=2:=by
   have:=(sy hc hi hk).1
   have hh:=(qM.1 (show R c.O (c.tm i) (c.tm k) from hR)).1
   exact hh
  cases v with
  | true=>
    have hs:Sh c.O (.mk 1 q [] []) (c.tm i) (c.tm k):=by
     rw [Sh1 rfl ki2]
     refine ⟨rfl,⟨by show (0:Int)≤q;omega,by show (q:Int) < _;omega⟩,.inl ⟨rfl,?_⟩⟩
     show E c.O ((c.tm i).l.getD (q:Int).toNat default) (c.tm k)
     rw [Int.toNat_natCast,cod []];exact hv.1 rfl
    have e4:(AV.int .i64 (q:Int))=AV.int .i64 (q:Int):=rfl
    have lp:=Qc 1 q [] []
    obtain ⟨q1,q2,q3,q4,q5,q6,q7,q8,q9⟩:=a7 (.mk 1 q [] [])
    have lp2:=Dd (.mk 1 q [] [])
    have KW:(G4.set H.length (.cells (eg (.mk 1 q [] [])).cells))[H.length]?=some (.cells (eg (.mk 1 q [] [])).cells):=by rw [List.getElem?_set_self (aK g64)]
    change ∀ φ,c8 (some (.cells [.int .i64 1,.int .i64 (q:Int),.ah,.ah])) (some 4) 0 φ=φ (eg (.mk 1 q [] [])) at lp
    simp +contextual only [Bool.not_true,gp4,lp,g64,q1,q2,q3,q9,Qe,KW,lp2,sZ,Nat.reduceEqDiff,Nat.reduceAdd,↓reduceIte,reduceCtorEq]
    refine ⟨by first | exact cz (fQ _ _) | omega,wu.fin hD hs⟩
  | false=>
    have hRx:R c.O (c.tm ((c.kd i).getD q 0)) (c.tm k):=hQ.resolve_left fun h=>absurd (hv.2 h) (by simp)
    simp +contextual only [k2,ii.lens,ii.idx,Bool.not_false,gp4,gx4,Int.toNat_natCast,sZ,Nat.reduceEqDiff,Nat.reduceAdd,Nat.reduceLT,↓reduceIte,reduceCtorEq]
    refine ⟨by omega,af (hp _ gU hRx _ wu.du) ?_⟩
    rintro r G5 ⟨u,rfl,hu,W7,W8⟩
    have KX:=wu.call hD w W7 W8
    have gp5:=KX.gp
    have E4:=fun es=>KX.set (es':=es) hD w
    have gp6:=fun es=>(E4 es).gp
    have g66:=fun es=>(E4 es).g6
    have hs:Sh c.O (.mk 1 q [] [u]) (c.tm i) (c.tm k):=by
     rw [Sh1 rfl ki2]
     refine ⟨rfl,⟨by show (0:Int)≤q;omega,by show (q:Int) < _;omega⟩,.inr ⟨u,rfl,?_⟩⟩
     show Sh c.O u ((c.tm i).l.getD (q:Int).toNat default) (c.tm k)
     rw [Int.toNat_natCast,cod []];exact hu
    have lp:=Qc 1 q [] [u]
    change ∀ φ,c8 (some (.cells [.int .i64 1,.int .i64 (q:Int),.ah,.ap 4 [eg u]])) (some 4) 0 φ=φ (eg (.mk 1 q [] [u])) at lp
    obtain ⟨q1,q2,q3,q4,q5,q6,q7,q8,q9⟩:=a7 (.mk 1 q [] [u])
    obtain ⟨u1,u2,u3,u4,u5,u6,u7,u8,u9⟩:=a7 u
    have lp2:=Dd (.mk 1 q [] [u])
    have KW:=fun es=>List.getElem?_set_self (a:=aa.cells (eg (.mk 1 q [] [u])).cells) (aK (g66 es))
    simp +contextual only [gp5,gp6,g66,lp,q1,q2,q3,q9,Qe,KW,lp2,u1,u2,u6,jz,s3,sZ,Nat.reduceEqDiff,Nat.reduceAdd,Nat.reduceLT,↓reduceIte,reduceCtorEq]
    refine ⟨by first | exact cz (fQ _ _) | omega,?_⟩
    exact PB.fin (to:=[]) (l:=[u]) hD (E4 _) hs
end Go.aH
end
section
set_option maxRecDepth 100000
namespace Go.aH
open Go Go.Proofs Go.fm
theorem W9 {c:Cx} (hc:c.Ok) {i k:Int} (hi:c.dP i) (hk:c.dP k) (hR:R c.O (c.tm i) (c.tm k)) (hr:gR c i k 2) (j3:∀ m,m < 2→¬ gR c i k m) (hp:∀ y∈c.kd k,R c.O (c.tm i) (c.tm y)→oR c i y):oR c i k:=by
 intro H hD
 refine Da.2.calls rfl ?_
 simp only [Da,aJ]
 have k2:∀ l,(bm l).ab=bm l:=fun l=>(aC l).2.1
 have ki:=hc.kids i hi
 have kk:=hc.kids k hk
 have l1:=hc.kl i hi
 have l2:=hc.kl k hk
 obtain ⟨a1,a2,a3,a4,a5⟩:=aC (c.kd i)
 obtain ⟨b1,b2,b3,b4,b5⟩:=aC (c.kd k)
 have ii:IL (bm (c.kd i)) (c.kd i):=.inl rfl
 have ik:IL (bm (c.kd k)) (c.kd k):=.inl rfl
 have ei:(c.nd.getD i.toNat default).snd=c.kd i:=rfl
 have ek:(c.nd.getD k.toNat default).snd=c.kd k:=rfl
 obtain ⟨m1,m2,m3⟩:=hD.lt
 have ed:∀ X:List aa,(H++X)[c.d]?=H[c.d]?:=fun X=>List.getElem?_append_left m1
 have spv:∀ x:AV,ag [AV.ah] 0 [x]=[x]:=fun x=>rfl
 have spq:ag [AV.int .i64 0,.int .i64 0,.ah,.ah] 0 [AV.int .i64 0,.int .i64 0,.ah,.ah]=[AV.int .i64 0,.int .i64 0,.ah,.ah]:=rfl
 simp +contextual only [sZ,Nat.reduceEqDiff,Nat.reduceAdd,↓reduceIte,reduceCtorEq]
 refine lB (K1:=fun e G=>get e 1=.int .i64 i∧get e 3=.ai (.ptr c.d 0)∧get e 5=.ai (.int .i64 k)∧get e 6=.ptr H.length 0∧∃ x y,get e 7=.ptr x 0∧get e 8=.ptr y 0∧XY H x y∧PA c H x y i k G) ?_ ?_
 ·have P0:aa:=.cells [.int .i64 0,.int .i64 0,.ah,.ah]
  have A:∃ x y,AV.ptr (H.length + 1) 0=.ptr x 0∧AV.ptr (H.length + 2) 0=.ptr y 0∧XY H x y∧PA c H x y i k (H++[.cells [.int .i64 0,.int .i64 0,.ah,.ah],.cells [bm (c.kd i)],.cells [bm (c.kd k)]]):=
   ⟨_,_,rfl,rfl,⟨by omega,by omega,by omega,by omega⟩,⟨hD.sn _,by simp,by simp,by simp,by simp,fun j hj _ _=>List.getElem?_append_left hj⟩⟩
  have B:∃ x y,AV.ptr (H.length + 2) 0=.ptr x 0∧AV.ptr (H.length + 1) 0=.ptr y 0∧XY H x y∧PA c H x y i k (H++[.cells [.int .i64 0,.int .i64 0,.ah,.ah],.cells [bm (c.kd k)],.cells [bm (c.kd i)]]):=
   ⟨_,_,rfl,rfl,⟨by omega,by omega,by omega,by omega⟩,⟨hD.sn _,by simp,by simp,by simp,by simp,fun j hj _ _=>List.getElem?_append_left hj⟩⟩
  simp +contextual only [ed,hD.d,mE,Dv,cF,bT,k2,ei,ek,a1,a3,a4,a5,b1,b3,b4,b5,List.map_cons,List.map_nil,spv,List.all_cons,List.all_nil,Bool.and_true,bG,cZ,sZ,Nat.reduceEqDiff,Nat.reduceAdd,Nat.reduceLT,↓reduceIte]
  refine ⟨hi,?_⟩
  repeat' apply And.intro
  all_goals first | exact hk.1 | exact hk.2 | exact A | exact B
 ·rintro e G ⟨e1,e3,e5,e6,x,y,e7,e8,w,AN⟩
  simp +contextual only [e1,e3,e5,e6,e7,e8,sZ,Nat.reduceEqDiff,↓reduceIte]
  refine aE 1 (fun m (G:List aa)=>PA c H x y i k G)
   (fun m G=>[(1,.int .i64 i),(3,.ai (.ptr c.d 0)),(5,.ai (.int .i64 k)),(6,.ptr H.length 0),(7,.ptr x 0),(8,.ptr y 0),(9,.int .i64 ((m + 1:Nat):Int))]) (fun m G=>G) G ⟨AN,aA _ _ _⟩ fun m G hm AN=>?_
  have hf:dY.cells[m + 1]?=some (.fn (.func (182 + (m + 1))) [] []):=by
   have:m=0∨m=1∨m=2∨m=3:=by omega
   rcases this with rfl | rfl | rfl | rfl <;> rfl
  have en:=T6 (m + 1) _ hf (by omega)
  simp +contextual only [sZ]
  refine aF KE ?_
  simp +contextual only [mq,en _ rfl,sZ,Nat.reduceEqDiff,Nat.reduceAdd,↓reduceIte,reduceCtorEq]
  refine af ((uw hc hi hk).at (n:=m + 1) (by omega) (by omega) AN.du) ?_
  rintro r G1 ⟨z,rfl,hz,hU,nc⟩
  have pM:=AN.call hD w hU nc
  by_cases PX:m=1
  rotate_left
  ·have:z=false:=by
    cases z with
    | false=>rfl
    | true=>exact absurd (hz.1 rfl) (j3 (m + 1) (by omega))
   subst this
   simp +contextual only [Bool.not_false,sZ,Nat.reduceEqDiff,↓reduceIte]
   exact ⟨m + 1,G1,⟨by omega,pM⟩,by omega,aI (by rw [ax (m + 1) (by omega)]) rfl⟩
  subst PX
  have:z=true:=hz.2 hr
  subst this
  have Gh:=pM.len
  have kN:=fun es=>pM.sn w es
  have Tn:=fun es=>(kN es).gp
  have Oq:=fun es=>(kN es).gx
  have W6:=fun es=>(kN es).gy
  have bO:∀ (o o':aa),(G1++[o]).set (H.length + 3) o'=G1++[o']:=fun o o'=>by rw [← Gh];simp
  have ec:((2:Nat):Int)=2:=rfl
  have zf:List.map AV.ab [AV.int .i64 (2:Int),.int .i64 0,.ah,.ah]=[.int .i64 (2:Int),.int .i64 0,.ah,.ah]:=rfl
  have zf0:List.map AV.ab [AV.int .i64 0,.int .i64 0,.ah,.ah]=[.int .i64 0,.int .i64 0,.ah,.ah]:=rfl
  have e86:∀ a b:Int,decide (a=b)=decide (a=b):=fun _ _=>rfl
  simp +contextual only [k2,ik.aL,ik.len (by omega),decide_false,Bool.not_true,Bool.not_true,Yw,Gh,Tn,bO,ec,zf,zf0,Ik,W6,sZ,Nat.reduceEqDiff,Nat.reduceAdd,Nat.reduceLT,↓reduceIte,Int.reduceEq]
  have mJ:=kN [.int .i64 2,.int .i64 0,.ah,.ah]
  generalize G1++[aa.cells [AV.int .i64 2,.int .i64 0,.ah,.ah]]=G2 at mJ ⊢
  have ki2:(c.tm i).k=2:=(qM.1 hR).1
  have wN:sx c i k:=by
   rcases hr with h | h | h | h
   ·exact absurd h.1 (by decide)
   ·exact h.2
   all_goals (exact absurd h.1 (by decide))
  obtain ⟨ET,aX,hall0⟩:=wN
  have kk2:(c.tm k).k=2:=of_decide_eq_true ET
  have To:∀ qs,lD (Sh c.O) qs (c.tm i) ((c.kd k).map c.tm)→Sh c.O (.mk 2 0 [] qs) (c.tm i) (c.tm k):=by
   intro qs hq
   rw [Sh2 rfl ki2]
   rw [kk.1] at hq
   refine ⟨rfl,rfl,kk2,?_,hq⟩
   rw [pH,if_pos kk2,pH,if_pos ki2] at aX;exact aX
  refine k9 (E3 hD w (l0:=[]) (by simp) ik l2 (fun z hz=>hp z hz (hall0 z hz)) mJ) ?_
  rintro e1 e G6 ⟨rfl,f6,f10,qs,iI,n8⟩
  replace n8:PB c H x y i k [.int .i64 2,.int .i64 0,.ah,oQ qs] G6:=n8
  have gp6:=n8.gp
  have g66:=n8.g6
  have lp:=Qc 2 0 [] qs
  have tv0:tI []=AV.ah:=rfl
  rw [tv0] at lp
  have hs:Sh c.O (.mk 2 0 [] qs) (c.tm i) (c.tm k):=To qs iI
  obtain ⟨q1,q2,q3,q4,q5,q6,q7,q8,q9⟩:=a7 (.mk 2 0 [] qs)
  have lp2:=Dd (.mk 2 0 [] qs)
  have KW:=List.getElem?_set_self (a:=aa.cells (eg (.mk 2 0 [] qs)).cells) (aK g66)
  have OJ:aj (H.length + 1) (eg (.mk 2 0 [] qs)).cells=true:=cz (fQ _ _)
  have j4:=PB.fin (to:=[]) (l:=qs) hD n8 hs
  simp +contextual only [f6,f10,gp6,g66,lp,q1,q2,q3,q9,Qe,KW,lp2,OJ,sZ,Nat.reduceEqDiff,Nat.reduceAdd,↓reduceIte,reduceCtorEq]
  first | exact j4 | exact ⟨by omega,j4⟩ | exact ⟨trivial,j4⟩
end Go.aH
end
section
set_option maxRecDepth 100000
namespace Go.aH
open Go Go.Proofs Go.fm
theorem Xa {c:Cx} (hc:c.Ok) {i k:Int} (hi:c.dP i) (hk:c.dP k) (hR:R c.O (c.tm i) (c.tm k)) (hr:gR c i k 3) (j3:∀ m,m < 3→¬ gR c i k m) (hp:∀ y∈c.kd k,R c.O (c.tm i) (c.tm y)→oR c i y) (hp2:∀ x∈c.kd i,∀ y∈c.kd k,R c.O (c.tm x) (c.tm y)→oR c x y):oR c i k:=by
 intro H hD
 refine Da.2.calls rfl ?_
 simp only [Da,aJ]
 have k2:∀ l,(bm l).ab=bm l:=fun l=>(aC l).2.1
 have ki:=hc.kids i hi
 have kk:=hc.kids k hk
 have l1:=hc.kl i hi
 have l2:=hc.kl k hk
 obtain ⟨a1,a2,a3,a4,a5⟩:=aC (c.kd i)
 obtain ⟨b1,b2,b3,b4,b5⟩:=aC (c.kd k)
 have ii:IL (bm (c.kd i)) (c.kd i):=.inl rfl
 have ik:IL (bm (c.kd k)) (c.kd k):=.inl rfl
 have ei:(c.nd.getD i.toNat default).snd=c.kd i:=rfl
 have ek:(c.nd.getD k.toNat default).snd=c.kd k:=rfl
 obtain ⟨m1,m2,m3⟩:=hD.lt
 have ed:∀ X:List aa,(H++X)[c.d]?=H[c.d]?:=fun X=>List.getElem?_append_left m1
 have spv:∀ x:AV,ag [AV.ah] 0 [x]=[x]:=fun x=>rfl
 have spq:ag [AV.int .i64 0,.int .i64 0,.ah,.ah] 0 [AV.int .i64 0,.int .i64 0,.ah,.ah]=[AV.int .i64 0,.int .i64 0,.ah,.ah]:=rfl
 simp +contextual only [sZ,Nat.reduceEqDiff,Nat.reduceAdd,↓reduceIte,reduceCtorEq]
 refine lB (K1:=fun e G=>get e 1=.int .i64 i∧get e 3=.ai (.ptr c.d 0)∧get e 5=.ai (.int .i64 k)∧get e 6=.ptr H.length 0∧∃ x y,get e 7=.ptr x 0∧get e 8=.ptr y 0∧XY H x y∧PA c H x y i k G) ?_ ?_
 ·have P0:aa:=.cells [.int .i64 0,.int .i64 0,.ah,.ah]
  have A:∃ x y,AV.ptr (H.length + 1) 0=.ptr x 0∧AV.ptr (H.length + 2) 0=.ptr y 0∧XY H x y∧PA c H x y i k (H++[.cells [.int .i64 0,.int .i64 0,.ah,.ah],.cells [bm (c.kd i)],.cells [bm (c.kd k)]]):=
   ⟨_,_,rfl,rfl,⟨by omega,by omega,by omega,by omega⟩,⟨hD.sn _,by simp,by simp,by simp,by simp,fun j hj _ _=>List.getElem?_append_left hj⟩⟩
  have B:∃ x y,AV.ptr (H.length + 2) 0=.ptr x 0∧AV.ptr (H.length + 1) 0=.ptr y 0∧XY H x y∧PA c H x y i k (H++[.cells [.int .i64 0,.int .i64 0,.ah,.ah],.cells [bm (c.kd k)],.cells [bm (c.kd i)]]):=
   ⟨_,_,rfl,rfl,⟨by omega,by omega,by omega,by omega⟩,⟨hD.sn _,by simp,by simp,by simp,by simp,fun j hj _ _=>List.getElem?_append_left hj⟩⟩
  simp +contextual only [ed,hD.d,mE,Dv,cF,bT,k2,ei,ek,a1,a3,a4,a5,b1,b3,b4,b5,List.map_cons,List.map_nil,spv,List.all_cons,List.all_nil,Bool.and_true,bG,cZ,sZ,Nat.reduceEqDiff,Nat.reduceAdd,Nat.reduceLT,↓reduceIte]
  refine ⟨hi,?_⟩
  repeat' apply And.intro
  all_goals first | exact hk.1 | exact hk.2 | exact A | exact B
 ·rintro e G ⟨e1,e3,e5,e6,x,y,e7,e8,w,AN⟩
  simp +contextual only [e1,e3,e5,e6,e7,e8,sZ,Nat.reduceEqDiff,↓reduceIte]
  refine aE 2 (fun m (G:List aa)=>PA c H x y i k G)
   (fun m G=>[(1,.int .i64 i),(3,.ai (.ptr c.d 0)),(5,.ai (.int .i64 k)),(6,.ptr H.length 0),(7,.ptr x 0),(8,.ptr y 0),(9,.int .i64 ((m + 1:Nat):Int))]) (fun m G=>G) G ⟨AN,aA _ _ _⟩ fun m G hm AN=>?_
  have hf:dY.cells[m + 1]?=some (.fn (.func (182 + (m + 1))) [] []):=by
   have:m=0∨m=1∨m=2∨m=3:=by omega
   rcases this with rfl | rfl | rfl | rfl <;> rfl
  have en:=T6 (m + 1) _ hf (by omega)
  simp +contextual only [sZ]
  refine aF KE ?_
  simp +contextual only [mq,en _ rfl,sZ,Nat.reduceEqDiff,Nat.reduceAdd,↓reduceIte,reduceCtorEq]
  refine af ((uw hc hi hk).at (n:=m + 1) (by omega) (by omega) AN.du) ?_
  rintro r G1 ⟨z,rfl,hz,hU,nc⟩
  have pM:=AN.call hD w hU nc
  by_cases PX:m=2
  rotate_left
  ·have:z=false:=by
    cases z with
    | false=>rfl
    | true=>exact absurd (hz.1 rfl) (j3 (m + 1) (by omega))
   subst this
   simp +contextual only [Bool.not_false,sZ,Nat.reduceEqDiff,↓reduceIte]
   exact ⟨m + 1,G1,⟨by omega,pM⟩,by omega,aI (by rw [ax (m + 1) (by omega)]) rfl⟩
  subst PX
  have:z=true:=hz.2 hr
  subst this
  have Gh:=pM.len
  have kN:=fun es=>pM.sn w es
  have Tn:=fun es=>(kN es).gp
  have Oq:=fun es=>(kN es).gx
  have W6:=fun es=>(kN es).gy
  have bO:∀ (o o':aa),(G1++[o]).set (H.length + 3) o'=G1++[o']:=fun o o'=>by rw [← Gh];simp
  have ec:((3:Nat):Int)=3:=rfl
  have zf:List.map AV.ab [AV.int .i64 (3:Int),.int .i64 0,.ah,.ah]=[.int .i64 (3:Int),.int .i64 0,.ah,.ah]:=rfl
  have zf0:List.map AV.ab [AV.int .i64 0,.int .i64 0,.ah,.ah]=[.int .i64 0,.int .i64 0,.ah,.ah]:=rfl
  have e86:∀ a b:Int,decide (a=b)=decide (a=b):=fun _ _=>rfl
  simp +contextual only [decide_true,decide_false,Bool.not_true,Bool.not_true,Yw,Gh,Tn,bO,ec,zf,zf0,Ik,sZ,Nat.reduceEqDiff,Nat.reduceAdd,↓reduceIte,Int.reduceEq]
  have mJ:=kN [.int .i64 3,.int .i64 0,.ah,.ah]
  generalize G1++[aa.cells [AV.int .i64 3,.int .i64 0,.ah,.ah]]=G2 at mJ ⊢
  have ki2:(c.tm i).k=2:=(qM.1 hR).1
  have ZX:Av c i k:=by
   rcases hr with h | h | h | h
   ·exact absurd h.1 (by decide)
   ·exact absurd h.1 (by decide)
   ·exact h.2
   ·exact absurd h.1 (by decide)
  obtain ⟨KT,AL,hall0,n0,aay,Zv,T1⟩:=ZX
  have KY:=ky.1 KT
  have kk2:(c.tm k).k=2:=KY.2.1
  have osi:dD c i=c.O.sp (c.O.pl (c.tm i).n):=by rw [dD,if_pos ki2]
  have hx:side (c.O.sp (c.O.pl (c.tm i).n)) (c.tm i).l=(bC (dD c i) (c.kd i)).map c.tm:=by rw [← osi,← ki.1,jy]
  have hy:side (c.O.sp (c.O.pl (c.tm i).n)) (c.tm k).l=(bC (dD c i) (c.kd k)).map c.tm:=by rw [← osi,← kk.1,jy]
  have lx:(bC (dD c i) (c.kd i)).length=(c.kd i).length:=jv
  have ly:(bC (dD c i) (c.kd k)).length=(c.kd k).length:=jv
  have nx:∀ z∈bC (dD c i) (c.kd i),z∈c.kd i:=fun z hz=>oK.1 hz
  have ny:∀ z∈bC (dD c i) (c.kd k),z∈c.kd k:=fun z hz=>oK.1 hz
  have hS:∀ (n:Nat) (l:List PP),Sh c.O (.mk 3 n [] l) (c.tm i) (c.tm k)↔C2 (E c.O) (Sh c.O) n l (c.tm i) ((bC (dD c i) (c.kd i)).map c.tm) ((bC (dD c i) (c.kd k)).map c.tm) (c.tm k).l:=by
   intro n l
   rw [Sh3 rfl ki2,hx,hy]
   rw [osi] at AL
   exact ⟨fun h=>h.2.2.2.2,fun h=>⟨rfl,kk2,KY.2.2,AL,h⟩⟩
  refine af (pI hc hi mJ.du) ?_
  rintro r G3 ⟨rfl,rfl⟩
  have gx0:=mJ.gx
  have gy0:=mJ.gy
  simp +contextual only [k2,dE,fA,fB,fC,gx0,sZ,Nat.reduceEqDiff,Nat.reduceAdd,Nat.reduceLT,↓reduceIte]
  refine aF (HX (c.kd i) (dD c i) (by omega)) ?_
  simp +contextual only [k2,gy0,sZ,Nat.reduceEqDiff,Nat.reduceAdd,Nat.reduceLT,↓reduceIte]
  refine aF (HX (c.kd k) (dD c i) (by omega)) ?_
  generalize bC (dD c i) (c.kd i)=xs at *
  generalize bC (dD c i) (c.kd k)=ys at *
  have ix:IL (.ap 0 (ints xs)) xs:=.inr rfl
  have iy:IL (.ap 0 (ints ys)) ys:=.inr rfl
  simp +contextual only [sZ,Nat.reduceEqDiff,Nat.reduceAdd,↓reduceIte,reduceCtorEq]
  refine af (Wu ix iy (by omega) (by omega) (fun z hz z' Dw=>jW hc (ki.2 z (nx z hz)) (kk.2 z' (ny z' Dw))) mJ.du) ?_
  rintro r G4 ⟨n,rfl,hn,T3,T4⟩
  have en0:=hn.SY aay
  subst en0
  have wu:=mJ.call hD w T3 T4
  have gp4:=wu.gp
  have oV:=fun es=>wu.set (es':=es) hD w
  have gps:=fun es=>(oV es).gp
  have gxs:=fun es=>(oV es).gx
  have gys:=fun es=>(oV es).gy
  have un1:List.map AV.ab [AV.int .i64 (n:Int)]=[.int .i64 (n:Int)]:=rfl
  have hLS:∀ l,C2 (E c.O) (Sh c.O) n l (c.tm i) (xs.map c.tm) (ys.map c.tm) (c.tm k).l↔(if (n:Int)=ys.length then lD (Sh c.O) l (c.tm i) ((c.kd k).map c.tm) else ∃ q r,l=q::r∧Sh c.O q (c.tm (xs.getD n 0)) (c.tm (ys.getD n 0))∧lD (Sh c.O) r (c.tm i) ((c.kd k).map c.tm)):=by
   intro l
   rw [W1 (kd:=c.kd k) kk.1]
   have h1:(0:Int)≤n∧(n:Int) < xs.length∧(n:Int)≤ys.length:=⟨by omega,by omega,by have:=hn.lb;omega⟩
   have h2:∀ j,j < (n:Int).toNat→E c.O (c.tm (xs.getD j 0)) (c.tm (ys.getD j 0)):=fun j hj=>hn.eq j (by omega)
   rw [Int.toNat_natCast]
   exact ⟨fun h=>h.2.2,fun h=>⟨h1,h2,h⟩⟩
  by_cases hny:n < ys.length
  ·have n4:((n:Int) < ys.length)=True:=eq_true (by omega)
   simp +contextual only [decide_true,gp4,Tm,un1,gps,iy.aL,iy.len (by omega),n4,ix.idx,iy.idx,ix.lens,iy.lens,Int.toNat_natCast,d3,s3,List.set_set,sZ,Nat.reduceEqDiff,Nat.reduceAdd,Nat.reduceLT,Nat.reduceLeDiff,↓reduceIte,reduceCtorEq]
   have mx:=nx _ (aN (l:=xs) (i:=n) (by omega))
   have my:=ny _ (aN hny)
   have D2:oR c (xs.getD n 0) (ys.getD n 0):=hp2 _ mx _ my (T1.resolve_left (by omega))
   have To:∀ u qs,Sh c.O u (c.tm (xs.getD n 0)) (c.tm (ys.getD n 0))→lD (Sh c.O) qs (c.tm i) ((c.kd k).map c.tm)→Sh c.O (.mk 3 n [] (u::qs)) (c.tm i) (c.tm k):=by
    intro u qs hu hq
    rw [hS,hLS,if_neg (by omega)];exact ⟨u,qs,rfl,hu,hq⟩
   repeat' apply And.intro
   all_goals first | omega | skip
   all_goals
    refine af (D2 _ (oV _).du) ?_
    rintro r G5 ⟨u,rfl,hu,W7,W8⟩
    replace To:=fun qs=>To u qs hu
    have KX:=(oV _).call hD w W7 W8
    have gp5:=KX.gp
    have E4:=fun es=>KX.set (es':=es) hD w
    have gps6:=fun es=>(E4 es).gp
    have gys6:=fun es=>(E4 es).gy
    obtain ⟨u1,u2,u3,u4,u5,u6,u7,u8,u9⟩:=a7 u
    have ap1:∀ ψ,bp 4 64 .ah (.ap 0 [eg u]) ψ=ψ (ee ([]++[u])):=fun ψ=>Db [] u (by simp) 0 ψ
    have ea:ee ([]++[u])=[eg u]:=rfl
    rw [ea] at ap1
    simp +contextual only [k2,ik.aL,ik.len (by omega),u1,u2,u6,jz,ap1,gp5,gps6,gys6,d3,s3,List.set_set,sZ,Nat.reduceEqDiff,Nat.reduceAdd,Nat.reduceLT,↓reduceIte]
    refine k9 (E3 hD w (l0:=[u]) (by simp) ik l2 (fun z hz=>hp z hz (hall0 z hz)) (E4 _)) ?_
    rintro e1 e G6 ⟨rfl,f6,f10,qs,iI,n8⟩
    replace n8:PB c H x y i k [.int .i64 3,.int .i64 n,.ah,oQ (u::qs)] G6:=n8
    have gp6:=n8.gp
    have g66:=n8.g6
    have lp:=Qc 3 n [] (u::qs)
    have tv0:tI []=AV.ah:=rfl
    rw [tv0] at lp
    have hs:Sh c.O (.mk 3 n [] (u::qs)) (c.tm i) (c.tm k):=To qs iI
    obtain ⟨q1,q2,q3,q4,q5,q6,q7,q8,q9⟩:=a7 (.mk 3 n [] (u::qs))
    have lp2:=Dd (.mk 3 n [] (u::qs))
    have KW:=List.getElem?_set_self (a:=aa.cells (eg (.mk 3 n [] (u::qs))).cells) (aK g66)
    have OJ:aj (H.length + 1) (eg (.mk 3 n [] (u::qs))).cells=true:=cz (fQ _ _)
    have j4:=PB.fin (to:=[]) (l:=(u::qs)) hD n8 hs
    simp +contextual only [f6,f10,gp6,g66,lp,q1,q2,q3,q9,Qe,KW,lp2,OJ,sZ,Nat.reduceEqDiff,Nat.reduceAdd,↓reduceIte,reduceCtorEq]
    first | exact j4 | exact ⟨by omega,j4⟩ | exact ⟨trivial,j4⟩
  ·have n4:((n:Int) < ys.length)=False:=eq_false (by omega)
   have To:∀ qs,lD (Sh c.O) qs (c.tm i) ((c.kd k).map c.tm)→Sh c.O (.mk 3 n [] qs) (c.tm i) (c.tm k):=by
    intro qs hq
    rw [hS,hLS,if_pos (by have:=hn.lb;omega)];exact hq
   simp +contextual only [k2,ik.aL,ik.len (by omega),decide_false,gp4,Tm,un1,gps,gys,iy.aL,iy.len (by omega),n4,sZ,Nat.reduceEqDiff,Nat.reduceAdd,Nat.reduceLT,Nat.reduceLeDiff,↓reduceIte]
   refine k9 (E3 hD w (l0:=[]) (by simp) ik l2 (fun z hz=>hp z hz (hall0 z hz)) (oV _)) ?_
   rintro e1 e G6 ⟨rfl,f6,f10,qs,iI,n8⟩
   replace n8:PB c H x y i k [.int .i64 3,.int .i64 n,.ah,oQ qs] G6:=n8
   have gp6:=n8.gp
   have g66:=n8.g6
   have lp:=Qc 3 n [] qs
   have tv0:tI []=AV.ah:=rfl
   rw [tv0] at lp
   have hs:Sh c.O (.mk 3 n [] qs) (c.tm i) (c.tm k):=To qs iI
   obtain ⟨q1,q2,q3,q4,q5,q6,q7,q8,q9⟩:=a7 (.mk 3 n [] qs)
   have lp2:=Dd (.mk 3 n [] qs)
   have KW:=List.getElem?_set_self (a:=aa.cells (eg (.mk 3 n [] qs)).cells) (aK g66)
   have OJ:aj (H.length + 1) (eg (.mk 3 n [] qs)).cells=true:=cz (fQ _ _)
   have j4:=PB.fin (to:=[]) (l:=qs) hD n8 hs
   simp +contextual only [f6,f10,gp6,g66,lp,q1,q2,q3,q9,Qe,KW,lp2,OJ,sZ,Nat.reduceEqDiff,Nat.reduceAdd,↓reduceIte,reduceCtorEq]
   first | exact j4 | exact ⟨by omega,j4⟩ | exact ⟨trivial,j4⟩
end Go.aH
end
section
set_option maxRecDepth 100000
namespace Go.aH
open Go Go.Proofs Go.fm
structure PC (c:Cx) (H:List aa) (x y:Nat) (i k:Int) (es:List AV) (o:aa) (G:List aa):Prop where
 du:Du c G
 gx:G[x]?=some (.cells [bm (c.kd i)])
 gy:G[y]?=some (.cells [bm (c.kd k)])
 g6:G[H.length]?=some (.cells [.int .i64 0,.int .i64 0,.ah,.ah])
 gp:G[H.length + 3]?=some (.cells es)
 go:G[H.length + 4]?=some o
 len:G.length=H.length + 5
 up:∀ j,j < H.length→j≠c.e→j≠c.g→G[j]?=H[j]?
theorem PB.aaz {c:Cx} {H G:List aa} {x y:Nat} {i k:Int} {es:List AV} (w:XY H x y) (h:PB c H x y i k es G) (o:aa):PC c H x y i k es o (G++[o]):=by
 obtain ⟨w1,w2,w3,w4⟩:=w
 have hl:=h.len
 exact ⟨h.du.sn _,by rw [List.getElem?_append_left (by omega),h.gx],by rw [List.getElem?_append_left (by omega),h.gy],by rw [List.getElem?_append_left (by omega),h.g6],by rw [List.getElem?_append_left (by omega),h.gp],by rw [← hl];simp,by simp [hl],fun j h1 h2 h3=>by rw [List.getElem?_append_left (by omega),h.up j h1 h2 h3]⟩
theorem PC.call {c:Cx} {H G G':List aa} {x y:Nat} {i k:Int} {es:List AV} {o:aa} (hD:Du c H) (w:XY H x y) (h:PC c H x y i k es o G) (hU:Up c G G') (jn:Du c G'):PC c H x y i k es o G':=by
 obtain ⟨l1,l2,l3⟩:=hD.lt
 obtain ⟨w1,w2,w3,w4⟩:=w
 exact ⟨jn,by rw [hU.get x (by omega) (by omega),h.gx],by rw [hU.get y (by omega) (by omega),h.gy],by rw [hU.get _ (by omega) (by omega),h.g6],by rw [hU.get _ (by omega) (by omega),h.gp],by rw [hU.get _ (by omega) (by omega),h.go],by rw [hU.len,h.len],fun j h1 h2 h3=>by rw [hU.get j h2 h3,h.up j h1 h2 h3]⟩
theorem PC.set {c:Cx} {H G:List aa} {x y:Nat} {i k:Int} {es es':List AV} {o:aa} (hD:Du c H) (w:XY H x y) (h:PC c H x y i k es o G):PC c H x y i k es' o (G.set (H.length + 3) (.cells es')):=by
 obtain ⟨l1,l2,l3⟩:=hD.lt
 obtain ⟨w1,w2,w3,w4⟩:=w
 have hp:=aK h.gp
 exact ⟨h.du.set (by omega) (by omega) (by omega),by rw [List.getElem?_set_ne (by omega),h.gx],by rw [List.getElem?_set_ne (by omega),h.gy],by rw [List.getElem?_set_ne (by omega),h.g6],by rw [List.getElem?_set_self hp],by rw [List.getElem?_set_ne (by omega),h.go],by rw [List.length_set,h.len],fun j h1 h2 h3=>by rw [List.getElem?_set_ne (by omega),h.up j h1 h2 h3]⟩
theorem PC.aaA {c:Cx} {H G:List aa} {x y:Nat} {i k:Int} {es:List AV} {o o':aa} (hD:Du c H) (w:XY H x y) (h:PC c H x y i k es o G):PC c H x y i k es o' (G.set (H.length + 4) o'):=by
 obtain ⟨l1,l2,l3⟩:=hD.lt
 obtain ⟨w1,w2,w3,w4⟩:=w
 have hp:=aK h.go
 exact ⟨h.du.set (by omega) (by omega) (by omega),by rw [List.getElem?_set_ne (by omega),h.gx],by rw [List.getElem?_set_ne (by omega),h.gy],by rw [List.getElem?_set_ne (by omega),h.g6],by rw [List.getElem?_set_ne (by omega),h.gp],by rw [List.getElem?_set_self hp],by rw [List.length_set,h.len],fun j h1 h2 h3=>by rw [List.getElem?_set_ne (by omega),h.up j h1 h2 h3]⟩
theorem PC.drop {c:Cx} {H G:List aa} {x y:Nat} {i k:Int} {es:List AV} {o:aa} (hD:Du c H) (w:XY H x y) (h:PC c H x y i k es o G):PB c H x y i k es (G.take (H.length + 4))∧G=G.take (H.length + 4)++[o]:=by
 obtain ⟨l1,l2,l3⟩:=hD.lt
 obtain ⟨w1,w2,w3,w4⟩:=w
 have hl:=h.len
 have t:∀ j,j < H.length + 4→(G.take (H.length + 4))[j]?=G[j]?:=fun j h1=>by rw [List.getElem?_take,if_pos h1]
 refine ⟨⟨h.du.take (by omega) (by omega) (by omega),by rw [t x (by omega),h.gx],by rw [t y (by omega),h.gy],by rw [t _ (by omega),h.g6],by rw [t _ (by omega),h.gp],by simp;omega,fun j h1 h2 h3=>by rw [t j (by omega),h.up j h1 h2 h3]⟩,?_⟩
 have e:G.drop (H.length + 4)=[o]:=by
  have h1:=h.go
  have aX:H.length + 4 < G.length:=by omega
  rw [List.drop_eq_getElem_cons aX]
  rw [List.getElem?_eq_getElem aX] at h1
  simp only [Option.some.injEq] at h1
  rw [h1,List.drop_of_length_le (by omega)]
 rw [← e,List.take_append_drop]
structure MI (c:Cx) (a b:List Int) (us:List Bool) (to:List Int) (j:Nat) (ts:List Int) (ls:List PP):Prop where
 lt:ts.length=j
 ll:ls.length=j
 pa:∀ j',j' < j→0≤to.getD j' 0→ts.getD j' 0=to.getD j' 0∧(ls.getD j' default).nil
 ov:∀ j',j' < j→to.getD j' 0 < 0→(¬ (ls.getD j' default).nil∧Sh c.O (ls.getD j' default) (c.tm (a.getD (ts.getD j' 0).toNat 0)) (c.tm (b.getD j' 0)))∧∃ u:Nat,ts.getD j' 0=u∧u < a.length∧us.getD u false=false
theorem MI.snoc {c:Cx} {a b:List Int} {us:List Bool} {to:List Int} {j:Nat} {ts:List Int} {ls:List PP} (h:MI c a b us to j ts ls) (v:Int) (q:PP)
 (h1:0≤to.getD j 0→v=to.getD j 0∧q.nil) (h2:to.getD j 0 < 0→(¬ q.nil∧Sh c.O q (c.tm (a.getD v.toNat 0)) (c.tm (b.getD j 0)))∧∃ u:Nat,v=u∧u < a.length∧us.getD u false=false):MI c a b us to (j + 1) (ts++[v]) (ls++[q]):=by
 obtain ⟨k1,k2,k3,k4⟩:=h
 have e1:∀ j',j' < j→(ts++[v]).getD j' 0=ts.getD j' 0∧(ls++[q]).getD j' default=ls.getD j' default:=fun j' uq=>by
  constructor
  ·rw [List.getD_eq_getElem?_getD,List.getD_eq_getElem?_getD,List.getElem?_append_left (by omega)]
  ·rw [List.getD_eq_getElem?_getD,List.getD_eq_getElem?_getD,List.getElem?_append_left (by omega)]
 have e2:(ts++[v]).getD j 0=v∧(ls++[q]).getD j default=q:=by
  constructor
  ·rw [← k1];simp
  ·rw [← k2];simp
 refine ⟨by simp [k1],by simp [k2],fun j' uq h0=>?_,fun j' uq h0=>?_⟩
 ·by_cases e:j'=j
  ·subst e;rw [e2.1,e2.2];exact h1 h0
  ·have aX:j' < j:=by omega
   rw [(e1 j' aX).1,(e1 j' aX).2];exact k3 j' aX h0
 ·by_cases e:j'=j
  ·subst e;rw [e2.1,e2.2];exact h2 h0
  ·have aX:j' < j:=by omega
   rw [(e1 j' aX).1,(e1 j' aX).2];exact k4 j' aX h0
theorem wv {to:List Int} {x:Int}:∀ {n:Nat},(∀ j j',j < n→j' < n→to.getD j 0=x→to.getD j' 0=x→j=j')→dy to x n≤1
 | 0,_=>by simp [dy]
 | n + 1,h=>by
   rw [dy]
   have ih:=wv (n:=n) fun j j' h1 h2=>h j j' (by omega) (by omega)
   by_cases e:to.getD n 0=x
   ·rw [if_pos e]
    have:dy to x n=0:=by
     have h0:∀ m,m≤n→dy to x m=0:=by
      intro m
      induction m with
      | zero=>intro _;rfl
      | succ m ihm=>
        intro hm
        rw [dy,ihm (by omega),if_neg (fun e'=>by have:=h m n (by omega) (by omega) e' e;omega)]
     exact h0 n (Nat.le_refl _)
    omega
   ·rw [if_neg e];omega
theorem MI.cov {c:Cx} {a b:List Int} {us:List Bool} {to ts:List Int} {ls:List PP} (h:MI c a b us to b.length ts ls) (Ax:Pr (fun x y=>E c.O (c.tm x) (c.tm y)) a b b.length us to) (hl:∃ u:Nat,u < a.length∧us.getD u false=false):Ig c ts ls a b:=by
 obtain ⟨k1,k2,k3,k4⟩:=h
 have cas:∀ j,j < b.length→(∃ u:Nat,to.getD j 0=u∧u < a.length∧us.getD u false=true∧E c.O (c.tm (a.getD u 0)) (c.tm (b.getD j 0)))∨to.getD j 0 < 0:=fun j hj=>by
  rcases Ax.t1 j hj with h | ⟨u,h1,h2,h3,h4⟩
  ·exact .inr (by omega)
  ·exact .inl ⟨u,h1,h2,h3,h4⟩
 refine ⟨k1,k2,fun j hj=>?_,fun x hx hp=>?_,?_⟩
 ·rcases cas j hj with ⟨u,h1,h2,h3,h4⟩ | hn
  ·obtain ⟨e1,e2⟩:=k3 j hj (by omega)
   rw [if_pos e2,e1,h1]
   exact ⟨by omega,by rw [Int.toNat_natCast];exact h4⟩
  ·obtain ⟨⟨e1,e2⟩,u,h1,h2,h3⟩:=k4 j hj hn
   rw [if_neg e1]
   exact ⟨by omega,e2⟩
 ·obtain ⟨j,hj,e1,e2⟩:=iB.1 hp
  have A7:∀ j',j' < b.length→ts.getD j' 0=(x:Int)→us.getD x false=true→to.getD j' 0=(x:Int):=by
   intro j' uq e ht
   rcases cas j' uq with ⟨u,h1,_⟩ | hn
   ·rw [← (k3 j' uq (by omega)).1];exact e
   ·obtain ⟨_,u,h1,h2,h3⟩:=k4 j' uq hn
    have:u=x:=by omega
    subst this;rw [h3] at ht;cases ht
  have hux:us.getD x false=true:=by
   rcases cas j hj with ⟨u,h1,h2,h3,_⟩ | hn
   ·have:=(k3 j hj (by omega)).1
    have:u=x:=by omega
    subst this;exact h3
   ·exact absurd e2 (k4 j hj hn).1.1
  refine wv fun j1 j2 h1 h2 e1 e2=>?_
  have t1:=A7 j1 h1 e1 hux
  have t2:=A7 j2 h2 e2 hux
  exact Ax.inj j1 j2 h1 h2 (by omega) (by omega)
 ·obtain ⟨u,hu,hf⟩:=hl
  refine ⟨u,hu,?_⟩
  by_cases h0:0 < dk ts ls u b.length
  ·obtain ⟨j,hj,e1,e2⟩:=iB.1 h0
   rcases cas j hj with ⟨u',h1,h2,h3,_⟩ | hn
   ·have:=(k3 j hj (by omega)).1
    have:u'=u:=by omega
    subst this;rw [hf] at h3;cases h3
   ·exact absurd e2 (k4 j hj hn).1.1
  ·omega
theorem Sh.ne_nil {O:Od} {p:PP} {a b:T} (h:Sh O p a b):¬ p.nil:=by
 rintro ⟨h1,_⟩
 exact Sh0 (by omega) (by omega) (by omega) (by omega) h
theorem Xb {c:Cx} (hc:c.Ok) {i k:Int} (hi:c.dP i) (hk:c.dP k) (hR:R c.O (c.tm i) (c.tm k)) (hr:gR c i k 4) (j3:∀ m,m < 4→¬ gR c i k m) (hp2:∀ x∈c.kd i,∀ y∈c.kd k,R c.O (c.tm x) (c.tm y)→oR c x y):oR c i k:=by
 intro H hD
 refine Da.2.calls rfl ?_
 simp only [Da,aJ]
 have k2:∀ l,(bm l).ab=bm l:=fun l=>(aC l).2.1
 have ki:=hc.kids i hi
 have kk:=hc.kids k hk
 have l1:=hc.kl i hi
 have l2:=hc.kl k hk
 obtain ⟨a1,a2,a3,a4,a5⟩:=aC (c.kd i)
 obtain ⟨b1,b2,b3,b4,b5⟩:=aC (c.kd k)
 have ii:IL (bm (c.kd i)) (c.kd i):=.inl rfl
 have ik:IL (bm (c.kd k)) (c.kd k):=.inl rfl
 have ei:(c.nd.getD i.toNat default).snd=c.kd i:=rfl
 have ek:(c.nd.getD k.toNat default).snd=c.kd k:=rfl
 obtain ⟨m1,m2,m3⟩:=hD.lt
 have ed:∀ X:List aa,(H++X)[c.d]?=H[c.d]?:=fun X=>List.getElem?_append_left m1
 have spv:∀ x:AV,ag [AV.ah] 0 [x]=[x]:=fun x=>rfl
 have spq:ag [AV.int .i64 0,.int .i64 0,.ah,.ah] 0 [AV.int .i64 0,.int .i64 0,.ah,.ah]=[AV.int .i64 0,.int .i64 0,.ah,.ah]:=rfl
 simp +contextual only [sZ,Nat.reduceEqDiff,Nat.reduceAdd,↓reduceIte,reduceCtorEq]
 refine lB (K1:=fun e G=>get e 1=.int .i64 i∧get e 3=.ai (.ptr c.d 0)∧get e 5=.ai (.int .i64 k)∧get e 6=.ptr H.length 0∧∃ x y,get e 7=.ptr x 0∧get e 8=.ptr y 0∧XY H x y∧PA c H x y i k G) ?_ ?_
 ·have P0:aa:=.cells [.int .i64 0,.int .i64 0,.ah,.ah]
  have A:∃ x y,AV.ptr (H.length + 1) 0=.ptr x 0∧AV.ptr (H.length + 2) 0=.ptr y 0∧XY H x y∧PA c H x y i k (H++[.cells [.int .i64 0,.int .i64 0,.ah,.ah],.cells [bm (c.kd i)],.cells [bm (c.kd k)]]):=
   ⟨_,_,rfl,rfl,⟨by omega,by omega,by omega,by omega⟩,⟨hD.sn _,by simp,by simp,by simp,by simp,fun j hj _ _=>List.getElem?_append_left hj⟩⟩
  have B:∃ x y,AV.ptr (H.length + 2) 0=.ptr x 0∧AV.ptr (H.length + 1) 0=.ptr y 0∧XY H x y∧PA c H x y i k (H++[.cells [.int .i64 0,.int .i64 0,.ah,.ah],.cells [bm (c.kd k)],.cells [bm (c.kd i)]]):=
   ⟨_,_,rfl,rfl,⟨by omega,by omega,by omega,by omega⟩,⟨hD.sn _,by simp,by simp,by simp,by simp,fun j hj _ _=>List.getElem?_append_left hj⟩⟩
  simp +contextual only [ed,hD.d,mE,Dv,cF,bT,k2,ei,ek,a1,a3,a4,a5,b1,b3,b4,b5,List.map_cons,List.map_nil,spv,List.all_cons,List.all_nil,Bool.and_true,bG,cZ,sZ,Nat.reduceEqDiff,Nat.reduceAdd,Nat.reduceLT,↓reduceIte]
  refine ⟨hi,?_⟩
  repeat' apply And.intro
  all_goals first | exact hk.1 | exact hk.2 | exact A | exact B
 ·rintro e G ⟨e1,e3,e5,e6,x,y,e7,e8,w,AN⟩
  simp +contextual only [e1,e3,e5,e6,e7,e8,sZ,Nat.reduceEqDiff,↓reduceIte]
  refine aE 3 (fun m (G:List aa)=>PA c H x y i k G)
   (fun m G=>[(1,.int .i64 i),(3,.ai (.ptr c.d 0)),(5,.ai (.int .i64 k)),(6,.ptr H.length 0),(7,.ptr x 0),(8,.ptr y 0),(9,.int .i64 ((m + 1:Nat):Int))]) (fun m G=>G) G ⟨AN,aA _ _ _⟩ fun m G hm AN=>?_
  have hf:dY.cells[m + 1]?=some (.fn (.func (182 + (m + 1))) [] []):=by
   have:m=0∨m=1∨m=2∨m=3:=by omega
   rcases this with rfl | rfl | rfl | rfl <;> rfl
  have en:=T6 (m + 1) _ hf (by omega)
  simp +contextual only [sZ]
  refine aF KE ?_
  simp +contextual only [mq,en _ rfl,sZ,Nat.reduceEqDiff,Nat.reduceAdd,↓reduceIte,reduceCtorEq]
  refine af ((uw hc hi hk).at (n:=m + 1) (by omega) (by omega) AN.du) ?_
  rintro r G1 ⟨z,rfl,hz,hU,nc⟩
  have pM:=AN.call hD w hU nc
  by_cases PX:m=3
  rotate_left
  ·have:z=false:=by
    cases z with
    | false=>rfl
    | true=>exact absurd (hz.1 rfl) (j3 (m + 1) (by omega))
   subst this
   simp +contextual only [Bool.not_false,sZ,Nat.reduceEqDiff,↓reduceIte]
   exact ⟨m + 1,G1,⟨by omega,pM⟩,by omega,aI (by rw [ax (m + 1) (by omega)]) rfl⟩
  subst PX
  have:z=true:=hz.2 hr
  subst this
  have Gh:=pM.len
  have kN:=fun es=>pM.sn w es
  have Tn:=fun es=>(kN es).gp
  have Oq:=fun es=>(kN es).gx
  have W6:=fun es=>(kN es).gy
  have bO:∀ (o o':aa),(G1++[o]).set (H.length + 3) o'=G1++[o']:=fun o o'=>by rw [← Gh];simp
  have ec:((4:Nat):Int)=4:=rfl
  have zf:List.map AV.ab [AV.int .i64 (4:Int),.int .i64 0,.ah,.ah]=[.int .i64 (4:Int),.int .i64 0,.ah,.ah]:=rfl
  have zf0:List.map AV.ab [AV.int .i64 0,.int .i64 0,.ah,.ah]=[.int .i64 0,.int .i64 0,.ah,.ah]:=rfl
  have e86:∀ a b:Int,decide (a=b)=decide (a=b):=fun _ _=>rfl
  simp +contextual only [k2,decide_true,decide_false,Bool.not_true,Bool.not_true,Yw,Gh,Tn,bO,ec,zf,zf0,Ik,Oq,W6,sZ,Nat.reduceEqDiff,Nat.reduceAdd,Nat.reduceLT,↓reduceIte,reduceCtorEq,Int.reduceEq]
  have mJ:=kN [.int .i64 4,.int .i64 0,.ah,.ah]
  generalize G1++[aa.cells [AV.int .i64 4,.int .i64 0,.ah,.ah]]=G2 at mJ ⊢
  have ki2:(c.tm i).k=2:=(qM.1 hR).1
  have hmq:xq c i k:=by
   rcases hr with h | h | h | h
   ·exact absurd h.1 (by decide)
   ·exact absurd h.1 (by decide)
   ·exact absurd h.1 (by decide)
   ·exact h.2
  obtain ⟨KT,AL,Yl⟩:=hmq
  have KY:=ky.1 KT
  have kk2:(c.tm k).k=2:=KY.2.1
  have osi:dD c i=c.O.sp (c.O.pl (c.tm i).n):=by rw [dD,if_pos ki2]
  have gx0:=mJ.gx
  have gy0:=mJ.gy
  simp +contextual only [sZ]
  refine af (S2 ii ik (by omega) (by omega) (fun z hz z' Dw=>jW hc (ki.2 z hz) (kk.2 z' Dw)) mJ.du) ?_
  rintro r G3 ⟨us,to,Ax,rfl,Ww,KB⟩
  have AM:=mJ.call hD w Ww KB
  have TO:=(Pr.mu (f:=nf c) (G:=Gt c.O.sp) Ax).1 Yl
  have lbl:=jw (c.kd i).length fun z=>!us.getD z false
  have il:IL (bm (below (c.kd i).length fun z=>!us.getD z false)) (below (c.kd i).length fun z=>!us.getD z false):=.inl rfl
  have mml:∀ {z:Int},z∈below (c.kd i).length (fun z=>!us.getD z false)→∃ u:Nat,z=u∧u < (c.kd i).length∧us.getD u false=false:=by
   intro z hz;obtain ⟨u,h1,h2,h3⟩:=gr.1 hz;exact ⟨u,h1,h2,by simpa using h3⟩
  have mmo:∀ {j:Nat},j < (c.kd k).length→to.getD j 0 < 0→∃ z∈below (c.kd i).length (fun z=>!us.getD z false),R c.O (c.tm ((c.kd i).getD z.toNat 0)) (c.tm ((c.kd k).getD j 0)):=by
   intro j hj hn
   exact TO.2 (j:Int) (gr.2 ⟨j,rfl,hj,by simpa using hn⟩)
  have aaB:=TO.1
  generalize (below (c.kd i).length fun z=>!us.getD z false)=L at *
  have lto:=Ax.lt
  obtain ⟨v1,v2,v3,v4,v5⟩:=aC L
  simp +contextual only [k2,aw,sZ,Nat.reduceEqDiff,Nat.reduceAdd,Nat.reduceLT,↓reduceIte]
  intro _
  have hlne2:∃ u:Nat,u < (c.kd i).length∧us.getD u false=false:=by
   cases L with
   | nil=>exact absurd rfl aaB
   | cons z r=>
     obtain ⟨u,_,h2,h3⟩:=mml (List.mem_cons_self (a:=z) (l:=r))
     exact ⟨u,h2,h3⟩
  refine aE (c.kd k).length (fun j (s:List aa×List Int×List PP)=>PB c H x y i k [.int .i64 4,.int .i64 0,tI s.2.1,oQ s.2.2] s.1∧MI c (c.kd i) (c.kd k) us to j s.2.1 s.2.2)
   (fun j s=>[(3,.ai (.ptr c.d 0)),(6,.ptr H.length 0),(7,.ptr x 0),(8,.ptr y 0),(10,.ptr (H.length + 3) 0),(11,bm L),(89,.ap 0 (ints to)),(90,.int .i64 to.length),(91,.int .i64 j)]) (fun j s=>s.1) (G3,[],[])
   ⟨⟨AM,rfl,rfl,fun j h=>by omega,fun j h=>by omega⟩,aA _ _ _⟩ fun j s hj hI=>?_
  obtain ⟨G,ts,ls⟩:=s
  obtain ⟨kN,Iu⟩:=hI
  simp only at kN Iu
  have hlen:=kN.len
  by_cases KR:(j:Int) < to.length
  ·have pO:j < (c.kd k).length:=by omega
   have zf4:∀ n,aj n (List.map AV.ab [AV.int .i64 0,.int .i64 0,.ah,.ah])=true:=fun _=>rfl
   have zf5:List.map AV.ab [AV.int .i64 0,.int .i64 0,.ah,.ah]=[AV.int .i64 0,.int .i64 0,.ah,.ah]:=rfl
   obtain ⟨tj,Yx⟩:∃ tj,to.getD j 0=tj:=⟨_,rfl⟩
   have Xc:=kN.aaz w (.cells [.int .i64 0,.int .i64 0,.ah,.ah])
   by_cases wZ:tj < 0
   ·simp +contextual only [k2,decide_true,KR,cG,dH,Int.toNat_natCast,Yx,wZ,hlen,zf5,sZ,Nat.reduceEqDiff,Nat.reduceAdd,↓reduceIte,reduceCtorEq]
    have mz:=fun (G':List aa) (ey:SD c (G++[aa.cells [AV.int .i64 0,.int .i64 0,.ah,.ah]]) G')=>Xc.call hD w ey.2 ey.1
    have hjz:(0:Int)≤j∧(j:Int) < (c.kd k).length:=⟨by omega,by omega⟩
    refine ⟨by omega,af (KA (SD.Au c (G++[.cells [.int .i64 0,.int .i64 0,.ah,.ah]])) il (by omega) 148 [] [.ai (.ptr c.d 0),.ptr x 0,.ptr y 0,.ai (.int .i64 j)] rfl rfl (Q:=fun z=>R c.O (c.tm ((c.kd i).getD z.toNat 0)) (c.tm ((c.kd k).getD (j:Int).toNat 0)))
     (fun z hz G' ey=>?_) ⟨Xc.du,Up.refl c _⟩) ?_⟩
    ·obtain ⟨u,rfl,hu,_⟩:=mml hz
     refine (aav ii ik ⟨by omega,by omega⟩ hjz (jX hc (ki.2 _ (aN (by omega))) (kk.2 _ (aN (by omega)))) ey.1 (mz G' ey).gx (mz G' ey).gy).mono fun r H' hr=>hr.sb ey
    rintro r G4 ⟨hG4,tV⟩
    rcases tV with ⟨_,tV⟩ | ⟨m,rfl,hm,hQ,_⟩
    ·obtain ⟨z,hz,h⟩:=mmo pO (by rw [Yx];exact wZ)
     exact absurd h (tV z hz)
    obtain ⟨u,hu,zd,huf⟩:=mml (aN hm)
    have OK:=mz G4 hG4
    have gx4:=OK.gx
    have gy4:=OK.gy
    rw [hu,Int.toNat_natCast,Int.toNat_natCast] at hQ
    simp +contextual only [k2,ii.lens,ik.lens,ii.idx,ik.idx,il.lens,il.idx,Int.toNat_natCast,hu,gx4,gy4,sZ,Nat.reduceEqDiff,Nat.reduceAdd,Nat.reduceLT,↓reduceIte,reduceCtorEq]
    refine ⟨by omega,⟨by omega,by omega⟩,by omega,?_⟩
    refine af (hp2 _ (aN zd) _ (aN pO) hQ _ OK.du) ?_
    rintro r G5 ⟨q,rfl,hq,W7,W8⟩
    have Xd:=OK.call hD w W7 W8
    have go5:=Xd.go
    have hpo:=fun o=>Xd.aaA (o':=o) hD w
    have mX:=fun o es=>(hpo o).set (es':=es) hD w
    have gq5:=fun o=>(hpo o).go
    have gp5:=fun o=>(hpo o).gp
    have gqs:=fun o es=>(mX o es).go
    have gps:=fun o es=>(mX o es).gp
    obtain ⟨u1,u2,u3,u4,u5,u6,u7,u8,u9⟩:=a7 q
    have bq:aj (H.length + 4 + 1) (eg q).cells=true:=cz (fQ _ _)
    have Tp:=Iu.snoc (u:Int) q (fun h=>by omega) (fun _=>⟨⟨Sh.ne_nil hq,by rw [Int.toNat_natCast];exact hq⟩,u,rfl,zd,huf⟩)
    have t1:=Iu.lt
    have t2:=Iu.ll
    have TQ:∀ ψ,bp 1 8 (tI ts) (.ap 0 [.int .i64 (u:Int)]) ψ=ψ (ints (ts++[(u:Int)])):=fun ψ=>Qb ts _ (by omega) 0 ψ
    have apl:∀ ψ,bp 4 64 (oQ ls) (.ap 0 [eg q]) ψ=ψ (ee (ls++[q])):=fun ψ=>Db ls q (by omega) 0 ψ
    have lpq:=Dd q
    obtain ⟨x1,x2,x3,x4,x5,x6⟩:=lF (ts++[(u:Int)])
    obtain ⟨y1,y2,y3,y4,y5,y6⟩:=iC (ls++[q])
    obtain ⟨x1',x2',x3',x4',x5',x6'⟩:=lF ts
    obtain ⟨y1',y2',y3',y4',y5',y6'⟩:=iC ls
    have lvb:∀ n,aj n (ee (ls++[q]))=true:=fun n=>iN _ _
    have tvb:∀ n,aj n (ints (ts++[(u:Int)]))=true:=fun n=>aY _ _
    have qm:∀ G',PC c H x y i k [.int .i64 4,.int .i64 0,tI (ts++[(u:Int)]),oQ (ls++[q])] (.cells (eg q).cells) G'→∃ (j':Nat) (t:List aa×List Int×List PP),(j'≤(c.kd k).length∧PB c H x y i k [.int .i64 4,.int .i64 0,tI t.2.1,oQ t.2.2] t.1∧MI c (c.kd i) (c.kd k) us to j' t.2.1 t.2.2)∧(c.kd k).length - j' < (c.kd k).length - j∧
     sle H.length [(3,.ai (.ptr c.d 0)),(6,.ptr H.length 0),(7,.ptr x 0),(8,.ptr y 0),(10,.ptr (H.length + 3) 0),(11,bm L),(89,.ap 0 (ints to)),(90,.int .i64 to.length),(91,.int .i64 (IntKind.i64.wrap (j + 1)))] G' [(3,.ai (.ptr c.d 0)),(6,.ptr H.length 0),(7,.ptr x 0),(8,.ptr y 0),(10,.ptr (H.length + 3) 0),(11,bm L),(89,.ap 0 (ints to)),(90,.int .i64 to.length),(91,.int .i64 j')] t.1:=by
     intro G' ey
     obtain ⟨z1,z2⟩:=ey.drop hD w
     have zl:=z1.len
     have X5:=v3
     refine ⟨j + 1,(G'.take (H.length + 4),ts++[(u:Int)],ls++[q]),⟨pO,z1,Tp⟩,by omega,vJ (by rw [ax j (by omega)]) (by rw [zl];omega) ?_ _ z2⟩
     obtain ⟨w1,w2,w3,w4⟩:=w
     rw [zl]
     simp only [nQ,List.all_cons,List.all_nil,z6,rV,gb,b8,v3,aY,Bool.and_true,Bool.and_eq_true,decide_eq_true_eq]
     omega
    simp +contextual only [go5,Qe,u1,u2,u3,u9,bq,gq5,gp5,gqs,gps,d2,d3,s2,s3,List.set_set,jz,TQ,apl,lpq,Dc,rb,x3,x4,y3,y4,sZ,Nat.reduceEqDiff,Nat.reduceAdd,Nat.reduceLT,↓reduceIte]
    repeat' apply And.intro
    all_goals exact qm _ (mX _ _)
   ·have t1:=Iu.lt
    have t2:=Iu.ll
    obtain ⟨q0,hq0⟩:∃ q0,q0=PP.mk 0 0 [] []:=⟨_,rfl⟩
    have tP:q0.nil:=by rw [hq0];exact ⟨rfl,rfl,rfl,rfl⟩
    have lpz:∀ φ,c8 (some (.cells [.int .i64 0,.int .i64 0,.ah,.ah])) (some 4) 0 φ=φ (eg q0):=by rw [hq0];exact Qc 0 0 [] []
    obtain ⟨u1,u2,u3,u4,u5,u6,u7,u8,u9⟩:=a7 q0
    have Tp:=Iu.snoc tj q0 (fun h=>⟨Yx.symm,tP⟩) (fun h=>by omega)
    have TQ:∀ ψ,bp 1 8 (tI ts) (.ap 0 [.int .i64 tj]) ψ=ψ (ints (ts++[tj])):=fun ψ=>Qb ts _ (by omega) 0 ψ
    have apl:∀ ψ,bp 4 64 (oQ ls) (.ap 0 [eg q0]) ψ=ψ (ee (ls++[q0])):=fun ψ=>Db ls q0 (by omega) 0 ψ
    have mX:=fun es=>Xc.set (es':=es) hD w
    have gp5:=Xc.gp
    have go5:=Xc.go
    have gqs:=fun es=>(mX es).go
    have gps:=fun es=>(mX es).gp
    obtain ⟨x1,x2,x3,x4,x5,x6⟩:=lF (ts++[tj])
    obtain ⟨y1,y2,y3,y4,y5,y6⟩:=iC (ls++[q0])
    obtain ⟨x1',x2',x3',x4',x5',x6'⟩:=lF ts
    obtain ⟨y1',y2',y3',y4',y5',y6'⟩:=iC ls
    have lvb:∀ n,aj n (ee (ls++[q0]))=true:=fun n=>iN _ _
    have tvb:∀ n,aj n (ints (ts++[tj]))=true:=fun n=>aY _ _
    have qm:∀ G',PC c H x y i k [.int .i64 4,.int .i64 0,tI (ts++[tj]),oQ (ls++[q0])] (.cells [.int .i64 0,.int .i64 0,.ah,.ah]) G'→∃ (j':Nat) (t:List aa×List Int×List PP),(j'≤(c.kd k).length∧PB c H x y i k [.int .i64 4,.int .i64 0,tI t.2.1,oQ t.2.2] t.1∧MI c (c.kd i) (c.kd k) us to j' t.2.1 t.2.2)∧(c.kd k).length - j' < (c.kd k).length - j∧
     sle H.length [(3,.ai (.ptr c.d 0)),(6,.ptr H.length 0),(7,.ptr x 0),(8,.ptr y 0),(10,.ptr (H.length + 3) 0),(11,bm L),(89,.ap 0 (ints to)),(90,.int .i64 to.length),(91,.int .i64 (IntKind.i64.wrap (j + 1)))] G' [(3,.ai (.ptr c.d 0)),(6,.ptr H.length 0),(7,.ptr x 0),(8,.ptr y 0),(10,.ptr (H.length + 3) 0),(11,bm L),(89,.ap 0 (ints to)),(90,.int .i64 to.length),(91,.int .i64 j')] t.1:=by
     intro G' ey
     obtain ⟨z1,z2⟩:=ey.drop hD w
     have zl:=z1.len
     have X5:=v3
     refine ⟨j + 1,(G'.take (H.length + 4),ts++[tj],ls++[q0]),⟨pO,z1,Tp⟩,by omega,vJ (by rw [ax j (by omega)]) (by rw [zl];omega) ?_ _ z2⟩
     obtain ⟨w1,w2,w3,w4⟩:=w
     rw [zl]
     simp only [nQ,List.all_cons,List.all_nil,z6,rV,gb,b8,v3,aY,Bool.and_true,Bool.and_eq_true,decide_eq_true_eq]
     omega
    simp +contextual only [decide_true,decide_false,KR,cG,dH,Int.toNat_natCast,Yx,wZ,hlen,zf5,u1,u2,gp5,go5,gqs,gps,d2,d3,s2,s3,List.set_set,jz,TQ,apl,lpz,Dc,rb,x3,x4,y3,y4,sZ,Nat.reduceEqDiff,Nat.reduceAdd,Nat.reduceLT,↓reduceIte]
    refine ⟨by omega,?_⟩
    repeat' apply And.intro
    all_goals exact qm _ (mX _)
  ·have WV:j=(c.kd k).length:=by omega
   subst WV
   have hs:Sh c.O (.mk 4 0 ts ls) (c.tm i) (c.tm k):=by
    rw [Sh4 rfl ki2]
    rw [osi] at AL
    refine ⟨rfl,kk2,KY.2.2,AL,?_⟩
    show P8 (E c.O) (Sh c.O) ts ls (c.tm i).l (c.tm k).l
    rw [← ki.1,← kk.1,← C6]
    exact Iu.cov Ax hlne2
   have gp6:=kN.gp
   have g66:=kN.g6
   have lp:=Qc 4 0 ts ls
   obtain ⟨q1,q2,q3,q4,q5,q6,q7,q8,q9⟩:=a7 (.mk 4 0 ts ls)
   have lp2:=Dd (.mk 4 0 ts ls)
   have KW:=List.getElem?_set_self (a:=aa.cells (eg (.mk 4 0 ts ls)).cells) (aK g66)
   have OJ:aj (H.length + 1) (eg (.mk 4 0 ts ls)).cells=true:=cz (fQ _ _)
   have j4:=PB.fin hD kN hs
   simp +contextual only [decide_false,KR,gp6,g66,lp,q1,q2,q3,q9,Qe,KW,lp2,OJ,sZ,Nat.reduceEqDiff,Nat.reduceAdd,↓reduceIte,reduceCtorEq]
   first | exact j4 | exact ⟨by omega,j4⟩
end Go.aH
end
section
set_option maxRecDepth 100000
namespace Go.aH
open Go Go.Proofs Go.fm
theorem KZ {P:Nat→Prop}:∀ {n:Nat},P n→∃ m,m≤n∧P m∧∀ j,j < m→¬ P j:=by
 intro n
 induction n using Nat.strongRecOn with
 | _ n ih=>
   intro h
   by_cases hx:∃ j,j < n∧P j
   ·obtain ⟨j,hj,hp⟩:=hx
    obtain ⟨m,h1,h2,h3⟩:=ih j hj hp
    exact ⟨m,by omega,h2,h3⟩
   ·exact ⟨n,Nat.le_refl _,h,fun j hj hp=>hx ⟨j,hj,hp⟩⟩
theorem c86 {c:Cx} (hc:c.Ok):∀ (N:Nat) (i k:Int),c.dP i→c.dP k→wt (c.tm i) + wt (c.tm k)≤N→R c.O (c.tm i) (c.tm k)→oR c i k:=by
 intro N
 induction N with
 | zero=>intro i k _ _ h;have:=gg (c.tm i);omega
 | succ N ih=>
 intro i k hi hk hN hR
 have hx:∀ {j:Int},c.dP j→∀ x∈c.kd j,c.dP x∧wt (c.tm x) < wt (c.tm j):=fun {j} hj x hx=>by
  have h1:=hc.kids j hj
  exact ⟨h1.2 x hx,cK (by rw [← h1.1];exact List.mem_map.2 ⟨x,hx,rfl⟩)⟩
 have p1:∀ x∈c.kd i,R c.O (c.tm x) (c.tm k)→oR c x k:=fun x h r=>ih x k (hx hi x h).1 hk (by have:=(hx hi x h).2;omega) r
 have p2:∀ y∈c.kd k,R c.O (c.tm i) (c.tm y)→oR c i y:=fun y h r=>ih i y hi (hx hk y h).1 (by have:=(hx hk y h).2;omega) r
 have p3:∀ x∈c.kd i,∀ y∈c.kd k,R c.O (c.tm x) (c.tm y)→oR c x y:=fun x h y h' r=>ih x y (hx hi x h).1 (hx hk y h').1 (by have:=(hx hi x h).2;have:=(hx hk y h').2;omega) r
 obtain ⟨_,n,hn,hr⟩:=(sy hc hi hk).2 hR
 obtain ⟨m,hm,hr,j3⟩:=KZ (P:=fun n=>gR c i k n) hr
 have:m=1∨m=2∨m=3∨m=4:=by
  rcases hr with h | h | h | h
  ·exact .inl h.1
  ·exact .inr (.inl h.1)
  ·exact .inr (.inr (.inl h.1))
  ·exact .inr (.inr (.inr h.1))
 rcases this with rfl | rfl | rfl | rfl
 ·exact W5 hc hi hk hR hr j3 p1
 ·exact W9 hc hi hk hR hr j3 p2
 ·exact Xa hc hi hk hR hr j3 p2 p3
 ·exact Xb hc hi hk hR hr j3 p3
theorem Xe {c:Cx} (hc:c.Ok) {i k:Int} (hi:c.dP i) (hk:c.dP k) (hR:R c.O (c.tm i) (c.tm k)):oR c i k:=c86 hc _ i k hi hk (Nat.le_refl _) hR
def OL:PP:=.mk 0 0 [] []
def Tq (s:Sg) (ps ss:List Int) (a b:T) (r:AV):Prop:=
 (iA s ps ss [a,b]≠0∧r=.tuple [eg OL,.bool false,.int .i64 (iA s ps ss [a,b])])∨
 (iA s ps ss [a,b]=0∧¬ R (lm ps ss) a b∧r=.tuple [eg OL,.bool false,.int .i64 0])∨
 (iA s ps ss [a,b]=0∧∃ p,Sh (lm ps ss) p a b∧r=.tuple [eg p,.bool true,.int .i64 0])
theorem Up.kz {c:Cx} {G0 G:List aa} (h:Up c G0 G) {n:Nat} (he:n≤c.e) (hg:n≤c.g):G.take n=G0.take n:=by
 apply List.ext_getElem?
 intro j
 rw [List.getElem?_take,List.getElem?_take]
 split
 ·rename_i hj;exact h.get j (by omega) (by omega)
 ·rfl
theorem lG (n0 s s' s'':Nat) (sz:Option Nat) (env:Env) (H:List aa) (R:AV→List aa→Prop):bR n0 [.c s sz,.t s',.t s''] env H R=aR sz (get env s) H fun x=>tB n0 [x,get env s',get env s''] H R:=_root_.id rfl
theorem Gi {Hs G:List aa} {n0:Nat} {u v w:AV} {R:AV→List aa→Prop} (hH:Hs.take n0=G) (hb:aj n0 [u,v,w]=true) (hu:[u,v,w].map AV.ab=[u,v,w]) (hR:R (.tuple [u,v,w]) G):tB n0 [u,v,w] Hs R:=by
 subst hH
 exact ⟨n0,Nat.le_refl _,_,by rw [hu];exact cp _,hb,hR⟩
theorem ux {H G:List aa} {o:aa} (h:G.take H.length=H):(G.set H.length o).take H.length=H:=by
 rw [List.take_set_of_le (Nat.le_refl _),h]
theorem c27 (s:Sg) (ps ss:List Int) (a b:T) (H:List aa):aq Tryz.prog 27 [s.av,gn ps ss,a.av,b.av] H fun r H'=>Tq s ps ss a b r∧H'=H:=by
 refine k27.2.calls rfl ?_
 simp only [k27,aJ]
 obtain ⟨q1,q2,q3,q4,q5,q6⟩:=bF ps ss
 have zf4:∀ n,aj n (List.map AV.ab [AV.int .i64 0,.int .i64 0,.ah,.ah])=true:=fun _=>rfl
 have zf5:List.map AV.ab [AV.int .i64 0,.int .i64 0,.ah,.ah]=[AV.int .i64 0,.int .i64 0,.ah,.ah]:=rfl
 simp +contextual only [aU,q1,q4,bU,zf5,sZ,Nat.reduceEqDiff,Nat.reduceAdd,↓reduceIte,reduceCtorEq]
 have g0:(H++[aa.cells [AV.int .i64 0,.int .i64 0,.ah,.ah]])[H.length]?=some (.cells [.int .i64 0,.int .i64 0,.ah,.ah]):=by simp
 have tT:(H++[aa.cells [AV.int .i64 0,.int .i64 0,.ah,.ah]]).length=H.length + 1:=by simp
 have SS:(H++[aa.cells [AV.int .i64 0,.int .i64 0,.ah,.ah]]).take H.length=H:=by simp
 refine ae (WO s ps ss [a,b]) ?_
 generalize H++[aa.cells [AV.int .i64 0,.int .i64 0,.ah,.ah]]=H1 at g0 tT SS ⊢
 have ldz:∀ φ,c8 (some (.cells [.int .i64 0,.int .i64 0,.ah,.ah])) (some 4) 0 φ=φ (eg OL):=Qc 0 0 [] []
 have zb:∀ p b n,aj H.length [eg p,.bool b,.int .i64 n]=true:=fun p b n=>by simp [bG,cZ,fQ,qC,gb]
 have zu:∀ p b n,[eg p,AV.bool b,.int .i64 n].map AV.ab=[eg p,.bool b,.int .i64 n]:=fun p b n=>by simp [(a7 p).2.2.2.1,oA,nP]
 by_cases h0:iA s ps ss [a,b]=0
 ·have hr:=qW h0
  have hw:=mH hr.tree
  have hc:=hr.cx (by simp) (by simp) H1.length
  have hd:=yG ps ss (ts:=[a,b]) (by simp) H1
  simp +contextual only [q4,bU,h0,sZ,Nat.reduceEqDiff,Nat.reduceAdd,↓reduceIte]
  refine af (Wm ps ss [a,b] _ (by simp at hw;omega)) ?_
  rintro r G ⟨rfl,rfl⟩
  have a0:=tG (ps:=ps) (ss:=ss) (ts:=[a,b]) (n:=H1.length) (j:=0) (by simp)
  have a1:=tG (ps:=ps) (ss:=ss) (ts:=[a,b]) (n:=H1.length) (j:=1) (by simp)
  have hl:=cE [a,b] 0
  rw [OC]
  generalize aT [a,b] 0=ks at a0 a1 hl ⊢
  have rn:ks.length=2:=hl
  simp +contextual only [cG,rn,dH,sZ,Nat.reduceEqDiff,Nat.reduceAdd,Nat.reduceLT,↓reduceIte,reduceCtorEq]
  refine ⟨by decide,by decide,af (jX hc a0.1 a1.1 _ hd) ?_⟩
  rintro r G ⟨x,rfl,hx,hU,hD⟩
  rw [a0.2,a1.2] at hx
  have wO:x=true↔R (lm ps ss) a b:=hx
  have he:(gE ps ss [a,b] H1.length).e=H.length + 1:=tT
  have hg:(gE ps ss [a,b] H1.length).g=H.length + 2:=by show H1.length + 1=_;omega
  have low:∀ G',Up (gE ps ss [a,b] H1.length) G G'→G'[H.length]?=some (.cells [.int .i64 0,.int .i64 0,.ah,.ah])∧G'.take H.length=H:=by
   intro G' hU'
   have P3:=hU.trans hU'
   refine ⟨by rw [P3.get _ (by omega) (by omega),List.getElem?_append_left (by omega)];exact g0,?_⟩
   rw [P3.kz (n:=H.length) (by omega) (by omega),List.take_append_of_le_length (by omega),SS]
  have gz:=low G (Up.refl _ _)
  have gz1:=gz.1
  have gzs:=fun o=>List.getElem?_set_self (a:=o) (aK gz1)
  have nilc:(eg OL).cells=[AV.int .i64 0,.int .i64 0,.ap 0 [],.ap 0 []]:=rfl
  cases x with
  | false=>
    simp +contextual only [Bool.not_false,gz1,gzs,zf5,Ik,lG,ldz,sZ,Nat.reduceEqDiff,Nat.reduceAdd,↓reduceIte,reduceCtorEq]
    refine Gi (ux gz.2) (zb _ _ _) (zu _ _ _) ⟨.inr (.inl ⟨h0,fun h=>absurd (wO.2 h) (by simp),rfl⟩),rfl⟩
  | true=>
    simp +contextual only [Bool.not_true,cG,rn,dH,sZ,Nat.reduceEqDiff,Nat.reduceAdd,↓reduceIte,reduceCtorEq]
    refine ⟨by decide,by decide,af (Xe hc a0.1 a1.1 (by rw [a0.2,a1.2];exact wO.1 rfl) _ hD) ?_⟩
    rintro r G2 ⟨p,rfl,hp,P3,A6⟩
    rw [a0.2,a1.2] at hp
    obtain ⟨gy1,gy2⟩:=low G2 P3
    have gys:=fun o=>List.getElem?_set_self (a:=o) (aK gy1)
    obtain ⟨u1,u2,u3,u4,u5,u6,u7,u8,u9⟩:=a7 p
    have lpq:=Dd p
    have OJ:aj (H.length + 1) (eg p).cells=true:=cz (fQ _ _)
    simp +contextual only [gy1,gys,u1,u2,u3,u9,Qe,lpq,OJ,lG,sZ,Nat.reduceEqDiff,Nat.reduceAdd,↓reduceIte,reduceCtorEq]
    first | exact Gi (ux gy2) (zb _ _ _) (zu _ _ _) ⟨.inr (.inr ⟨h0,p,hp,rfl⟩),rfl⟩ | exact ⟨by omega,Gi (ux gy2) (zb _ _ _) (zu _ _ _) ⟨.inr (.inr ⟨h0,p,hp,rfl⟩),rfl⟩⟩
 ·have gs:∀ o,(H1.set H.length o)[H.length]?=some o:=fun o=>List.getElem?_set_self (by omega)
  simp +contextual only [h0,g0,gs,zf5,Ik,lG,ldz,sZ,Nat.reduceEqDiff,Nat.reduceAdd,↓reduceIte,reduceCtorEq]
  refine Gi (ux SS) (zb _ _ _) (zu _ _ _) ⟨.inl ⟨h0,rfl⟩,rfl⟩
end Go.aH
end
section
set_option maxRecDepth 100000
namespace Go.aH
open Go Go.Proofs Go.fm
def bV (l:List gv):List AV:=l.map gv.av
theorem cQ (l:List gv):(bV l).length=l.length:=by simp [bV]
theorem wx (n:Nat) (l:List gv):aj n (bV l)=true:=by
 rw [ba];intro x hx;obtain ⟨y,_,rfl⟩:=List.mem_map.1 hx
 exact y.facts.2.2.2.2.2 n
theorem iG (o:Nat) (l:List gv):(∀ (own:Nat) (xs:List AV),AV.ap o (bV l)=AV.ap own xs→∀ z∈xs,z.cells.length=8)=True:=by
 simp only [eq_iff_iff,iff_true]
 intro own xs e z hz
 cases e
 obtain ⟨y,_,rfl⟩:=List.mem_map.1 hz;rfl
theorem idx_eq (e o:Nat) (l:List gv) (k:IntKind) (i:Nat) (φ:AV→Prop):ay e (.ap o (bV l)) (.int k (i:Int)) φ=(i < l.length∧φ (.ai (l.getD i default).av)):=by
 simp only [ay,cQ,Int.toNat_natCast,eq_iff_iff]
 constructor
 ·rintro ⟨_,h,h2⟩;refine ⟨h,?_⟩;simpa [bV,h] using h2
 ·rintro ⟨h,h2⟩;refine ⟨by omega,h,?_⟩;simpa [bV,h] using h2
theorem wy (e:gv) (H:List aa) (φ:AV→Prop):aR (some 8) (.ai e.av) H φ=φ e.av:=by simp [aR,gv.av,AV.cells]
structure K0 (ps:List Int) (e:gv):Prop where
 few:e.cs.length≤1000
 tree:∀ t∈e.a::e.rest,t.tree=true
 ops:∀ t∈e.a::e.rest,um (fun n=>0≤n∧n < ps.length) t
open Classical in
noncomputable def xu (ps ss:List Int) (e:gv):Bool:=decide (OE ps ss e)
theorem Xf (ps ss:List Int) (e:gv) (hv:Va ps ss) (he:K0 ps e):Pure Tryz.prog 163 [gn ps ss,e.av] (.bool (xu ps ss e)):=by
 intro H
 refine (aai ps ss e hv he.few he.tree he.ops H).mono ?_
 rintro r H' ⟨⟨b,rfl,hb⟩,rfl⟩
 refine ⟨?_,rfl⟩
 congr 1
 rw [Bool.eq_iff_iff,hb]
 simp [xu]
theorem aaD (ps ss:List Int) (e:gv) (hv:Va ps ss) (he:K0 ps e):Pure Tryz.prog 162 [e.av,.ai (gn ps ss)] (.bool (!xu ps ss e)):=by
 refine fun H=>Vc.2.calls rfl ?_
 simp only [Vc,aJ]
 obtain ⟨q1,q2,q3,q4,q5,q6⟩:=bF ps ss
 obtain ⟨e1,e2,e3,e4,e5,e6⟩:=gv.facts e
 simp +contextual only [q4,e1,e4,bU,wy,sZ,Nat.reduceEqDiff,Nat.reduceAdd,↓reduceIte,reduceCtorEq]
 refine ae (Xf ps ss e hv he) ?_
 simp +contextual only [sZ,↓reduceIte,reduceCtorEq]
 exact bh rfl rfl
def kc {α:Type} (p:α→Bool):List α→Nat→Int
 | [],_=>-1
 | x::r,i=>if p x=true then (i:Int) else kc p r (i + 1)
theorem sE {α:Type} [Inhabited α] {p:α→Bool} {l:List α} {i:Nat} (h:i < l.length):kc p (l.drop i) i=if p (l.getD i default)=true then (i:Int) else kc p (l.drop (i + 1)) (i + 1):=by
 have e:l.getD i default=l[i]:=by simp [h]
 rw [List.drop_eq_getElem_cons h,kc,e]
theorem aaE (ps ss:List Int) (l:List gv) (hv:Va ps ss) (he:∀ e∈l,K0 ps e):Pure Tryz.prog 161 [.ap 0 (bV l),.fn (.func 162) [] [.ai (gn ps ss)]] (.int .i64 (kc (fun e=>!xu ps ss e) l 0)):=by
 refine fun H=>Hk.2.calls rfl ?_
 simp only [Hk,aJ]
 simp +contextual only [cQ,sZ,Nat.reduceEqDiff,Nat.reduceAdd,↓reduceIte,reduceCtorEq]
 intro hl
 refine aP l.length (fun i=>kc (fun e=>!xu ps ss e) (l.drop i) i=kc (fun e=>!xu ps ss e) l 0) (fun i=>[(0,.ap 0 (bV l)),(1,.fn (.func 162) [] [.ai (gn ps ss)]),(7,.int .i64 l.length),(8,.int .i64 i)]) (fun _=>H) ⟨rfl,aA _ _ _⟩ fun i hi hI=>?_
 obtain ⟨e1,e2,e3,e4,e5,e6⟩:=gv.facts (l.getD i default)
 simp +contextual only [iG,idx_eq,wy,e4,sZ,Nat.reduceEqDiff,Nat.reduceAdd,↓reduceIte,reduceCtorEq]
 refine ⟨fun aX=>?_,fun jh=>?_⟩
 ·have aX:=bS aX
  have hm:l.getD i default∈l:=by
   rw [List.getD_eq_getElem?_getD,List.getElem?_eq_getElem aX];exact List.getElem_mem aX
  rw [sE aX] at hI
  refine ⟨aX,ae (aaD ps ss _ hv (he _ hm)) ?_⟩
  cases hb:xu ps ss (l.getD i default) with
  | false=>
    rw [if_pos (by rw [hb];rfl)] at hI
    simp +contextual only [Bool.not_false,sZ,Nat.reduceEqDiff,↓reduceIte,reduceCtorEq]
    exact bh rfl (by rw [← hI])
  | true=>
    rw [if_neg (by rw [hb];simp)] at hI
    simp +contextual only [Bool.not_true,sZ,Nat.reduceEqDiff,↓reduceIte,reduceCtorEq]
    exact ⟨i + 1,⟨aX,hI⟩,by omega,aI (by rw [ax i (by omega)]) rfl⟩
 ·rw [List.drop_of_length_le (dd jh)] at hI
  exact bh rfl (by rw [← hI];rfl)
structure Ty where
 s:Sg
 es:List gv
deriving Inhabited
def Ty.av (t:Ty):AV:=.agg [.ap 0 (strs t.s.eF),.ap 0 (mG t.s.ops),.ap 0 (bV t.es)]
theorem Ty.facts (t:Ty):t.av.val=true∧t.av.cells.length=3∧t.av.cells.all AV.one=true∧t.av.ab=t.av∧t.av.drop=t.av∧∀ n,t.av.aZ n=true:=
 ⟨rfl,rfl,rfl,rfl,rfl,fun n=>by simp [Ty.av,AV.aZ,aj,qT,qS,wx]⟩
theorem A8 (t:Ty) (φ:AV→Prop):ak 0 (some 2) (.ai t.av) φ=φ (.ai t.s.av):=by simp [ak,apart,Ty.av,Sg.av,AV.cells]
theorem LV (t:Ty) (φ:AV→Prop):ak 2 none (.ai t.av) φ=φ (.ai (.ap 0 (bV t.es))):=by simp [ak,apart,Ty.av,AV.cells,AV.one]
theorem fS1 (s:Sg) (φ:AV→Prop):ak 1 none (.ai s.av) φ=φ (.ai (.ap 0 (mG s.ops))):=by simp [ak,apart,Sg.av,AV.cells,AV.one]
theorem eU (t:Ty) (H:List aa) (φ:AV→Prop):aR (some 3) (.ai t.av) H φ=φ t.av:=by simp [aR,Ty.av,AV.cells]
noncomputable def fD (t:Ty) (ps ss:List Int):Int:=kc (fun e=>!xu ps ss e) t.es 0
theorem c89 (t:Ty) (ps ss:List Int) (hv:Va ps ss) (he:∀ e∈t.es,K0 ps e):Pure Tryz.prog 89 [t.av,gn ps ss] (.int .i64 (fD t ps ss)):=by
 refine fun H=>k89.2.calls rfl ?_
 simp only [k89,aJ]
 obtain ⟨q1,q2,q3,q4,q5,q6⟩:=bF ps ss
 obtain ⟨e1,e2,e3,e4,e5,e6⟩:=Ty.facts t
 simp +contextual only [q1,e1,LV,sZ,Nat.reduceEqDiff,Nat.reduceAdd,↓reduceIte,reduceCtorEq]
 refine ae (aaE ps ss t.es hv he) ?_
 simp +contextual only [sZ,↓reduceIte,reduceCtorEq]
 exact bh rfl rfl
end Go.aH
end
section
set_option maxRecDepth 100000
set_option maxHeartbeats 0
namespace Go.aH
open Go Go.Proofs
noncomputable def Qf:=aJ Tryz.call112 Tryz.func112 Tryz.ntmps112 [(0,0,1),(8,0,3001)] [(0,[1,2,3,4,8]),(1,[1,2,3,8,9]),(2,[1,2,3,8,10]),(3,[2,3,8,10,24,25,26]),(4,[2,3,8,10,24,25,26,27]),(5,[2,3,8,10,11,12,24,25,26]),(6,[2,3,8,10,24,25,26]),(7,[2,3,8,10,24,25,26]),(8,[8])] [(6,(.take 0 true (.take 1 true (.take 2 true (.take 6 true (.take 7 true (.take 8 true (.take 9 true (.take 10 true (.take 11 true (.take 12 true (.take 13 true (.take 14 true (.take 3 false (.take 5 false (.br 4 (.br 15 (.take 16 true (.br 17 .done .nil)) .nil) (.br 15 (.take 4 true (.take 16 true (.br 17 .done .nil))) .nil)))))))))))))))))]
end Go.aH
end
section
set_option maxRecDepth 100000
namespace Go.aH
open Go Go.Proofs Go.fm
def jf:List Int→List Int→List Int→List Int
 | l,i::r,x::s=>jf (l.set i.toNat x) r s
 | l,_,_=>l
def pN (n:Nat) (ops pl:List Int):List Int:=jf (List.replicate n 255) ops pl
def sF (n:Nat) (ops st:List Int):List Int:=jf (List.replicate n 1) ops st
theorem wz:∀ (l r s:List Int),(jf l r s).length=l.length
 | l,[],_=>by cases l <;> rfl
 | l,_::_,[]=>rfl
 | l,i::r,x::s=>by rw [jf,wz];simp
theorem aaF (t:Ty) (ops pl st:List Int) {vo vp vs:AV} (ho:IL vo ops) (hp:IL vp pl) (hs:IL vs st) (tT:pl.length=ops.length) (rn:st.length=ops.length) (hr:∀ i∈ops,0≤i∧i < t.s.ops.length) (hn:t.s.ops.length≤1000000000) (j3:ops.length≤1000000000):Pure Tryz.prog 112 [t.av,vo,vp,vs] (gn (pN t.s.ops.length ops pl) (sF t.s.ops.length ops st)):=by
 refine fun H=>Qf.2.calls rfl ?_
 simp only [Qf,aJ]
 obtain ⟨e1,e2,e3,e4,e5,e6⟩:=Ty.facts t
 obtain ⟨a1,a2,a3,a4⟩:=ho.one
 obtain ⟨b1,b2,b3,b4⟩:=hp.one
 obtain ⟨c1,c2,c3,c4⟩:=hs.one
 simp +contextual only [e1,A8,fS1,wc,sZ,Nat.reduceEqDiff,Nat.reduceAdd,↓reduceIte,reduceCtorEq]
 intro _
 refine af (S1 0 255 t.s.ops.length hn _) ?_
 rintro r G ⟨rfl,rfl⟩
 simp +contextual only [sZ,Nat.reduceEqDiff,Nat.reduceAdd,↓reduceIte]
 refine af (S1 0 1 t.s.ops.length hn _) ?_
 rintro r G ⟨rfl,rfl⟩
 simp +contextual only [sZ,Nat.reduceEqDiff,Nat.reduceAdd,↓reduceIte]
 obtain ⟨n,hn'⟩:∃ n,n=t.s.ops.length:=⟨_,rfl⟩
 rw [← hn'] at hn hr ⊢
 have va:∀ a b c d,(AV.a8 a b c d).val=true:=fun _ _ _ _=>rfl
 have vc:∀ a b c d,(AV.a8 a b c d).cells=[.a8 a b c d]:=fun _ _ _ _=>rfl
 have vo':∀ a b c d,(AV.a8 a b c d).one=true:=fun _ _ _ _=>rfl
 have vd:∀ a b c d,(AV.a8 a b c d).drop=.a8 a b c d:=fun _ _ _ _=>rfl
 have bdA:∀ (a1 b1 c1 d1 a2 b2 c2 d2:Nat) (φ:AV→Prop),cu [AV.ah,AV.ah] [(0,1,.a8 a1 b1 c1 d1),(1,1,.a8 a2 b2 c2 d2)] φ=φ (.agg [.a8 a1 b1 c1 d1,.a8 a2 b2 c2 d2]):=by
  intro a1 b1 c1 d1 a2 b2 c2 d2 φ
  simp only [cu,gI,eq_iff_iff]
  constructor
  ·rintro ⟨_,_,_,_,_,_,h⟩;exact h
  ·exact fun h=>⟨rfl,rfl,by simp,rfl,rfl,by simp [ag,AV.cells],h⟩
 have g3:∀ (a b c d:aa),[a,b,c,d][3]?=some d:=fun _ _ _ _=>rfl
 have sp2:∀ (a b x y:AV),ag [a,b] 0 [x,y]=[x,y]:=fun _ _ _ _=>rfl
 have lt1:∀ m:Nat,decide (m + 1 < m + 3 + 1)=true:=fun m=>by simp
 have lt2:∀ m:Nat,decide (m + 2 < m + 3 + 1)=true:=fun m=>by simp
 let S:List Int→List Int→List aa:=fun P Q=>H++[.cells [.ah,.ah],cV P,cV Q,.cells [.a8 (H.length + 1) 0 n n,.a8 (H.length + 2) 0 n n]]
 simp +contextual only [bdA,vo',g3,sp2,s3,lt1,lt2,Bool.and_self,a2,ho.aL,ho.len (by omega),sZ,Nat.reduceEqDiff,Nat.reduceAdd,↓reduceIte]
 refine aE ops.length (fun j (s:List Int×List Int)=>s.1.length=n∧s.2.length=n∧jf s.1 (ops.drop j) (pl.drop j)=pN n ops pl∧jf s.2 (ops.drop j) (st.drop j)=sF n ops st)
  (fun j s=>[(2,vp),(3,vs),(8,.ptr H.length 0),(10,.ptr (H.length + 3) 0),(24,vo),(25,.int .i64 ops.length),(26,.int .i64 j)]) (fun j s=>S s.1 s.2) (List.replicate n 255,List.replicate n 1) ⟨⟨by simp,by simp,rfl,rfl⟩,aA _ _ _⟩ fun j s hj hI=>?_
 obtain ⟨P,Q⟩:=s
 obtain ⟨hP,hQ,Xg,Xh⟩:=hI
 simp only at hP hQ Xg Xh
 by_cases hjo:(j:Int) < ops.length
 ·have pO:j < ops.length:=by omega
  have hri:=hr _ (aN pO)
  obtain ⟨x,hx⟩:=Int.eq_ofNat_of_zero_le hri.1
  have hxn:x < n:=by omega
  have hxP:x < P.length:=by omega
  have hxQ:x < Q.length:=by omega
  simp +contextual only [S,hjo,decide_true,b2,c2,ho.lens,ho.idx,hp.lens,hp.idx,hs.lens,hs.idx,Int.toNat_natCast,hx,kO,g3,KC hxP,KC hxQ,sZ,Nat.reduceEqDiff,Nat.reduceAdd,Nat.reduceLT,↓reduceIte,reduceCtorEq]
  have stp:∀ (P q:List Int),q.length=ops.length→jf P (ops.drop j) (q.drop j)=jf (P.set x (q.getD j 0)) (ops.drop (j + 1)) (q.drop (j + 1)):=by
   intro P q hq
   have e1:ops.drop j=ops.getD j 0::ops.drop (j + 1):=by rw [List.drop_eq_getElem_cons pO];simp [pO]
   have hjq:j < q.length:=by omega
   have e2:q.drop j=q.getD j 0::q.drop (j + 1):=by rw [List.drop_eq_getElem_cons hjq];simp [hjq]
   rw [e1,e2,jf,hx,Int.toNat_natCast]
  rw [stp P pl tT] at Xg
  rw [stp Q st rn] at Xh
  have hgo:∃ (j':Nat) (t:List Int×List Int),(j'≤ops.length∧t.1.length=n∧t.2.length=n∧jf t.1 (ops.drop j') (pl.drop j')=pN n ops pl∧jf t.2 (ops.drop j') (st.drop j')=sF n ops st)∧ops.length - j' < ops.length - j∧
   sle H.length [(2,vp),(3,vs),(8,.ptr H.length 0),(10,.ptr (H.length + 3) 0),(24,vo),(25,.int .i64 ops.length),(26,.int .i64 (IntKind.i64.wrap (j + 1)))]
    (H++[.cells [.ah,.ah],cV (P.set x (pl.getD j 0)),cV (Q.set x (st.getD j 0)),.cells [.a8 (H.length + 1) 0 n n,.a8 (H.length + 2) 0 n n]])
    [(2,vp),(3,vs),(8,.ptr H.length 0),(10,.ptr (H.length + 3) 0),(24,vo),(25,.int .i64 ops.length),(26,.int .i64 j')]
    (H++[.cells [.ah,.ah],cV t.1,cV t.2,.cells [.a8 (H.length + 1) 0 n n,.a8 (H.length + 2) 0 n n]]):=
   ⟨j + 1,(P.set x (pl.getD j 0),Q.set x (st.getD j 0)),⟨pO,by simp [hP],by simp [hQ],Xg,Xh⟩,by omega,aI (by rw [ax j (by omega)]) rfl⟩
  repeat' apply And.intro
  all_goals first | omega | exact hgo
 ·have WV:j=ops.length:=by omega
  subst WV
  rw [List.drop_length] at Xg Xh
  have eP:P=pN n ops pl:=by rw [← Xg];cases P <;> rfl
  have eQ:Q=sF n ops st:=by rw [← Xh];cases Q <;> rfl
  simp +contextual only [Ke,S,hjo,decide_false,g3,vd,sZ,Nat.reduceEqDiff,↓reduceIte]
  have f1:(H++[aa.cells [AV.ah,.ah],cV P,cV Q,.cells [.a8 (H.length + 1) 0 n n,.a8 (H.length + 2) 0 n n]])[H.length + 1]?=some (cV P):=by simp
  have f2:((H++[aa.cells [AV.ah,.ah],cV P,cV Q,.cells [.a8 (H.length + 1) 0 n n,.a8 (H.length + 2) 0 n n]]).set (H.length + 1) .dead)[H.length + 2]?=some (cV Q):=by rw [List.getElem?_set_ne (by omega)];simp
  have fz1:∀ {id n:Nat} {l:List Int} {H:List aa} (h:H[id]?=some (cV l)) (hn:l.length=n) {K:AV→List aa→Prop} (hK:K (.ap 0 (ints l)) (H.set id .dead)),dC 1 (.a8 id 0 n n) H K:=fun h hn K hK=>by subst hn;exact CO h hK
  refine fz1 f1 hP ?_
  refine fz1 f2 hQ ?_
  have es:((H++[aa.cells [AV.ah,.ah],cV P,cV Q,.cells [.a8 (H.length + 1) 0 n n,.a8 (H.length + 2) 0 n n]]).set (H.length + 1) .dead).set (H.length + 2) .dead=H++[aa.cells [AV.ah,.ah],.dead,.dead,.cells [.a8 (H.length + 1) 0 n n,.a8 (H.length + 2) 0 n n]]:=by simp []
  rw [es]
  have fb:∀ m,aj m [AV.ap 0 (ints P),.ap 0 (ints Q)]=true:=fun m=>by simp [bG,cZ,b8,aY]
  simp +contextual only [fb,sp2,Bool.and_self,sZ,Nat.reduceEqDiff,Nat.reduceAdd,↓reduceIte,reduceCtorEq]
  rw [eP,eQ]
  exact FW ((bF _ _).2.2.2.2.2 _) rfl
end Go.aH
end
section
set_option maxRecDepth 100000
namespace Go.aH
open Go Go.Proofs Go.fm
def iD (vals:List Int):Nat→List (List Int)
 | 0=>[[]]
 | n + 1=>vals.flatMap fun x=>(iD vals n).map (x::·)
def eW {σ:Type} (step:σ→List Int→σ×Bool):List (List Int)→σ→σ×Bool
 | [],s=>(s,true)
 | l::r,s=>if (step s l).2=true then eW step r (step s l).1 else ((step s l).1,false)
theorem wA {σ:Type} {step:σ→List Int→σ×Bool}:∀ (a b:List (List Int)) (s:σ),eW step (a++b) s=if (eW step a s).2=true then eW step b (eW step a s).1 else ((eW step a s).1,false)
 | [],b,s=>by simp [eW]
 | x::a,b,s=>by
   rw [List.cons_append,eW,eW]
   split
   ·exact wA a b _
   ·simp
def dm (lo:Int) (n:Nat):List Int:=(List.range n).map fun i=>lo + (i:Nat)
theorem E5 (lo:Int) (n:Nat):dm lo (n + 1)=dm lo n++[lo + (n:Nat)]:=by simp [dm,List.range_succ]
theorem yP {lo x:Int} {n:Nat}:x∈dm lo n↔lo≤x∧x < lo + n:=by
 simp only [dm,List.mem_map,List.mem_range]
 constructor
 ·rintro ⟨j,h,rfl⟩;omega
 ·intro h;exact ⟨(x - lo).toNat,by omega,by omega⟩
def Gj (n:Nat) (id:Nat) (lo hi:Int) (q:Nat):AV:=.fn (.func 206) [] [.ai (.int .i64 n),.ai (.nk id),.ai (.int .i64 lo),.ai (.int .i64 hi),.ptr q 0]
structure YS {σ:Type} (n:Nat) (vals:List Int) (id:Nat) (St:σ→List aa) (Good:σ→Prop) (step:σ→List Int→σ×Bool):Prop where
 y:∀ l s X,l.length=n→(∀ x∈l,x∈vals)→Good s→jH Tryz.prog id [bm l] (St s++X) fun r H'=>r=.bool (step s l).2∧H'=St (step s l).1++X
 Tb:∀ l s,Good s→(step s l).2=true→Good (step s l).1
 len:∀ s s',(St s).length=(St s').length
theorem yQ {σ:Type} {n:Nat} {vals:List Int} {id:Nat} {St:σ→List aa} {Good:σ→Prop} {step:σ→List Int→σ×Bool} (h:YS n vals id St Good step):∀ (a:List (List Int)) (s:σ),Good s→(eW step a s).2=true→Good (eW step a s).1
 | [],s,hs,_=>hs
 | l::r,s,hs,hr=>by
   rw [eW] at hr ⊢
   split at hr
   ·rename_i h1
    rw [if_pos h1]
    exact yQ h r _ (h.Tb l s hs h1) hr
   ·simp at hr
theorem OM (l:List Int) (h:l≠[]):bm l=.ap 0 (ints l):=by cases l with
 | nil=>exact absurd rfl h
 | cons a r=>rfl
theorem Xi (l:List Int) (hb:l.length * 8≤140737488355328):Pure Tryz.prog 118 [bm l] (.ap 1 (ints l)):=by
 intro H
 cases l with
 | nil=>exact yb H
 | cons a r=>exact vG 0 (ints (a::r)) H (of_eq_true (ms _)) (by rw [aw];exact hb) (aY _ _)
theorem aaG {σ:Type} {n:Nat} {lo hi:Int} (uK:-1000000≤lo∧lo≤1000000) (IY:-1000000≤hi∧hi≤1000000) (hn:n≤1000000) {id:Nat} {St:σ→List aa} {Good:σ→Prop} {step:σ→List Int→σ×Bool} (hy:YS n (dm lo (hi + 1 - lo).toNat) id St Good step) (q:Nat) :
 ∀ (r:Nat) (l:List Int) (s:σ) (X:List aa),l.length + r=n→(∀ x∈l,x∈dm lo (hi + 1 - lo).toNat)→Good s→(∀ s',(St s'++X)[q]?=some (.cells [Gj n id lo hi q]))→
  aq Tryz.prog 206 [bm l,.ai (.int .i64 n),.ai (.nk id),.ai (.int .i64 lo),.ai (.int .i64 hi),.ptr q 0] (St s++X) fun rr H'=>rr=.bool (eW step ((iD (dm lo (hi + 1 - lo).toNat) r).map (l++·)) s).2∧H'=St (eW step ((iD (dm lo (hi + 1 - lo).toNat) r).map (l++·)) s).1++X:=by
 intro r
 induction r with
 | zero=>
   intro l s X hl hm hs hq
   refine MS.2.calls rfl ?_
   simp only [MS,aJ]
   have ik:IL (bm l) l:=.inl rfl
   obtain ⟨a1,a2,a3,a4,a5⟩:=aC l
   have e1:((l.length:Int)=(n:Int))=True:=eq_true (by omega)
   have lyld:∀ (H:List aa) (φ:AV→Prop),aR none (.ai (.nk id)) H φ=φ (.nk id):=fun H φ=>by simp [aR,AV.one,AV.ab]
   have e2:eW step ((iD (dm lo (hi + 1 - lo).toNat) 0).map (l++·)) s=step s l:=by
    simp only [iD,List.map_cons,List.map_nil,List.append_nil,eW]
    cases hb:(step s l).2 with
    | true=>rw [if_pos rfl,← hb]
    | false=>rw [if_neg (by simp),← hb]
   rw [e2]
   simp +contextual only [a2,ik.aL,ik.len (by omega),e1,decide_true,lyld,Gg,sZ,Nat.reduceEqDiff,Nat.reduceAdd,↓reduceIte,reduceCtorEq]
   refine yM (hy.y l s X (by omega) hm hs) ?_
   rintro rr H' ⟨rfl,rfl⟩
   simp +contextual only [sZ,↓reduceIte,reduceCtorEq]
   refine aO (St s++X).length (Nat.le_refl _) (by rw [au,if_pos rfl];rfl) ?_
   rw [au,if_pos rfl]
   exact ⟨rfl,by rw [List.take_of_length_le (by rw [List.length_append,List.length_append,hy.len _ s];exact Nat.le_refl _)]⟩
 | succ r ih=>
   intro l s X hl hm hs hq
   refine MS.2.calls rfl ?_
   simp only [MS,aJ]
   have ik:IL (bm l) l:=.inl rfl
   obtain ⟨a1,a2,a3,a4,a5⟩:=aC l
   have e1:((l.length:Int)=(n:Int))=False:=eq_false (by omega)
   have qm:∀ (b:Bool) (s':σ),bR (St s++X).length [.t 7] [(7,.bool b)] (St s'++X) fun rr H'=>rr=.bool b∧H'=St s'++X:=by
    intro b s'
    refine aO (St s++X).length (Nat.le_refl _) (by rw [au,if_pos rfl];rfl) ?_
    rw [au,if_pos rfl]
    exact ⟨rfl,by rw [List.take_of_length_le (by rw [List.length_append,List.length_append,hy.len _ s];exact Nat.le_refl _)]⟩
   obtain ⟨m,TO⟩:∃ m,m=(hi + 1 - lo).toNat:=⟨_,rfl⟩
   rw [← TO] at ih hm ⊢
   obtain ⟨F,hF⟩:∃ F:Nat→List (List Int),F=fun k=>(dm lo k).flatMap fun x=>(iD (dm lo m) r).map fun y=>l++x::y:=⟨_,rfl⟩
   have hF0:F 0=[]:=by rw [hF];rfl
   have hFs:∀ k,F (k + 1)=F k++(iD (dm lo m) r).map ((l++[lo + (k:Nat)])++·):=by
    intro k
    rw [hF]
    simp only [E5,List.flatMap_append,List.flatMap_cons,List.flatMap_nil,List.append_nil,List.append_assoc,List.cons_append,List.nil_append]
   have hFm:(iD (dm lo m) (r + 1)).map (l++·)=F m:=by
    rw [hF,iD,List.map_flatMap]
    congr 1
    funext x
    rw [List.map_map];rfl
   rw [hFm]
   simp +contextual only [a2,ik.aL,ik.len (by omega),e1,decide_false,sZ,Nat.reduceEqDiff,Nat.reduceAdd,↓reduceIte,reduceCtorEq]
   refine aE m (fun k (_:Unit)=>(eW step (F k) s).2=true) (fun k _=>[(0,bm l),(4,.ai (.int .i64 hi)),(5,.ptr q 0),(8,.int .i64 (lo + (k:Nat)))]) (fun k _=>St (eW step (F k) s).1++X) () ⟨by rw [hF0];rfl,aI (by simp) (by rw [hF0];rfl)⟩ fun k _ hk hI=>?_
   have hg:=yQ hy (F k) s hs hI
   generalize O9:(eW step (F k) s).1=s1 at hg ⊢
   by_cases hkm:lo + (k:Int)≤hi
   ·have Bw:k < m:=by omega
    have hql:=hq s1
    simp +contextual only [hkm,decide_true,a2,sZ,Nat.reduceEqDiff,↓reduceIte,reduceCtorEq]
    refine aF (Xi l (by omega)) ?_
    have jr:sR 1 [AV.int .i64 (lo + (k:Int))]:=of_eq_true (ms [_])
    have efn:(Gj n id lo hi q).ab=.fn (.func 206) [] [.ai (.int .i64 n),.ai (.nk id),.ai (.int .i64 lo),.ai (.int .i64 hi),.ptr q 0]:=rfl
    have ea:ints l++[AV.int .i64 (lo + (k:Int))]=ints (l++[lo + (k:Int)]):=by simp [ints]
    have ek:AV.ap 0 (ints (l++[lo + (k:Int)]))=bm (l++[lo + (k:Int)]):=by rw [OM _ (by simp)]
    simp +contextual only [hql,efn,aw,jr,ea,ek,FQ,sZ,Nat.reduceEqDiff,Nat.reduceAdd,Nat.reduceLT,↓reduceIte,reduceCtorEq]
    refine ⟨by omega,af (ih (l++[lo + (k:Int)]) s1 X (by simp;omega) (fun x hx=>?_) hg hq) ?_⟩
    ·rcases List.mem_append.1 hx with h | h
     ·exact hm x h
     ·simp only [List.mem_cons,List.not_mem_nil,or_false] at h
      subst h
      exact yP.2 ⟨by omega,by omega⟩
    rintro rr H' ⟨rfl,rfl⟩
    have bE:eW step (F (k + 1)) s=eW step ((iD (dm lo m) r).map ((l++[lo + (k:Int)])++·)) s1:=by
     rw [hFs,wA,if_pos hI,O9]
    cases hb:(eW step ((iD (dm lo m) r).map ((l++[lo + (k:Int)])++·)) s1).2 with
    | true=>
      simp +contextual only [Bool.not_true,sZ,Nat.reduceEqDiff,↓reduceIte,reduceCtorEq]
      refine ⟨k + 1,(),⟨Bw,by rw [bE];exact hb⟩,by omega,aI ?_ (by rw [bE])⟩
      rw [eu _ (by omega)]
      have:lo + (k:Int) + 1=lo + ((k + 1:Nat):Int):=by omega
      rw [this]
    | false=>
      simp +contextual only [Bool.not_false,sZ,Nat.reduceEqDiff,↓reduceIte,reduceCtorEq]
      have iI:eW step (F m) s=((eW step ((iD (dm lo m) r).map ((l++[lo + (k:Int)])++·)) s1).1,false):=by
       have e:∃ R,F m=F (k + 1)++R:=by
        have:∀ d,∃ R,F (k + 1 + d)=F (k + 1)++R:=by
         intro d
         induction d with
         | zero=>exact ⟨[],by simp⟩
         | succ d Y1=>
           obtain ⟨R,hR⟩:=Y1
           exact ⟨R++_,by rw [show k + 1 + (d + 1)=(k + 1 + d) + 1 by omega,hFs,hR,List.append_assoc]⟩
        obtain ⟨R,hR⟩:=this (m - (k + 1))
        exact ⟨R,by rw [← hR];congr 1;omega⟩
       obtain ⟨R,hR⟩:=e
       rw [hR,wA,bE,hb,if_neg (by simp)]
      rw [iI]
      exact qm false _
   ·have hke:k=m:=by omega
    simp +contextual only [hkm,decide_false,sZ,Nat.reduceEqDiff,↓reduceIte,reduceCtorEq]
    rw [← hke,hI,O9]
    exact qm true s1
theorem Xj {σ:Type} {n:Nat} {lo hi:Int} (uK:-1000000≤lo∧lo≤1000000) (IY:-1000000≤hi∧hi≤1000000) (hn:n≤1000000) {id:Nat} {St:σ→List aa} {Good:σ→Prop} {step:σ→List Int→σ×Bool} (hy:YS n (dm lo (hi + 1 - lo).toNat) id St Good step) (bk:∀ s,id < (St s).length) (s:σ) (hs:Good s) :
 aq Tryz.prog 205 [.nk id,.ai (.int .i64 n),.ai (.int .i64 lo),.ai (.int .i64 hi)] (St s) fun rr H'=>rr=.tuple []∧H'=St (eW step (iD (dm lo (hi + 1 - lo).toNat) n) s).1:=by
 refine Vo.2.calls rfl ?_
 simp only [Vo,aJ]
 have aeY:=bk s
 have vy:(AV.nk id).val=true:=rfl
 have cy:(AV.nk id).cells=[.nk id]:=rfl
 have oy:(AV.nk id).one=true:=rfl
 have by':∀ m,(AV.nk id).aZ m=decide (id < m):=fun m=>by simp [AV.aZ]
 have d1:decide (id < (St s).length + 1)=true:=decide_eq_true (by omega)
 have d2':decide ((St s).length < (St s).length + 1)=true:=decide_eq_true (by omega)
 have efn:(Gj n id lo hi (St s).length).ab=.fn (.func 206) [] [.ai (.int .i64 n),.ai (.nk id),.ai (.int .i64 lo),.ai (.int .i64 hi),.ptr (St s).length 0]:=rfl
 simp +contextual only [vy,by',d1,d2',Bool.and_self,Zg,sZ,Nat.reduceEqDiff,Nat.reduceAdd,Nat.reduceLT,↓reduceIte,reduceCtorEq]
 have h:=aaG uK IY hn hy (St s).length n [] s [.cells [Gj n id lo hi (St s).length]] (by simp) (fun x hx=>by cases hx) hs (fun s'=>by rw [← hy.len s' s];simp)
 have em:(iD (dm lo (hi + 1 - lo).toNat) n).map ([]++·)=iD (dm lo (hi + 1 - lo).toNat) n:=by simp
 rw [em] at h
 refine af h ?_
 rintro rr H' ⟨rfl,rfl⟩
 simp +contextual only [sZ,reduceCtorEq]
 refine ⟨(St s).length,Nat.le_refl _,[],trivial,rfl,rfl,?_⟩
 rw [hy.len s _,List.take_left]
theorem Xk (n:Nat) (lo hi:Int):Pure Tryz.prog 166 [.int .i64 n,.int .i64 lo,.int .i64 hi] (.fn (.func 205) [] [.ai (.int .i64 n),.ai (.int .i64 lo),.ai (.int .i64 hi)]):=by
 refine fun H=>Ve.2.calls rfl ?_
 simp only [Ve,aJ]
 simp +contextual only [sZ,Nat.reduceEqDiff,Nat.reduceAdd,↓reduceIte,reduceCtorEq]
 exact bh rfl rfl
end Go.aH
end
section
set_option maxRecDepth 100000
namespace Go.aH
open Go Go.Proofs Go.fm
theorem aaH (x:Int) (r:List Int) (hl:r.length≤1000000000):Pure Tryz.prog 207 [.ap 0 (ints (x::r))] (.int .i64 (r.foldl max x)):=by
 refine fun H=>Vp.2.calls rfl ?_
 simp only [Vp,aJ]
 have ix:IL (.ap 0 (ints (x::r))) (x::r):=.inr rfl
 have n1:(((x::r).length:Int) < 1)=False:=eq_false (by simp;omega)
 have g0':(x::r).getD (0:Int).toNat 0=x:=rfl
 have ll:(x::r).length≤1000000001:=by simp;omega
 generalize ej:x::r=xs at *
 have eM:0 < xs.length:=by rw [← ej];simp
 simp +contextual only [ix.aL,ix.len (by omega),n1,decide_false,ix.lens,ix.idx,g0',sZ,Nat.reduceEqDiff,Nat.reduceAdd,↓reduceIte,reduceCtorEq]
 refine ⟨by omega,?_⟩
 have hsplit:∀ j,j≤r.length→(r.take j).foldl max x=((xs.take (j + 1)).drop 1).foldl max x:=by intro j _;rw [← ej];simp
 refine aP r.length (fun j=>True) (fun j=>[(0,.ap 0 (ints xs)),(3,.int .i64 ((r.take j).foldl max x)),(4,.int .i64 ((j + 1:Nat):Int))]) (fun _=>H) ⟨trivial,aA _ _ _⟩ fun j hj _=>?_
 have GB:xs.length=r.length + 1:=by rw [← ej];simp
 by_cases hjr:j < r.length
 ·have n2:(((j + 1:Nat):Int) < xs.length)=True:=eq_true (by omega)
  have gj:xs.getD (j + 1) 0=r.getD j 0:=by rw [← ej];simp
  have tk:(r.take (j + 1)).foldl max x=max ((r.take j).foldl max x) (r.getD j 0):=by
   rw [List.take_succ_eq_append_getElem hjr,List.foldl_append]
   simp [hjr]
  simp +contextual only [ix.aL,ix.len (by omega),n2,decide_true,ix.lens,ix.idx,Int.toNat_natCast,gj,sZ,Nat.reduceEqDiff,↓reduceIte,reduceCtorEq]
  exact ⟨by omega,j + 1,hjr,by omega,aI (by rw [eu _ (by omega),tk];rfl) rfl⟩
 ·have e:j=r.length:=by omega
  subst e
  have n2:(((r.length + 1:Nat):Int) < xs.length)=False:=eq_false (by omega)
  simp +contextual only [ix.aL,ix.len (by omega),n2,decide_false,sZ,Nat.reduceEqDiff,↓reduceIte,reduceCtorEq]
  exact bh rfl (by rw [List.take_length])
theorem aaJ (l:List Int) {v:AV} (h:IL v l) (hl:l.length≤1000000000) (y:Int):Pure Tryz.prog 111 [v,.int .i64 y] (.int .i64 (kc (fun z=>decide (y=z)) l 0)):=by
 refine fun H=>UO.2.calls rfl ?_
 simp only [UO,aJ]
 obtain ⟨a1,a2,a3,a4⟩:=h.one
 simp +contextual only [a2,h.aL,h.len (by omega),sZ,Nat.reduceEqDiff,Nat.reduceAdd,↓reduceIte,reduceCtorEq]
 refine aP l.length (fun i=>kc (fun z=>decide (y=z)) (l.drop i) i=kc (fun z=>decide (y=z)) l 0) (fun i=>[(0,v),(1,.int .i64 y),(7,.int .i64 l.length),(8,.int .i64 i)]) (fun _=>H) ⟨rfl,aA _ _ _⟩ fun i hi hI=>?_
 by_cases A4:i < l.length
 ·have n1:((i:Int) < l.length)=True:=eq_true (by omega)
  rw [sE A4] at hI
  have egd:l.getD i default=l.getD i 0:=by simp [A4]
  rw [egd] at hI
  simp +contextual only [n1,decide_true,a2,h.lens,h.idx,Int.toNat_natCast,sZ,Nat.reduceEqDiff,↓reduceIte,reduceCtorEq]
  refine ⟨by omega,fun he=>?_,fun eM=>?_⟩
  ·rw [if_pos (by simpa using he)] at hI
   exact bh rfl (by rw [← hI])
  ·rw [if_neg (by simpa using eM)] at hI
   exact ⟨i + 1,⟨A4,hI⟩,by omega,aI (by rw [ax i (by omega)]) rfl⟩
 ·have n1:((i:Int) < l.length)=False:=eq_false (by omega)
  rw [List.drop_of_length_le (by omega)] at hI
  simp +contextual only [n1,decide_false,sZ,Nat.reduceEqDiff,↓reduceIte,reduceCtorEq]
  exact bh rfl (by rw [← hI];rfl)
theorem oL {α:Type} {p:α→Bool}:∀ (l:List α) (i:Nat),0≤kc p l i↔∃ x∈l,p x=true
 | [],i=>by simp [kc]
 | x::r,i=>by
   rw [kc]
   by_cases h:p x=true
   ·rw [if_pos h];exact ⟨fun _=>⟨x,by simp,h⟩,fun _=>by omega⟩
   ·rw [if_neg h,oL r (i + 1)]
    simp [h]
theorem aaK (l:List Int) {v:AV} (h:IL v l) (hl:l.length≤1000000000) (y:Int):Pure Tryz.prog 208 [v,.int .i64 y] (.bool (decide (y∈l))):=by
 refine fun H=>Vq.2.calls rfl ?_
 simp only [Vq,aJ]
 obtain ⟨a1,a2,a3,a4⟩:=h.one
 simp +contextual only [a2,sZ,Nat.reduceEqDiff,Nat.reduceAdd,↓reduceIte,reduceCtorEq]
 refine ae (aaJ l h hl y) ?_
 simp +contextual only [sZ,↓reduceIte,reduceCtorEq]
 refine bh rfl ?_
 congr 1
 rw [decide_eq_decide,oL]
 simp
def De (l:List Int):Int:=l.foldl max (-1)
def n9 (l:List Int):Bool:=(List.range (De l + 1).toNat).all fun j=>decide ((j:Int)∈l)
theorem foldl_max:∀ (l:List Int) (x b:Int),x≤b→(∀ y∈l,y≤b)→x≤l.foldl max x∧l.foldl max x≤b
 | [],x,b,h,_=>⟨Int.le_refl _,h⟩
 | y::r,x,b,h,hr=>by
   have h1:=hr y (by simp)
   have:=foldl_max r (max x y) b (by omega) (fun z hz=>hr z (by simp [hz]))
   rw [List.foldl_cons];omega
theorem aaL (l:List Int) {v:AV} (h:IL v l) (hl:l.length≤100000000) (hb:∀ x∈l,x≤1000000):Pure Tryz.prog 167 [v] (.bool (n9 l)):=by
 refine fun H=>Vf.2.calls rfl ?_
 simp only [Vf,aJ]
 obtain ⟨a1,a2,a3,a4⟩:=h.one
 have UB:∀ ψ:List AV→Prop,bp 1 8 (.ap 1 [.int .i64 (-1)]) v ψ=ψ (ints (-1::l)):=by
  intro ψ
  have hr:dw v=some (ints l):=by
   rcases h with rfl | rfl
   ·cases l <;> rfl
   ·rfl
  have Yv:mO 1 (.ap 1 [.int .i64 (-1)])=some [.int .i64 (-1)]:=rfl
  have ok:sR 1 (ints l):=of_eq_true (ms l)
  simp only [bp,Yv,hr,eq_iff_iff]
  exact ⟨fun h=>h.2.2,fun k=>⟨by simp [aw];omega,ok,k⟩⟩
 have hm:=foldl_max l (-1) 1000000 (by omega) hb
 simp +contextual only [a2,UB,sZ,Nat.reduceEqDiff,Nat.reduceAdd,↓reduceIte,reduceCtorEq]
 refine ae (aaH (-1) l (by omega)) ?_
 have em:l.foldl max (-1)=De l:=rfl
 rw [em] at hm ⊢
 have hw:IntKind.i64.wrap (De l + 1)=De l + 1:=eu _ (by omega)
 simp +contextual only [hw,sZ,Nat.reduceEqDiff,↓reduceIte,reduceCtorEq]
 refine aP (De l + 1).toNat (fun j=>∀ i,i < j→(i:Int)∈l) (fun j=>[(0,v),(8,.int .i64 (De l + 1)),(9,.int .i64 j)]) (fun _=>H) ⟨fun i hi=>by omega,aA _ _ _⟩ fun j hj hI=>?_
 by_cases hjm:(j:Int) < De l + 1
 ·simp +contextual only [hjm,decide_true,a2,sZ,Nat.reduceEqDiff,Nat.reduceAdd,↓reduceIte,reduceCtorEq]
  refine ae (aaK l h (by omega) j) ?_
  by_cases Ds:(j:Int)∈l
  ·simp +contextual only [Ds,decide_true,Bool.not_true,sZ,Nat.reduceEqDiff,↓reduceIte,reduceCtorEq]
   refine ⟨j + 1,⟨by omega,fun i hi=>?_⟩,by omega,aI (by rw [ax j (by omega)]) rfl⟩
   by_cases e:i=j
   ·subst e;exact Ds
   ·exact hI i (by omega)
  ·simp +contextual only [Ds,decide_false,Bool.not_false,sZ,Nat.reduceEqDiff,↓reduceIte,reduceCtorEq]
   refine bh rfl ?_
   congr 1
   have:n9 l=false:=by
    unfold n9
    rw [List.all_eq_false]
    exact ⟨j,List.mem_range.2 (by omega),by simpa using Ds⟩
   rw [this]
 ·have e:j=(De l + 1).toNat:=by omega
  simp +contextual only [hjm,decide_false,sZ,Nat.reduceEqDiff,↓reduceIte,reduceCtorEq]
  refine bh rfl ?_
  congr 1
  have:n9 l=true:=by
   unfold n9
   rw [List.all_eq_true]
   intro i hi
   exact decide_eq_true (hI i (by rw [e];exact List.mem_range.1 hi))
  rw [this]
end Go.aH
end
section
set_option maxRecDepth 100000
namespace Go.aH
open Go Go.Proofs Go.fm
open Classical in
noncomputable def wB (t:Ty) (ops pl st:List Int):Bool:=decide (je t.s (pN t.s.ops.length ops pl) (sF t.s.ops.length ops st)=0∧fD t (pN t.s.ops.length ops pl) (sF t.s.ops.length ops st) < 0)
abbrev Fo:=Option (List Int×List Int)
noncomputable def dB (t:Ty) (ops pl:List Int) (s:Fo) (st:List Int):Fo×Bool:=if wB t ops pl st=true then (some (pN t.s.ops.length ops pl,sF t.s.ops.length ops st),false) else (s,true)
noncomputable def fh (t:Ty) (ops:List Int) (s:Fo) (pl:List Int):Fo×Bool:=if n9 pl=true then eW (dB t ops pl) (iD (dm 1 3) ops.length) s else (s,true)
noncomputable def xv (t:Ty) (ops:List Int):Fo:=(eW (fh t ops) (iD (dm 0 ops.length) ops.length) none).1
def o4 (s:Fo):aa:=match s with | none=>.cells [.ah,.ah] | some (P,S)=>.cells [.ap 0 (ints P),.ap 0 (ints S)]
def o5 (s:Fo):aa:=.cells [.bool s.isSome]
noncomputable def iO (s:Fo):TL:=if s.isSome=true then .jump .ret else .ready
theorem AO:a9.n=41:=by kernel_rfl
theorem AP:bw.n=41:=by kernel_rfl
theorem wC:a9.ps=[15]:=by kernel_rfl
theorem wD:bw.ps=[22]:=by kernel_rfl
theorem K3 {n0 id:Nat} {R:AV→List aa→Prop} {H:List aa} {lc:iH} {es:List AV} (h:H[id]?=some (.loop .busy lc es)):qk n0 id R .ret H=Hb n0 false (H.set id (.loop (.jump .ret) lc es)) R:=by
 unfold qk;rw [h]
theorem Df {id:Nat} {H:List aa} {K:Option Code→List aa→Prop} {lc:iH} {es:List AV} {c:Code} (h:H[id]?=some (.loop (.jump c) lc es)):behind id H K=K (some c) (H.set id (.loop .eI lc es)):=by
 unfold behind;rw [h]
theorem AQ (t:Ty) (ops pl:List Int):∀ (a:List (List Int)) (s:Fo),s=none→(eW (dB t ops pl) a s).2=(eW (dB t ops pl) a s).1.isNone
 | [],s,h=>by subst h;rfl
 | l::r,s,h=>by
   subst h
   rw [eW]
   by_cases ht:wB t ops pl l=true
   ·have e:dB t ops pl none l=(some (pN t.s.ops.length ops pl,sF t.s.ops.length ops l),false):=if_pos ht
    rw [e];rfl
   ·have e:dB t ops pl none l=(none,true):=if_neg ht
    rw [e]
    exact AQ t ops pl r none rfl
structure xw (t:Ty):Prop where
 n:t.s.ops.length≤1000000000
 eq:∀ e∈t.es,∀ ps:List Int,ps.length=t.s.ops.length→K0 ps e
theorem K4 (n:Nat) (ops pl:List Int):(pN n ops pl).length=n:=by unfold pN;rw [wz];simp
theorem uy (A:List aa) (x:aa) (Y:List aa) (k:Nat) (h:A.length=k):(A++x::Y)[k]?=some x:=by subst h;simp
theorem uz (A:List aa) (x y:aa) (Y:List aa) (k:Nat) (h:A.length=k):(A++x::Y).set k y=A++y::Y:=by subst h;simp
def fo (H W:List aa) (s:Fo):List aa:=H++o4 s::o5 s::W
theorem eV (H W:List aa) (s:Fo):(fo H W s).length=H.length + 2 + W.length:=by simp [fo];omega
theorem Qg (H W Y:List aa) (s:Fo):(fo H W s++Y)[H.length]?=some (o4 s):=by rw [List.getElem?_append_left (by rw [eV];omega)];simp [fo]
theorem Qh (H W Y:List aa) (s:Fo):(fo H W s++Y)[H.length + 1]?=some (o5 s):=by rw [List.getElem?_append_left (by rw [eV];omega)];simp [fo]
theorem Tr (H W Y:List aa) (s:Fo) (P S:List Int):((fo H W s++Y).set H.length (.cells [.ap 0 (ints P),.ap 0 (ints S)])).set (H.length + 1) (.cells [.bool true])=fo H W (some (P,S))++Y:=by
 rw [List.set_append_left _ _ (by rw [eV];omega),List.set_append_left _ _ (by rw [List.length_set,eV];omega)]
 simp [fo,o4,o5]
theorem Ts {s:Sg} {ps ss:List Int} (h:je s ps ss=0):Va ps ss:=(wg.1 h).2.va
theorem K5 {t:Ty} (ht:xw t) {ops:List Int} {vo:AV} (ho:IL vo ops) (hr:∀ i∈ops,0≤i∧i < t.s.ops.length) (j3:ops.length≤1000000) {pl:List Int} (wN:pl.length=ops.length) (H W:List aa) (es:List AV) (zj:es=kH 41 [(2,.ai t.av),(3,.ai vo),(4,.ptr H.length 0),(5,.ptr (H.length + 1) 0),(6,.ai (bm pl)),(21,.fn (.func 205) [] [.ai (.int .i64 ops.length),.ai (.int .i64 1),.ai (.int .i64 3)])])
 (l:List Int) (hl:l.length=ops.length) (Y:List aa) (id:Nat) (bk:id=H.length + 2 + W.length) :
 jH Tryz.prog id [bm l] (fo H W none++.loop .ready bw es::Y) fun r H'=>r=.bool (dB t ops pl none l).2∧H'=fo H W (dB t ops pl none l).1++.loop (iO (dB t ops pl none l).1) bw es::Y:=by
 have ees:es=[.any,.any,.ai t.av,.ai vo,.ptr H.length 0,.ptr (H.length + 1) 0,.ai (bm pl),.any,.any,.any,.any,.any,.any,.any,.any,.any,.any,.any,.any,.any,.any,.fn (.func 205) [] [.ai (.int .i64 ops.length),.ai (.int .i64 1),.ai (.int .i64 3)],.any,.any,.any,.any,.any,.any,.any,.any,.any,.any,.any,.any,.any,.any,.any,.any,.any,.any,.any]:=by rw [zj];rfl
 have hk:∀ s,(fo H W s).length=id:=fun s=>by rw [eV,bk]
 have e0:∀ s st,(fo H W s++aa.loop st bw es::Y)[id]?=some (.loop st bw es):=fun s st=>uy _ _ _ _ (hk s)
 have gB:∀ s st st',(fo H W s++aa.loop st bw es::Y).set id (.loop st' bw es)=fo H W s++aa.loop st' bw es::Y:=fun s st st'=>uz _ _ _ _ _ (hk s)
 have hlen:∀ s st,(fo H W s++aa.loop st bw es::Y).length=(fo H W none++aa.loop .ready bw es::Y).length:=fun s st=>by rw [List.length_append,List.length_append,hk,hk];rfl
 refine ot (lc:=bw) (es:=es) (e0 none .ready) QW QX ⟨by rw [ees,AP];rfl,by rw [wD];rfl,by rw [wD,AP];rfl,?_,?_⟩ (wo ?_)
 ·rw [ees];intro x hx;simp only [List.mem_cons,List.not_mem_nil,or_false] at hx
  repeat' (first | (rcases hx with hx | hx;· subst hx;rfl) | (subst hx;rfl))
 ·intro x hx;simp only [List.mem_cons,List.not_mem_nil,or_false] at hx;subst hx;exact (aC l).2.1
 ·have ez:(bw.ps.zip [bm l]).reverse++bX 0 es=(22,bm l)::bX 0 es:=by rw [wD];rfl
  rw [ez]
  generalize xx:bX 0 es=ea
  have g2:get ea 2=.ai t.av:=by rw [← xx,ees];rfl
  have g3:get ea 3=.ai vo:=by rw [← xx,ees];rfl
  have g4:get ea 4=.ptr H.length 0:=by rw [← xx,ees];rfl
  have g5:get ea 5=.ptr (H.length + 1) 0:=by rw [← xx,ees];rfl
  have g6:get ea 6=.ai (bm pl):=by rw [← xx,ees];rfl
  simp only [Jp,Jq]
  have hb:∀ K,jO id (fo H W none++.loop .ready bw es::Y) K=K (fo H W none++.loop .busy bw es::Y):=fun K=>by rw [sC (e0 none .ready),gB]
  obtain ⟨e1,e2,e3,e4,e5,e6⟩:=Ty.facts t
  obtain ⟨a1,a2,a3,a4⟩:=ho.one
  obtain ⟨b1,b2,b3,b4,b5⟩:=aC pl
  obtain ⟨c1,c2,c3,c4,c5⟩:=aC l
  have lvo:∀ (H:List aa) (φ:AV→Prop),aR none (.ai vo) H φ=φ vo:=fun H φ=>by simp [aR,a1,a2]
  obtain ⟨q1,q2,q3,q4,q5,q6⟩:=bF (pN t.s.ops.length ops pl) (sF t.s.ops.length ops l)
  simp +contextual only [g2,g3,g4,g5,g6,c2,hb,eU,lvo,bT,b2,a2,e4,sZ,Nat.reduceEqDiff,Nat.reduceAdd,↓reduceIte]
  refine ae (aaF t ops pl l ho (.inl rfl) (.inl rfl) wN hl hr ht.n (by omega)) ?_
  generalize hP:pN t.s.ops.length ops pl=P at *
  generalize hS:sF t.s.ops.length ops l=S at *
  simp +contextual only [aU,q1,q2,q3,q4,A8,bU,sZ,Nat.reduceEqDiff,Nat.reduceAdd,↓reduceIte]
  refine ae (c24 t.s P S) ?_
  have endN:∀ n0,n0=id + (Y.length + 1)→dB t ops pl none l=(none,true)→qk n0 id (fun r H'=>r=.bool (dB t ops pl none l).2∧H'=fo H W (dB t ops pl none l).1++.loop (iO (dB t ops pl none l).1) bw es::Y) .normal (fo H W none++.loop .busy bw es::Y):=by
   intro n0 Ma bO
   rw [E1 (e0 none .busy),gB,bO]
   refine ⟨by rw [hlen,List.length_append,hk];simp;omega,rfl,?_⟩
   rw [List.take_of_length_le (by rw [hlen,List.length_append,hk];simp;omega)]
   rfl
  have endR:∀ n0,n0=id + (Y.length + 1)→dB t ops pl none l=(some (P,S),false)→qk n0 id (fun r H'=>r=.bool (dB t ops pl none l).2∧H'=fo H W (dB t ops pl none l).1++.loop (iO (dB t ops pl none l).1) bw es::Y) .ret (fo H W (some (P,S))++.loop .busy bw es::Y):=by
   intro n0 Ma bO
   rw [K3 (e0 _ .busy),gB,bO]
   refine ⟨by rw [hlen,List.length_append,hk];simp;omega,rfl,?_⟩
   rw [List.take_of_length_le (by rw [hlen,List.length_append,hk];simp;omega)]
   rfl
  by_cases h0:je t.s P S=0
  ·simp +contextual only [h0,eU,bU,e4,q4,sZ,Nat.reduceEqDiff,Nat.reduceAdd,↓reduceIte]
   refine ae (c89 t P S (Ts h0) (fun e he=>ht.eq e he P (by rw [← hP];exact K4 _ _ _))) ?_
   by_cases h1:fD t P S < 0
   ·have bO:dB t ops pl none l=(some (P,S),false):=by
     rw [dB,if_pos (by rw [wB,hP,hS];exact decide_eq_true ⟨h0,h1⟩),hP,hS]
    have k4:=Qg H W (.loop .busy bw es::Y) none
    have k5:∀ o,((fo H W none++.loop .busy bw es::Y).set H.length o)[H.length + 1]?=some (o5 none):=fun o=>by rw [List.getElem?_set_ne (by omega),Qh]
    have ks:=Tr H W (.loop .busy bw es::Y) none P S
    have o4n:o4 none=.cells [.ah,.ah]:=rfl
    have o5n:o5 none=.cells [.bool false]:=rfl
    rw [o4n] at k4
    simp only [o5n] at k5
    have qu:(gn P S).cells.map AV.ab=[.ap 0 (ints P),.ap 0 (ints S)]:=rfl
    have sp2:∀ (a b x y:AV),ag [a,b] 0 [x,y]=[x,y]:=fun _ _ _ _=>rfl
    have fb:∀ m,aj m [AV.ap 0 (ints P),.ap 0 (ints S)]=true:=fun m=>by simp [bG,cZ,b8,aY]
    simp +contextual only [h1,decide_true,bU,k4,k5,ks,q1,q2,q3,qu,sp2,fb,Bool.and_self,sZ,Nat.reduceEqDiff,Nat.reduceAdd,↓reduceIte]
    first
     | exact endR _ (by rw [hk]) bO
     | exact endR _ (by rw [hlen,List.length_append,hk];rfl) bO
   ·simp +contextual only [h1,decide_false,sZ,Nat.reduceEqDiff,↓reduceIte]
    have bO:dB t ops pl none l=(none,true):=by
     rw [dB,if_neg (by rw [wB,hP,hS];simp [h1])]
    exact endN _ (by rw [hk]) bO
  ·simp +contextual only [h0,decide_false,sZ,Nat.reduceEqDiff,↓reduceIte]
   have bO:dB t ops pl none l=(none,true):=by
    rw [dB,if_neg (by rw [wB,hP,hS];simp [h0])]
   exact endN _ (by rw [hk]) bO
end Go.aH
end
