/- Part 12 of 15 of the proof. -/
import Derived.Test.YtljchnfgjdjobaaGreatVak
import Derived.Test.YtljchnfgjdjobaaGreatVag
import Derived.KernelRfl
set_option linter.unusedVariables false
set_option linter.unusedSimpArgs false
set_option linter.defProp false
set_option linter.unusedSectionVars false
section
set_option maxRecDepth 100000
namespace Go.aL
open Go Go.Proofs Go.fN
structure PA (c:Cx) (H:List aa) (x y:Nat) (i k:Int) (G:List aa):Prop where
 du:Du c G
 gx:G[x]?=some (.cells [bu (c.kd i)])
 gy:G[y]?=some (.cells [bu (c.kd k)])
 g6:G[H.length]?=some (.cells [.int .i64 0,.int .i64 0,.ah,.ah])
 len:G.length=H.length + 3
 up:∀ j,j < H.length→j≠c.e→j≠c.g→G[j]?=H[j]?
theorem PA.call {c:Cx} {H G G':List aa} {x y:Nat} {i k:Int} (hD:Du c H) (w:XY H x y) (h:PA c H x y i k G) (hU:Up c G G') (jH:Du c G'):PA c H x y i k G':=by
 obtain ⟨l1,l2,l3⟩:=hD.lt
 obtain ⟨w1,w2,w3,w4⟩:=w
 exact ⟨jH,by rw [hU.get x (by omega) (by omega),h.gx],by rw [hU.get y (by omega) (by omega),h.gy],by rw [hU.get _ (by omega) (by omega),h.g6],by rw [hU.len,h.len],fun j h1 h2 h3=>by rw [hU.get j h2 h3,h.up j h1 h2 h3]⟩
theorem PA.rp {c:Cx} {H G:List aa} {x y:Nat} {i k:Int} (w:XY H x y) (h:PA c H x y i k G) (es:List AV):PB c H x y i k es (G++[.cells es]):=by
 obtain ⟨w1,w2,w3,w4⟩:=w
 have hl:=h.len
 exact ⟨h.du.rp _,by rw [List.getElem?_append_left (by omega),h.gx],by rw [List.getElem?_append_left (by omega),h.gy],by rw [List.getElem?_append_left (by omega),h.g6],by rw [← hl];simp,by simp [hl],fun j h1 h2 h3=>by rw [List.getElem?_append_left (by omega),h.up j h1 h2 h3]⟩
theorem bdP (r:Int) (φ:AV→Prop):cA [.int .i64 0,.int .i64 0,.ah,.ah] [(0,1,.int .i64 r)] φ=φ (.agg [.int .i64 r,.int .i64 0,.ah,.ah]):=by
 simp only [cA,gO,eq_iff_iff]
 constructor
 ·rintro ⟨_,_,_,h⟩;exact h
 ·exact fun h=>⟨rfl,rfl,by simp,h⟩
theorem PB.fin {c:Cx} {H G:List aa} {x y:Nat} {i k:Int} {r i':Int} {to:List Int} {l:List PP} (hD:Du c H) (h:PB c H x y i k [.int .i64 r,.int .i64 i',uk to,pk l] G) (hs:Sh c.O (.mk r i' to l) (c.tm i) (c.tm k)) :
 ze H.length (eC (.mk r i' to l)) (G.set H.length (.cells (eC (.mk r i' to l)).cells)) (ZB c i k H):=by
 obtain ⟨l1,l2,l3⟩:=hD.lt
 refine Ro (G:=(G.set H.length (.cells (eC (.mk r i' to l)).cells)).take H.length) rfl (gg _ _) rfl ⟨_,rfl,hs,⟨?_,fun j h1 h2=>?_⟩,?_⟩
 ·have:=h.len;simp;omega
 ·rw [List.getElem?_take]
  split
  ·rename_i hj;rw [List.getElem?_set_ne (by omega),h.up j hj h1 h2]
  ·rename_i hj;rw [List.getElem?_eq_none (by omega)]
 ·exact (h.du.set (by omega) (by omega) (by omega)).take l1 l2 l3
theorem Ed (p:PP) (φ:AV→Prop):dm (some (.cells (eC p).cells)) (some 4) 0 φ=φ (eC p):=by
 obtain ⟨_,h2,_,_,_,_,h7,h8,_⟩:=a7 p
 simp only [dm,List.drop_zero,h2,List.take_of_length_le (Nat.le_of_eq h2),h8,h7]
 simp
theorem R5 (p:PP):ag [AV.int .i64 0,.int .i64 0,.ah,.ah] 0 (eC p).cells=(eC p).cells:=by rw [oB];rfl
theorem vi {c:Cx} (hc:c.Ok) {i k:Int} (hi:c.dV i) (hk:c.dV k):Hv c i k:=by
 have ki:=hc.kids i hi
 have kk:=hc.kids k hk
 exact ⟨fun H hD=>Y2 hc hi (fun x hx=>ku hc (ki.2 x hx) hk) (fun x hx=>kv hc (ki.2 x hx) hk) hD,fun H hD=>Y3 hc hi hk (fun y hy=>kv hc hi (kk.2 y hy)) hD,
  fun H hD=>Y5 hc hi hk (fun y hy=>kv hc hi (kk.2 y hy)) (fun x hx y hy=>ku hc (ki.2 x hx) (kk.2 y hy)) (fun x hx y hy=>kv hc (ki.2 x hx) (kk.2 y hy)) hD,
  fun H hD=>Zb hc hi hk (fun x hx y hy=>ku hc (ki.2 x hx) (kk.2 y hy)) (fun x hx y hy=>kv hc (ki.2 x hx) (kk.2 y hy)) hD⟩
theorem ZC {c:Cx} (hc:c.Ok) {i k:Int} (hi:c.dV i) (hk:c.dV k) (hR:R c.O (c.tm i) (c.tm k)) (hr:g9 c i k 1) (jW:∀ m,m < 1→¬ g9 c i k m) (hp:∀ x∈c.kd i,R c.O (c.tm x) (c.tm k)→pn c x k):pn c i k:=by
 intro H hD
 refine Ea.2.calls rfl ?_
 simp only [Ea,aF]
 have k2:∀ l,(bu l).ab=bu l:=fun l=>(aH l).2.1
 have ki:=hc.kids i hi
 have kk:=hc.kids k hk
 have l1:=hc.kl i hi
 have l2:=hc.kl k hk
 obtain ⟨a1,a2,a3,a4,a5⟩:=aH (c.kd i)
 obtain ⟨b1,b2,b3,b4,b5⟩:=aH (c.kd k)
 have ii:IL (bu (c.kd i)) (c.kd i):=.inl rfl
 have ik:IL (bu (c.kd k)) (c.kd k):=.inl rfl
 have ei:(c.nd.getD i.toNat default).snd=c.kd i:=rfl
 have ek:(c.nd.getD k.toNat default).snd=c.kd k:=rfl
 obtain ⟨m1,m2,m3⟩:=hD.lt
 have ed:∀ X:List aa,(H++X)[c.d]?=H[c.d]?:=fun X=>List.getElem?_append_left m1
 have spv:∀ x:AV,ag [AV.ah] 0 [x]=[x]:=fun x=>rfl
 have spq:ag [AV.int .i64 0,.int .i64 0,.ah,.ah] 0 [AV.int .i64 0,.int .i64 0,.ah,.ah]=[AV.int .i64 0,.int .i64 0,.ah,.ah]:=rfl
 simp +contextual only [sZ,Nat.reduceEqDiff,Nat.reduceAdd,↓reduceIte,reduceCtorEq]
 refine lR (K1:=fun e G=>get e 1=.int .i64 i∧get e 3=.ai (.ptr c.d 0)∧get e 5=.ai (.int .i64 k)∧get e 6=.ptr H.length 0∧∃ x y,get e 7=.ptr x 0∧get e 8=.ptr y 0∧XY H x y∧PA c H x y i k G) ?_ ?_
 ·have P0:aa:=.cells [.int .i64 0,.int .i64 0,.ah,.ah]
  have A:∃ x y,AV.ptr (H.length + 1) 0=.ptr x 0∧AV.ptr (H.length + 2) 0=.ptr y 0∧XY H x y∧PA c H x y i k (H++[.cells [.int .i64 0,.int .i64 0,.ah,.ah],.cells [bu (c.kd i)],.cells [bu (c.kd k)]]):=
   ⟨_,_,rfl,rfl,⟨by omega,by omega,by omega,by omega⟩,⟨hD.rp _,by simp,by simp,by simp,by simp,fun j hj _ _=>List.getElem?_append_left hj⟩⟩
  have B:∃ x y,AV.ptr (H.length + 2) 0=.ptr x 0∧AV.ptr (H.length + 1) 0=.ptr y 0∧XY H x y∧PA c H x y i k (H++[.cells [.int .i64 0,.int .i64 0,.ah,.ah],.cells [bu (c.kd k)],.cells [bu (c.kd i)]]):=
   ⟨_,_,rfl,rfl,⟨by omega,by omega,by omega,by omega⟩,⟨hD.rp _,by simp,by simp,by simp,by simp,fun j hj _ _=>List.getElem?_append_left hj⟩⟩
  simp +contextual only [ed,hD.d,mS,Ev,cJ,bV,k2,ei,ek,a1,a3,a4,a5,b1,b3,b4,b5,List.map_cons,List.map_nil,spv,List.all_cons,List.all_nil,Bool.and_true,bH,cP,sZ,Nat.reduceEqDiff,Nat.reduceAdd,Nat.reduceLT,↓reduceIte]
  refine ⟨hi,?_⟩
  repeat' apply And.intro
  all_goals first | exact hk.1 | exact hk.2 | exact A | exact B
 ·rintro e G ⟨e1,e3,e5,e6,x,y,e7,e8,w,BL⟩
  simp +contextual only [e1,e3,e5,e6,e7,e8,sZ,Nat.reduceEqDiff,↓reduceIte]
  refine aJ 0 (fun m (G:List aa)=>PA c H x y i k G)
   (fun m G=>[(1,.int .i64 i),(3,.ai (.ptr c.d 0)),(5,.ai (.int .i64 k)),(6,.ptr H.length 0),(7,.ptr x 0),(8,.ptr y 0),(9,.int .i64 ((m + 1:Nat):Int))]) (fun m G=>G) G ⟨BL,aA _ _ _⟩ fun m G hm BL=>?_
  have hf:ew.cells[m + 1]?=some (.fn (.func (182 + (m + 1))) [] []):=by
   have:m=0∨m=1∨m=2∨m=3:=by omega
   rcases this with rfl | rfl | rfl | rfl <;> rfl
  have en:=V7 (m + 1) _ hf (by omega)
  simp +contextual only [sZ]
  refine aE Mm ?_
  simp +contextual only [mJ,en _ rfl,sZ,Nat.reduceEqDiff,Nat.reduceAdd,↓reduceIte,reduceCtorEq]
  refine af ((vi hc hi hk).at (n:=m + 1) (by omega) (by omega) BL.du) ?_
  rintro r G1 ⟨z,rfl,hz,hU,nA⟩
  have qk:=BL.call hD w hU nA
  by_cases RC:m=0
  rotate_left
  ·have:z=false:=by
    cases z with
    | false=>rfl
    | true=>exact absurd (hz.1 rfl) (jW (m + 1) (by omega))
   subst this
   simp +contextual only [Bool.not_false,sZ,Nat.reduceEqDiff,↓reduceIte]
   exact ⟨m + 1,G1,⟨by omega,qk⟩,by omega,aC (by rw [au (m + 1) (by omega)]) rfl⟩
  subst RC
  have:z=true:=hz.2 hr
  subst this
  have yv:=qk.len
  have lh:=fun es=>qk.rp w es
  have Vn:=fun es=>(lh es).gp
  have Qc:=fun es=>(lh es).gx
  have ZD:=fun es=>(lh es).gy
  have bS:∀ (o o':aa),(G1++[o]).set (H.length + 3) o'=G1++[o']:=fun o o'=>by rw [← yv];simp
  have ec:((1:Nat):Int)=1:=rfl
  have zf:List.map AV.ab [AV.int .i64 (1:Int),.int .i64 0,.ah,.ah]=[.int .i64 (1:Int),.int .i64 0,.ah,.ah]:=rfl
  have zf0:List.map AV.ab [AV.int .i64 0,.int .i64 0,.ah,.ah]=[.int .i64 0,.int .i64 0,.ah,.ah]:=rfl
  have e86:∀ a b:Int,decide (a=b)=decide (a=b):=fun _ _=>rfl
  simp +contextual only [k2,decide_true,Bool.not_true,Bool.not_true,bdP,yv,Vn,bS,ec,zf,zf0,JC,Qc,sZ,Nat.reduceEqDiff,Nat.reduceAdd,Nat.reduceLT,↓reduceIte,reduceCtorEq]
  have mY:=lh [.int .i64 1,.int .i64 0,.ah,.ah]
  generalize G1++[aa.cells [AV.int .i64 1,.int .i64 0,.ah,.ah]]=G2 at mY ⊢
  have fJ:∃ z∈c.kd i,E c.O (c.tm z) (c.tm k)∨R c.O (c.tm z) (c.tm k):=by
   rcases hr with h | h | h | h
   ·exact h.2
   all_goals (exact absurd h.1 (by decide))
  refine af (Mi (SD.Bu c G2) ii (by omega) 147 [] [.ai (.ptr c.d 0),.ai (.int .i64 k)] rfl rfl (Q:=fun z=>E c.O (c.tm z) (c.tm k)∨R c.O (c.tm z) (c.tm k))
   (fun z hz G hG=>(ac8 (ku hc (ki.2 z hz) hk) (kv hc (ki.2 z hz) hk) hG.1).mono fun r H' hr=>hr.sb hG) ⟨mY.du,Up.refl c _⟩) ?_
  rintro r G3 ⟨hG3,uC⟩
  rcases uC with ⟨_,uC⟩ | ⟨q,rfl,hq,hQ,_⟩
  ·obtain ⟨z,hz,h⟩:=fJ
   exact absurd h (uC z hz)
  have BK:=mY.call hD w hG3.2 hG3.1
  have pO:=fun es=>BK.set (es':=es) hD w
  have gp3:=BK.gp
  have gps:=fun es=>(pO es).gp
  have gxs:=fun es=>(pO es).gx
  have g6s:=fun es=>(pO es).g6
  have je:(c.kd i).getD q 0∈c.kd i:=aP hq
  have un1:List.map AV.ab [AV.int .i64 (q:Int)]=[.int .i64 (q:Int)]:=rfl
  simp +contextual only [k2,ii.lens,ii.idx,gp3,Vm,un1,gps,gxs,Int.toNat_natCast,sZ,Nat.reduceEqDiff,Nat.reduceAdd,Nat.reduceLT,Nat.reduceLeDiff,↓reduceIte,reduceCtorEq]
  refine ⟨by omega,?_⟩
  refine af (ku hc (ki.2 _ je) hk _ (pO _).du) ?_
  rintro r G4 ⟨v,rfl,hv,V4,V5⟩
  have xn:=(pO _).call hD w V4 V5
  have gp4:=xn.gp
  have gx4:=xn.gx
  have g64:=xn.g6
  have cod:∀ l:List PP,((c.tm i).l.getD q default)=c.tm ((c.kd i).getD q 0):=fun _=>by rw [← ki.1,cu hq]
  have klen:(c.tm i).l.length=(c.kd i).length:=by rw [← ki.1];simp
  have ki2:(c.tm i).k=2:=by
   have:=(s9 hc hi hk).1
   have hh:=(rD.1 (show R c.O (c.tm i) (c.tm k) from hR)).1
   exact hh
  cases v with
  | true=>
    have hs:Sh c.O (.mk 1 q [] []) (c.tm i) (c.tm k):=by
     rw [Sh1 rfl ki2]
     refine ⟨rfl,⟨by show (0:Int)≤q;omega,by show (q:Int) < _;omega⟩,.inl ⟨rfl,?_⟩⟩
     show E c.O ((c.tm i).l.getD (q:Int).toNat default) (c.tm k)
     rw [Int.toNat_natCast,cod []];exact hv.1 rfl
    have e4:(AV.int .i64 (q:Int))=AV.int .i64 (q:Int):=rfl
    have lp:=R3 1 q [] []
    obtain ⟨q1,q2,q3,q4,q5,q6,q7,q8,q9⟩:=a7 (.mk 1 q [] [])
    have lp2:=Ed (.mk 1 q [] [])
    have MF:(G4.set H.length (.cells (eC (.mk 1 q [] [])).cells))[H.length]?=some (.cells (eC (.mk 1 q [] [])).cells):=by rw [List.getElem?_set_self (aO g64)]
    change ∀ φ,dm (some (.cells [.int .i64 1,.int .i64 (q:Int),.ah,.ah])) (some 4) 0 φ=φ (eC (.mk 1 q [] [])) at lp
    simp +contextual only [Bool.not_true,gp4,lp,g64,q1,q2,q3,q9,R5,MF,lp2,sZ,Nat.reduceEqDiff,Nat.reduceAdd,↓reduceIte,reduceCtorEq]
    refine ⟨by first | exact cD (gg _ _) | omega,xn.fin hD hs⟩
  | false=>
    have hRx:R c.O (c.tm ((c.kd i).getD q 0)) (c.tm k):=hQ.resolve_left fun h=>absurd (hv.2 h) (by simp)
    simp +contextual only [k2,ii.lens,ii.idx,Bool.not_false,gp4,gx4,Int.toNat_natCast,sZ,Nat.reduceEqDiff,Nat.reduceAdd,Nat.reduceLT,↓reduceIte,reduceCtorEq]
    refine ⟨by omega,af (hp _ je hRx _ xn.du) ?_⟩
    rintro r G5 ⟨u,rfl,hu,ZE,ZF⟩
    have MG:=xn.call hD w ZE ZF
    have gp5:=MG.gp
    have Gh:=fun es=>MG.set (es':=es) hD w
    have gp6:=fun es=>(Gh es).gp
    have g66:=fun es=>(Gh es).g6
    have hs:Sh c.O (.mk 1 q [] [u]) (c.tm i) (c.tm k):=by
     rw [Sh1 rfl ki2]
     refine ⟨rfl,⟨by show (0:Int)≤q;omega,by show (q:Int) < _;omega⟩,.inr ⟨u,rfl,?_⟩⟩
     show Sh c.O u ((c.tm i).l.getD (q:Int).toNat default) (c.tm k)
     rw [Int.toNat_natCast,cod []];exact hu
    have lp:=R3 1 q [] [u]
    change ∀ φ,dm (some (.cells [.int .i64 1,.int .i64 (q:Int),.ah,.al 4 [eC u]])) (some 4) 0 φ=φ (eC (.mk 1 q [] [u])) at lp
    obtain ⟨q1,q2,q3,q4,q5,q6,q7,q8,q9⟩:=a7 (.mk 1 q [] [u])
    obtain ⟨u1,u2,u3,u4,u5,u6,u7,u8,u9⟩:=a7 u
    have lp2:=Ed (.mk 1 q [] [u])
    have MF:=fun es=>List.getElem?_set_self (a:=aa.cells (eC (.mk 1 q [] [u])).cells) (aO (g66 es))
    simp +contextual only [gp5,gp6,g66,lp,q1,q2,q3,q9,R5,MF,lp2,u1,u2,u6,jP,s3,sZ,Nat.reduceEqDiff,Nat.reduceAdd,Nat.reduceLT,↓reduceIte,reduceCtorEq]
    refine ⟨by first | exact cD (gg _ _) | omega,?_⟩
    exact PB.fin (to:=[]) (l:=[u]) hD (Gh _) hs
end Go.aL
end
section
set_option maxRecDepth 100000
namespace Go.aL
open Go Go.Proofs Go.fN
theorem ZG {c:Cx} (hc:c.Ok) {i k:Int} (hi:c.dV i) (hk:c.dV k) (hR:R c.O (c.tm i) (c.tm k)) (hr:g9 c i k 2) (jW:∀ m,m < 2→¬ g9 c i k m) (hp:∀ y∈c.kd k,R c.O (c.tm i) (c.tm y)→pn c i y):pn c i k:=by
 intro H hD
 refine Ea.2.calls rfl ?_
 simp only [Ea,aF]
 have k2:∀ l,(bu l).ab=bu l:=fun l=>(aH l).2.1
 have ki:=hc.kids i hi
 have kk:=hc.kids k hk
 have l1:=hc.kl i hi
 have l2:=hc.kl k hk
 obtain ⟨a1,a2,a3,a4,a5⟩:=aH (c.kd i)
 obtain ⟨b1,b2,b3,b4,b5⟩:=aH (c.kd k)
 have ii:IL (bu (c.kd i)) (c.kd i):=.inl rfl
 have ik:IL (bu (c.kd k)) (c.kd k):=.inl rfl
 have ei:(c.nd.getD i.toNat default).snd=c.kd i:=rfl
 have ek:(c.nd.getD k.toNat default).snd=c.kd k:=rfl
 obtain ⟨m1,m2,m3⟩:=hD.lt
 have ed:∀ X:List aa,(H++X)[c.d]?=H[c.d]?:=fun X=>List.getElem?_append_left m1
 have spv:∀ x:AV,ag [AV.ah] 0 [x]=[x]:=fun x=>rfl
 have spq:ag [AV.int .i64 0,.int .i64 0,.ah,.ah] 0 [AV.int .i64 0,.int .i64 0,.ah,.ah]=[AV.int .i64 0,.int .i64 0,.ah,.ah]:=rfl
 simp +contextual only [sZ,Nat.reduceEqDiff,Nat.reduceAdd,↓reduceIte,reduceCtorEq]
 refine lR (K1:=fun e G=>get e 1=.int .i64 i∧get e 3=.ai (.ptr c.d 0)∧get e 5=.ai (.int .i64 k)∧get e 6=.ptr H.length 0∧∃ x y,get e 7=.ptr x 0∧get e 8=.ptr y 0∧XY H x y∧PA c H x y i k G) ?_ ?_
 ·have P0:aa:=.cells [.int .i64 0,.int .i64 0,.ah,.ah]
  have A:∃ x y,AV.ptr (H.length + 1) 0=.ptr x 0∧AV.ptr (H.length + 2) 0=.ptr y 0∧XY H x y∧PA c H x y i k (H++[.cells [.int .i64 0,.int .i64 0,.ah,.ah],.cells [bu (c.kd i)],.cells [bu (c.kd k)]]):=
   ⟨_,_,rfl,rfl,⟨by omega,by omega,by omega,by omega⟩,⟨hD.rp _,by simp,by simp,by simp,by simp,fun j hj _ _=>List.getElem?_append_left hj⟩⟩
  have B:∃ x y,AV.ptr (H.length + 2) 0=.ptr x 0∧AV.ptr (H.length + 1) 0=.ptr y 0∧XY H x y∧PA c H x y i k (H++[.cells [.int .i64 0,.int .i64 0,.ah,.ah],.cells [bu (c.kd k)],.cells [bu (c.kd i)]]):=
   ⟨_,_,rfl,rfl,⟨by omega,by omega,by omega,by omega⟩,⟨hD.rp _,by simp,by simp,by simp,by simp,fun j hj _ _=>List.getElem?_append_left hj⟩⟩
  simp +contextual only [ed,hD.d,mS,Ev,cJ,bV,k2,ei,ek,a1,a3,a4,a5,b1,b3,b4,b5,List.map_cons,List.map_nil,spv,List.all_cons,List.all_nil,Bool.and_true,bH,cP,sZ,Nat.reduceEqDiff,Nat.reduceAdd,Nat.reduceLT,↓reduceIte]
  refine ⟨hi,?_⟩
  repeat' apply And.intro
  all_goals first | exact hk.1 | exact hk.2 | exact A | exact B
 ·rintro e G ⟨e1,e3,e5,e6,x,y,e7,e8,w,BL⟩
  simp +contextual only [e1,e3,e5,e6,e7,e8,sZ,Nat.reduceEqDiff,↓reduceIte]
  refine aJ 1 (fun m (G:List aa)=>PA c H x y i k G)
   (fun m G=>[(1,.int .i64 i),(3,.ai (.ptr c.d 0)),(5,.ai (.int .i64 k)),(6,.ptr H.length 0),(7,.ptr x 0),(8,.ptr y 0),(9,.int .i64 ((m + 1:Nat):Int))]) (fun m G=>G) G ⟨BL,aA _ _ _⟩ fun m G hm BL=>?_
  have hf:ew.cells[m + 1]?=some (.fn (.func (182 + (m + 1))) [] []):=by
   have:m=0∨m=1∨m=2∨m=3:=by omega
   rcases this with rfl | rfl | rfl | rfl <;> rfl
  have en:=V7 (m + 1) _ hf (by omega)
  simp +contextual only [sZ]
  refine aE Mm ?_
  simp +contextual only [mJ,en _ rfl,sZ,Nat.reduceEqDiff,Nat.reduceAdd,↓reduceIte,reduceCtorEq]
  refine af ((vi hc hi hk).at (n:=m + 1) (by omega) (by omega) BL.du) ?_
  rintro r G1 ⟨z,rfl,hz,hU,nA⟩
  have qk:=BL.call hD w hU nA
  by_cases RC:m=1
  rotate_left
  ·have:z=false:=by
    cases z with
    | false=>rfl
    | true=>exact absurd (hz.1 rfl) (jW (m + 1) (by omega))
   subst this
   simp +contextual only [Bool.not_false,sZ,Nat.reduceEqDiff,↓reduceIte]
   exact ⟨m + 1,G1,⟨by omega,qk⟩,by omega,aC (by rw [au (m + 1) (by omega)]) rfl⟩
  subst RC
  have:z=true:=hz.2 hr
  subst this
  have yv:=qk.len
  have lh:=fun es=>qk.rp w es
  have Vn:=fun es=>(lh es).gp
  have Qc:=fun es=>(lh es).gx
  have ZD:=fun es=>(lh es).gy
  have bS:∀ (o o':aa),(G1++[o]).set (H.length + 3) o'=G1++[o']:=fun o o'=>by rw [← yv];simp
  have ec:((2:Nat):Int)=2:=rfl
  have zf:List.map AV.ab [AV.int .i64 (2:Int),.int .i64 0,.ah,.ah]=[.int .i64 (2:Int),.int .i64 0,.ah,.ah]:=rfl
  have zf0:List.map AV.ab [AV.int .i64 0,.int .i64 0,.ah,.ah]=[.int .i64 0,.int .i64 0,.ah,.ah]:=rfl
  have e86:∀ a b:Int,decide (a=b)=decide (a=b):=fun _ _=>rfl
  simp +contextual only [k2,ik.aN,ik.len (by omega),decide_false,Bool.not_true,Bool.not_true,bdP,yv,Vn,bS,ec,zf,zf0,JC,ZD,sZ,Nat.reduceEqDiff,Nat.reduceAdd,Nat.reduceLT,↓reduceIte,Int.reduceEq]
  have mY:=lh [.int .i64 2,.int .i64 0,.ah,.ah]
  generalize G1++[aa.cells [AV.int .i64 2,.int .i64 0,.ah,.ah]]=G2 at mY ⊢
  have ki2:(c.tm i).k=2:=(rD.1 hR).1
  have vA:s8 c i k:=by
   rcases hr with h | h | h | h
   ·exact absurd h.1 (by decide)
   ·exact h.2
   all_goals (exact absurd h.1 (by decide))
  obtain ⟨F7,aK,hall0⟩:=vA
  have kk2:(c.tm k).k=2:=of_decide_eq_true F7
  have Vo:∀ qs,lS (Sh c.O) qs (c.tm i) ((c.kd k).map c.tm)→Sh c.O (.mk 2 0 [] qs) (c.tm i) (c.tm k):=by
   intro qs hq
   rw [Sh2 rfl ki2]
   rw [kk.1] at hq
   refine ⟨rfl,rfl,kk2,?_,hq⟩
   rw [qf,if_pos kk2,qf,if_pos ki2] at aK;exact aK
  refine lH (Gg hD w (l0:=[]) (by simp) ik l2 (fun z hz=>hp z hz (hall0 z hz)) mY) ?_
  rintro e1 e G6 ⟨rfl,f6,f10,qs,jU,oC⟩
  replace oC:PB c H x y i k [.int .i64 2,.int .i64 0,.ah,pk qs] G6:=oC
  have gp6:=oC.gp
  have g66:=oC.g6
  have lp:=R3 2 0 [] qs
  have tv0:uk []=AV.ah:=rfl
  rw [tv0] at lp
  have hs:Sh c.O (.mk 2 0 [] qs) (c.tm i) (c.tm k):=Vo qs jU
  obtain ⟨q1,q2,q3,q4,q5,q6,q7,q8,q9⟩:=a7 (.mk 2 0 [] qs)
  have lp2:=Ed (.mk 2 0 [] qs)
  have MF:=List.getElem?_set_self (a:=aa.cells (eC (.mk 2 0 [] qs)).cells) (aO g66)
  have Qw:aj (H.length + 1) (eC (.mk 2 0 [] qs)).cells=true:=cD (gg _ _)
  have jE:=PB.fin (to:=[]) (l:=qs) hD oC hs
  simp +contextual only [f6,f10,gp6,g66,lp,q1,q2,q3,q9,R5,MF,lp2,Qw,sZ,Nat.reduceEqDiff,Nat.reduceAdd,↓reduceIte,reduceCtorEq]
  first | exact jE | exact ⟨by omega,jE⟩ | exact ⟨trivial,jE⟩
end Go.aL
end
section
set_option maxRecDepth 100000
namespace Go.aL
open Go Go.Proofs Go.fN
theorem ZH {c:Cx} (hc:c.Ok) {i k:Int} (hi:c.dV i) (hk:c.dV k) (hR:R c.O (c.tm i) (c.tm k)) (hr:g9 c i k 3) (jW:∀ m,m < 3→¬ g9 c i k m) (hp:∀ y∈c.kd k,R c.O (c.tm i) (c.tm y)→pn c i y) (Vp:∀ x∈c.kd i,∀ y∈c.kd k,R c.O (c.tm x) (c.tm y)→pn c x y):pn c i k:=by
 intro H hD
 refine Ea.2.calls rfl ?_
 simp only [Ea,aF]
 have k2:∀ l,(bu l).ab=bu l:=fun l=>(aH l).2.1
 have ki:=hc.kids i hi
 have kk:=hc.kids k hk
 have l1:=hc.kl i hi
 have l2:=hc.kl k hk
 obtain ⟨a1,a2,a3,a4,a5⟩:=aH (c.kd i)
 obtain ⟨b1,b2,b3,b4,b5⟩:=aH (c.kd k)
 have ii:IL (bu (c.kd i)) (c.kd i):=.inl rfl
 have ik:IL (bu (c.kd k)) (c.kd k):=.inl rfl
 have ei:(c.nd.getD i.toNat default).snd=c.kd i:=rfl
 have ek:(c.nd.getD k.toNat default).snd=c.kd k:=rfl
 obtain ⟨m1,m2,m3⟩:=hD.lt
 have ed:∀ X:List aa,(H++X)[c.d]?=H[c.d]?:=fun X=>List.getElem?_append_left m1
 have spv:∀ x:AV,ag [AV.ah] 0 [x]=[x]:=fun x=>rfl
 have spq:ag [AV.int .i64 0,.int .i64 0,.ah,.ah] 0 [AV.int .i64 0,.int .i64 0,.ah,.ah]=[AV.int .i64 0,.int .i64 0,.ah,.ah]:=rfl
 simp +contextual only [sZ,Nat.reduceEqDiff,Nat.reduceAdd,↓reduceIte,reduceCtorEq]
 refine lR (K1:=fun e G=>get e 1=.int .i64 i∧get e 3=.ai (.ptr c.d 0)∧get e 5=.ai (.int .i64 k)∧get e 6=.ptr H.length 0∧∃ x y,get e 7=.ptr x 0∧get e 8=.ptr y 0∧XY H x y∧PA c H x y i k G) ?_ ?_
 ·have P0:aa:=.cells [.int .i64 0,.int .i64 0,.ah,.ah]
  have A:∃ x y,AV.ptr (H.length + 1) 0=.ptr x 0∧AV.ptr (H.length + 2) 0=.ptr y 0∧XY H x y∧PA c H x y i k (H++[.cells [.int .i64 0,.int .i64 0,.ah,.ah],.cells [bu (c.kd i)],.cells [bu (c.kd k)]]):=
   ⟨_,_,rfl,rfl,⟨by omega,by omega,by omega,by omega⟩,⟨hD.rp _,by simp,by simp,by simp,by simp,fun j hj _ _=>List.getElem?_append_left hj⟩⟩
  have B:∃ x y,AV.ptr (H.length + 2) 0=.ptr x 0∧AV.ptr (H.length + 1) 0=.ptr y 0∧XY H x y∧PA c H x y i k (H++[.cells [.int .i64 0,.int .i64 0,.ah,.ah],.cells [bu (c.kd k)],.cells [bu (c.kd i)]]):=
   ⟨_,_,rfl,rfl,⟨by omega,by omega,by omega,by omega⟩,⟨hD.rp _,by simp,by simp,by simp,by simp,fun j hj _ _=>List.getElem?_append_left hj⟩⟩
  simp +contextual only [ed,hD.d,mS,Ev,cJ,bV,k2,ei,ek,a1,a3,a4,a5,b1,b3,b4,b5,List.map_cons,List.map_nil,spv,List.all_cons,List.all_nil,Bool.and_true,bH,cP,sZ,Nat.reduceEqDiff,Nat.reduceAdd,Nat.reduceLT,↓reduceIte]
  refine ⟨hi,?_⟩
  repeat' apply And.intro
  all_goals first | exact hk.1 | exact hk.2 | exact A | exact B
 ·rintro e G ⟨e1,e3,e5,e6,x,y,e7,e8,w,BL⟩
  simp +contextual only [e1,e3,e5,e6,e7,e8,sZ,Nat.reduceEqDiff,↓reduceIte]
  refine aJ 2 (fun m (G:List aa)=>PA c H x y i k G)
   (fun m G=>[(1,.int .i64 i),(3,.ai (.ptr c.d 0)),(5,.ai (.int .i64 k)),(6,.ptr H.length 0),(7,.ptr x 0),(8,.ptr y 0),(9,.int .i64 ((m + 1:Nat):Int))]) (fun m G=>G) G ⟨BL,aA _ _ _⟩ fun m G hm BL=>?_
  have hf:ew.cells[m + 1]?=some (.fn (.func (182 + (m + 1))) [] []):=by
   have:m=0∨m=1∨m=2∨m=3:=by omega
   rcases this with rfl | rfl | rfl | rfl <;> rfl
  have en:=V7 (m + 1) _ hf (by omega)
  simp +contextual only [sZ]
  refine aE Mm ?_
  simp +contextual only [mJ,en _ rfl,sZ,Nat.reduceEqDiff,Nat.reduceAdd,↓reduceIte,reduceCtorEq]
  refine af ((vi hc hi hk).at (n:=m + 1) (by omega) (by omega) BL.du) ?_
  rintro r G1 ⟨z,rfl,hz,hU,nA⟩
  have qk:=BL.call hD w hU nA
  by_cases RC:m=2
  rotate_left
  ·have:z=false:=by
    cases z with
    | false=>rfl
    | true=>exact absurd (hz.1 rfl) (jW (m + 1) (by omega))
   subst this
   simp +contextual only [Bool.not_false,sZ,Nat.reduceEqDiff,↓reduceIte]
   exact ⟨m + 1,G1,⟨by omega,qk⟩,by omega,aC (by rw [au (m + 1) (by omega)]) rfl⟩
  subst RC
  have:z=true:=hz.2 hr
  subst this
  have yv:=qk.len
  have lh:=fun es=>qk.rp w es
  have Vn:=fun es=>(lh es).gp
  have Qc:=fun es=>(lh es).gx
  have ZD:=fun es=>(lh es).gy
  have bS:∀ (o o':aa),(G1++[o]).set (H.length + 3) o'=G1++[o']:=fun o o'=>by rw [← yv];simp
  have ec:((3:Nat):Int)=3:=rfl
  have zf:List.map AV.ab [AV.int .i64 (3:Int),.int .i64 0,.ah,.ah]=[.int .i64 (3:Int),.int .i64 0,.ah,.ah]:=rfl
  have zf0:List.map AV.ab [AV.int .i64 0,.int .i64 0,.ah,.ah]=[.int .i64 0,.int .i64 0,.ah,.ah]:=rfl
  have e86:∀ a b:Int,decide (a=b)=decide (a=b):=fun _ _=>rfl
  simp +contextual only [decide_true,decide_false,Bool.not_true,Bool.not_true,bdP,yv,Vn,bS,ec,zf,zf0,JC,sZ,Nat.reduceEqDiff,Nat.reduceAdd,↓reduceIte,Int.reduceEq]
  have mY:=lh [.int .i64 3,.int .i64 0,.ah,.ah]
  generalize G1++[aa.cells [AV.int .i64 3,.int .i64 0,.ah,.ah]]=G2 at mY ⊢
  have ki2:(c.tm i).k=2:=(rD.1 hR).1
  have hlx:Bv c i k:=by
   rcases hr with h | h | h | h
   ·exact absurd h.1 (by decide)
   ·exact absurd h.1 (by decide)
   ·exact h.2
   ·exact absurd h.1 (by decide)
  obtain ⟨MC,BJ,hall0,n0,adb,hn1,hn2⟩:=hlx
  have MH:=kN.1 MC
  have kk2:(c.tm k).k=2:=MH.2.1
  have osi:dG c i=c.O.sp (c.O.pl (c.tm i).n):=by rw [dG,if_pos ki2]
  have hx:side (c.O.sp (c.O.pl (c.tm i).n)) (c.tm i).l=(bG (dG c i) (c.kd i)).map c.tm:=by rw [← osi,← ki.1,jO]
  have hy:side (c.O.sp (c.O.pl (c.tm i).n)) (c.tm k).l=(bG (dG c i) (c.kd k)).map c.tm:=by rw [← osi,← kk.1,jO]
  have lx:(bG (dG c i) (c.kd i)).length=(c.kd i).length:=jM
  have ly:(bG (dG c i) (c.kd k)).length=(c.kd k).length:=jM
  have nx:∀ z∈bG (dG c i) (c.kd i),z∈c.kd i:=fun z hz=>pc.1 hz
  have ny:∀ z∈bG (dG c i) (c.kd k),z∈c.kd k:=fun z hz=>pc.1 hz
  have hS:∀ (n:Nat) (l:List PP),Sh c.O (.mk 3 n [] l) (c.tm i) (c.tm k)↔D2 (E c.O) (Sh c.O) n l (c.tm i) ((bG (dG c i) (c.kd i)).map c.tm) ((bG (dG c i) (c.kd k)).map c.tm) (c.tm k).l:=by
   intro n l
   rw [Sh3 rfl ki2,hx,hy]
   rw [osi] at BJ
   exact ⟨fun h=>h.2.2.2.2,fun h=>⟨rfl,kk2,MH.2.2,BJ,h⟩⟩
  refine af (qg hc hi mY.du) ?_
  rintro r G3 ⟨rfl,rfl⟩
  have gx0:=mY.gx
  have gy0:=mY.gy
  simp +contextual only [k2,dH,fG,fH,fI,gx0,sZ,Nat.reduceEqDiff,Nat.reduceAdd,Nat.reduceLT,↓reduceIte]
  refine aE (Jl (c.kd i) (dG c i) (by omega)) ?_
  simp +contextual only [k2,gy0,sZ,Nat.reduceEqDiff,Nat.reduceAdd,Nat.reduceLT,↓reduceIte]
  refine aE (Jl (c.kd k) (dG c i) (by omega)) ?_
  generalize bG (dG c i) (c.kd i)=xs at *
  generalize bG (dG c i) (c.kd k)=ys at *
  have ix:IL (.al 0 (ints xs)) xs:=.inr rfl
  have iy:IL (.al 0 (ints ys)) ys:=.inr rfl
  simp +contextual only [sZ,Nat.reduceEqDiff,Nat.reduceAdd,↓reduceIte,reduceCtorEq]
  refine af (Y4 ix iy (by omega) (by omega) (fun z hz z' JR=>ku hc (ki.2 z (nx z hz)) (kk.2 z' (ny z' JR))) mY.du) ?_
  rintro r G4 ⟨n,rfl,hn,V4,V5⟩
  have en0:=hn.U1 adb
  subst en0
  have xn:=mY.call hD w V4 V5
  have gp4:=xn.gp
  have pO:=fun es=>xn.set (es':=es) hD w
  have gps:=fun es=>(pO es).gp
  have gxs:=fun es=>(pO es).gx
  have gys:=fun es=>(pO es).gy
  have un1:List.map AV.ab [AV.int .i64 (n:Int)]=[.int .i64 (n:Int)]:=rfl
  have hLS:∀ l,D2 (E c.O) (Sh c.O) n l (c.tm i) (xs.map c.tm) (ys.map c.tm) (c.tm k).l↔(if (n:Int)=ys.length then lS (Sh c.O) l (c.tm i) ((c.kd k).map c.tm) else ∃ q r,l=q::r∧Sh c.O q (c.tm (xs.getD n 0)) (c.tm (ys.getD n 0))∧lS (Sh c.O) r (c.tm i) ((c.kd k).map c.tm)):=by
   intro l
   rw [Zy (kd:=c.kd k) kk.1]
   have h1:(0:Int)≤n∧(n:Int) < xs.length∧(n:Int)≤ys.length:=⟨by omega,by omega,by have:=hn.lb;omega⟩
   have h2:∀ j,j < (n:Int).toNat→E c.O (c.tm (xs.getD j 0)) (c.tm (ys.getD j 0)):=fun j hj=>hn.eq j (by omega)
   rw [Int.toNat_natCast]
   exact ⟨fun h=>h.2.2,fun h=>⟨h1,h2,h⟩⟩
  by_cases hny:n < ys.length
  ·have n4:((n:Int) < ys.length)=True:=eq_true (by omega)
   simp +contextual only [decide_true,gp4,Vm,un1,gps,iy.aN,iy.len (by omega),n4,ix.idx,iy.idx,ix.lens,iy.lens,Int.toNat_natCast,d3,s3,List.set_set,sZ,Nat.reduceEqDiff,Nat.reduceAdd,Nat.reduceLT,Nat.reduceLeDiff,↓reduceIte,reduceCtorEq]
   have mx:=nx _ (aP (l:=xs) (i:=n) (by omega))
   have my:=ny _ (aP hny)
   have E2:pn c (xs.getD n 0) (ys.getD n 0):=Vp _ mx _ my (hn2.resolve_left (by omega))
   have Vo:∀ u qs,Sh c.O u (c.tm (xs.getD n 0)) (c.tm (ys.getD n 0))→lS (Sh c.O) qs (c.tm i) ((c.kd k).map c.tm)→Sh c.O (.mk 3 n [] (u::qs)) (c.tm i) (c.tm k):=by
    intro u qs hu hq
    rw [hS,hLS,if_neg (by omega)];exact ⟨u,qs,rfl,hu,hq⟩
   repeat' apply And.intro
   all_goals first | omega | skip
   all_goals
    refine af (E2 _ (pO _).du) ?_
    rintro r G5 ⟨u,rfl,hu,ZE,ZF⟩
    replace Vo:=fun qs=>Vo u qs hu
    have MG:=(pO _).call hD w ZE ZF
    have gp5:=MG.gp
    have Gh:=fun es=>MG.set (es':=es) hD w
    have gps6:=fun es=>(Gh es).gp
    have gys6:=fun es=>(Gh es).gy
    obtain ⟨u1,u2,u3,u4,u5,u6,u7,u8,u9⟩:=a7 u
    have ap1:∀ ψ,bn 4 64 .ah (.al 0 [eC u]) ψ=ψ (eB ([]++[u])):=fun ψ=>Eb [] u (by simp) 0 ψ
    have ea:eB ([]++[u])=[eC u]:=rfl
    rw [ea] at ap1
    simp +contextual only [k2,ik.aN,ik.len (by omega),u1,u2,u6,jP,ap1,gp5,gps6,gys6,d3,s3,List.set_set,sZ,Nat.reduceEqDiff,Nat.reduceAdd,Nat.reduceLT,↓reduceIte]
    refine lH (Gg hD w (l0:=[u]) (by simp) ik l2 (fun z hz=>hp z hz (hall0 z hz)) (Gh _)) ?_
    rintro e1 e G6 ⟨rfl,f6,f10,qs,jU,oC⟩
    replace oC:PB c H x y i k [.int .i64 3,.int .i64 n,.ah,pk (u::qs)] G6:=oC
    have gp6:=oC.gp
    have g66:=oC.g6
    have lp:=R3 3 n [] (u::qs)
    have tv0:uk []=AV.ah:=rfl
    rw [tv0] at lp
    have hs:Sh c.O (.mk 3 n [] (u::qs)) (c.tm i) (c.tm k):=Vo qs jU
    obtain ⟨q1,q2,q3,q4,q5,q6,q7,q8,q9⟩:=a7 (.mk 3 n [] (u::qs))
    have lp2:=Ed (.mk 3 n [] (u::qs))
    have MF:=List.getElem?_set_self (a:=aa.cells (eC (.mk 3 n [] (u::qs))).cells) (aO g66)
    have Qw:aj (H.length + 1) (eC (.mk 3 n [] (u::qs))).cells=true:=cD (gg _ _)
    have jE:=PB.fin (to:=[]) (l:=(u::qs)) hD oC hs
    simp +contextual only [f6,f10,gp6,g66,lp,q1,q2,q3,q9,R5,MF,lp2,Qw,sZ,Nat.reduceEqDiff,Nat.reduceAdd,↓reduceIte,reduceCtorEq]
    first | exact jE | exact ⟨by omega,jE⟩ | exact ⟨trivial,jE⟩
  ·have n4:((n:Int) < ys.length)=False:=eq_false (by omega)
   have Vo:∀ qs,lS (Sh c.O) qs (c.tm i) ((c.kd k).map c.tm)→Sh c.O (.mk 3 n [] qs) (c.tm i) (c.tm k):=by
    intro qs hq
    rw [hS,hLS,if_pos (by have:=hn.lb;omega)];exact hq
   simp +contextual only [k2,ik.aN,ik.len (by omega),decide_false,gp4,Vm,un1,gps,gys,iy.aN,iy.len (by omega),n4,sZ,Nat.reduceEqDiff,Nat.reduceAdd,Nat.reduceLT,Nat.reduceLeDiff,↓reduceIte]
   refine lH (Gg hD w (l0:=[]) (by simp) ik l2 (fun z hz=>hp z hz (hall0 z hz)) (pO _)) ?_
   rintro e1 e G6 ⟨rfl,f6,f10,qs,jU,oC⟩
   replace oC:PB c H x y i k [.int .i64 3,.int .i64 n,.ah,pk qs] G6:=oC
   have gp6:=oC.gp
   have g66:=oC.g6
   have lp:=R3 3 n [] qs
   have tv0:uk []=AV.ah:=rfl
   rw [tv0] at lp
   have hs:Sh c.O (.mk 3 n [] qs) (c.tm i) (c.tm k):=Vo qs jU
   obtain ⟨q1,q2,q3,q4,q5,q6,q7,q8,q9⟩:=a7 (.mk 3 n [] qs)
   have lp2:=Ed (.mk 3 n [] qs)
   have MF:=List.getElem?_set_self (a:=aa.cells (eC (.mk 3 n [] qs)).cells) (aO g66)
   have Qw:aj (H.length + 1) (eC (.mk 3 n [] qs)).cells=true:=cD (gg _ _)
   have jE:=PB.fin (to:=[]) (l:=qs) hD oC hs
   simp +contextual only [f6,f10,gp6,g66,lp,q1,q2,q3,q9,R5,MF,lp2,Qw,sZ,Nat.reduceEqDiff,Nat.reduceAdd,↓reduceIte,reduceCtorEq]
   first | exact jE | exact ⟨by omega,jE⟩ | exact ⟨trivial,jE⟩
end Go.aL
end
section
set_option maxRecDepth 100000
namespace Go.aL
open Go Go.Proofs Go.fN
structure PC (c:Cx) (H:List aa) (x y:Nat) (i k:Int) (es:List AV) (o:aa) (G:List aa):Prop where
 du:Du c G
 gx:G[x]?=some (.cells [bu (c.kd i)])
 gy:G[y]?=some (.cells [bu (c.kd k)])
 g6:G[H.length]?=some (.cells [.int .i64 0,.int .i64 0,.ah,.ah])
 gp:G[H.length + 3]?=some (.cells es)
 go:G[H.length + 4]?=some o
 len:G.length=H.length + 5
 up:∀ j,j < H.length→j≠c.e→j≠c.g→G[j]?=H[j]?
theorem PB.ade {c:Cx} {H G:List aa} {x y:Nat} {i k:Int} {es:List AV} (w:XY H x y) (h:PB c H x y i k es G) (o:aa):PC c H x y i k es o (G++[o]):=by
 obtain ⟨w1,w2,w3,w4⟩:=w
 have hl:=h.len
 exact ⟨h.du.rp _,by rw [List.getElem?_append_left (by omega),h.gx],by rw [List.getElem?_append_left (by omega),h.gy],by rw [List.getElem?_append_left (by omega),h.g6],by rw [List.getElem?_append_left (by omega),h.gp],by rw [← hl];simp,by simp [hl],fun j h1 h2 h3=>by rw [List.getElem?_append_left (by omega),h.up j h1 h2 h3]⟩
theorem PC.call {c:Cx} {H G G':List aa} {x y:Nat} {i k:Int} {es:List AV} {o:aa} (hD:Du c H) (w:XY H x y) (h:PC c H x y i k es o G) (hU:Up c G G') (jH:Du c G'):PC c H x y i k es o G':=by
 obtain ⟨l1,l2,l3⟩:=hD.lt
 obtain ⟨w1,w2,w3,w4⟩:=w
 exact ⟨jH,by rw [hU.get x (by omega) (by omega),h.gx],by rw [hU.get y (by omega) (by omega),h.gy],by rw [hU.get _ (by omega) (by omega),h.g6],by rw [hU.get _ (by omega) (by omega),h.gp],by rw [hU.get _ (by omega) (by omega),h.go],by rw [hU.len,h.len],fun j h1 h2 h3=>by rw [hU.get j h2 h3,h.up j h1 h2 h3]⟩
theorem PC.set {c:Cx} {H G:List aa} {x y:Nat} {i k:Int} {es es':List AV} {o:aa} (hD:Du c H) (w:XY H x y) (h:PC c H x y i k es o G):PC c H x y i k es' o (G.set (H.length + 3) (.cells es')):=by
 obtain ⟨l1,l2,l3⟩:=hD.lt
 obtain ⟨w1,w2,w3,w4⟩:=w
 have hp:=aO h.gp
 exact ⟨h.du.set (by omega) (by omega) (by omega),by rw [List.getElem?_set_ne (by omega),h.gx],by rw [List.getElem?_set_ne (by omega),h.gy],by rw [List.getElem?_set_ne (by omega),h.g6],by rw [List.getElem?_set_self hp],by rw [List.getElem?_set_ne (by omega),h.go],by rw [List.length_set,h.len],fun j h1 h2 h3=>by rw [List.getElem?_set_ne (by omega),h.up j h1 h2 h3]⟩
theorem PC.adf {c:Cx} {H G:List aa} {x y:Nat} {i k:Int} {es:List AV} {o o':aa} (hD:Du c H) (w:XY H x y) (h:PC c H x y i k es o G):PC c H x y i k es o' (G.set (H.length + 4) o'):=by
 obtain ⟨l1,l2,l3⟩:=hD.lt
 obtain ⟨w1,w2,w3,w4⟩:=w
 have hp:=aO h.go
 exact ⟨h.du.set (by omega) (by omega) (by omega),by rw [List.getElem?_set_ne (by omega),h.gx],by rw [List.getElem?_set_ne (by omega),h.gy],by rw [List.getElem?_set_ne (by omega),h.g6],by rw [List.getElem?_set_ne (by omega),h.gp],by rw [List.getElem?_set_self hp],by rw [List.length_set,h.len],fun j h1 h2 h3=>by rw [List.getElem?_set_ne (by omega),h.up j h1 h2 h3]⟩
theorem PC.drop {c:Cx} {H G:List aa} {x y:Nat} {i k:Int} {es:List AV} {o:aa} (hD:Du c H) (w:XY H x y) (h:PC c H x y i k es o G):PB c H x y i k es (G.take (H.length + 4))∧G=G.take (H.length + 4)++[o]:=by
 obtain ⟨l1,l2,l3⟩:=hD.lt
 obtain ⟨w1,w2,w3,w4⟩:=w
 have hl:=h.len
 have t:∀ j,j < H.length + 4→(G.take (H.length + 4))[j]?=G[j]?:=fun j h1=>by rw [List.getElem?_take,if_pos h1]
 refine ⟨⟨h.du.take (by omega) (by omega) (by omega),by rw [t x (by omega),h.gx],by rw [t y (by omega),h.gy],by rw [t _ (by omega),h.g6],by rw [t _ (by omega),h.gp],by simp;omega,fun j h1 h2 h3=>by rw [t j (by omega),h.up j h1 h2 h3]⟩,?_⟩
 have e:G.drop (H.length + 4)=[o]:=by
  have h1:=h.go
  have aK:H.length + 4 < G.length:=by omega
  rw [List.drop_eq_getElem_cons aK]
  rw [List.getElem?_eq_getElem aK] at h1
  simp only [Option.some.injEq] at h1
  rw [h1,List.drop_of_length_le (by omega)]
 rw [← e,List.take_append_drop]
structure MI (c:Cx) (a b:List Int) (us:List Bool) (to:List Int) (j:Nat) (ts:List Int) (ls:List PP):Prop where
 lt:ts.length=j
 ll:ls.length=j
 pa:∀ j',j' < j→0≤to.getD j' 0→ts.getD j' 0=to.getD j' 0∧(ls.getD j' default).nil
 ov:∀ j',j' < j→to.getD j' 0 < 0→(¬ (ls.getD j' default).nil∧Sh c.O (ls.getD j' default) (c.tm (a.getD (ts.getD j' 0).toNat 0)) (c.tm (b.getD j' 0)))∧∃ u:Nat,ts.getD j' 0=u∧u < a.length∧us.getD u false=false
theorem MI.snoc {c:Cx} {a b:List Int} {us:List Bool} {to:List Int} {j:Nat} {ts:List Int} {ls:List PP} (h:MI c a b us to j ts ls) (v:Int) (q:PP)
 (h1:0≤to.getD j 0→v=to.getD j 0∧q.nil) (h2:to.getD j 0 < 0→(¬ q.nil∧Sh c.O q (c.tm (a.getD v.toNat 0)) (c.tm (b.getD j 0)))∧∃ u:Nat,v=u∧u < a.length∧us.getD u false=false):MI c a b us to (j + 1) (ts++[v]) (ls++[q]):=by
 obtain ⟨k1,k2,k3,k4⟩:=h
 have e1:∀ j',j' < j→(ts++[v]).getD j' 0=ts.getD j' 0∧(ls++[q]).getD j' default=ls.getD j' default:=fun j' vg=>by
  constructor
  ·rw [List.getD_eq_getElem?_getD,List.getD_eq_getElem?_getD,List.getElem?_append_left (by omega)]
  ·rw [List.getD_eq_getElem?_getD,List.getD_eq_getElem?_getD,List.getElem?_append_left (by omega)]
 have e2:(ts++[v]).getD j 0=v∧(ls++[q]).getD j default=q:=by
  constructor
  ·rw [← k1];simp
  ·rw [← k2];simp
 refine ⟨by simp [k1],by simp [k2],fun j' vg h0=>?_,fun j' vg h0=>?_⟩
 ·by_cases e:j'=j
  ·subst e;rw [e2.1,e2.2];exact h1 h0
  ·have aK:j' < j:=by omega
   rw [(e1 j' aK).1,(e1 j' aK).2];exact k3 j' aK h0
 ·by_cases e:j'=j
  ·subst e;rw [e2.1,e2.2];exact h2 h0
  ·have aK:j' < j:=by omega
   rw [(e1 j' aK).1,(e1 j' aK).2];exact k4 j' aK h0
theorem xp {to:List Int} {x:Int}:∀ {n:Nat},(∀ j j',j < n→j' < n→to.getD j 0=x→to.getD j' 0=x→j=j')→dB to x n≤1
 | 0,_=>by simp [dB]
 | n + 1,h=>by
   rw [dB]
   have ih:=xp (n:=n) fun j j' h1 h2=>h j j' (by omega) (by omega)
   by_cases e:to.getD n 0=x
   ·rw [if_pos e]
    have:dB to x n=0:=by
     have h0:∀ m,m≤n→dB to x m=0:=by
      intro m
      induction m with
      | zero=>intro _;rfl
      | succ m ihm=>
        intro hm
        rw [dB,ihm (by omega),if_neg (fun e'=>by have:=h m n (by omega) (by omega) e' e;omega)]
     exact h0 n (Nat.le_refl _)
    omega
   ·rw [if_neg e];omega
theorem MI.cov {c:Cx} {a b:List Int} {us:List Bool} {to ts:List Int} {ls:List PP} (h:MI c a b us to b.length ts ls) (Bx:Pr (fun x y=>E c.O (c.tm x) (c.tm y)) a b b.length us to) (hl:∃ u:Nat,u < a.length∧us.getD u false=false):Jy c ts ls a b:=by
 obtain ⟨k1,k2,k3,k4⟩:=h
 have cas:∀ j,j < b.length→(∃ u:Nat,to.getD j 0=u∧u < a.length∧us.getD u false=true∧E c.O (c.tm (a.getD u 0)) (c.tm (b.getD j 0)))∨to.getD j 0 < 0:=fun j hj=>by
  rcases Bx.t1 j hj with h | ⟨u,h1,h2,h3,h4⟩
  ·exact .inr (by omega)
  ·exact .inl ⟨u,h1,h2,h3,h4⟩
 refine ⟨k1,k2,fun j hj=>?_,fun x hx hp=>?_,?_⟩
 ·rcases cas j hj with ⟨u,h1,h2,h3,h4⟩ | hn
  ·obtain ⟨e1,e2⟩:=k3 j hj (by omega)
   rw [if_pos e2,e1,h1]
   exact ⟨by omega,by rw [Int.toNat_natCast];exact h4⟩
  ·obtain ⟨⟨e1,e2⟩,u,h1,h2,h3⟩:=k4 j hj hn
   rw [if_neg e1]
   exact ⟨by omega,e2⟩
 ·obtain ⟨j,hj,e1,e2⟩:=iJ.1 hp
  have B7:∀ j',j' < b.length→ts.getD j' 0=(x:Int)→us.getD x false=true→to.getD j' 0=(x:Int):=by
   intro j' vg e ht
   rcases cas j' vg with ⟨u,h1,_⟩ | hn
   ·rw [← (k3 j' vg (by omega)).1];exact e
   ·obtain ⟨_,u,h1,h2,h3⟩:=k4 j' vg hn
    have:u=x:=by omega
    subst this;rw [h3] at ht;cases ht
  have hux:us.getD x false=true:=by
   rcases cas j hj with ⟨u,h1,h2,h3,_⟩ | hn
   ·have:=(k3 j hj (by omega)).1
    have:u=x:=by omega
    subst this;exact h3
   ·exact absurd e2 (k4 j hj hn).1.1
  refine xp fun j1 j2 h1 h2 e1 e2=>?_
  have t1:=B7 j1 h1 e1 hux
  have t2:=B7 j2 h2 e2 hux
  exact Bx.inj j1 j2 h1 h2 (by omega) (by omega)
 ·obtain ⟨u,hu,hf⟩:=hl
  refine ⟨u,hu,?_⟩
  by_cases h0:0 < dr ts ls u b.length
  ·obtain ⟨j,hj,e1,e2⟩:=iJ.1 h0
   rcases cas j hj with ⟨u',h1,h2,h3,_⟩ | hn
   ·have:=(k3 j hj (by omega)).1
    have:u'=u:=by omega
    subst this;rw [hf] at h3;cases h3
   ·exact absurd e2 (k4 j hj hn).1.1
  ·omega
theorem Sh.ne_nil {O:Od} {p:PP} {a b:T} (h:Sh O p a b):¬ p.nil:=by
 rintro ⟨h1,_⟩
 exact Sh0 (by omega) (by omega) (by omega) (by omega) h
theorem ZI {c:Cx} (hc:c.Ok) {i k:Int} (hi:c.dV i) (hk:c.dV k) (hR:R c.O (c.tm i) (c.tm k)) (hr:g9 c i k 4) (jW:∀ m,m < 4→¬ g9 c i k m) (Vp:∀ x∈c.kd i,∀ y∈c.kd k,R c.O (c.tm x) (c.tm y)→pn c x y):pn c i k:=by
 intro H hD
 refine Ea.2.calls rfl ?_
 simp only [Ea,aF]
 have k2:∀ l,(bu l).ab=bu l:=fun l=>(aH l).2.1
 have ki:=hc.kids i hi
 have kk:=hc.kids k hk
 have l1:=hc.kl i hi
 have l2:=hc.kl k hk
 obtain ⟨a1,a2,a3,a4,a5⟩:=aH (c.kd i)
 obtain ⟨b1,b2,b3,b4,b5⟩:=aH (c.kd k)
 have ii:IL (bu (c.kd i)) (c.kd i):=.inl rfl
 have ik:IL (bu (c.kd k)) (c.kd k):=.inl rfl
 have ei:(c.nd.getD i.toNat default).snd=c.kd i:=rfl
 have ek:(c.nd.getD k.toNat default).snd=c.kd k:=rfl
 obtain ⟨m1,m2,m3⟩:=hD.lt
 have ed:∀ X:List aa,(H++X)[c.d]?=H[c.d]?:=fun X=>List.getElem?_append_left m1
 have spv:∀ x:AV,ag [AV.ah] 0 [x]=[x]:=fun x=>rfl
 have spq:ag [AV.int .i64 0,.int .i64 0,.ah,.ah] 0 [AV.int .i64 0,.int .i64 0,.ah,.ah]=[AV.int .i64 0,.int .i64 0,.ah,.ah]:=rfl
 simp +contextual only [sZ,Nat.reduceEqDiff,Nat.reduceAdd,↓reduceIte,reduceCtorEq]
 refine lR (K1:=fun e G=>get e 1=.int .i64 i∧get e 3=.ai (.ptr c.d 0)∧get e 5=.ai (.int .i64 k)∧get e 6=.ptr H.length 0∧∃ x y,get e 7=.ptr x 0∧get e 8=.ptr y 0∧XY H x y∧PA c H x y i k G) ?_ ?_
 ·have P0:aa:=.cells [.int .i64 0,.int .i64 0,.ah,.ah]
  have A:∃ x y,AV.ptr (H.length + 1) 0=.ptr x 0∧AV.ptr (H.length + 2) 0=.ptr y 0∧XY H x y∧PA c H x y i k (H++[.cells [.int .i64 0,.int .i64 0,.ah,.ah],.cells [bu (c.kd i)],.cells [bu (c.kd k)]]):=
   ⟨_,_,rfl,rfl,⟨by omega,by omega,by omega,by omega⟩,⟨hD.rp _,by simp,by simp,by simp,by simp,fun j hj _ _=>List.getElem?_append_left hj⟩⟩
  have B:∃ x y,AV.ptr (H.length + 2) 0=.ptr x 0∧AV.ptr (H.length + 1) 0=.ptr y 0∧XY H x y∧PA c H x y i k (H++[.cells [.int .i64 0,.int .i64 0,.ah,.ah],.cells [bu (c.kd k)],.cells [bu (c.kd i)]]):=
   ⟨_,_,rfl,rfl,⟨by omega,by omega,by omega,by omega⟩,⟨hD.rp _,by simp,by simp,by simp,by simp,fun j hj _ _=>List.getElem?_append_left hj⟩⟩
  simp +contextual only [ed,hD.d,mS,Ev,cJ,bV,k2,ei,ek,a1,a3,a4,a5,b1,b3,b4,b5,List.map_cons,List.map_nil,spv,List.all_cons,List.all_nil,Bool.and_true,bH,cP,sZ,Nat.reduceEqDiff,Nat.reduceAdd,Nat.reduceLT,↓reduceIte]
  refine ⟨hi,?_⟩
  repeat' apply And.intro
  all_goals first | exact hk.1 | exact hk.2 | exact A | exact B
 ·rintro e G ⟨e1,e3,e5,e6,x,y,e7,e8,w,BL⟩
  simp +contextual only [e1,e3,e5,e6,e7,e8,sZ,Nat.reduceEqDiff,↓reduceIte]
  refine aJ 3 (fun m (G:List aa)=>PA c H x y i k G)
   (fun m G=>[(1,.int .i64 i),(3,.ai (.ptr c.d 0)),(5,.ai (.int .i64 k)),(6,.ptr H.length 0),(7,.ptr x 0),(8,.ptr y 0),(9,.int .i64 ((m + 1:Nat):Int))]) (fun m G=>G) G ⟨BL,aA _ _ _⟩ fun m G hm BL=>?_
  have hf:ew.cells[m + 1]?=some (.fn (.func (182 + (m + 1))) [] []):=by
   have:m=0∨m=1∨m=2∨m=3:=by omega
   rcases this with rfl | rfl | rfl | rfl <;> rfl
  have en:=V7 (m + 1) _ hf (by omega)
  simp +contextual only [sZ]
  refine aE Mm ?_
  simp +contextual only [mJ,en _ rfl,sZ,Nat.reduceEqDiff,Nat.reduceAdd,↓reduceIte,reduceCtorEq]
  refine af ((vi hc hi hk).at (n:=m + 1) (by omega) (by omega) BL.du) ?_
  rintro r G1 ⟨z,rfl,hz,hU,nA⟩
  have qk:=BL.call hD w hU nA
  by_cases RC:m=3
  rotate_left
  ·have:z=false:=by
    cases z with
    | false=>rfl
    | true=>exact absurd (hz.1 rfl) (jW (m + 1) (by omega))
   subst this
   simp +contextual only [Bool.not_false,sZ,Nat.reduceEqDiff,↓reduceIte]
   exact ⟨m + 1,G1,⟨by omega,qk⟩,by omega,aC (by rw [au (m + 1) (by omega)]) rfl⟩
  subst RC
  have:z=true:=hz.2 hr
  subst this
  have yv:=qk.len
  have lh:=fun es=>qk.rp w es
  have Vn:=fun es=>(lh es).gp
  have Qc:=fun es=>(lh es).gx
  have ZD:=fun es=>(lh es).gy
  have bS:∀ (o o':aa),(G1++[o]).set (H.length + 3) o'=G1++[o']:=fun o o'=>by rw [← yv];simp
  have ec:((4:Nat):Int)=4:=rfl
  have zf:List.map AV.ab [AV.int .i64 (4:Int),.int .i64 0,.ah,.ah]=[.int .i64 (4:Int),.int .i64 0,.ah,.ah]:=rfl
  have zf0:List.map AV.ab [AV.int .i64 0,.int .i64 0,.ah,.ah]=[.int .i64 0,.int .i64 0,.ah,.ah]:=rfl
  have e86:∀ a b:Int,decide (a=b)=decide (a=b):=fun _ _=>rfl
  simp +contextual only [k2,decide_true,decide_false,Bool.not_true,Bool.not_true,bdP,yv,Vn,bS,ec,zf,zf0,JC,Qc,ZD,sZ,Nat.reduceEqDiff,Nat.reduceAdd,Nat.reduceLT,↓reduceIte,reduceCtorEq,Int.reduceEq]
  have mY:=lh [.int .i64 4,.int .i64 0,.ah,.ah]
  generalize G1++[aa.cells [AV.int .i64 4,.int .i64 0,.ah,.ah]]=G2 at mY ⊢
  have ki2:(c.tm i).k=2:=(rD.1 hR).1
  have hmq:yn c i k:=by
   rcases hr with h | h | h | h
   ·exact absurd h.1 (by decide)
   ·exact absurd h.1 (by decide)
   ·exact absurd h.1 (by decide)
   ·exact h.2
  obtain ⟨MC,BJ,hmu⟩:=hmq
  have MH:=kN.1 MC
  have kk2:(c.tm k).k=2:=MH.2.1
  have osi:dG c i=c.O.sp (c.O.pl (c.tm i).n):=by rw [dG,if_pos ki2]
  have gx0:=mY.gx
  have gy0:=mY.gy
  simp +contextual only [sZ]
  refine af (U6 ii ik (by omega) (by omega) (fun z hz z' JR=>ku hc (ki.2 z hz) (kk.2 z' JR)) mY.du) ?_
  rintro r G3 ⟨us,to,Bx,rfl,Y6,Mj⟩
  have BK:=mY.call hD w Y6 Mj
  have VP:=(Pr.mu (f:=nf c) (G:=Gt c.O.sp) Bx).1 hmu
  have lbl:=jN (c.kd i).length fun z=>!us.getD z false
  have il:IL (bu (below (c.kd i).length fun z=>!us.getD z false)) (below (c.kd i).length fun z=>!us.getD z false):=.inl rfl
  have mml:∀ {z:Int},z∈below (c.kd i).length (fun z=>!us.getD z false)→∃ u:Nat,z=u∧u < (c.kd i).length∧us.getD u false=false:=by
   intro z hz;obtain ⟨u,h1,h2,h3⟩:=gH.1 hz;exact ⟨u,h1,h2,by simpa using h3⟩
  have mmo:∀ {j:Nat},j < (c.kd k).length→to.getD j 0 < 0→∃ z∈below (c.kd i).length (fun z=>!us.getD z false),R c.O (c.tm ((c.kd i).getD z.toNat 0)) (c.tm ((c.kd k).getD j 0)):=by
   intro j hj hn
   exact VP.2 (j:Int) (gH.2 ⟨j,rfl,hj,by simpa using hn⟩)
  have adg:=VP.1
  generalize (below (c.kd i).length fun z=>!us.getD z false)=L at *
  have lto:=Bx.lt
  obtain ⟨v1,v2,v3,v4,v5⟩:=aH L
  simp +contextual only [k2,aw,sZ,Nat.reduceEqDiff,Nat.reduceAdd,Nat.reduceLT,↓reduceIte]
  intro _
  have hlne2:∃ u:Nat,u < (c.kd i).length∧us.getD u false=false:=by
   cases L with
   | nil=>exact absurd rfl adg
   | cons z r=>
     obtain ⟨u,_,h2,h3⟩:=mml (List.mem_cons_self (a:=z) (l:=r))
     exact ⟨u,h2,h3⟩
  refine aJ (c.kd k).length (fun j (s:List aa×List Int×List PP)=>PB c H x y i k [.int .i64 4,.int .i64 0,uk s.2.1,pk s.2.2] s.1∧MI c (c.kd i) (c.kd k) us to j s.2.1 s.2.2)
   (fun j s=>[(3,.ai (.ptr c.d 0)),(6,.ptr H.length 0),(7,.ptr x 0),(8,.ptr y 0),(10,.ptr (H.length + 3) 0),(11,bu L),(89,.al 0 (ints to)),(90,.int .i64 to.length),(91,.int .i64 j)]) (fun j s=>s.1) (G3,[],[])
   ⟨⟨BK,rfl,rfl,fun j h=>by omega,fun j h=>by omega⟩,aA _ _ _⟩ fun j s hj hI=>?_
  obtain ⟨G,ts,ls⟩:=s
  obtain ⟨lh,JJ⟩:=hI
  simp only at lh JJ
  have hlen:=lh.len
  by_cases MA:(j:Int) < to.length
  ·have qq:j < (c.kd k).length:=by omega
   have zf4:∀ n,aj n (List.map AV.ab [AV.int .i64 0,.int .i64 0,.ah,.ah])=true:=fun _=>rfl
   have zf5:List.map AV.ab [AV.int .i64 0,.int .i64 0,.ah,.ah]=[AV.int .i64 0,.int .i64 0,.ah,.ah]:=rfl
   obtain ⟨tj,htj⟩:∃ tj,to.getD j 0=tj:=⟨_,rfl⟩
   have ZJ:=lh.ade w (.cells [.int .i64 0,.int .i64 0,.ah,.ah])
   by_cases xU:tj < 0
   ·simp +contextual only [k2,decide_true,MA,cK,dK,Int.toNat_natCast,htj,xU,hlen,zf5,sZ,Nat.reduceEqDiff,Nat.reduceAdd,↓reduceIte,reduceCtorEq]
    have mz:=fun (G':List aa) (dN:SD c (G++[aa.cells [AV.int .i64 0,.int .i64 0,.ah,.ah]]) G')=>ZJ.call hD w dN.2 dN.1
    have hjz:(0:Int)≤j∧(j:Int) < (c.kd k).length:=⟨by omega,by omega⟩
    refine ⟨by omega,af (Mi (SD.Bu c (G++[.cells [.int .i64 0,.int .i64 0,.ah,.ah]])) il (by omega) 148 [] [.ai (.ptr c.d 0),.ptr x 0,.ptr y 0,.ai (.int .i64 j)] rfl rfl (Q:=fun z=>R c.O (c.tm ((c.kd i).getD z.toNat 0)) (c.tm ((c.kd k).getD (j:Int).toNat 0)))
     (fun z hz G' dN=>?_) ⟨ZJ.du,Up.refl c _⟩) ?_⟩
    ·obtain ⟨u,rfl,hu,_⟩:=mml hz
     refine (ac9 ii ik ⟨by omega,by omega⟩ hjz (kv hc (ki.2 _ (aP (by omega))) (kk.2 _ (aP (by omega)))) dN.1 (mz G' dN).gx (mz G' dN).gy).mono fun r H' hr=>hr.sb dN
    rintro r G4 ⟨hG4,uC⟩
    rcases uC with ⟨_,uC⟩ | ⟨m,rfl,hm,hQ,_⟩
    ·obtain ⟨z,hz,h⟩:=mmo qq (by rw [htj];exact xU)
     exact absurd h (uC z hz)
    obtain ⟨u,hu,Am,huf⟩:=mml (aP hm)
    have Qx:=mz G4 hG4
    have gx4:=Qx.gx
    have gy4:=Qx.gy
    rw [hu,Int.toNat_natCast,Int.toNat_natCast] at hQ
    simp +contextual only [k2,ii.lens,ik.lens,ii.idx,ik.idx,il.lens,il.idx,Int.toNat_natCast,hu,gx4,gy4,sZ,Nat.reduceEqDiff,Nat.reduceAdd,Nat.reduceLT,↓reduceIte,reduceCtorEq]
    refine ⟨by omega,⟨by omega,by omega⟩,by omega,?_⟩
    refine af (Vp _ (aP Am) _ (aP qq) hQ _ Qx.du) ?_
    rintro r G5 ⟨q,rfl,hq,ZE,ZF⟩
    have ZK:=Qx.call hD w ZE ZF
    have go5:=ZK.go
    have hpo:=fun o=>ZK.adf (o':=o) hD w
    have nr:=fun o es=>(hpo o).set (es':=es) hD w
    have gq5:=fun o=>(hpo o).go
    have gp5:=fun o=>(hpo o).gp
    have gqs:=fun o es=>(nr o es).go
    have gps:=fun o es=>(nr o es).gp
    obtain ⟨u1,u2,u3,u4,u5,u6,u7,u8,u9⟩:=a7 q
    have bq:aj (H.length + 4 + 1) (eC q).cells=true:=cD (gg _ _)
    have Vq:=JJ.snoc (u:Int) q (fun h=>by omega) (fun _=>⟨⟨Sh.ne_nil hq,by rw [Int.toNat_natCast];exact hq⟩,u,rfl,Am,huf⟩)
    have t1:=JJ.lt
    have t2:=JJ.ll
    have VS:∀ ψ,bn 1 8 (uk ts) (.al 0 [.int .i64 (u:Int)]) ψ=ψ (ints (ts++[(u:Int)])):=fun ψ=>R2 ts _ (by omega) 0 ψ
    have apl:∀ ψ,bn 4 64 (pk ls) (.al 0 [eC q]) ψ=ψ (eB (ls++[q])):=fun ψ=>Eb ls q (by omega) 0 ψ
    have lpq:=Ed q
    obtain ⟨x1,x2,x3,x4,x5,x6⟩:=lU (ts++[(u:Int)])
    obtain ⟨y1,y2,y3,y4,y5,y6⟩:=iK (ls++[q])
    obtain ⟨x1',x2',x3',x4',x5',x6'⟩:=lU ts
    obtain ⟨y1',y2',y3',y4',y5',y6'⟩:=iK ls
    have lvb:∀ n,aj n (eB (ls++[q]))=true:=fun n=>iY _ _
    have tvb:∀ n,aj n (ints (ts++[(u:Int)]))=true:=fun n=>bb _ _
    have qS:∀ G',PC c H x y i k [.int .i64 4,.int .i64 0,uk (ts++[(u:Int)]),pk (ls++[q])] (.cells (eC q).cells) G'→∃ (j':Nat) (t:List aa×List Int×List PP),(j'≤(c.kd k).length∧PB c H x y i k [.int .i64 4,.int .i64 0,uk t.2.1,pk t.2.2] t.1∧MI c (c.kd i) (c.kd k) us to j' t.2.1 t.2.2)∧(c.kd k).length - j' < (c.kd k).length - j∧
     sle H.length [(3,.ai (.ptr c.d 0)),(6,.ptr H.length 0),(7,.ptr x 0),(8,.ptr y 0),(10,.ptr (H.length + 3) 0),(11,bu L),(89,.al 0 (ints to)),(90,.int .i64 to.length),(91,.int .i64 (IntKind.i64.wrap (j + 1)))] G' [(3,.ai (.ptr c.d 0)),(6,.ptr H.length 0),(7,.ptr x 0),(8,.ptr y 0),(10,.ptr (H.length + 3) 0),(11,bu L),(89,.al 0 (ints to)),(90,.int .i64 to.length),(91,.int .i64 j')] t.1:=by
     intro G' dN
     obtain ⟨z1,z2⟩:=dN.drop hD w
     have zl:=z1.len
     have hb3:=v3
     refine ⟨j + 1,(G'.take (H.length + 4),ts++[(u:Int)],ls++[q]),⟨qq,z1,Vq⟩,by omega,wA (by rw [au j (by omega)]) (by rw [zl];omega) ?_ _ z2⟩
     obtain ⟨w1,w2,w3,w4⟩:=w
     rw [zl]
     simp only [pZ,List.all_cons,List.all_nil,A4,pY,fM,b9,v3,bb,Bool.and_true,Bool.and_eq_true,decide_eq_true_eq]
     omega
    simp +contextual only [go5,R5,u1,u2,u3,u9,bq,gq5,gp5,gqs,gps,d2,d3,s2,s3,List.set_set,jP,VS,apl,lpq,Ec,rP,x3,x4,y3,y4,sZ,Nat.reduceEqDiff,Nat.reduceAdd,Nat.reduceLT,↓reduceIte]
    repeat' apply And.intro
    all_goals exact qS _ (nr _ _)
   ·have t1:=JJ.lt
    have t2:=JJ.ll
    obtain ⟨q0,hq0⟩:∃ q0,q0=PP.mk 0 0 [] []:=⟨_,rfl⟩
    have uw:q0.nil:=by rw [hq0];exact ⟨rfl,rfl,rfl,rfl⟩
    have lpz:∀ φ,dm (some (.cells [.int .i64 0,.int .i64 0,.ah,.ah])) (some 4) 0 φ=φ (eC q0):=by rw [hq0];exact R3 0 0 [] []
    obtain ⟨u1,u2,u3,u4,u5,u6,u7,u8,u9⟩:=a7 q0
    have Vq:=JJ.snoc tj q0 (fun h=>⟨htj.symm,uw⟩) (fun h=>by omega)
    have VS:∀ ψ,bn 1 8 (uk ts) (.al 0 [.int .i64 tj]) ψ=ψ (ints (ts++[tj])):=fun ψ=>R2 ts _ (by omega) 0 ψ
    have apl:∀ ψ,bn 4 64 (pk ls) (.al 0 [eC q0]) ψ=ψ (eB (ls++[q0])):=fun ψ=>Eb ls q0 (by omega) 0 ψ
    have nr:=fun es=>ZJ.set (es':=es) hD w
    have gp5:=ZJ.gp
    have go5:=ZJ.go
    have gqs:=fun es=>(nr es).go
    have gps:=fun es=>(nr es).gp
    obtain ⟨x1,x2,x3,x4,x5,x6⟩:=lU (ts++[tj])
    obtain ⟨y1,y2,y3,y4,y5,y6⟩:=iK (ls++[q0])
    obtain ⟨x1',x2',x3',x4',x5',x6'⟩:=lU ts
    obtain ⟨y1',y2',y3',y4',y5',y6'⟩:=iK ls
    have lvb:∀ n,aj n (eB (ls++[q0]))=true:=fun n=>iY _ _
    have tvb:∀ n,aj n (ints (ts++[tj]))=true:=fun n=>bb _ _
    have qS:∀ G',PC c H x y i k [.int .i64 4,.int .i64 0,uk (ts++[tj]),pk (ls++[q0])] (.cells [.int .i64 0,.int .i64 0,.ah,.ah]) G'→∃ (j':Nat) (t:List aa×List Int×List PP),(j'≤(c.kd k).length∧PB c H x y i k [.int .i64 4,.int .i64 0,uk t.2.1,pk t.2.2] t.1∧MI c (c.kd i) (c.kd k) us to j' t.2.1 t.2.2)∧(c.kd k).length - j' < (c.kd k).length - j∧
     sle H.length [(3,.ai (.ptr c.d 0)),(6,.ptr H.length 0),(7,.ptr x 0),(8,.ptr y 0),(10,.ptr (H.length + 3) 0),(11,bu L),(89,.al 0 (ints to)),(90,.int .i64 to.length),(91,.int .i64 (IntKind.i64.wrap (j + 1)))] G' [(3,.ai (.ptr c.d 0)),(6,.ptr H.length 0),(7,.ptr x 0),(8,.ptr y 0),(10,.ptr (H.length + 3) 0),(11,bu L),(89,.al 0 (ints to)),(90,.int .i64 to.length),(91,.int .i64 j')] t.1:=by
     intro G' dN
     obtain ⟨z1,z2⟩:=dN.drop hD w
     have zl:=z1.len
     have hb3:=v3
     refine ⟨j + 1,(G'.take (H.length + 4),ts++[tj],ls++[q0]),⟨qq,z1,Vq⟩,by omega,wA (by rw [au j (by omega)]) (by rw [zl];omega) ?_ _ z2⟩
     obtain ⟨w1,w2,w3,w4⟩:=w
     rw [zl]
     simp only [pZ,List.all_cons,List.all_nil,A4,pY,fM,b9,v3,bb,Bool.and_true,Bool.and_eq_true,decide_eq_true_eq]
     omega
    simp +contextual only [decide_true,decide_false,MA,cK,dK,Int.toNat_natCast,htj,xU,hlen,zf5,u1,u2,gp5,go5,gqs,gps,d2,d3,s2,s3,List.set_set,jP,VS,apl,lpz,Ec,rP,x3,x4,y3,y4,sZ,Nat.reduceEqDiff,Nat.reduceAdd,Nat.reduceLT,↓reduceIte]
    refine ⟨by omega,?_⟩
    repeat' apply And.intro
    all_goals exact qS _ (nr _)
  ·have Zs:j=(c.kd k).length:=by omega
   subst Zs
   have hs:Sh c.O (.mk 4 0 ts ls) (c.tm i) (c.tm k):=by
    rw [Sh4 rfl ki2]
    rw [osi] at BJ
    refine ⟨rfl,kk2,MH.2.2,BJ,?_⟩
    show RZ (E c.O) (Sh c.O) ts ls (c.tm i).l (c.tm k).l
    rw [← ki.1,← kk.1,← D6]
    exact JJ.cov Bx hlne2
   have gp6:=lh.gp
   have g66:=lh.g6
   have lp:=R3 4 0 ts ls
   obtain ⟨q1,q2,q3,q4,q5,q6,q7,q8,q9⟩:=a7 (.mk 4 0 ts ls)
   have lp2:=Ed (.mk 4 0 ts ls)
   have MF:=List.getElem?_set_self (a:=aa.cells (eC (.mk 4 0 ts ls)).cells) (aO g66)
   have Qw:aj (H.length + 1) (eC (.mk 4 0 ts ls)).cells=true:=cD (gg _ _)
   have jE:=PB.fin hD lh hs
   simp +contextual only [decide_false,MA,gp6,g66,lp,q1,q2,q3,q9,R5,MF,lp2,Qw,sZ,Nat.reduceEqDiff,Nat.reduceAdd,↓reduceIte,reduceCtorEq]
   first | exact jE | exact ⟨by omega,jE⟩
end Go.aL
end
section
set_option maxRecDepth 100000
namespace Go.aL
open Go Go.Proofs Go.fN
theorem MJ {P:Nat→Prop}:∀ {n:Nat},P n→∃ m,m≤n∧P m∧∀ j,j < m→¬ P j:=by
 intro n
 induction n using Nat.strongRecOn with
 | _ n ih=>
   intro h
   by_cases hx:∃ j,j < n∧P j
   ·obtain ⟨j,hj,hp⟩:=hx
    obtain ⟨m,h1,h2,h3⟩:=ih j hj hp
    exact ⟨m,by omega,h2,h3⟩
   ·exact ⟨n,Nat.le_refl _,h,fun j hj hp=>hx ⟨j,hj,hp⟩⟩
theorem c86 {c:Cx} (hc:c.Ok):∀ (N:Nat) (i k:Int),c.dV i→c.dV k→wt (c.tm i) + wt (c.tm k)≤N→R c.O (c.tm i) (c.tm k)→pn c i k:=by
 intro N
 induction N with
 | zero=>intro i k _ _ h;have:=fO (c.tm i);omega
 | succ N ih=>
 intro i k hi hk hN hR
 have hx:∀ {j:Int},c.dV j→∀ x∈c.kd j,c.dV x∧wt (c.tm x) < wt (c.tm j):=fun {j} hj x hx=>by
  have h1:=hc.kids j hj
  exact ⟨h1.2 x hx,bP (by rw [← h1.1];exact List.mem_map.2 ⟨x,hx,rfl⟩)⟩
 have p1:∀ x∈c.kd i,R c.O (c.tm x) (c.tm k)→pn c x k:=fun x h r=>ih x k (hx hi x h).1 hk (by have:=(hx hi x h).2;omega) r
 have p2:∀ y∈c.kd k,R c.O (c.tm i) (c.tm y)→pn c i y:=fun y h r=>ih i y hi (hx hk y h).1 (by have:=(hx hk y h).2;omega) r
 have p3:∀ x∈c.kd i,∀ y∈c.kd k,R c.O (c.tm x) (c.tm y)→pn c x y:=fun x h y h' r=>ih x y (hx hi x h).1 (hx hk y h').1 (by have:=(hx hi x h).2;have:=(hx hk y h').2;omega) r
 obtain ⟨_,n,hn,hr⟩:=(s9 hc hi hk).2 hR
 obtain ⟨m,hm,hr,jW⟩:=MJ (P:=fun n=>g9 c i k n) hr
 have:m=1∨m=2∨m=3∨m=4:=by
  rcases hr with h | h | h | h
  ·exact .inl h.1
  ·exact .inr (.inl h.1)
  ·exact .inr (.inr (.inl h.1))
  ·exact .inr (.inr (.inr h.1))
 rcases this with rfl | rfl | rfl | rfl
 ·exact ZC hc hi hk hR hr jW p1
 ·exact ZG hc hi hk hR hr jW p2
 ·exact ZH hc hi hk hR hr jW p2 p3
 ·exact ZI hc hi hk hR hr jW p3
theorem ZL {c:Cx} (hc:c.Ok) {i k:Int} (hi:c.dV i) (hk:c.dV k) (hR:R c.O (c.tm i) (c.tm k)):pn c i k:=c86 hc _ i k hi hk (Nat.le_refl _) hR
def Qy:PP:=.mk 0 0 [] []
def Vr (s:Sg) (ps ss:List Int) (a b:T) (r:AV):Prop:=
 (gE s ps ss [a,b]≠0∧r=.tuple [eC Qy,.bool false,.int .i64 (gE s ps ss [a,b])])∨
 (gE s ps ss [a,b]=0∧¬ R (ky ps ss) a b∧r=.tuple [eC Qy,.bool false,.int .i64 0])∨
 (gE s ps ss [a,b]=0∧∃ p,Sh (ky ps ss) p a b∧r=.tuple [eC p,.bool true,.int .i64 0])
theorem Up.kO {c:Cx} {G0 G:List aa} (h:Up c G0 G) {n:Nat} (he:n≤c.e) (hg:n≤c.g):G.take n=G0.take n:=by
 apply List.ext_getElem?
 intro j
 rw [List.getElem?_take,List.getElem?_take]
 split
 ·rename_i hj;exact h.get j (by omega) (by omega)
 ·rfl
theorem lV (n0 s s' s'':Nat) (sz:Option Nat) (env:Env) (H:List aa) (R:AV→List aa→Prop):bW n0 [.c s sz,.t s',.t s''] env H R=aQ sz (get env s) H fun x=>rk n0 [x,get env s',get env s''] H R:=_root_.id rfl
theorem HD {Hs G:List aa} {n0:Nat} {u v w:AV} {R:AV→List aa→Prop} (hH:Hs.take n0=G) (hb:aj n0 [u,v,w]=true) (hu:[u,v,w].map AV.ab=[u,v,w]) (hR:R (.tuple [u,v,w]) G):rk n0 [u,v,w] Hs R:=by
 subst hH
 exact ⟨n0,Nat.le_refl _,_,by rw [hu];exact b8 _,hb,hR⟩
theorem vj {H G:List aa} {o:aa} (h:G.take H.length=H):(G.set H.length o).take H.length=H:=by
 rw [List.take_set_of_le (Nat.le_refl _),h]
theorem c27 (s:Sg) (ps ss:List Int) (a b:T) (H:List aa):aq Tryz.prog 27 [s.av,eX ps ss,a.av,b.av] H fun r H'=>Vr s ps ss a b r∧H'=H:=by
 refine k27.2.calls rfl ?_
 simp only [k27,aF]
 obtain ⟨q1,q2,q3,q4,q5,q6⟩:=bo ps ss
 have zf4:∀ n,aj n (List.map AV.ab [AV.int .i64 0,.int .i64 0,.ah,.ah])=true:=fun _=>rfl
 have zf5:List.map AV.ab [AV.int .i64 0,.int .i64 0,.ah,.ah]=[AV.int .i64 0,.int .i64 0,.ah,.ah]:=rfl
 simp +contextual only [aB,q1,q4,bZ,zf5,sZ,Nat.reduceEqDiff,Nat.reduceAdd,↓reduceIte,reduceCtorEq]
 have g0:(H++[aa.cells [AV.int .i64 0,.int .i64 0,.ah,.ah]])[H.length]?=some (.cells [.int .i64 0,.int .i64 0,.ah,.ah]):=by simp
 have uA:(H++[aa.cells [AV.int .i64 0,.int .i64 0,.ah,.ah]]).length=H.length + 1:=by simp
 have UW:(H++[aa.cells [AV.int .i64 0,.int .i64 0,.ah,.ah]]).take H.length=H:=by simp
 refine ae (Zl s ps ss [a,b]) ?_
 generalize H++[aa.cells [AV.int .i64 0,.int .i64 0,.ah,.ah]]=H1 at g0 uA UW ⊢
 have ldz:∀ φ,dm (some (.cells [.int .i64 0,.int .i64 0,.ah,.ah])) (some 4) 0 φ=φ (eC Qy):=R3 0 0 [] []
 have zb:∀ p b n,aj H.length [eC p,.bool b,.int .i64 n]=true:=fun p b n=>by simp [bH,cP,gg,A0,fM]
 have zu:∀ p b n,[eC p,AV.bool b,.int .i64 n].map AV.ab=[eC p,.bool b,.int .i64 n]:=fun p b n=>by simp [(a7 p).2.2.2.1,oU,oe]
 by_cases h0:gE s ps ss [a,b]=0
 ·have hr:=rM h0
  have hw:=mW hr.tree
  have hc:=hr.cx (by simp) (by simp) H1.length
  have hd:=zP ps ss (ts:=[a,b]) (by simp) H1
  simp +contextual only [q4,bZ,h0,sZ,Nat.reduceEqDiff,Nat.reduceAdd,↓reduceIte]
  refine af (YW ps ss [a,b] _ (by simp at hw;omega)) ?_
  rintro r G ⟨rfl,rfl⟩
  have a0:=uh (ps:=ps) (ss:=ss) (ts:=[a,b]) (n:=H1.length) (j:=0) (by simp)
  have a1:=uh (ps:=ps) (ss:=ss) (ts:=[a,b]) (n:=H1.length) (j:=1) (by simp)
  have hl:=cI [a,b] 0
  rw [Qo]
  generalize aU [a,b] 0=ks at a0 a1 hl ⊢
  have nE:ks.length=2:=hl
  simp +contextual only [cK,nE,dK,sZ,Nat.reduceEqDiff,Nat.reduceAdd,Nat.reduceLT,↓reduceIte,reduceCtorEq]
  refine ⟨by decide,by decide,af (kv hc a0.1 a1.1 _ hd) ?_⟩
  rintro r G ⟨x,rfl,hx,hU,hD⟩
  rw [a0.2,a1.2] at hx
  have xH:x=true↔R (ky ps ss) a b:=hx
  have he:(gK ps ss [a,b] H1.length).e=H.length + 1:=uA
  have hg:(gK ps ss [a,b] H1.length).g=H.length + 2:=by show H1.length + 1=_;omega
  have low:∀ G',Up (gK ps ss [a,b] H1.length) G G'→G'[H.length]?=some (.cells [.int .i64 0,.int .i64 0,.ah,.ah])∧G'.take H.length=H:=by
   intro G' hU'
   have RU:=hU.trans hU'
   refine ⟨by rw [RU.get _ (by omega) (by omega),List.getElem?_append_left (by omega)];exact g0,?_⟩
   rw [RU.kO (n:=H.length) (by omega) (by omega),List.take_append_of_le_length (by omega),UW]
  have gz:=low G (Up.refl _ _)
  have gz1:=gz.1
  have gzs:=fun o=>List.getElem?_set_self (a:=o) (aO gz1)
  have nilc:(eC Qy).cells=[AV.int .i64 0,.int .i64 0,.al 0 [],.al 0 []]:=rfl
  cases x with
  | false=>
    simp +contextual only [Bool.not_false,gz1,gzs,zf5,JC,lV,ldz,sZ,Nat.reduceEqDiff,Nat.reduceAdd,↓reduceIte,reduceCtorEq]
    refine HD (vj gz.2) (zb _ _ _) (zu _ _ _) ⟨.inr (.inl ⟨h0,fun h=>absurd (xH.2 h) (by simp),rfl⟩),rfl⟩
  | true=>
    simp +contextual only [Bool.not_true,cK,nE,dK,sZ,Nat.reduceEqDiff,Nat.reduceAdd,↓reduceIte,reduceCtorEq]
    refine ⟨by decide,by decide,af (ZL hc a0.1 a1.1 (by rw [a0.2,a1.2];exact xH.1 rfl) _ hD) ?_⟩
    rintro r G2 ⟨p,rfl,hp,RU,B5⟩
    rw [a0.2,a1.2] at hp
    obtain ⟨gy1,gy2⟩:=low G2 RU
    have gys:=fun o=>List.getElem?_set_self (a:=o) (aO gy1)
    obtain ⟨u1,u2,u3,u4,u5,u6,u7,u8,u9⟩:=a7 p
    have lpq:=Ed p
    have Qw:aj (H.length + 1) (eC p).cells=true:=cD (gg _ _)
    simp +contextual only [gy1,gys,u1,u2,u3,u9,R5,lpq,Qw,lV,sZ,Nat.reduceEqDiff,Nat.reduceAdd,↓reduceIte,reduceCtorEq]
    first | exact HD (vj gy2) (zb _ _ _) (zu _ _ _) ⟨.inr (.inr ⟨h0,p,hp,rfl⟩),rfl⟩ | exact ⟨by omega,HD (vj gy2) (zb _ _ _) (zu _ _ _) ⟨.inr (.inr ⟨h0,p,hp,rfl⟩),rfl⟩⟩
 ·have gs:∀ o,(H1.set H.length o)[H.length]?=some o:=fun o=>List.getElem?_set_self (by omega)
  simp +contextual only [h0,g0,gs,zf5,JC,lV,ldz,sZ,Nat.reduceEqDiff,Nat.reduceAdd,↓reduceIte,reduceCtorEq]
  refine HD (vj UW) (zb _ _ _) (zu _ _ _) ⟨.inl ⟨h0,rfl⟩,rfl⟩
end Go.aL
end
section
set_option maxRecDepth 100000
namespace Go.aL
open Go Go.Proofs Go.fN
def uG (l:List nG):List AV:=l.map nG.av
theorem Ee (l:List nG):(uG l).length=l.length:=by simp [uG]
theorem MK (n:Nat) (l:List nG):aj n (uG l)=true:=by
 rw [a8];intro x hx;obtain ⟨y,_,rfl⟩:=List.mem_map.1 hx
 exact y.facts.2.2.2.2.2 n
theorem HE (o:Nat) (l:List nG):(∀ (own:Nat) (xs:List AV),AV.al o (uG l)=AV.al own xs→∀ z∈xs,z.cells.length=8)=True:=by
 simp only [eq_iff_iff,iff_true]
 intro own xs e z hz
 cases e
 obtain ⟨y,_,rfl⟩:=List.mem_map.1 hz;rfl
theorem idx_eq (e o:Nat) (l:List nG) (k:IntKind) (i:Nat) (φ:AV→Prop):ax e (.al o (uG l)) (.int k (i:Int)) φ=(i < l.length∧φ (.ai (l.getD i default).av)):=by
 simp only [ax,Ee,Int.toNat_natCast,eq_iff_iff]
 constructor
 ·rintro ⟨_,h,h2⟩;refine ⟨h,?_⟩;simpa [uG,h] using h2
 ·rintro ⟨h,h2⟩;refine ⟨by omega,h,?_⟩;simpa [uG,h] using h2
theorem R6 (e:nG) (H:List aa) (φ:AV→Prop):aQ (some 8) (.ai e.av) H φ=φ e.av:=by simp [aQ,nG.av,AV.cells]
structure ML (ps:List Int) (e:nG):Prop where
 few:e.cs.length≤1000
 tree:∀ t∈e.a::e.rest,t.tree=true
 ops:∀ t∈e.a::e.rest,zJ (fun n=>0≤n∧n < ps.length) t
open Classical in
noncomputable def yw (ps ss:List Int) (e:nG):Bool:=decide (Qq ps ss e)
theorem ZM (ps ss:List Int) (e:nG) (hv:Va ps ss) (he:ML ps e):Pure Tryz.prog 163 [eX ps ss,e.av] (.bool (yw ps ss e)):=by
 intro H
 refine (acW ps ss e hv he.few he.tree he.ops H).mono ?_
 rintro r H' ⟨⟨b,rfl,hb⟩,rfl⟩
 refine ⟨?_,rfl⟩
 congr 1
 rw [Bool.eq_iff_iff,hb]
 simp [yw]
theorem adi (ps ss:List Int) (e:nG) (hv:Va ps ss) (he:ML ps e):Pure Tryz.prog 162 [e.av,.ai (eX ps ss)] (.bool (!yw ps ss e)):=by
 refine fun H=>XI.2.calls rfl ?_
 simp only [XI,aF]
 obtain ⟨q1,q2,q3,q4,q5,q6⟩:=bo ps ss
 obtain ⟨e1,e2,e3,e4,e5,e6⟩:=nG.facts e
 simp +contextual only [q4,e1,e4,bZ,R6,sZ,Nat.reduceEqDiff,Nat.reduceAdd,↓reduceIte,reduceCtorEq]
 refine ae (ZM ps ss e hv he) ?_
 simp +contextual only [sZ,↓reduceIte,reduceCtorEq]
 exact aZ rfl rfl
def qm {α:Type} (p:α→Bool):List α→Nat→Int
 | [],_=>-1
 | x::r,i=>if p x=true then (i:Int) else qm p r (i + 1)
theorem z5 {α:Type} [Inhabited α] {p:α→Bool} {l:List α} {i:Nat} (h:i < l.length):qm p (l.drop i) i=if p (l.getD i default)=true then (i:Int) else qm p (l.drop (i + 1)) (i + 1):=by
 have e:l.getD i default=l[i]:=by simp [h]
 rw [List.drop_eq_getElem_cons h,qm,e]
theorem adj (ps ss:List Int) (l:List nG) (hv:Va ps ss) (he:∀ e∈l,ML ps e):Pure Tryz.prog 161 [.al 0 (uG l),.fn (.func 162) [] [.ai (eX ps ss)]] (.int .i64 (qm (fun e=>!yw ps ss e) l 0)):=by
 refine fun H=>PE.2.calls rfl ?_
 simp only [PE,aF]
 simp +contextual only [Ee,sZ,Nat.reduceEqDiff,Nat.reduceAdd,↓reduceIte,reduceCtorEq]
 intro hl
 refine aD l.length (fun i=>qm (fun e=>!yw ps ss e) (l.drop i) i=qm (fun e=>!yw ps ss e) l 0) (fun i=>[(0,.al 0 (uG l)),(1,.fn (.func 162) [] [.ai (eX ps ss)]),(7,.int .i64 l.length),(8,.int .i64 i)]) (fun _=>H) ⟨rfl,aA _ _ _⟩ fun i hi hI=>?_
 obtain ⟨e1,e2,e3,e4,e5,e6⟩:=nG.facts (l.getD i default)
 simp +contextual only [HE,idx_eq,R6,e4,sZ,Nat.reduceEqDiff,Nat.reduceAdd,↓reduceIte,reduceCtorEq]
 refine ⟨fun aK=>?_,fun gr=>?_⟩
 ·have aK:=bi aK
  have hm:l.getD i default∈l:=by
   rw [List.getD_eq_getElem?_getD,List.getElem?_eq_getElem aK];exact List.getElem_mem aK
  rw [z5 aK] at hI
  refine ⟨aK,ae (adi ps ss _ hv (he _ hm)) ?_⟩
  cases hb:yw ps ss (l.getD i default) with
  | false=>
    rw [if_pos (by rw [hb];rfl)] at hI
    simp +contextual only [Bool.not_false,sZ,Nat.reduceEqDiff,↓reduceIte,reduceCtorEq]
    exact aZ rfl (by rw [← hI])
  | true=>
    rw [if_neg (by rw [hb];simp)] at hI
    simp +contextual only [Bool.not_true,sZ,Nat.reduceEqDiff,↓reduceIte,reduceCtorEq]
    exact ⟨i + 1,⟨aK,hI⟩,by omega,aC (by rw [au i (by omega)]) rfl⟩
 ·rw [List.drop_of_length_le (cb gr)] at hI
  exact aZ rfl (by rw [← hI];rfl)
structure Ty where
 s:Sg
 es:List nG
deriving Inhabited
def Ty.av (t:Ty):AV:=.agg [.al 0 (strs t.s.a9),.al 0 (pj t.s.ops),.al 0 (uG t.es)]
theorem Ty.facts (t:Ty):t.av.val=true∧t.av.cells.length=3∧t.av.cells.all AV.one=true∧t.av.ab=t.av∧t.av.drop=t.av∧∀ n,t.av.aV n=true:=
 ⟨rfl,rfl,rfl,rfl,rfl,fun n=>by simp [Ty.av,AV.aV,aj,xf,xe,MK]⟩
theorem MM (t:Ty) (φ:AV→Prop):ak 0 (some 2) (.ai t.av) φ=φ (.ai t.s.av):=by simp [ak,apart,Ty.av,Sg.av,AV.cells]
theorem fY2 (t:Ty) (φ:AV→Prop):ak 2 none (.ai t.av) φ=φ (.ai (.al 0 (uG t.es))):=by simp [ak,apart,Ty.av,AV.cells,AV.one]
theorem fS1 (s:Sg) (φ:AV→Prop):ak 1 none (.ai s.av) φ=φ (.ai (.al 0 (pj s.ops))):=by simp [ak,apart,Sg.av,AV.cells,AV.one]
theorem nk (t:Ty) (H:List aa) (φ:AV→Prop):aQ (some 3) (.ai t.av) H φ=φ t.av:=by simp [aQ,Ty.av,AV.cells]
noncomputable def rQ (t:Ty) (ps ss:List Int):Int:=qm (fun e=>!yw ps ss e) t.es 0
theorem c89 (t:Ty) (ps ss:List Int) (hv:Va ps ss) (he:∀ e∈t.es,ML ps e):Pure Tryz.prog 89 [t.av,eX ps ss] (.int .i64 (rQ t ps ss)):=by
 refine fun H=>k89.2.calls rfl ?_
 simp only [k89,aF]
 obtain ⟨q1,q2,q3,q4,q5,q6⟩:=bo ps ss
 obtain ⟨e1,e2,e3,e4,e5,e6⟩:=Ty.facts t
 simp +contextual only [q1,e1,fY2,sZ,Nat.reduceEqDiff,Nat.reduceAdd,↓reduceIte,reduceCtorEq]
 refine ae (adj ps ss t.es hv he) ?_
 simp +contextual only [sZ,↓reduceIte,reduceCtorEq]
 exact aZ rfl rfl
end Go.aL
end
section
set_option maxRecDepth 100000
set_option maxHeartbeats 0
namespace Go.aL
open Go Go.Proofs
noncomputable def R7:=aF Tryz.call112 Tryz.func112 Tryz.ntmps112 [(0,0,1),(8,0,3001)] [(0,[1,2,3,4,8]),(1,[1,2,3,8,9]),(2,[1,2,3,8,10]),(3,[2,3,8,10,24,25,26]),(4,[2,3,8,10,24,25,26,27]),(5,[2,3,8,10,11,12,24,25,26]),(6,[2,3,8,10,24,25,26]),(7,[2,3,8,10,24,25,26]),(8,[8])] [(6,(.take 0 true (.take 1 true (.take 2 true (.take 6 true (.take 7 true (.take 8 true (.take 9 true (.take 10 true (.take 11 true (.take 12 true (.take 13 true (.take 14 true (.take 3 false (.take 5 false (.br 4 (.br 15 (.take 16 true (.br 17 .done .nil)) .nil) (.br 15 (.take 4 true (.take 16 true (.br 17 .done .nil))) .nil)))))))))))))))))]
end Go.aL
end
section
set_option maxRecDepth 100000
namespace Go.aL
open Go Go.Proofs Go.fN
def jv:List Int→List Int→List Int→List Int
 | l,i::r,x::s=>jv (l.set i.toNat x) r s
 | l,_,_=>l
def qn (n:Nat) (ops pl:List Int):List Int:=jv (List.replicate n 255) ops pl
def tf (n:Nat) (ops st:List Int):List Int:=jv (List.replicate n 1) ops st
theorem xq:∀ (l r s:List Int),(jv l r s).length=l.length
 | l,[],_=>by cases l <;> rfl
 | l,_::_,[]=>rfl
 | l,i::r,x::s=>by rw [jv,xq];simp
theorem adk (t:Ty) (ops pl st:List Int) {vo vp vs:AV} (ho:IL vo ops) (hp:IL vp pl) (hs:IL vs st) (uA:pl.length=ops.length) (nE:st.length=ops.length) (hr:∀ i∈ops,0≤i∧i < t.s.ops.length) (hn:t.s.ops.length≤1000000000) (jW:ops.length≤1000000000):Pure Tryz.prog 112 [t.av,vo,vp,vs] (eX (qn t.s.ops.length ops pl) (tf t.s.ops.length ops st)):=by
 refine fun H=>R7.2.calls rfl ?_
 simp only [R7,aF]
 obtain ⟨e1,e2,e3,e4,e5,e6⟩:=Ty.facts t
 obtain ⟨a1,a2,a3,a4⟩:=ho.one
 obtain ⟨b1,b2,b3,b4⟩:=hp.one
 obtain ⟨c1,c2,c3,c4⟩:=hs.one
 simp +contextual only [e1,MM,fS1,xd,sZ,Nat.reduceEqDiff,Nat.reduceAdd,↓reduceIte,reduceCtorEq]
 intro _
 refine af (U5 0 255 t.s.ops.length hn _) ?_
 rintro r G ⟨rfl,rfl⟩
 simp +contextual only [sZ,Nat.reduceEqDiff,Nat.reduceAdd,↓reduceIte]
 refine af (U5 0 1 t.s.ops.length hn _) ?_
 rintro r G ⟨rfl,rfl⟩
 simp +contextual only [sZ,Nat.reduceEqDiff,Nat.reduceAdd,↓reduceIte]
 obtain ⟨n,hn'⟩:∃ n,n=t.s.ops.length:=⟨_,rfl⟩
 rw [← hn'] at hn hr ⊢
 have va:∀ a b c d,(AV.bc a b c d).val=true:=fun _ _ _ _=>rfl
 have vc:∀ a b c d,(AV.bc a b c d).cells=[.bc a b c d]:=fun _ _ _ _=>rfl
 have vo':∀ a b c d,(AV.bc a b c d).one=true:=fun _ _ _ _=>rfl
 have vd:∀ a b c d,(AV.bc a b c d).drop=.bc a b c d:=fun _ _ _ _=>rfl
 have bdA:∀ (a1 b1 c1 d1 a2 b2 c2 d2:Nat) (φ:AV→Prop),cA [AV.ah,AV.ah] [(0,1,.bc a1 b1 c1 d1),(1,1,.bc a2 b2 c2 d2)] φ=φ (.agg [.bc a1 b1 c1 d1,.bc a2 b2 c2 d2]):=by
  intro a1 b1 c1 d1 a2 b2 c2 d2 φ
  simp only [cA,gO,eq_iff_iff]
  constructor
  ·rintro ⟨_,_,_,_,_,_,h⟩;exact h
  ·exact fun h=>⟨rfl,rfl,by simp,rfl,rfl,by simp [ag,AV.cells],h⟩
 have g3:∀ (a b c d:aa),[a,b,c,d][3]?=some d:=fun _ _ _ _=>rfl
 have sp2:∀ (a b x y:AV),ag [a,b] 0 [x,y]=[x,y]:=fun _ _ _ _=>rfl
 have lt1:∀ m:Nat,decide (m + 1 < m + 3 + 1)=true:=fun m=>by simp
 have lt2:∀ m:Nat,decide (m + 2 < m + 3 + 1)=true:=fun m=>by simp
 let S:List Int→List Int→List aa:=fun P Q=>H++[.cells [.ah,.ah],cW P,cW Q,.cells [.bc (H.length + 1) 0 n n,.bc (H.length + 2) 0 n n]]
 simp +contextual only [bdA,vo',g3,sp2,s3,lt1,lt2,Bool.and_self,a2,ho.aN,ho.len (by omega),sZ,Nat.reduceEqDiff,Nat.reduceAdd,↓reduceIte]
 refine aJ ops.length (fun j (s:List Int×List Int)=>s.1.length=n∧s.2.length=n∧jv s.1 (ops.drop j) (pl.drop j)=qn n ops pl∧jv s.2 (ops.drop j) (st.drop j)=tf n ops st)
  (fun j s=>[(2,vp),(3,vs),(8,.ptr H.length 0),(10,.ptr (H.length + 3) 0),(24,vo),(25,.int .i64 ops.length),(26,.int .i64 j)]) (fun j s=>S s.1 s.2) (List.replicate n 255,List.replicate n 1) ⟨⟨by simp,by simp,rfl,rfl⟩,aA _ _ _⟩ fun j s hj hI=>?_
 obtain ⟨P,Q⟩:=s
 obtain ⟨hP,hQ,R8,Qz⟩:=hI
 simp only at hP hQ R8 Qz
 by_cases hjo:(j:Int) < ops.length
 ·have qq:j < ops.length:=by omega
  have hri:=hr _ (aP qq)
  obtain ⟨x,hx⟩:=Int.eq_ofNat_of_zero_le hri.1
  have hxn:x < n:=by omega
  have hxP:x < P.length:=by omega
  have hxQ:x < Q.length:=by omega
  simp +contextual only [S,hjo,decide_true,b2,c2,ho.lens,ho.idx,hp.lens,hp.idx,hs.lens,hs.idx,Int.toNat_natCast,hx,lj,g3,Mk hxP,Mk hxQ,sZ,Nat.reduceEqDiff,Nat.reduceAdd,Nat.reduceLT,↓reduceIte,reduceCtorEq]
  have stp:∀ (P q:List Int),q.length=ops.length→jv P (ops.drop j) (q.drop j)=jv (P.set x (q.getD j 0)) (ops.drop (j + 1)) (q.drop (j + 1)):=by
   intro P q hq
   have e1:ops.drop j=ops.getD j 0::ops.drop (j + 1):=by rw [List.drop_eq_getElem_cons qq];simp [qq]
   have hjq:j < q.length:=by omega
   have e2:q.drop j=q.getD j 0::q.drop (j + 1):=by rw [List.drop_eq_getElem_cons hjq];simp [hjq]
   rw [e1,e2,jv,hx,Int.toNat_natCast]
  rw [stp P pl uA] at R8
  rw [stp Q st nE] at Qz
  have hgo:∃ (j':Nat) (t:List Int×List Int),(j'≤ops.length∧t.1.length=n∧t.2.length=n∧jv t.1 (ops.drop j') (pl.drop j')=qn n ops pl∧jv t.2 (ops.drop j') (st.drop j')=tf n ops st)∧ops.length - j' < ops.length - j∧
   sle H.length [(2,vp),(3,vs),(8,.ptr H.length 0),(10,.ptr (H.length + 3) 0),(24,vo),(25,.int .i64 ops.length),(26,.int .i64 (IntKind.i64.wrap (j + 1)))]
    (H++[.cells [.ah,.ah],cW (P.set x (pl.getD j 0)),cW (Q.set x (st.getD j 0)),.cells [.bc (H.length + 1) 0 n n,.bc (H.length + 2) 0 n n]])
    [(2,vp),(3,vs),(8,.ptr H.length 0),(10,.ptr (H.length + 3) 0),(24,vo),(25,.int .i64 ops.length),(26,.int .i64 j')]
    (H++[.cells [.ah,.ah],cW t.1,cW t.2,.cells [.bc (H.length + 1) 0 n n,.bc (H.length + 2) 0 n n]]):=
   ⟨j + 1,(P.set x (pl.getD j 0),Q.set x (st.getD j 0)),⟨qq,by simp [hP],by simp [hQ],R8,Qz⟩,by omega,aC (by rw [au j (by omega)]) rfl⟩
  repeat' apply And.intro
  all_goals first | omega | exact hgo
 ·have Zs:j=ops.length:=by omega
  subst Zs
  rw [List.drop_length] at R8 Qz
  have eP:P=qn n ops pl:=by rw [← R8];cases P <;> rfl
  have eQ:Q=tf n ops st:=by rw [← Qz];cases Q <;> rfl
  simp +contextual only [Lq,S,hjo,decide_false,g3,vd,sZ,Nat.reduceEqDiff,↓reduceIte]
  have f1:(H++[aa.cells [AV.ah,.ah],cW P,cW Q,.cells [.bc (H.length + 1) 0 n n,.bc (H.length + 2) 0 n n]])[H.length + 1]?=some (cW P):=by simp
  have f2:((H++[aa.cells [AV.ah,.ah],cW P,cW Q,.cells [.bc (H.length + 1) 0 n n,.bc (H.length + 2) 0 n n]]).set (H.length + 1) .dead)[H.length + 2]?=some (cW Q):=by rw [List.getElem?_set_ne (by omega)];simp
  have fz1:∀ {id n:Nat} {l:List Int} {H:List aa} (h:H[id]?=some (cW l)) (hn:l.length=n) {K:AV→List aa→Prop} (hK:K (.al 0 (ints l)) (H.set id .dead)),dn 1 (.bc id 0 n n) H K:=fun h hn K hK=>by subst hn;exact DU h hK
  refine fz1 f1 hP ?_
  refine fz1 f2 hQ ?_
  have es:((H++[aa.cells [AV.ah,.ah],cW P,cW Q,.cells [.bc (H.length + 1) 0 n n,.bc (H.length + 2) 0 n n]]).set (H.length + 1) .dead).set (H.length + 2) .dead=H++[aa.cells [AV.ah,.ah],.dead,.dead,.cells [.bc (H.length + 1) 0 n n,.bc (H.length + 2) 0 n n]]:=by simp []
  rw [es]
  have fb:∀ m,aj m [AV.al 0 (ints P),.al 0 (ints Q)]=true:=fun m=>by simp [bH,cP,b9,bb]
  simp +contextual only [fb,sp2,Bool.and_self,sZ,Nat.reduceEqDiff,Nat.reduceAdd,↓reduceIte,reduceCtorEq]
  rw [eP,eQ]
  exact rn ((bo _ _).2.2.2.2.2 _) rfl
end Go.aL
end
section
set_option maxRecDepth 100000
namespace Go.aL
open Go Go.Proofs Go.fN
def iL (vals:List Int):Nat→List (List Int)
 | 0=>[[]]
 | n + 1=>vals.flatMap fun x=>(iL vals n).map (x::·)
def eY {σ:Type} (step:σ→List Int→σ×Bool):List (List Int)→σ→σ×Bool
 | [],s=>(s,true)
 | l::r,s=>if (step s l).2=true then eY step r (step s l).1 else ((step s l).1,false)
theorem xr {σ:Type} {step:σ→List Int→σ×Bool}:∀ (a b:List (List Int)) (s:σ),eY step (a++b) s=if (eY step a s).2=true then eY step b (eY step a s).1 else ((eY step a s).1,false)
 | [],b,s=>by simp [eY]
 | x::a,b,s=>by
   rw [List.cons_append,eY,eY]
   split
   ·exact xr a b _
   ·simp
def dw (lo:Int) (n:Nat):List Int:=(List.range n).map fun i=>lo + (i:Nat)
theorem Gi (lo:Int) (n:Nat):dw lo (n + 1)=dw lo n++[lo + (n:Nat)]:=by simp [dw,List.range_succ]
theorem z6 {lo x:Int} {n:Nat}:x∈dw lo n↔lo≤x∧x < lo + n:=by
 simp only [dw,List.mem_map,List.mem_range]
 constructor
 ·rintro ⟨j,h,rfl⟩;omega
 ·intro h;exact ⟨(x - lo).toNat,by omega,by omega⟩
def HF (n:Nat) (id:Nat) (lo hi:Int) (q:Nat):AV:=.fn (.func 206) [] [.ai (.int .i64 n),.ai (.nH id),.ai (.int .i64 lo),.ai (.int .i64 hi),.ptr q 0]
structure YS {σ:Type} (n:Nat) (vals:List Int) (id:Nat) (St:σ→List aa) (Good:σ→Prop) (step:σ→List Int→σ×Bool):Prop where
 y:∀ l s X,l.length=n→(∀ x∈l,x∈vals)→Good s→jZ Tryz.prog id [bu l] (St s++X) fun r H'=>r=.bool (step s l).2∧H'=St (step s l).1++X
 Vd:∀ l s,Good s→(step s l).2=true→Good (step s l).1
 len:∀ s s',(St s).length=(St s').length
theorem z7 {σ:Type} {n:Nat} {vals:List Int} {id:Nat} {St:σ→List aa} {Good:σ→Prop} {step:σ→List Int→σ×Bool} (h:YS n vals id St Good step):∀ (a:List (List Int)) (s:σ),Good s→(eY step a s).2=true→Good (eY step a s).1
 | [],s,hs,_=>hs
 | l::r,s,hs,hr=>by
   rw [eY] at hr ⊢
   split at hr
   ·rename_i h1
    rw [if_pos h1]
    exact z7 h r _ (h.Vd l s hs h1) hr
   ·simp at hr
theorem QA (l:List Int) (h:l≠[]):bu l=.al 0 (ints l):=by cases l with
 | nil=>exact absurd rfl h
 | cons a r=>rfl
theorem ZN (l:List Int) (hb:l.length * 8≤140737488355328):Pure Tryz.prog 118 [bu l] (.al 1 (ints l)):=by
 intro H
 cases l with
 | nil=>exact zj H
 | cons a r=>exact ru 0 (ints (a::r)) H (of_eq_true (kL _)) (by rw [aw];exact hb) (bb _ _)
theorem adl {σ:Type} {n:Nat} {lo hi:Int} (vC:-1000000≤lo∧lo≤1000000) (Ka:-1000000≤hi∧hi≤1000000) (hn:n≤1000000) {id:Nat} {St:σ→List aa} {Good:σ→Prop} {step:σ→List Int→σ×Bool} (hy:YS n (dw lo (hi + 1 - lo).toNat) id St Good step) (q:Nat) :
 ∀ (r:Nat) (l:List Int) (s:σ) (X:List aa),l.length + r=n→(∀ x∈l,x∈dw lo (hi + 1 - lo).toNat)→Good s→(∀ s',(St s'++X)[q]?=some (.cells [HF n id lo hi q]))→
  aq Tryz.prog 206 [bu l,.ai (.int .i64 n),.ai (.nH id),.ai (.int .i64 lo),.ai (.int .i64 hi),.ptr q 0] (St s++X) fun rr H'=>rr=.bool (eY step ((iL (dw lo (hi + 1 - lo).toNat) r).map (l++·)) s).2∧H'=St (eY step ((iL (dw lo (hi + 1 - lo).toNat) r).map (l++·)) s).1++X:=by
 intro r
 induction r with
 | zero=>
   intro l s X hl hm hs hq
   refine PT.2.calls rfl ?_
   simp only [PT,aF]
   have ik:IL (bu l) l:=.inl rfl
   obtain ⟨a1,a2,a3,a4,a5⟩:=aH l
   have e1:((l.length:Int)=(n:Int))=True:=eq_true (by omega)
   have lyld:∀ (H:List aa) (φ:AV→Prop),aQ none (.ai (.nH id)) H φ=φ (.nH id):=fun H φ=>by simp [aQ,AV.one,AV.ab]
   have e2:eY step ((iL (dw lo (hi + 1 - lo).toNat) 0).map (l++·)) s=step s l:=by
    simp only [iL,List.map_cons,List.map_nil,List.append_nil,eY]
    cases hb:(step s l).2 with
    | true=>rw [if_pos rfl,← hb]
    | false=>rw [if_neg (by simp),← hb]
   rw [e2]
   simp +contextual only [a2,ik.aN,ik.len (by omega),e1,decide_true,lyld,HC,sZ,Nat.reduceEqDiff,Nat.reduceAdd,↓reduceIte,reduceCtorEq]
   refine zX (hy.y l s X (by omega) hm hs) ?_
   rintro rr H' ⟨rfl,rfl⟩
   simp +contextual only [sZ,↓reduceIte,reduceCtorEq]
   refine aX (St s++X).length (Nat.le_refl _) (by rw [ay,if_pos rfl];rfl) ?_
   rw [ay,if_pos rfl]
   exact ⟨rfl,by rw [List.take_of_length_le (by rw [List.length_append,List.length_append,hy.len _ s];exact Nat.le_refl _)]⟩
 | succ r ih=>
   intro l s X hl hm hs hq
   refine PT.2.calls rfl ?_
   simp only [PT,aF]
   have ik:IL (bu l) l:=.inl rfl
   obtain ⟨a1,a2,a3,a4,a5⟩:=aH l
   have e1:((l.length:Int)=(n:Int))=False:=eq_false (by omega)
   have qS:∀ (b:Bool) (s':σ),bW (St s++X).length [.t 7] [(7,.bool b)] (St s'++X) fun rr H'=>rr=.bool b∧H'=St s'++X:=by
    intro b s'
    refine aX (St s++X).length (Nat.le_refl _) (by rw [ay,if_pos rfl];rfl) ?_
    rw [ay,if_pos rfl]
    exact ⟨rfl,by rw [List.take_of_length_le (by rw [List.length_append,List.length_append,hy.len _ s];exact Nat.le_refl _)]⟩
   obtain ⟨m,VP⟩:∃ m,m=(hi + 1 - lo).toNat:=⟨_,rfl⟩
   rw [← VP] at ih hm ⊢
   obtain ⟨F,hF⟩:∃ F:Nat→List (List Int),F=fun k=>(dw lo k).flatMap fun x=>(iL (dw lo m) r).map fun y=>l++x::y:=⟨_,rfl⟩
   have hF0:F 0=[]:=by rw [hF];rfl
   have hFs:∀ k,F (k + 1)=F k++(iL (dw lo m) r).map ((l++[lo + (k:Nat)])++·):=by
    intro k
    rw [hF]
    simp only [Gi,List.flatMap_append,List.flatMap_cons,List.flatMap_nil,List.append_nil,List.append_assoc,List.cons_append,List.nil_append]
   have hFm:(iL (dw lo m) (r + 1)).map (l++·)=F m:=by
    rw [hF,iL,List.map_flatMap]
    congr 1
    funext x
    rw [List.map_map];rfl
   rw [hFm]
   simp +contextual only [a2,ik.aN,ik.len (by omega),e1,decide_false,sZ,Nat.reduceEqDiff,Nat.reduceAdd,↓reduceIte,reduceCtorEq]
   refine aJ m (fun k (_:Unit)=>(eY step (F k) s).2=true) (fun k _=>[(0,bu l),(4,.ai (.int .i64 hi)),(5,.ptr q 0),(8,.int .i64 (lo + (k:Nat)))]) (fun k _=>St (eY step (F k) s).1++X) () ⟨by rw [hF0];rfl,aC (by simp) (by rw [hF0];rfl)⟩ fun k _ hk hI=>?_
   have hg:=z7 hy (F k) s hs hI
   generalize QX:(eY step (F k) s).1=s1 at hg ⊢
   by_cases hkm:lo + (k:Int)≤hi
   ·have GF:k < m:=by omega
    have hql:=hq s1
    simp +contextual only [hkm,decide_true,a2,sZ,Nat.reduceEqDiff,↓reduceIte,reduceCtorEq]
    refine aE (ZN l (by omega)) ?_
    have jy:qB 1 [AV.int .i64 (lo + (k:Int))]:=of_eq_true (kL [_])
    have efn:(HF n id lo hi q).ab=.fn (.func 206) [] [.ai (.int .i64 n),.ai (.nH id),.ai (.int .i64 lo),.ai (.int .i64 hi),.ptr q 0]:=rfl
    have ea:ints l++[AV.int .i64 (lo + (k:Int))]=ints (l++[lo + (k:Int)]):=by simp [ints]
    have ek:AV.al 0 (ints (l++[lo + (k:Int)]))=bu (l++[lo + (k:Int)]):=by rw [QA _ (by simp)]
    simp +contextual only [hql,efn,aw,jy,ea,ek,G8,sZ,Nat.reduceEqDiff,Nat.reduceAdd,Nat.reduceLT,↓reduceIte,reduceCtorEq]
    refine ⟨by omega,af (ih (l++[lo + (k:Int)]) s1 X (by simp;omega) (fun x hx=>?_) hg hq) ?_⟩
    ·rcases List.mem_append.1 hx with h | h
     ·exact hm x h
     ·simp only [List.mem_cons,List.not_mem_nil,or_false] at h
      subst h
      exact z6.2 ⟨by omega,by omega⟩
    rintro rr H' ⟨rfl,rfl⟩
    have bJ:eY step (F (k + 1)) s=eY step ((iL (dw lo m) r).map ((l++[lo + (k:Int)])++·)) s1:=by
     rw [hFs,xr,if_pos hI,QX]
    cases hb:(eY step ((iL (dw lo m) r).map ((l++[lo + (k:Int)])++·)) s1).2 with
    | true=>
      simp +contextual only [Bool.not_true,sZ,Nat.reduceEqDiff,↓reduceIte,reduceCtorEq]
      refine ⟨k + 1,(),⟨GF,by rw [bJ];exact hb⟩,by omega,aC ?_ (by rw [bJ])⟩
      rw [dL _ (by omega)]
      have:lo + (k:Int) + 1=lo + ((k + 1:Nat):Int):=by omega
      rw [this]
    | false=>
      simp +contextual only [Bool.not_false,sZ,Nat.reduceEqDiff,↓reduceIte,reduceCtorEq]
      have jU:eY step (F m) s=((eY step ((iL (dw lo m) r).map ((l++[lo + (k:Int)])++·)) s1).1,false):=by
       have e:∃ R,F m=F (k + 1)++R:=by
        have:∀ d,∃ R,F (k + 1 + d)=F (k + 1)++R:=by
         intro d
         induction d with
         | zero=>exact ⟨[],by simp⟩
         | succ d ihd=>
           obtain ⟨R,hR⟩:=ihd
           exact ⟨R++_,by rw [show k + 1 + (d + 1)=(k + 1 + d) + 1 by omega,hFs,hR,List.append_assoc]⟩
        obtain ⟨R,hR⟩:=this (m - (k + 1))
        exact ⟨R,by rw [← hR];congr 1;omega⟩
       obtain ⟨R,hR⟩:=e
       rw [hR,xr,bJ,hb,if_neg (by simp)]
      rw [jU]
      exact qS false _
   ·have hke:k=m:=by omega
    simp +contextual only [hkm,decide_false,sZ,Nat.reduceEqDiff,↓reduceIte,reduceCtorEq]
    rw [← hke,hI,QX]
    exact qS true s1
theorem ZO {σ:Type} {n:Nat} {lo hi:Int} (vC:-1000000≤lo∧lo≤1000000) (Ka:-1000000≤hi∧hi≤1000000) (hn:n≤1000000) {id:Nat} {St:σ→List aa} {Good:σ→Prop} {step:σ→List Int→σ×Bool} (hy:YS n (dw lo (hi + 1 - lo).toNat) id St Good step) (bp:∀ s,id < (St s).length) (s:σ) (hs:Good s) :
 aq Tryz.prog 205 [.nH id,.ai (.int .i64 n),.ai (.int .i64 lo),.ai (.int .i64 hi)] (St s) fun rr H'=>rr=.tuple []∧H'=St (eY step (iL (dw lo (hi + 1 - lo).toNat) n) s).1:=by
 refine X4.2.calls rfl ?_
 simp only [X4,aF]
 have ahT:=bp s
 have vy:(AV.nH id).val=true:=rfl
 have cy:(AV.nH id).cells=[.nH id]:=rfl
 have oy:(AV.nH id).one=true:=rfl
 have by':∀ m,(AV.nH id).aV m=decide (id < m):=fun m=>by simp [AV.aV]
 have d1:decide (id < (St s).length + 1)=true:=decide_eq_true (by omega)
 have d2':decide ((St s).length < (St s).length + 1)=true:=decide_eq_true (by omega)
 have efn:(HF n id lo hi (St s).length).ab=.fn (.func 206) [] [.ai (.int .i64 n),.ai (.nH id),.ai (.int .i64 lo),.ai (.int .i64 hi),.ptr (St s).length 0]:=rfl
 simp +contextual only [vy,by',d1,d2',Bool.and_self,sp1,sZ,Nat.reduceEqDiff,Nat.reduceAdd,Nat.reduceLT,↓reduceIte,reduceCtorEq]
 have h:=adl vC Ka hn hy (St s).length n [] s [.cells [HF n id lo hi (St s).length]] (by simp) (fun x hx=>by cases hx) hs (fun s'=>by rw [← hy.len s' s];simp)
 have em:(iL (dw lo (hi + 1 - lo).toNat) n).map ([]++·)=iL (dw lo (hi + 1 - lo).toNat) n:=by simp
 rw [em] at h
 refine af h ?_
 rintro rr H' ⟨rfl,rfl⟩
 simp +contextual only [sZ,reduceCtorEq]
 refine ⟨(St s).length,Nat.le_refl _,[],trivial,rfl,rfl,?_⟩
 rw [hy.len s _,List.take_left]
theorem ZP (n:Nat) (lo hi:Int):Pure Tryz.prog 166 [.int .i64 n,.int .i64 lo,.int .i64 hi] (.fn (.func 205) [] [.ai (.int .i64 n),.ai (.int .i64 lo),.ai (.int .i64 hi)]):=by
 refine fun H=>XK.2.calls rfl ?_
 simp only [XK,aF]
 simp +contextual only [sZ,Nat.reduceEqDiff,Nat.reduceAdd,↓reduceIte,reduceCtorEq]
 exact aZ rfl rfl
end Go.aL
end
section
set_option maxRecDepth 100000
namespace Go.aL
open Go Go.Proofs Go.fN
theorem adm (x:Int) (r:List Int) (hl:r.length≤1000000000):Pure Tryz.prog 207 [.al 0 (ints (x::r))] (.int .i64 (r.foldl max x)):=by
 refine fun H=>X5.2.calls rfl ?_
 simp only [X5,aF]
 have ix:IL (.al 0 (ints (x::r))) (x::r):=.inr rfl
 have n1:(((x::r).length:Int) < 1)=False:=eq_false (by simp;omega)
 have g0':(x::r).getD (0:Int).toNat 0=x:=rfl
 have ll:(x::r).length≤1000000001:=by simp;omega
 generalize fP:x::r=xs at *
 have dW:0 < xs.length:=by rw [← fP];simp
 simp +contextual only [ix.aN,ix.len (by omega),n1,decide_false,ix.lens,ix.idx,g0',sZ,Nat.reduceEqDiff,Nat.reduceAdd,↓reduceIte,reduceCtorEq]
 refine ⟨by omega,?_⟩
 have hsplit:∀ j,j≤r.length→(r.take j).foldl max x=((xs.take (j + 1)).drop 1).foldl max x:=by intro j _;rw [← fP];simp
 refine aD r.length (fun j=>True) (fun j=>[(0,.al 0 (ints xs)),(3,.int .i64 ((r.take j).foldl max x)),(4,.int .i64 ((j + 1:Nat):Int))]) (fun _=>H) ⟨trivial,aA _ _ _⟩ fun j hj _=>?_
 have J4:xs.length=r.length + 1:=by rw [← fP];simp
 by_cases hjr:j < r.length
 ·have n2:(((j + 1:Nat):Int) < xs.length)=True:=eq_true (by omega)
  have gj:xs.getD (j + 1) 0=r.getD j 0:=by rw [← fP];simp
  have tk:(r.take (j + 1)).foldl max x=max ((r.take j).foldl max x) (r.getD j 0):=by
   rw [List.take_succ_eq_append_getElem hjr,List.foldl_append]
   simp [hjr]
  simp +contextual only [ix.aN,ix.len (by omega),n2,decide_true,ix.lens,ix.idx,Int.toNat_natCast,gj,sZ,Nat.reduceEqDiff,↓reduceIte,reduceCtorEq]
  exact ⟨by omega,j + 1,hjr,by omega,aC (by rw [dL _ (by omega),tk];rfl) rfl⟩
 ·have e:j=r.length:=by omega
  subst e
  have n2:(((r.length + 1:Nat):Int) < xs.length)=False:=eq_false (by omega)
  simp +contextual only [ix.aN,ix.len (by omega),n2,decide_false,sZ,Nat.reduceEqDiff,↓reduceIte,reduceCtorEq]
  exact aZ rfl (by rw [List.take_length])
theorem ado (l:List Int) {v:AV} (h:IL v l) (hl:l.length≤1000000000) (y:Int):Pure Tryz.prog 111 [v,.int .i64 y] (.int .i64 (qm (fun z=>decide (y=z)) l 0)):=by
 refine fun H=>Xe.2.calls rfl ?_
 simp only [Xe,aF]
 obtain ⟨a1,a2,a3,a4⟩:=h.one
 simp +contextual only [a2,h.aN,h.len (by omega),sZ,Nat.reduceEqDiff,Nat.reduceAdd,↓reduceIte,reduceCtorEq]
 refine aD l.length (fun i=>qm (fun z=>decide (y=z)) (l.drop i) i=qm (fun z=>decide (y=z)) l 0) (fun i=>[(0,v),(1,.int .i64 y),(7,.int .i64 l.length),(8,.int .i64 i)]) (fun _=>H) ⟨rfl,aA _ _ _⟩ fun i hi hI=>?_
 by_cases xP:i < l.length
 ·have n1:((i:Int) < l.length)=True:=eq_true (by omega)
  rw [z5 xP] at hI
  have egd:l.getD i default=l.getD i 0:=by simp [xP]
  rw [egd] at hI
  simp +contextual only [n1,decide_true,a2,h.lens,h.idx,Int.toNat_natCast,sZ,Nat.reduceEqDiff,↓reduceIte,reduceCtorEq]
  refine ⟨by omega,fun he=>?_,fun dW=>?_⟩
  ·rw [if_pos (by simpa using he)] at hI
   exact aZ rfl (by rw [← hI])
  ·rw [if_neg (by simpa using dW)] at hI
   exact ⟨i + 1,⟨xP,hI⟩,by omega,aC (by rw [au i (by omega)]) rfl⟩
 ·have n1:((i:Int) < l.length)=False:=eq_false (by omega)
  rw [List.drop_of_length_le (by omega)] at hI
  simp +contextual only [n1,decide_false,sZ,Nat.reduceEqDiff,↓reduceIte,reduceCtorEq]
  exact aZ rfl (by rw [← hI];rfl)
theorem HG {α:Type} {p:α→Bool}:∀ (l:List α) (i:Nat),0≤qm p l i↔∃ x∈l,p x=true
 | [],i=>by simp [qm]
 | x::r,i=>by
   rw [qm]
   by_cases h:p x=true
   ·rw [if_pos h];exact ⟨fun _=>⟨x,by simp,h⟩,fun _=>by omega⟩
   ·rw [if_neg h,HG r (i + 1)]
    simp [h]
theorem adp (l:List Int) {v:AV} (h:IL v l) (hl:l.length≤1000000000) (y:Int):Pure Tryz.prog 208 [v,.int .i64 y] (.bool (decide (y∈l))):=by
 refine fun H=>X6.2.calls rfl ?_
 simp only [X6,aF]
 obtain ⟨a1,a2,a3,a4⟩:=h.one
 simp +contextual only [a2,sZ,Nat.reduceEqDiff,Nat.reduceAdd,↓reduceIte,reduceCtorEq]
 refine ae (ado l h hl y) ?_
 simp +contextual only [sZ,↓reduceIte,reduceCtorEq]
 refine aZ rfl ?_
 congr 1
 rw [decide_eq_decide,HG]
 simp
def Ef (l:List Int):Int:=l.foldl max (-1)
def oD (l:List Int):Bool:=(List.range (Ef l + 1).toNat).all fun j=>decide ((j:Int)∈l)
theorem foldl_max:∀ (l:List Int) (x b:Int),x≤b→(∀ y∈l,y≤b)→x≤l.foldl max x∧l.foldl max x≤b
 | [],x,b,h,_=>⟨Int.le_refl _,h⟩
 | y::r,x,b,h,hr=>by
   have h1:=hr y (by simp)
   have:=foldl_max r (max x y) b (by omega) (fun z hz=>hr z (by simp [hz]))
   rw [List.foldl_cons];omega
theorem adq (l:List Int) {v:AV} (h:IL v l) (hl:l.length≤100000000) (hb:∀ x∈l,x≤1000000):Pure Tryz.prog 167 [v] (.bool (oD l)):=by
 refine fun H=>XL.2.calls rfl ?_
 simp only [XL,aF]
 obtain ⟨a1,a2,a3,a4⟩:=h.one
 have WC:∀ ψ:List AV→Prop,bn 1 8 (.al 1 [.int .i64 (-1)]) v ψ=ψ (ints (-1::l)):=by
  intro ψ
  have hr:dl v=some (ints l):=by
   rcases h with rfl | rfl
   ·cases l <;> rfl
   ·rfl
  have hal:kC 1 (.al 1 [.int .i64 (-1)])=some [.int .i64 (-1)]:=rfl
  have ok:qB 1 (ints l):=of_eq_true (kL l)
  simp only [bn,hal,hr,eq_iff_iff]
  exact ⟨fun h=>h.2.2,fun k=>⟨by simp [aw];omega,ok,k⟩⟩
 have hm:=foldl_max l (-1) 1000000 (by omega) hb
 simp +contextual only [a2,WC,sZ,Nat.reduceEqDiff,Nat.reduceAdd,↓reduceIte,reduceCtorEq]
 refine ae (adm (-1) l (by omega)) ?_
 have em:l.foldl max (-1)=Ef l:=rfl
 rw [em] at hm ⊢
 have hw:IntKind.i64.wrap (Ef l + 1)=Ef l + 1:=dL _ (by omega)
 simp +contextual only [hw,sZ,Nat.reduceEqDiff,↓reduceIte,reduceCtorEq]
 refine aD (Ef l + 1).toNat (fun j=>∀ i,i < j→(i:Int)∈l) (fun j=>[(0,v),(8,.int .i64 (Ef l + 1)),(9,.int .i64 j)]) (fun _=>H) ⟨fun i hi=>by omega,aA _ _ _⟩ fun j hj hI=>?_
 by_cases hjm:(j:Int) < Ef l + 1
 ·simp +contextual only [hjm,decide_true,a2,sZ,Nat.reduceEqDiff,Nat.reduceAdd,↓reduceIte,reduceCtorEq]
  refine ae (adp l h (by omega) j) ?_
  by_cases Ke:(j:Int)∈l
  ·simp +contextual only [Ke,decide_true,Bool.not_true,sZ,Nat.reduceEqDiff,↓reduceIte,reduceCtorEq]
   refine ⟨j + 1,⟨by omega,fun i hi=>?_⟩,by omega,aC (by rw [au j (by omega)]) rfl⟩
   by_cases e:i=j
   ·subst e;exact Ke
   ·exact hI i (by omega)
  ·simp +contextual only [Ke,decide_false,Bool.not_false,sZ,Nat.reduceEqDiff,↓reduceIte,reduceCtorEq]
   refine aZ rfl ?_
   congr 1
   have:oD l=false:=by
    unfold oD
    rw [List.all_eq_false]
    exact ⟨j,List.mem_range.2 (by omega),by simpa using Ke⟩
   rw [this]
 ·have e:j=(Ef l + 1).toNat:=by omega
  simp +contextual only [hjm,decide_false,sZ,Nat.reduceEqDiff,↓reduceIte,reduceCtorEq]
  refine aZ rfl ?_
  congr 1
  have:oD l=true:=by
   unfold oD
   rw [List.all_eq_true]
   intro i hi
   exact decide_eq_true (hI i (by rw [e];exact List.mem_range.1 hi))
  rw [this]
end Go.aL
end
section
set_option maxRecDepth 100000
namespace Go.aL
open Go Go.Proofs Go.fN
open Classical in
noncomputable def xt (t:Ty) (ops pl st:List Int):Bool:=decide (ju t.s (qn t.s.ops.length ops pl) (tf t.s.ops.length ops st)=0∧rQ t (qn t.s.ops.length ops pl) (tf t.s.ops.length ops st) < 0)
abbrev Fo:=Option (List Int×List Int)
noncomputable def dF (t:Ty) (ops pl:List Int) (s:Fo) (st:List Int):Fo×Bool:=if xt t ops pl st=true then (some (qn t.s.ops.length ops pl,tf t.s.ops.length ops st),false) else (s,true)
noncomputable def fp (t:Ty) (ops:List Int) (s:Fo) (pl:List Int):Fo×Bool:=if oD pl=true then eY (dF t ops pl) (iL (dw 1 3) ops.length) s else (s,true)
noncomputable def yx (t:Ty) (ops:List Int):Fo:=(eY (fp t ops) (iL (dw 0 ops.length) ops.length) none).1
def o4 (s:Fo):aa:=match s with | none=>.cells [.ah,.ah] | some (P,S)=>.cells [.al 0 (ints P),.al 0 (ints S)]
def o5 (s:Fo):aa:=.cells [.bool s.isSome]
noncomputable def iZ (s:Fo):VL:=if s.isSome=true then .jump .ret else .ready
theorem BM:ba.n=41:=by kernel_rfl
theorem BN:bD.n=41:=by kernel_rfl
theorem xu:ba.ps=[15]:=by kernel_rfl
theorem xv:bD.ps=[22]:=by kernel_rfl
theorem MN {n0 id:Nat} {R:AV→List aa→Prop} {H:List aa} {lc:iT} {es:List AV} (h:H[id]?=some (.loop .busy lc es)):qR n0 id R .ret H=It n0 false (H.set id (.loop (.jump .ret) lc es)) R:=by
 unfold qR;rw [h]
theorem Eg {id:Nat} {H:List aa} {K:Option Code→List aa→Prop} {lc:iT} {es:List AV} {c:Code} (h:H[id]?=some (.loop (.jump c) lc es)):behind id H K=K (some c) (H.set id (.loop .eO lc es)):=by
 unfold behind;rw [h]
theorem BO (t:Ty) (ops pl:List Int):∀ (a:List (List Int)) (s:Fo),s=none→(eY (dF t ops pl) a s).2=(eY (dF t ops pl) a s).1.isNone
 | [],s,h=>by subst h;rfl
 | l::r,s,h=>by
   subst h
   rw [eY]
   by_cases ht:xt t ops pl l=true
   ·have e:dF t ops pl none l=(some (qn t.s.ops.length ops pl,tf t.s.ops.length ops l),false):=if_pos ht
    rw [e];rfl
   ·have e:dF t ops pl none l=(none,true):=if_neg ht
    rw [e]
    exact BO t ops pl r none rfl
structure BP (t:Ty):Prop where
 n:t.s.ops.length≤1000000000
 eq:∀ e∈t.es,∀ ps:List Int,ps.length=t.s.ops.length→ML ps e
theorem MO (n:Nat) (ops pl:List Int):(qn n ops pl).length=n:=by unfold qn;rw [xq];simp
theorem vk (A:List aa) (x:aa) (Y:List aa) (k:Nat) (h:A.length=k):(A++x::Y)[k]?=some x:=by subst h;simp
theorem vn (A:List aa) (x y:aa) (Y:List aa) (k:Nat) (h:A.length=k):(A++x::Y).set k y=A++y::Y:=by subst h;simp
def ft (H W:List aa) (s:Fo):List aa:=H++o4 s::o5 s::W
theorem eW (H W:List aa) (s:Fo):(ft H W s).length=H.length + 2 + W.length:=by simp [ft];omega
theorem R9 (H W Y:List aa) (s:Fo):(ft H W s++Y)[H.length]?=some (o4 s):=by rw [List.getElem?_append_left (by rw [eW];omega)];simp [ft]
theorem Sa (H W Y:List aa) (s:Fo):(ft H W s++Y)[H.length + 1]?=some (o5 s):=by rw [List.getElem?_append_left (by rw [eW];omega)];simp [ft]
theorem Vs (H W Y:List aa) (s:Fo) (P S:List Int):((ft H W s++Y).set H.length (.cells [.al 0 (ints P),.al 0 (ints S)])).set (H.length + 1) (.cells [.bool true])=ft H W (some (P,S))++Y:=by
 rw [List.set_append_left _ _ (by rw [eW];omega),List.set_append_left _ _ (by rw [List.length_set,eW];omega)]
 simp [ft,o4,o5]
theorem Vt {s:Sg} {ps ss:List Int} (h:ju s ps ss=0):Va ps ss:=(xh.1 h).2.va
theorem MP {t:Ty} (ht:BP t) {ops:List Int} {vo:AV} (ho:IL vo ops) (hr:∀ i∈ops,0≤i∧i < t.s.ops.length) (jW:ops.length≤1000000) {pl:List Int} (vA:pl.length=ops.length) (H W:List aa) (es:List AV) (Ar:es=kW 41 [(2,.ai t.av),(3,.ai vo),(4,.ptr H.length 0),(5,.ptr (H.length + 1) 0),(6,.ai (bu pl)),(21,.fn (.func 205) [] [.ai (.int .i64 ops.length),.ai (.int .i64 1),.ai (.int .i64 3)])])
 (l:List Int) (hl:l.length=ops.length) (Y:List aa) (id:Nat) (bp:id=H.length + 2 + W.length) :
 jZ Tryz.prog id [bu l] (ft H W none++.loop .ready bD es::Y) fun r H'=>r=.bool (dF t ops pl none l).2∧H'=ft H W (dF t ops pl none l).1++.loop (iZ (dF t ops pl none l).1) bD es::Y:=by
 have ees:es=[.any,.any,.ai t.av,.ai vo,.ptr H.length 0,.ptr (H.length + 1) 0,.ai (bu pl),.any,.any,.any,.any,.any,.any,.any,.any,.any,.any,.any,.any,.any,.any,.fn (.func 205) [] [.ai (.int .i64 ops.length),.ai (.int .i64 1),.ai (.int .i64 3)],.any,.any,.any,.any,.any,.any,.any,.any,.any,.any,.any,.any,.any,.any,.any,.any,.any,.any,.any]:=by rw [Ar];rfl
 have hk:∀ s,(ft H W s).length=id:=fun s=>by rw [eW,bp]
 have e0:∀ s st,(ft H W s++aa.loop st bD es::Y)[id]?=some (.loop st bD es):=fun s st=>vk _ _ _ _ (hk s)
 have gI:∀ s st st',(ft H W s++aa.loop st bD es::Y).set id (.loop st' bD es)=ft H W s++aa.loop st' bD es::Y:=fun s st st'=>vn _ _ _ _ _ (hk s)
 have hlen:∀ s st,(ft H W s++aa.loop st bD es::Y).length=(ft H W none++aa.loop .ready bD es::Y).length:=fun s st=>by rw [List.length_append,List.length_append,hk,hk];rfl
 refine oO (lc:=bD) (es:=es) (e0 none .ready) Uv Uw ⟨by rw [ees,BN];rfl,by rw [xv];rfl,by rw [xv,BN];rfl,?_,?_⟩ (xm ?_)
 ·rw [ees];intro x hx;simp only [List.mem_cons,List.not_mem_nil,or_false] at hx
  repeat' (first | (rcases hx with hx | hx;· subst hx;rfl) | (subst hx;rfl))
 ·intro x hx;simp only [List.mem_cons,List.not_mem_nil,or_false] at hx;subst hx;exact (aH l).2.1
 ·have ez:(bD.ps.zip [bu l]).reverse++bX 0 es=(22,bu l)::bX 0 es:=by rw [xv];rfl
  rw [ez]
  generalize yy:bX 0 es=ea
  have g2:get ea 2=.ai t.av:=by rw [← yy,ees];rfl
  have g3:get ea 3=.ai vo:=by rw [← yy,ees];rfl
  have g4:get ea 4=.ptr H.length 0:=by rw [← yy,ees];rfl
  have g5:get ea 5=.ptr (H.length + 1) 0:=by rw [← yy,ees];rfl
  have g6:get ea 6=.ai (bu pl):=by rw [← yy,ees];rfl
  simp only [Lz,LA]
  have hb:∀ K,kh id (ft H W none++.loop .ready bD es::Y) K=K (ft H W none++.loop .busy bD es::Y):=fun K=>by rw [tc (e0 none .ready),gI]
  obtain ⟨e1,e2,e3,e4,e5,e6⟩:=Ty.facts t
  obtain ⟨a1,a2,a3,a4⟩:=ho.one
  obtain ⟨b1,b2,b3,b4,b5⟩:=aH pl
  obtain ⟨c1,c2,c3,c4,c5⟩:=aH l
  have lvo:∀ (H:List aa) (φ:AV→Prop),aQ none (.ai vo) H φ=φ vo:=fun H φ=>by simp [aQ,a1,a2]
  obtain ⟨q1,q2,q3,q4,q5,q6⟩:=bo (qn t.s.ops.length ops pl) (tf t.s.ops.length ops l)
  simp +contextual only [g2,g3,g4,g5,g6,c2,hb,nk,lvo,bV,b2,a2,e4,sZ,Nat.reduceEqDiff,Nat.reduceAdd,↓reduceIte]
  refine ae (adk t ops pl l ho (.inl rfl) (.inl rfl) vA hl hr ht.n (by omega)) ?_
  generalize hP:qn t.s.ops.length ops pl=P at *
  generalize hS:tf t.s.ops.length ops l=S at *
  simp +contextual only [aB,q1,q2,q3,q4,MM,bZ,sZ,Nat.reduceEqDiff,Nat.reduceAdd,↓reduceIte]
  refine ae (c24 t.s P S) ?_
  have endN:∀ n0,n0=id + (Y.length + 1)→dF t ops pl none l=(none,true)→qR n0 id (fun r H'=>r=.bool (dF t ops pl none l).2∧H'=ft H W (dF t ops pl none l).1++.loop (iZ (dF t ops pl none l).1) bD es::Y) .normal (ft H W none++.loop .busy bD es::Y):=by
   intro n0 Nm bS
   rw [Ge (e0 none .busy),gI,bS]
   refine ⟨by rw [hlen,List.length_append,hk];simp;omega,rfl,?_⟩
   rw [List.take_of_length_le (by rw [hlen,List.length_append,hk];simp;omega)]
   rfl
  have endR:∀ n0,n0=id + (Y.length + 1)→dF t ops pl none l=(some (P,S),false)→qR n0 id (fun r H'=>r=.bool (dF t ops pl none l).2∧H'=ft H W (dF t ops pl none l).1++.loop (iZ (dF t ops pl none l).1) bD es::Y) .ret (ft H W (some (P,S))++.loop .busy bD es::Y):=by
   intro n0 Nm bS
   rw [MN (e0 _ .busy),gI,bS]
   refine ⟨by rw [hlen,List.length_append,hk];simp;omega,rfl,?_⟩
   rw [List.take_of_length_le (by rw [hlen,List.length_append,hk];simp;omega)]
   rfl
  by_cases h0:ju t.s P S=0
  ·simp +contextual only [h0,nk,bZ,e4,q4,sZ,Nat.reduceEqDiff,Nat.reduceAdd,↓reduceIte]
   refine ae (c89 t P S (Vt h0) (fun e he=>ht.eq e he P (by rw [← hP];exact MO _ _ _))) ?_
   by_cases h1:rQ t P S < 0
   ·have bS:dF t ops pl none l=(some (P,S),false):=by
     rw [dF,if_pos (by rw [xt,hP,hS];exact decide_eq_true ⟨h0,h1⟩),hP,hS]
    have k4:=R9 H W (.loop .busy bD es::Y) none
    have k5:∀ o,((ft H W none++.loop .busy bD es::Y).set H.length o)[H.length + 1]?=some (o5 none):=fun o=>by rw [List.getElem?_set_ne (by omega),Sa]
    have ks:=Vs H W (.loop .busy bD es::Y) none P S
    have o4n:o4 none=.cells [.ah,.ah]:=rfl
    have o5n:o5 none=.cells [.bool false]:=rfl
    rw [o4n] at k4
    simp only [o5n] at k5
    have qu:(eX P S).cells.map AV.ab=[.al 0 (ints P),.al 0 (ints S)]:=rfl
    have sp2:∀ (a b x y:AV),ag [a,b] 0 [x,y]=[x,y]:=fun _ _ _ _=>rfl
    have fb:∀ m,aj m [AV.al 0 (ints P),.al 0 (ints S)]=true:=fun m=>by simp [bH,cP,b9,bb]
    simp +contextual only [h1,decide_true,bZ,k4,k5,ks,q1,q2,q3,qu,sp2,fb,Bool.and_self,sZ,Nat.reduceEqDiff,Nat.reduceAdd,↓reduceIte]
    first
     | exact endR _ (by rw [hk]) bS
     | exact endR _ (by rw [hlen,List.length_append,hk];rfl) bS
   ·simp +contextual only [h1,decide_false,sZ,Nat.reduceEqDiff,↓reduceIte]
    have bS:dF t ops pl none l=(none,true):=by
     rw [dF,if_neg (by rw [xt,hP,hS];simp [h1])]
    exact endN _ (by rw [hk]) bS
  ·simp +contextual only [h0,decide_false,sZ,Nat.reduceEqDiff,↓reduceIte]
   have bS:dF t ops pl none l=(none,true):=by
    rw [dF,if_neg (by rw [xt,hP,hS];simp [h0])]
   exact endN _ (by rw [hk]) bS
end Go.aL
end
