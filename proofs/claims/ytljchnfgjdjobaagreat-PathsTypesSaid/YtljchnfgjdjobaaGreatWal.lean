/- Part 12 of 20 of the proof. -/
import Derived.Test.YtljchnfgjdjobaaGreatWak
import Derived.Test.YtljchnfgjdjobaaGreatWag
import Derived.KernelRfl
set_option linter.unusedVariables false
set_option linter.unusedSimpArgs false
set_option linter.defProp false
set_option linter.unusedSectionVars false
section
set_option maxRecDepth 100000
namespace Go.aI
open Go Go.Proofs Go.dV
abbrev Nd:=T×List Int
def bu:List Int→AV
 | []=>.ag
 | v::r=>.aj 0 (ints (v::r))
def Hh (p:Nd):AV:=.agg [.int .i64 p.1.k,.int .i64 p.1.n,.aj 0 (ca p.1.l),bu p.2]
def fo (l:List Nd):List AV:=l.map Hh
def zN:AV:=.agg [.int .i64 0,.int .i64 0,.ag,.ag]
theorem aJ (l:List Int):(bu l).one=true∧(bu l).ab=bu l∧(∀ n,(bu l).bb n=true)∧(bu l).val=true∧(bu l).cells=[bu l]:=by
 cases l with
 | nil=>exact ⟨rfl,rfl,fun _=>rfl,rfl,rfl⟩
 | cons v r=>exact ⟨rfl,rfl,fun n=>by rw [bu,bM];exact aT n _,rfl,rfl⟩
theorem RN (p:Nd):j4 4 (Hh p):=by
 obtain ⟨t,ks⟩:=p
 cases ks with
 | nil=>exact ⟨rfl,rfl,by simp [Hh,bu,AV.cells,dT,bN,da,iR,bM,Iz],rfl⟩
 | cons v r=>exact ⟨rfl,rfl,by simp [Hh,bu,AV.cells,dT,bN,da,iR,bM,aT],rfl⟩
theorem Cr:j4 4 (bR zN):=⟨rfl,rfl,rfl,rfl⟩
theorem kZ (l:List Nd):∀ x∈fo l,j4 4 x:=by
 intro x hx;obtain ⟨p,_,rfl⟩:=aan.1 hx;exact RN p
def ba:List T→Nat→List Int
 | [],_=>[]
 | x::r,n=>(n:Int)::ba r (n + wt x)
mutual
def ye:T→Nat→List Nd
 | .mk k n l,i=>(.mk k n l,ba l (i + 1))::dh l (i + 1)
def dh:List T→Nat→List Nd
 | [],_=>[]
 | x::r,i=>ye x i++dh r (i + wt x)
end
mutual
theorem sQ:∀ (t:T) (i:Nat),(ye t i).length=wt t
 | .mk k n l,i=>by rw [ye,List.length_cons,iW,wt];omega
theorem iW:∀ (l:List T) (i:Nat),(dh l i).length=fN l
 | [],_=>rfl
 | x::r,i=>by rw [dh,aaj,sQ,iW,fN]
end
theorem pX (t:T) (i:Nat):ye t i=(t,ba t.l (i + 1))::dh t.l (i + 1):=by cases t;rw [ye];rfl
theorem yf (t:T):wt t=fN t.l + 1:=by cases t;rw [wt];exact afK _ _
theorem mH:∀ (l:List T) (x:T) (i:Nat),dh (l++[x]) i=dh l i++ye x (i + fN l)
 | [],x,i=>by simp [dh,fN]
 | y::r,x,i=>by rw [List.cons_append,dh,dh,mH r x,aa6,fN];congr 3;omega
theorem jK:∀ (l:List T) (x:T) (i:Nat),ba (l++[x]) i=ba l i++[((i + fN l:Nat):Int)]
 | [],x,i=>by simp [ba,fN]
 | y::r,x,i=>by rw [List.cons_append,ba,ba,jK r x,fN];simp;omega
theorem mI {l:List T} {i:Nat} (h:i < l.length):fN (l.take (i + 1))=fN (l.take i) + wt (l.getD i default):=by
 have e:∀ (a:List T) (x:T),fN (a++[x])=fN a + wt x:=by
  intro a x;induction a with
  | nil=>simp [fN]
  | cons y r ih=>rw [List.cons_append,fN,fN,ih];omega
 rw [acq h,e]
 simp [h]
theorem cS:∀ (l:List T) (i:Nat),fN (l.take i)≤fN l
 | [],i=>by simp [fN]
 | x::r,0=>by simp [fN]
 | x::r,i + 1=>by rw [List.take_succ_cons,fN,fN];have:=cS r i;omega
theorem cM:∀ (l:List T) (i:Nat),(ba l i).length=l.length
 | [],_=>rfl
 | x::r,i=>by rw [ba,List.length_cons,cM,List.length_cons]
theorem gL:∀ l:List T,l.length≤fN l
 | []=>by simp
 | x::r=>by rw [List.length_cons,fN];have:=gL r;have:=dH x;omega
def nR (t:T):AV:=.agg [.int .i64 t.k,.int .i64 t.n,.aj 0 (ca t.l),.aj 0 []]
theorem sR (t:T):j4 4 (nR t):=⟨rfl,rfl,by simp [nR,AV.cells,dT,bN,iR,bM,al],rfl⟩
theorem bdN (t:T) (φ:AV→Prop):cD [.int .i64 0,.int .i64 0,.ag,.ag] [(0,3,t.av)] φ=φ (.agg [.int .i64 t.k,.int .i64 t.n,.aj 0 (ca t.l),.ag]):=by
 cases t with
 | mk k n l=>
 simp only [cD,iJ,T.av,eq_iff_iff]
 constructor
 ·rintro ⟨_,_,_,h⟩;exact h
 ·exact fun h=>⟨rfl,rfl,by decide,h⟩
theorem aag (t:T):aU (.agg [.int .i64 t.k,.int .i64 t.n,.aj 0 (ca t.l),.ag])=nR t:=rfl
theorem RO.aO {z:AV} {base:Nat} {v:AV} {xs:List AV} {G:List aa} (h:RO z base v xs G):aO 1 v=True:=by
 rcases h with ⟨_,rfl⟩ | ⟨id,cap,_,rfl,_⟩ <;> simp [Go.aI.aO]
theorem eV (l:List Int):(gX l).one=true∧(gX l).ab=bu l∧(gX l).val=true∧(gX l).cells=[gX l]:=by
 cases l with
 | nil=>exact ⟨rfl,rfl,rfl,rfl⟩
 | cons v r=>exact ⟨rfl,rfl,rfl,rfl⟩
def aah (base:Nat) (H:List aa) (xs:List AV) (r:AV) (H':List aa):Prop:=RO zN base r xs H'∧H'.take base=H.take base∧H.length≤H'.length
theorem sS (a b:List Nd):fo (a++b)=fo a++fo b:=by simp [fo]
theorem sT (a:List Nd):(fo a).length=a.length:=by simp [fo]
theorem ad2:∀ (N:Nat) (t:T),wt t≤N→∀ (base:Nat) (v:AV) (xs:List AV) (H:List aa),RO zN base v xs H→(∀ x∈xs,j4 4 x)→base≤H.length→(xs.length + wt t) * 64≤140737488355328→
 ax Tryz.prog 132 [t.av,v] H (aah base H (xs++fo (ye t xs.length))):=by
 intro N
 induction N with
 | zero=>intro t ht;have:=dH t;omega
 | succ N ih=>
 intro t ht base v xs H hR eR hbase hb
 have hw:=yf t
 have hlw:=gL t.l
 refine IF.2.calls rfl ?_
 simp only [IF,aH]
 obtain ⟨o1,o2,o3,o4⟩:=hR.one
 simp +contextual only [o3,hR.len,hR.aO,bdN,aag,sZ,Nat.reduceEqDiff,Nat.reduceAdd,↓reduceIte,reduceCtorEq]
 refine Nb Cr hR eR 0 [nR t] (by simp) (by simp [sR]) (by simp;omega) hbase fun v1 G1 Wg Wh hj1 vZ=>?_
 obtain ⟨o1',o2',o3',o4'⟩:=Wg.one
 simp +contextual only [sZ]
 intro _
 have gS:∀ i,(xs++nR t::fo (dh (t.l.take i) (xs.length + 1))).length=xs.length + 1 + fN (t.l.take i):=by intro i;simp [sT,iW];omega
 have jF:∀ i,∀ x∈xs++nR t::fo (dh (t.l.take i) (xs.length + 1)),j4 4 x:=by
  intro i x hx
  rcases abZ.1 hx with hx | hx
  ·exact eR x hx
  ·rcases Xi.1 hx with rfl | hx
   ·exact sR t
   ·exact kZ _ x hx
 refine aG t.l.length (fun i (p:AV×List aa)=>RO zN base p.1 (xs++nR t::fo (dh (t.l.take i) (xs.length + 1))) p.2∧p.2.take base=H.take base∧H.length≤p.2.length)
  (fun i p=>[(1,p.1),(5,.int .i64 xs.length),(6,gX (ba (t.l.take i) (xs.length + 1))),(17,.aj 0 (ca t.l)),(18,.int .i64 t.l.length),(19,.int .i64 i)])
  (fun i p=>p.2) (v1,G1) ⟨⟨Wg,Wh,vZ⟩,aA _ _ _⟩ fun i p hi hI=>?_
 obtain ⟨v,G⟩:=p
 obtain ⟨hR,hG,hl⟩:=hI
 simp only at hR hG hl
 obtain ⟨o1,o2,o3,o4⟩:=hR.one
 have hle:=cS t.l i
 have C8:=cM (t.l.take i) (xs.length + 1)
 have RP:(t.l.take i).length≤t.l.length:=by simp;omega
 simp +contextual only [o3,hR.len,hR.aO,gS,nP,(eV _).2.1,fX,sZ,Nat.reduceEqDiff,Nat.reduceAdd,↓reduceIte,reduceCtorEq]
 refine ⟨fun aP=>⟨bA aP,by omega,?_⟩,fun iq=>?_⟩
 ·have aP:=bA aP
  have hwt:=mI aP
  have hnext:=cS t.l (i + 1)
  have e2:t.l.take (i + 1)=t.l.take i++[t.l.getD i default]:=by rw [acq aP];simp [aP]
  refine af (ih (t.l.getD i default) (by have:=cu (fM aP);omega) base v _ G hR (jF i) (by omega) (by rw [gS];omega)) ?_
  rintro r G' ⟨zC,eW,xn⟩
  obtain ⟨o1',o2',o3',o4'⟩:=zC.one
  simp +contextual only [o3',sZ,Nat.reduceEqDiff,↓reduceIte]
  refine ⟨i + 1,(r,G'),⟨aP,?_,eW.trans hG,acv hl xn⟩,by omega,aD ?_ rfl⟩
  ·rw [gS] at zC
   rw [e2,mH,sS,← List.cons_append,← aa6]
   exact zC
  ·rw [e2,jK,aq i (by omega)]
 ·have mq:i=t.l.length:=by have:=cc iq;omega
  subst mq
  rw [abe] at hR
  have wc:=gS t.l.length
  have Hi:=jF t.l.length
  rw [abe] at wc Hi
  have iD:(xs++nR t::fo (dh t.l (xs.length + 1))).set xs.length (Hh (t,ba t.l (xs.length + 1)))=xs++fo (ye t xs.length):=by
   rw [ad4 _ _ (tv _),aei,afM,pX];rfl
  have kI:(xs++nR t::fo (dh t.l (xs.length + 1))).getD xs.length .any=nR t:=by simp
  generalize xs++nR t::fo (dh t.l (xs.length + 1))=ys at hR wc Hi iD kI
  rcases hR with ⟨rfl,_⟩ | ⟨id,cap,bn,rfl,hg,cr,_⟩
  ·simp at wc
   omega
  have wv:=(aa0.1 hg).1
  obtain ⟨k1,k2,k3,k4,k5⟩:=aJ (ba t.l (xs.length + 1))
  simp +contextual only [hg,l9,abe,sZ,Nat.reduceEqDiff,↓reduceIte,reduceCtorEq]
  refine ⟨by omega,?_⟩
  refine Ch Hi (by omega) (by decide) (y:=Hh (t,ba t.l (xs.length + 1))) k1 k4 (by rw [k2];exact k3 _) (by rw [kI,k2];rfl) ?_
  simp +contextual only [sZ,Nat.reduceEqDiff,↓reduceIte,reduceCtorEq]
  rw [iD]
  refine a8 (G.length) (by omega) (by rw [aC,if_pos rfl,fL];simpa using wv) ?_
  rw [aC,if_pos rfl,aaJ (by simp)]
  refine ⟨.inr ⟨id,cap,bn,?_,?_,?_,?_⟩,?_,by simpa using hl⟩
  ·rw [← iD];simp
  ·rw [aai wv]
  ·rw [← iD];simpa using cr
  ·rw [pX];simp [fo]
  ·rw [ace bn];exact hG
end Go.aI
end
section
set_option maxRecDepth 100000
namespace Go.aI
open Go Go.Proofs Go.dV
def pk (l:List Nd):AV:=if l=[] then .ag else .aj 0 (fo l)
def eN (ps ss:List Int):AV:=.agg [.aj 0 (ints ps),.aj 0 (ints ss)]
def k7 (ps ss:List Int) (l:List Nd) (e g:Nat):aa:=.cells [.aj 0 (ints ps),.aj 0 (ints ss),pk l,.map e,.map g]
theorem bdD (ps ss:List Int) (a b:Nat) (φ:AV→Prop):cD [.ag,.ag,.ag,.jR,.jR] [(0,2,.agg [.aj 0 (ints ps),.aj 0 (ints ss)]),(3,1,.map a),(4,1,.map b)] φ=φ (.agg [.aj 0 (ints ps),.aj 0 (ints ss),.ag,.map a,.map b]):=by
 simp only [cD,iJ,eq_iff_iff]
 constructor
 ·rintro ⟨_,_,_,_,_,_,_,_,_,h⟩;exact h
 ·exact fun h=>⟨rfl,rfl,by simp,rfl,rfl,by simp [ah,AV.cells],rfl,rfl,by simp [ah,AV.cells],h⟩
theorem RQ (a b:AV) (H:List aa) (φ:AV→Prop):aY (some 2) (.ai (.agg [a,b])) H φ=φ (.agg [a,b]):=by simp [aY,AV.cells]
theorem EO (id:Nat) (H:List aa) (K:AV→List aa→Prop):gf 3004 (.ptr id 0) H K=By 4 id 2 H (K (.ptr id 0)):=rfl
def Tz (H:List aa) (ps ss:List Int) (ts:List T) (r:AV) (H':List aa):Prop:=
 r=.tuple [.ptr (H.length + 2) 0,bu (ba ts 0)]∧H'=H++[.map [],.map [],k7 ps ss (dh ts 0) H.length (H.length + 1)]
theorem kB (l:List T):(fo (dh l 0)).length=fN l:=by rw [sT,iW]
theorem EP {l:List Nd} (h:fo l=[]):l=[]:=acQ.1 h
theorem Nn {C:List aa→Nat→List aa→Prop} {n0 a b m:Nat} {env:Env} {H H':List aa} {R:AV→List aa→Prop} {x y:AV} (hm:n0≤m) (hC:C H m H') (hx:(get env a).ab=x) (hy:(get env b).ab=y) (bx:x.bb m=true) (rM:y.bb m=true)
 (hR:R (.tuple [x,y]) H'):jH C n0 [.t a,.t b] env H R:=by
 subst hx;subst hy
 exact ⟨m,H',hm,hC,_,bZ _,by show al m [(get env a).ab,(get env b).ab]=true;rw [bN,bN,da,bx,rM];rfl,hR⟩
theorem Hj {n0 m:Nat} {G:List aa} (hm:m≤G.length) (hb:∀ (j:Nat) (o:aa),n0≤j→j < m→G[j]?=some o→o=.dead∨o.bb (j + 1)=true):oc n0 G m (G.take m):=by
 refine ⟨by simp,fun j o ho=>?_⟩
 rw [aaM] at ho
 split at ho
 ·rename_i hj
  by_cases h0:n0≤j
  ·rcases hb j o h0 hj ho with h | h
   ·exact .inl h
   ·exact .inr ⟨ho,fun _=>h⟩
  ·exact .inr ⟨ho,fun h=>by omega⟩
 ·cases ho
theorem yg (n:Nat) (l:List Nd):al n (fo l)=true:=
 (a9 _ _).2 fun x hx=>by
   obtain ⟨⟨t,ks⟩,_,rfl⟩:=aan.1 hx
   cases ks with
   | nil=>simp [Hh,bu,AV.bb,dT,al]
   | cons v r=>simp [Hh,bu,AV.bb,dT,aT,al]
theorem AO (ps ss:List Int) (l:List Nd) (n:Nat):(k7 ps ss l n (n + 1)).bb (n + 2 + 1)=true:=by
 have h:(pk l).bb (n + 2 + 1)=true:=by
  unfold pk
  split
  ·rfl
  ·rw [bM]
   exact yg _ _
 simp only [k7,aa.bb,bN,da,bM,aT,h,Mm]
 simp;omega
theorem c75 (ps ss:List Int) (ts:List T) (H:List aa) (hb:fN ts * 64≤140737488355328):ax Tryz.prog 75 [eN ps ss,.aj 0 (ca ts)] H (Tz H ps ss ts):=by
 refine ZZ.2.B9 rfl ?_
 simp only [ZZ,aH,eN]
 have hlw:=gL ts
 simp +contextual only [bdD,RQ,sZ,Nat.reduceEqDiff,Nat.reduceAdd,↓reduceIte,reduceCtorEq]
 refine ⟨by simp;omega,fun _=>?_⟩
 have e0:∀ (l:List aa) (x:aa),(H++x::l)[H.length]?=some x:=by simp
 refine iT ts.length (fun i (p:AV×List aa)=>RO zN (H.length + 3) p.1 (fo (dh (ts.take i) 0)) p.2∧H.length + 3≤p.2.length∧
  p.2.take (H.length + 3)=H++[.map [],.map [],.cells [.aj 0 (ints ps),.aj 0 (ints ss),p.1,.map H.length,.map (H.length + 1)]])
  (fun i p=>[(6,.ptr (H.length + 2) 0),(7,gX (ba (ts.take i) 0)),(15,.aj 0 (ca ts)),(16,.int .i64 ts.length),(17,.int .i64 i)])
  (fun i p=>p.2) (.ag,_) ⟨⟨.inl ⟨rfl,rfl⟩,by simp,?_⟩,kA _ _ _⟩ fun i p hi hI=>?_
 ·rw [aaJ (by simp)]
 obtain ⟨v,G⟩:=p
 obtain ⟨hR,hl,hG⟩:=hI
 simp only at hR hl hG
 obtain ⟨o1,o2,o3,o4⟩:=hR.one
 have gget:∀ j,j < H.length + 3→G[j]?=(H++[.map [],.map [],.cells [.aj 0 (ints ps),.aj 0 (ints ss),v,.map H.length,.map (H.length + 1)]])[j]?:=by
  intro j hj;rw [← hG,aaM,if_pos hj]
 have g2:G[H.length + 2]?=some (.cells [.aj 0 (ints ps),.aj 0 (ints ss),v,.map H.length,.map (H.length + 1)]):=by rw [gget _ (by omega)];simp
 have hle:=cS ts i
 have C8:=cM (ts.take i) 0
 have RP:(ts.take i).length≤ts.length:=by simp;omega
 simp +contextual only [o3,g2,hR.len,hR.aO,kB,nP,(eV _).2.1,fX,sZ,Nat.reduceEqDiff,Nat.reduceAdd,Nat.reduceLT,↓reduceIte,reduceCtorEq]
 refine ⟨fun aP=>⟨bA aP,by omega,?_⟩,fun iq=>?_⟩
 ·have aP:=bA aP
  have hwt:=mI aP
  have hnext:=cS ts (i + 1)
  have e2:ts.take (i + 1)=ts.take i++[ts.getD i default]:=by rw [acq aP];simp [aP]
  have hc:=ad2 (wt (ts.getD i default)) (ts.getD i default) (tv _) (H.length + 3) v _ G hR (kZ _) hl (by rw [kB];omega)
  refine af hc ?_
  rintro r G' ⟨zC,eW,xn⟩
  obtain ⟨o1',o2',o3',o4'⟩:=zC.one
  have g2':G'[H.length + 2]?=some (.cells [.aj 0 (ints ps),.aj 0 (ints ss),v,.map H.length,.map (H.length + 1)]):=by
   have:(G'.take (H.length + 3))[H.length + 2]?=(G.take (H.length + 3))[H.length + 2]?:=by rw [eW]
   rw [aaM,aaM,if_pos (by omega),if_pos (by omega)] at this
   rw [this,g2]
  have ey:=zC.bb (tv _)
  simp +contextual only [l7,o1',o2',o3',o4',g2',ey,sZ,Nat.reduceEqDiff,Nat.reduceAdd,Nat.reduceLeDiff,↓reduceIte]
  refine ⟨by omega,i + 1,(r,_),⟨aP,?_,by simp;omega,?_⟩,by omega,sI ?_ rfl⟩
  ·have h1:=zC.set (j:=H.length + 2) (by omega) (.cells (ah [.aj 0 (ints ps),.aj 0 (ints ss),v,.map H.length,.map (H.length + 1)] 2 [r]))
   rw [kB] at h1
   rw [e2,mH,sS,ach]
   exact h1
  ·rw [afd,eW,hG]
   simp [ah]
  ·rw [e2,jK,aq i (by omega),ach]
 ·have mq:i=ts.length:=by have:=cc iq;omega
  subst mq
  rw [abe] at hR
  have fin:∀ (G':List aa),G'.length=G.length→G'.take (H.length + 3)=H++[.map [],.map [],k7 ps ss (dh ts 0) H.length (H.length + 1)]→jH (oc H.length) H.length [.t 4,.t 5] [(4,.ptr (H.length + 2) 0),(5,bu (ba ts 0))] G' (Tz H ps ss ts):=by
   intro G' xn eW
   refine Nn (m:=H.length + 3) (by omega) (Hj (by omega) fun j o h1 h2 ho=>.inr ?_) (x:=.ptr (H.length + 2) 0) (y:=bu (ba ts 0)) rfl ?_ ?_ ((aJ _).2.2.1 _) ⟨rfl,eW⟩
   ·have h3:(G'.take (H.length + 3))[j]?=some o:=by rw [aaM,if_pos h2];exact ho
    rw [eW,aba h1] at h3
    have:j=H.length∨j=H.length + 1∨j=H.length + 2:=by omega
    rcases this with rfl | rfl | rfl
    ·simp at h3;subst h3;rfl
    ·simp at h3;subst h3;rfl
    ·simp at h3;subst h3;exact AO ps ss _ _
   ·have h2:=(aJ (ba ts 0)).2.1
    simp [aC,h2]
   ·rw [rf];simp
  rw [EO]
  unfold By
  rw [g2]
  rcases hR with ⟨e1,rfl⟩ | ⟨id,cap,bn,rfl,hg,cr,dP⟩
  ·simp +contextual only [List.getElem?_cons_succ,List.getElem?_cons_zero,abe,(eV _).2.1,(aJ _).2.1,sZ,Nat.reduceEqDiff,↓reduceIte,reduceCtorEq]
   refine fin G rfl ?_
   rw [hG,k7,pk,if_pos (EP e1)]
  ·simp +contextual only [List.getElem?_cons_succ,List.getElem?_cons_zero,abe,(eV _).2.1,(aJ _).2.1,sZ,Nat.reduceEqDiff,↓reduceIte,reduceCtorEq]
   refine xY (by decide) Cr (kZ _) (fun x hx=>?_) hg cr ⟨?_,?_,?_⟩
   ·obtain ⟨q,_,rfl⟩:=aan.1 hx;rfl
   ·rw [zS (by omega)];exact g2
   ·rw [bM];exact yg _ _
   ·refine fin _ (by simp) ?_
    rw [afd,afd,hG]
    have e1:∀ X:List aa,X.length≤id→X.set id .dead=X:=fun X h=>List.set_eq_of_length_le h
    rw [e1 _ (by simp;omega),k7,pk,if_neg (fun e=>dP (by rw [e];rfl))]
    simp
end Go.aI
end
section
set_option maxRecDepth 100000
namespace Go.aI
open Go Go.Proofs Go.dV
def zI:AV:=.int .i64 0
theorem Cs:j4 1 (bR zI):=⟨rfl,rfl,rfl,rfl⟩
theorem pn (l:List Int):∀ x∈ints l,j4 1 x:=by
 intro x hx;obtain ⟨n,_,rfl⟩:=aan.1 hx;exact ⟨rfl,rfl,rfl,rfl⟩
theorem pY:∀ l:List Int,flat (ints l)=ints l
 | []=>rfl
 | x::r=>by
   have:=pY r
   show AV.cells (.int .i64 x)++flat (ints r)=_
   rw [this];rfl
theorem RR {l:List Int} (h:l≠[]):ints l≠[]:=by cases l with | nil=>exact absurd rfl h | cons v r=>simp [ints]
theorem No (o:Nat) (v:Int) (r:List Int) (φ:AV→Prop):dx 0 false (.aj o (ints (v::r))) φ=φ (.bool false):=by simp [dx,isNil,ints]
theorem Np (φ:AV→Prop):dx 0 false .ag φ=φ (.bool true):=by simp [dx,isNil]
theorem IQ {esz bytes:Nat} {z:AV} (hz:j4 esz (bR z)) {id o:Nat} {G:List aa} (bn:G[id]?=some (.cells [])) (ys:List AV) (hy:ys≠[]) (rO:∀ x∈ys,j4 esz x) (hb:ys.length * bytes≤140737488355328) {base:Nat} (hG:base≤G.length) {K:AV→List aa→Prop}
 (hK:∀ v' G',RO z base v' ys G'→G'.take base=G.take base→G.length≤G'.length→K v' G'):cV esz bytes z (.a7 id 0 0 0) (.aj o ys) G K:=by
 obtain ⟨f1,f2,f3,f4⟩:=j4.flat rO
 have l8:∀ n m,al n (cT z m)=true:=fun n m=>(j4.flat (kX hz m)).2.2.1 n
 have hl:0 < ys.length:=agz.2 hy
 unfold cV
 simp only [dA,bn]
 refine ⟨fun y h=>⟨(rO y h).len,(rO y h).one⟩,by simpa using hb,tv _,by simp,fun h=>absurd h (by omega),fun _ cap hc _=>⟨?_,?_⟩⟩
 ·simp only [ags,List.drop_zero,List.take_nil,List.map_nil,List.nil_append,f2,bI];exact ⟨f3 _,l8 _ _⟩
 ·simp only [ags,List.drop_zero,List.take_nil,List.map_nil,List.nil_append,f2,ach]
  refine hK _ _ (.inr ⟨G.length,cap,hG,rfl,?_,by omega,hy⟩) ?_ (by simp)
  ·simp [bB]
  ·rw [aa1 hG]
theorem aak (l:List Int) (H:List aa) (hb:l.length * 8≤140737488355328):ax Tryz.prog 118 [bu l] H fun r H'=>RO zI H.length r (ints l) H'∧H'.take H.length=H∧H.length≤H'.length:=by
 refine Tl.2.calls rfl ?_
 simp only [Tl,aH]
 cases l with
 | nil=>
   simp +contextual only [bu,Np,sZ,Nat.reduceAdd,↓reduceIte,reduceCtorEq]
   exact a8 H.length (tv _) (by rw [aC,if_pos rfl];rfl) ⟨.inl ⟨rfl,by rw [aC,if_pos rfl]⟩,by simp,by simp⟩
 | cons v r=>
   simp +contextual only [bu,No,wG,uW,sZ,Nat.reduceEqDiff,Nat.reduceAdd,↓reduceIte,reduceCtorEq]
   refine ⟨rfl,IQ Cs (by simp [flat]) (ints (v::r)) (RR (by simp)) (pn _) (by rw [aw];exact hb) (base:=H.length) (by simp) fun v' G' hR hG hl=>?_⟩
   obtain ⟨o1,o2,o3,o4⟩:=hR.one
   simp +contextual only [o3,sZ,↓reduceIte,reduceCtorEq]
   have xn:H.length≤G'.length:=by simp at hl;omega
   refine a8 G'.length xn (by rw [aC,if_pos rfl];exact hR.bb (tv _)) ?_
   rw [aC,if_pos rfl,abe]
   exact ⟨hR,by rw [hG];simp,xn⟩
theorem Ct (l:List Int) (cap:Nat):bB zI (ints l) cap=.cells (ints l++cT zI (cap - l.length)):=by rw [bB,pY,aw]
theorem IS {l:List Int} {cap i:Nat} (h:i < l.length) (φ:AV→Prop):c8 (some (bB zI (ints l) cap)) none (i * 1) φ=φ (.int .i64 (l.getD i 0)):=by
 have e:(ints l++cT zI (cap - l.length)).getD (i * 1) .any=.int .i64 (l.getD i 0):=by
  rw [acs,tu,zR (by rw [aw];exact h)]
  simp [ints,h]
 have hl:=aw l
 simp only [Ct,c8,e,pg,eq_iff_iff,aaj,hl]
 constructor
 ·exact fun h=>h.2
 ·exact fun h2=>⟨by omega,h2⟩
theorem Nq {l:List Int} {cap i:Nat} (h:i < l.length) (n:Int) (id:Nat) (H:List aa) (K:List aa→Prop) (hK:K (H.set id (bB zI (ints (l.set i n)) cap))):iS (some (bB zI (ints l) cap)) 1 id (i * 1) (.int .i64 n) H K:=by
 have e:ints (l.set i n)=(ints l).set i (.int .i64 n):=by simp [ints,aek]
 rw [e] at hK
 refine Ch (esz:=1) (c:=0) (pn l) (by rw [aw];exact h) (by decide) (v:=.int .i64 n) (y:=.int .i64 n) rfl rfl rfl ?_ hK
 simp [ints,h,AV.cells,AV.ab]
structure Tu (l:List Int) (i:Nat) (m:List Int):Prop where
 len:m.length=l.length
 get:∀ j,j < l.length→m.getD j 0=if j < i∨l.length - 1 - j < i then l.getD (l.length - 1 - j) 0 else l.getD j 0
theorem AP {l m:List Int} (h:m.length=l.length) (hg:∀ j,j < l.length→m.getD j 0=l.getD j 0):m=l:=by
 apply aev h
 intro j h1 h2
 have:=hg j h2
 simpa [h1,h2] using this
theorem Tu.done {l m:List Int} {i:Nat} (h:Tu l i m) (hi:l.length≤2 * i + 1):m=l.reverse:=by
 refine AP (by simp [h.len]) fun j hj=>?_
 simp at hj
 rw [h.get j hj]
 have e:l.reverse.getD j 0=l.getD (l.length - 1 - j) 0:=by
  have h1:l.length - 1 - j < l.length:=by omega
  simp [List.getElem?_reverse hj]
 rw [e]
 split
 ·rfl
 ·rename_i hc
  have:l.length - 1 - j=j:=by omega
  rw [this]
theorem mJ {l:List Int} {i j:Nat} {x:Int} (hi:i < l.length):(l.set i x).getD j 0=if j=i then x else l.getD j 0:=by
 simp only [tu,acy]
 by_cases h:i=j
 ·subst h;simp [hi]
 ·rw [if_neg h,if_neg (fun e=>h e.symm)]
theorem Tu.step {l m:List Int} {i k:Nat} (h:Tu l i m) (hk:l.length=i + k + 1) (aP:i < k):Tu l (i + 1) ((m.set i (m.getD k 0)).set k (m.getD i 0)):=by
 refine ⟨by simp [h.len],fun j hj=>?_⟩
 have hl:=h.len
 rw [mJ (by simp;omega),mJ (by omega)]
 by_cases h1:j=k
 ·subst h1
  rw [if_pos rfl,h.get i (by omega),if_neg (by omega),if_pos (by omega)]
  congr 1;omega
 ·rw [if_neg h1]
  by_cases h2:j=i
  ·subst h2
   rw [if_pos rfl,h.get k (by omega),if_neg (by omega),if_pos (by omega)]
   congr 1;omega
  ·rw [if_neg h2,h.get j hj]
   by_cases h3:j < i∨l.length - 1 - j < i
   ·rw [if_pos h3,if_pos (by omega)]
   ·rw [if_neg h3,if_neg (by omega)]
theorem Hk {H:List aa} {id:Nat} {o:aa} (h:H[id]?=some o):H.set id o=H:=by
 apply acr
 intro j
 rw [acy]
 split
 ·rename_i e;subst e
  have:=(aa0.1 h).1
  rw [if_pos this,h]
 ·rfl
theorem aal (l:List Int) (base:Nat) (v:AV) (H:List aa) (hR:RO zI base v (ints l) H) (hb:l.length * 8≤140737488355328):ax Tryz.prog 199 [v] H fun r H'=>r=.tuple []∧RO zI base v (ints l.reverse) H'∧H'.take base=H.take base∧H'.length=H.length:=by
 refine Tp.2.calls rfl ?_
 simp only [Tp,aH]
 obtain ⟨o1,o2,o3,o4⟩:=hR.one
 simp +contextual only [o3,hR.len,hR.aO,aw,sZ,Nat.reduceEqDiff,Nat.reduceAdd,↓reduceIte,reduceCtorEq]
 rcases hR with ⟨e,rfl⟩ | ⟨id,cap,bn,rfl,hg,cr,dP⟩
 ·have e:l=[]:=acQ.1 e
  subst e
  refine ay 0 (fun _=>True) (fun _=>[(0,.ag),(2,.int .i64 0),(3,.int .i64 (-1))]) (fun _=>H) ⟨trivial,aD (by rfl) rfl⟩ fun i hi _=>?_
  simp +contextual only [sZ,Nat.reduceEqDiff,↓reduceIte,reduceCtorEq,Int.reduceLT]
  exact ⟨H.length,tv _,[],trivial,rfl,rfl,.inl ⟨rfl,rfl⟩,by simp,by simp⟩
 ·rw [aw] at cr ⊢
  have e1:IntKind.i64.wrap ((l.length:Int) - 1)=(l.length:Int) - 1 - (0:Nat):=by rw [dk _ (by omega)];omega
  rw [e1]
  refine aG l.length (fun i m=>Tu l i m) (fun i m=>[(0,.a7 id 0 l.length cap),(2,.int .i64 i),(3,.int .i64 ((l.length:Int) - 1 - i))]) (fun i m=>H.set id (bB zI (ints m) cap)) l ⟨⟨rfl,fun j hj=>by simp⟩,aD rfl ?_⟩ fun i m hi hI=>?_
  ·exact (Hk hg).symm
  have wv:=(aa0.1 hg).1
  have hm:=hI.len
  simp +contextual only [sZ,Nat.reduceEqDiff,↓reduceIte,reduceCtorEq]
  refine ⟨fun aP=>?_,fun iq=>?_⟩
  ·obtain ⟨k,hk⟩:∃ k,l.length=i + k + 1:=⟨l.length - i - 1,by omega⟩
   have e2:(l.length:Int) - 1 - i=(k:Nat):=by omega
   rw [e2] at aP ⊢
   have Nr:k < m.length:=by omega
   have hi1:i < m.length:=by omega
   simp +contextual only [l9,aai wv,IS Nr,IS hi1,sZ,Nat.reduceEqDiff,↓reduceIte,reduceCtorEq]
   refine ⟨by omega,by omega,by omega,Nq hi1 _ _ _ _ ?_⟩
   have vr:k < (m.set i (m.getD k 0)).length:=by simp;omega
   simp +contextual only [l9,aai wv,aeP,sZ,Nat.reduceEqDiff,↓reduceIte,reduceCtorEq]
   refine ⟨by omega,Nq vr _ _ _ _ ?_⟩
   simp +contextual only [aeP,sZ,Nat.reduceEqDiff,↓reduceIte,reduceCtorEq]
   have hw:IntKind.i64.wrap ((k:Int) - 1)=(l.length:Int) - 1 - ((i + 1:Nat):Int):=by rw [dk _ (by omega)];omega
   exact ⟨i + 1,_,⟨by omega,hI.step hk (by omega)⟩,by omega,aD (by rw [hw,aq i (by omega)]) rfl⟩
  ·have hd:=hI.done (by omega)
   subst hd
   refine ⟨H.length,tv _,[],trivial,rfl,rfl,.inr ⟨id,cap,bn,by simp [aw],?_,by simpa [aw] using cr,?_⟩,?_,by simp⟩
   ·rw [aaJ (by simp),aai wv]
   ·intro e;apply dP;have:=acQ.1 e;simp at this;rw [this];rfl
   ·rw [aaJ (l:=H.set _ _) (by simp),ace bn]
def bt (s:Int) (l:List Int):List Int:=if s=2 then l.reverse else l
theorem RS {id cap:Nat} {l:List Int} {H:List aa} (h:H[id]?=some (bB zI (ints l) cap)) (hl:l.length≤cap) {K:AV→List aa→Prop} (hK:K (.aj 0 (ints l)) (H.set id .dead)):ee 1 (.a7 id 0 l.length cap) H K:=by
 have hc:∀ (l:List Int) (r:List AV),chunks 1 l.length (ints l++r)=ints l:=by
  intro l r
  induction l with
  | nil=>rfl
  | cons x q ih=>exact congrArg (AV.int .i64 x::·) ih
 have ho:(ints l++cT zI (cap - l.length)).all AV.one=true:=by
  rw [List.all_append,show (cT zI (cap - l.length)).all AV.one=true from (j4.flat (kX Cs _)).2.2.2,acJ]
  have:=(j4.flat (pn l)).2.2.2
  rwa [pY] at this
 rw [Ct] at h
 simp only [ee,h,List.drop_zero,hc,ho]
 exact ⟨by omega,hl,by simp [aw],trivial,hK⟩
theorem KF (l:List Int) (s:Int) (hb:l.length * 8≤140737488355328):Pure Tryz.prog 149 [bu l,.int .i64 s] (.aj 0 (ints (bt s l))):=by
 refine fun H=>Tn.2.calls rfl ?_
 simp only [Tn,aH]
 obtain ⟨k1,k2,k3,k4,k5⟩:=aJ l
 simp +contextual only [k2,sZ,Nat.reduceEqDiff,Nat.reduceAdd,↓reduceIte,reduceCtorEq]
 refine af (aak l H hb) ?_
 rintro v G ⟨hR,hG,hl⟩
 obtain ⟨o1,o2,o3,o4⟩:=hR.one
 have fin:∀ (m:List Int) (G':List aa) (K:AV→List aa→Prop),RO zI H.length v (ints m) G'→G'.take H.length=H→(∀ x G'',(m=[]∧x=.ag∨x=.aj 0 (ints m))→x.ab=x→G''.take H.length=H→K x G'')→gf 1 v G' K:=by
  intro m G' K zC eW hK
  rcases zC with ⟨e,rfl⟩ | ⟨id,cap,bn,rfl,hg,cr,dP⟩
  ·exact hK _ _ (.inl ⟨acQ.1 e,rfl⟩) rfl eW
  ·rw [aw] at cr ⊢
   exact RS hg cr (hK _ _ (.inr rfl) rfl (by rw [ace bn];exact eW))
 have fin2:∀ (m:List Int) (x:AV) (G':List aa),bt s l=m→(m=[]∧x=.ag∨x=.aj 0 (ints m))→G'.take H.length=H→bS H.length [.t 4] [(4,x)] G' fun r H'=>r=.aj 0 (ints (bt s l))∧H'=H:=by
  intro m x G' hm hx eW
  rw [hm]
  rcases hx with ⟨rfl,rfl⟩ | rfl
  ·exact ⟨H.length,tv _,.aj 0 [],.inr (.inr (.inr (.inl ⟨rfl,0,rfl⟩))),rfl,rfl,eW⟩
  ·exact ⟨H.length,tv _,_,le_refl _,by show AV.bb _ (.aj 0 (ints m))=true;rw [bM];exact aT _ _,rfl,eW⟩
 simp +contextual only [o3,sZ,Nat.reduceEqDiff,Nat.reduceAdd,↓reduceIte,reduceCtorEq]
 refine ⟨fun hs=>?_,fun hs=>?_⟩
 ·refine af (aal l H.length v G hR hb) ?_
  rintro r G' ⟨rfl,zC,eW,_⟩
  simp +contextual only [sZ,↓reduceIte,reduceCtorEq]
  refine fin l.reverse G' _ zC (by rw [eW,hG]) fun x G'' hx hu Wi=>?_
  simp +contextual only [hu,sZ,↓reduceIte,reduceCtorEq]
  exact fin2 l.reverse x G'' (by rw [bt,if_pos hs]) hx Wi
 ·refine fin l G _ hR hG fun x G'' hx hu Wi=>?_
  simp +contextual only [hu,sZ,↓reduceIte,reduceCtorEq]
  exact fin2 l x G'' (by rw [bt,if_neg hs]) hx Wi
end Go.aI
end
section
set_option maxRecDepth 100000
namespace Go.aI
open Go Go.Proofs Go.dV
structure Cx where
 ps:List Int
 ss:List Int
 nd:List Nd
 d:Nat
 e:Nat
 g:Nat
def Cx.tm (c:Cx) (i:Int):T:=(c.nd.getD i.toNat default).1
def Cx.kd (c:Cx) (i:Int):List Int:=(c.nd.getD i.toNat default).2
def Cx.ew (c:Cx) (i:Int):Prop:=0≤i∧i < c.nd.length
def Wj (ps ss:List Int) (p:Int):Int:=ss.getD (ps.findIdx fun q=>decide (q=p)) 0
def gZ (ps ss:List Int):Od:=⟨fun n=>ps.getD n.toNat 0,Wj ps ss⟩
def Cx.O (c:Cx):Od:=gZ c.ps c.ss
structure Va (ps ss:List Int):Prop where
 len:ss.length=ps.length
 st:∀ i j,i < ps.length→j < ps.length→ps.getD i 0=ps.getD j 0→ss.getD i 0=ss.getD j 0
theorem Va.sp {ps ss:List Int} (h:Va ps ss) {i:Nat} (hi:i < ps.length):Wj ps ss (ps.getD i 0)=ss.getD i 0:=by
 unfold Wj
 have hx:ps.getD i 0∈ps:=by rw [tu,T1 hi];exact acP hi
 have h1:ps.findIdx (fun q=>decide (q=ps.getD i 0)) < ps.length:=agc ⟨_,hx,by simp⟩
 have h2:=agx (xs:=ps) (p:=fun q=>decide (q=ps.getD i 0)) (w:=h1)
 refine h.st _ _ h1 hi ?_
 rw [tu,T1 h1]
 exact of_decide_eq_true h2
structure Cx.Ok (c:Cx):Prop where
 va:Va c.ps c.ss
 nd:c.nd≠[]
 ne1:c.d≠c.e
 ne2:c.d≠c.g
 ne3:c.e≠c.g
 kl:∀ i,c.ew i→(c.kd i).length≤100000000
 kids:∀ i,c.ew i→(c.kd i).map c.tm=(c.tm i).l∧∀ k∈c.kd i,c.ew k
 op:∀ i,c.ew i→(c.tm i).k=2→0≤(c.tm i).n∧(c.tm i).n < c.ps.length
def nS (m:List ((Int×Int)×Bool)):List (AV×AV):=m.map fun p=>(.agg [.int .i64 p.1.1,.int .i64 p.1.2],.bool p.2)
def Rt (c:Cx) (P:T→T→Prop) (m:List ((Int×Int)×Bool)):Prop:=∀ p∈m,p.2=true↔P (c.tm p.1.1) (c.tm p.1.2)
structure Du (c:Cx) (H:List aa):Prop where
 d:H[c.d]?=some (.cells [.aj 0 (ints c.ps),.aj 0 (ints c.ss),.aj 0 (fo c.nd),.map c.e,.map c.g])
 e:∃ m,H[c.e]?=some (.map (nS m))∧Rt c (E c.O) m
 g:∃ m,H[c.g]?=some (.map (nS m))∧Rt c (R c.O) m
structure Up (c:Cx) (H H':List aa):Prop where
 len:H'.length=H.length
 get:∀ j,j≠c.e→j≠c.g→H'[j]?=H[j]?
theorem Up.refl (c:Cx) (H:List aa):Up c H H:=⟨rfl,fun _ _ _=>rfl⟩
theorem Up.trans {c:Cx} {H H' H'':List aa} (h:Up c H H') (k:Up c H' H''):Up c H H'':=⟨k.len.trans h.len,fun j h1 h2=>(k.get j h1 h2).trans (h.get j h1 h2)⟩
theorem Du.lt {c:Cx} {H:List aa} (h:Du c H):c.d < H.length∧c.e < H.length∧c.g < H.length:=by
 obtain ⟨m,h1,_⟩:=h.e
 obtain ⟨m',h2,_⟩:=h.g
 exact ⟨(aa0.1 h.d).1,(aa0.1 h1).1,(aa0.1 h2).1⟩
theorem Du.um {c:Cx} {H:List aa} (h:Du c H) (X:List aa):Du c (H++X):=by
 obtain ⟨l1,l2,l3⟩:=h.lt
 exact ⟨by rw [zR l1];exact h.d,by rw [zR l2];exact h.e,by rw [zR l3];exact h.g⟩
theorem Du.take {c:Cx} {H:List aa} {n:Nat} (h:Du c H) (h1:c.d < n) (h2:c.e < n) (h3:c.g < n):Du c (H.take n):=by
 exact ⟨by rw [aaM,if_pos h1];exact h.d,by rw [aaM,if_pos h2];exact h.e,by rw [aaM,if_pos h3];exact h.g⟩
theorem Du.set {c:Cx} {H:List aa} {j:Nat} {o:aa} (h:Du c H) (h1:j≠c.d) (h2:j≠c.e) (h3:j≠c.g):Du c (H.set j o):=by
 exact ⟨by rw [zS h1];exact h.d,by rw [zS h2];exact h.e,by rw [zS h3];exact h.g⟩
theorem Up.take {c:Cx} {H X H':List aa} (h:Up c (H++X) H'):Up c H (H'.take H.length):=
 ⟨by have:=h.len;simp at this ⊢;omega,fun j h1 h2=>by
   rw [aaM]
   split
   ·rename_i hj;rw [h.get j h1 h2,zR hj]
   ·rename_i hj;rw [aci (by omega)]⟩
def jD (c:Cx) (Q:Prop) (H:List aa) (r:AV) (H':List aa):Prop:=∃ b:Bool,r=.bool b∧(b=true↔Q)∧Up c H H'∧Du c H'
theorem cb (l:List Int) (H:List aa) (φ:AV→Prop):aY none (.ai (bu l)) H φ=φ (bu l):=by
 obtain ⟨k1,k2,_⟩:=aJ l
 simp [aY,k1,k2]
theorem fN0 (p:Nd) (φ:AV→Prop):ap 0 (some 3) (.ai (Hh p)) φ=φ (.ai p.1.av):=by
 obtain ⟨⟨k,n,l⟩,ks⟩:=p
 simp [ap,Hh,apart,AV.cells,T.av,T.k,T.n,T.l]
theorem FQ (p:Nd) (φ:AV→Prop):ap 3 none (.ai (Hh p)) φ=φ (.ai (bu p.2)):=by
 obtain ⟨k1,_⟩:=aJ p.2
 simp [ap,Hh,apart,AV.cells,k1]
theorem nT (e o:Nat) (l:List Nd) (k:IntKind) (i:Int) (φ:AV→Prop):aE e (.aj o (fo l)) (.int k i) φ=((0≤i∧i < l.length)∧φ (.ai (Hh (l.getD i.toNat default)))):=by
 simp only [aE,sT,eq_iff_iff]
 constructor
 ·rintro ⟨h0,h,h2⟩;refine ⟨by omega,?_⟩;simpa [fo,h] using h2
 ·rintro ⟨⟨h0,h⟩,h2⟩;have h:i.toNat < l.length:=by omega
  refine ⟨h0,h,?_⟩;simpa [fo,h] using h2
theorem cN (o:Nat) (l:List Nd):(∀ (own:Nat) (xs:List AV),AV.aj o (fo l)=AV.aj own xs→∀ z∈xs,z.cells.length=4)=True:=by
 simp only [eq_iff_iff,iff_true]
 intro own xs e z hz
 cases e
 exact (kZ l z hz).len
theorem aR (e o:Nat) (l:List Int) (k:IntKind) (i:Int) (φ:AV→Prop):aE e (.aj o (ints l)) (.int k i) φ=((0≤i∧i < l.length)∧φ (.ai (.int .i64 (l.getD i.toNat 0)))):=by
 simp only [aE,aw,eq_iff_iff]
 constructor
 ·rintro ⟨h0,h,h2⟩;refine ⟨by omega,?_⟩;simpa [ints,h] using h2
 ·rintro ⟨⟨h0,h⟩,h2⟩;have h:i.toNat < l.length:=by omega
  refine ⟨h0,h,?_⟩;simpa [ints,h] using h2
def rq (c:Cx) (i:Int):Int:=if (c.tm i).k=2 then c.O.pl (c.tm i).n else 0
def dN (c:Cx) (i:Int):Int:=if (c.tm i).k=2 then c.O.sp (c.O.pl (c.tm i).n) else 0
def tx (c:Cx) (i:Int):Bool:=decide ((c.tm i).k=2)
def Ns (c:Cx) (i:Int):AV:=.tuple [.int .i64 (rq c i),.int .i64 (dN c i),.bool (tx c i)]
theorem IT (t:T) (φ:AV→Prop):ap 0 none (.ai t.av) φ=φ (.ai (.int .i64 t.k)):=by cases t;simp [ap,T.av,apart,AV.cells,AV.one,T.k]
theorem yh {Hs G:List aa} {n0 a b c:Nat} {u v w x y z:AV} {R:AV→List aa→Prop} (tw:b≠a∧c≠a∧c≠b) (hH:Hs.take n0=G) (hb:x.bb n0=true∧y.bb n0=true∧z.bb n0=true)
 (hx:u.ab=x) (hy:v.ab=y) (hz:w.ab=z) (hR:R (.tuple [x,y,z]) G):bS n0 [.t a,.t b,.t c] [(a,u),(b,v),(c,w)] Hs R:=by
 subst hH;subst hx;subst hy;subst hz
 refine ⟨n0,tv _,[u.ab,v.ab,w.ab],?_,by simp only [al,hb.1,hb.2.1,hb.2.2,acS],hR⟩
 simp only [aC,if_neg tw.1,if_neg tw.2.1,if_neg tw.2.2,if_true,List.map]
 exact bZ _
theorem ru {c:Cx} (hc:c.Ok) {i:Int} (hi:c.ew i) {H:List aa} (hD:Du c H):ax Tryz.prog 135 [.ptr c.d 0,.int .i64 i] H fun r H'=>r=Ns c i∧H'=H:=by
 refine Yu.2.calls rfl ?_
 simp only [Yu,aH]
 simp +contextual only [hD.d,nT,fN0,cN,aR,sZ,Nat.reduceEqDiff,Nat.reduceAdd,Nat.reduceLT,↓reduceIte,reduceCtorEq]
 refine ⟨hi,fun hk=>?_,fun hk=>?_⟩
 ·exact yh (by decide) (abe) ⟨rfl,rfl,rfl⟩ rfl rfl rfl ⟨by rw [Ns,rq,dN,tx,if_neg (show ¬(c.tm i).k=2 from hk),if_neg (show ¬(c.tm i).k=2 from hk),decide_eq_false (show ¬(c.tm i).k=2 from hk)];rfl,rfl⟩
 ·obtain ⟨o1,o2⟩:=hc.op i hi hk
  have hl:=hc.va.len
  refine ⟨⟨o1,o2⟩,⟨o1,by rw [hl];exact o2⟩,?_⟩
  refine yh (by decide) (abe) ⟨rfl,rfl,rfl⟩ rfl rfl rfl ⟨?_,rfl⟩
  have e:=hc.va.sp (i:=(c.tm i).n.toNat) (by omega)
  rw [Ns,rq,dN,tx,if_pos (show (c.tm i).k=2 from hk),if_pos (show (c.tm i).k=2 from hk),decide_eq_true (show (c.tm i).k=2 from hk)]
  have e2:c.O.sp (c.O.pl (c.tm i).n)=c.ss.getD (c.tm i).n.toNat 0:=e
  rw [e2];rfl
def nU (i k:Int):AV:=.agg [.int .i64 i,.int .i64 k]
theorem uo (i k:Int):∀ (m:List ((Int×Int)×Bool)) (n:Nat),(∃ j b,m[j]?=some ((i,k),b)∧dn 2 (nU i k) (nS m) n=some (some (n + j,.bool b)))∨dn 2 (nU i k) (nS m) n=some none
 | [],n=>.inr rfl
 | ((a,b),v)::r,n=>by
   have ih:=uo i k r (n + 1)
   have e:cK 2 (nU i k) (.agg [.int .i64 a,.int .i64 b])=some (decide (i=a∧k=b)):=by simp [cK,nU]
   simp only [nS,List.map_cons,dn,e]
   by_cases h:i=a∧k=b
   ·obtain ⟨rfl,rfl⟩:=h
    exact .inl ⟨0,v,rfl,by simp⟩
   ·simp only [decide_eq_false h]
    rcases ih with ⟨j,x,h1,h2⟩ | h2
    ·exact .inl ⟨j + 1,x,h1,by rw [show n + (j + 1)=n + 1 + j by omega];exact h2⟩
    ·exact .inr h2
theorem lkM {i k:Int} {m:List ((Int×Int)×Bool)} {φ:AV→Prop} (h1:∀ b,((i,k),b)∈m→φ (.tuple [.bool b,.bool true])) (h2:φ (.tuple [.bool false,.bool false])):gJ (some (.map (nS m))) 2 (.bool false) (nU i k) true φ:=by
 unfold gJ
 rcases uo i k m 0 with ⟨j,b,h3,h4⟩ | h4
 ·simp only [h4];exact h1 b (abm h3)
 ·simp only [h4];exact ⟨by simp [cK,nU],h2⟩
theorem Nt (m:List ((Int×Int)×Bool)) (j:Nat) (i k:Int) (b:Bool):(nS m).set j (nU i k,.bool b)=nS (m.set j ((i,k),b)):=by simp [nS,nU,aek]
theorem msM {i k:Int} {b:Bool} {m:List ((Int×Int)×Bool)} {id:Nat} {H:List aa} {K:List aa→Prop} (h:∀ m',(∀ p∈m',p∈m∨p=((i,k),b))→K (H.set id (.map (nS m')))):ft (some (.map (nS m))) 2 id (nU i k) (.bool b) H K:=by
 unfold ft
 refine ⟨by simp [nU,xM,bN,da,iR],rfl,rfl,?_⟩
 have ec:aU (.bool b)=.bool b:=rfl
 rcases uo i k m 0 with ⟨j,x,h3,h4⟩ | h4
 ·simp only [h4,ec,ach,Nt]
  refine h _ fun p hp=>?_
  rcases acF hp with h | h
  ·exact .inl h
  ·exact .inr h
 ·simp only [h4,ec]
  refine ⟨by simp [cK,nU],?_⟩
  have e:nS m++[(nU i k,.bool b)]=nS (m++[((i,k),b)]):=by simp [nS,nU]
  rw [e]
  refine h _ fun p hp=>?_
  rcases abZ.1 hp with h | h
  ·exact .inl h
  ·exact .inr (by simpa using h)
theorem bdK (i k:Int) (φ:AV→Prop):cD [.int .i64 0,.int .i64 0] [(0,1,.int .i64 i),(1,1,.int .i64 k)] φ=φ (nU i k):=by
 simp only [cD,iJ,eq_iff_iff]
 constructor
 ·rintro ⟨_,_,_,_,_,_,h⟩;exact h
 ·exact fun h=>⟨rfl,rfl,by simp,rfl,rfl,by simp [ah,AV.cells],h⟩
theorem Hl (i k:Int):(nU i k).val=true∧(nU i k).cells.length=2∧(nU i k).cells.all AV.one=true:=⟨rfl,rfl,rfl⟩
theorem ldK (i k:Int) (H:List aa) (φ:AV→Prop):aY (some 2) (.ai (nU i k)) H φ=φ (nU i k):=RQ _ _ _ _
def Mp (c:Cx) (w:Nat) (Q:T→T→Prop):Prop:=(w=c.e∧Q=E c.O)∨(w=c.g∧Q=R c.O)
theorem Mp.at {c:Cx} {w:Nat} {Q:T→T→Prop} (h:Mp c w Q) {H:List aa} (hD:Du c H):∃ m,H[w]?=some (.map (nS m))∧Rt c Q m:=by
 rcases h with ⟨rfl,rfl⟩ | ⟨rfl,rfl⟩
 ·exact hD.e
 ·exact hD.g
theorem Mp.set {c:Cx} (hc:c.Ok) {w:Nat} {Q:T→T→Prop} (h:Mp c w Q) {H:List aa} (hD:Du c H) {m:List ((Int×Int)×Bool)} (hm:Rt c Q m):Du c (H.set w (.map (nS m)))∧Up c H (H.set w (.map (nS m))):=by
 obtain ⟨l1,l2,l3⟩:=hD.lt
 obtain ⟨_,_,n1,n2,n3,_,_,_⟩:=hc
 rcases h with ⟨rfl,rfl⟩ | ⟨rfl,rfl⟩
 ·exact ⟨⟨by rw [zS (fun e=>n1 e.symm)];exact hD.d,⟨m,by rw [aai l2],hm⟩,by rw [zS n3];exact hD.g⟩,by simp,fun j h1 h2=>by rw [zS (fun e=>h1 e.symm)]⟩
 ·exact ⟨⟨by rw [zS (fun e=>n2 e.symm)];exact hD.d,by rw [zS (fun e=>n3 e.symm)];exact hD.e,⟨m,by rw [aai l3],hm⟩⟩,by simp,fun j h1 h2=>by rw [zS (fun e=>h2 e.symm)]⟩
theorem eX {c:Cx} {s:Nat} {b:Bool} {Q:Prop} {H H':List aa} {x:AV} (hx:x=.bool b) (hb:b=true↔Q) (hU:Up c H H') (hD:Du c H'):bS H.length [.t s] [(s,x)] H' (jD c Q H):=by
 subst hx
 refine a8 H.length (tv _) (by rw [aC,if_pos rfl];rfl) ?_
 rw [aC,if_pos rfl,aaJ (by rw [hU.len];exact tv _)]
 exact ⟨b,rfl,hb,hU,hD⟩
theorem aam {c:Cx} (hc:c.Ok) {w:Nat} {Q:T→T→Prop} (hw:Mp c w Q) (i k:Int) (fn:Nat) (cP:List AV) {H:List aa} (hD:Du c H) (cr:cP.map AV.ab=cP)
 (hf:ax Tryz.prog fn cP H (jD c (Q (c.tm i) (c.tm k)) H)):ax Tryz.prog 133 [.map w,.int .i64 i,.int .i64 k,.fn (.func fn) [] cP] H (jD c (Q (c.tm i) (c.tm k)) H):=by
 refine Ys.2.calls rfl ?_
 simp only [Ys,aH]
 obtain ⟨m,hm,hr⟩:=hw.at hD
 have kf:=Hl i k
 simp +contextual only [bdK,ldK,kf.1,kf.2.1,kf.2.2,hm,sZ,Nat.reduceEqDiff,Nat.reduceAdd,↓reduceIte,reduceCtorEq]
 refine lkM (fun b hb=>?_) ?_
 ·have hq:=hr _ hb
  cases b with
  | true=>
    simp +contextual only [sZ,Nat.reduceEqDiff,Nat.reduceAdd,Nat.reduceLT,↓reduceIte,reduceCtorEq]
    exact eX rfl hq (Up.refl c H) hD
  | false=>
    simp +contextual only [sZ,Nat.reduceEqDiff,Nat.reduceAdd,Nat.reduceLT,↓reduceIte,reduceCtorEq]
    exact eX rfl hq (Up.refl c H) hD
 ·simp +contextual only [cr,sZ,Nat.reduceEqDiff,Nat.reduceAdd,Nat.reduceLT,↓reduceIte,reduceCtorEq]
  refine af hf ?_
  rintro r H' ⟨b,rfl,hb,hU,kv⟩
  obtain ⟨m',Pg,hr'⟩:=hw.at kv
  simp +contextual only [ldK,Pg,sZ,Nat.reduceEqDiff,↓reduceIte,reduceCtorEq]
  refine msM fun m2 h2=>?_
  have tJ:Rt c Q m2:=by
   intro p hp
   rcases h2 p hp with h | rfl
   ·exact hr' p h
   ·exact hb
  obtain ⟨s1,s2⟩:=hw.set hc kv tJ
  simp +contextual only [sZ,Nat.reduceEqDiff,↓reduceIte,reduceCtorEq]
  exact eX rfl hb (hU.trans s2) s1
def lI (c:Cx) (i k:Int):Prop:=∀ H,Du c H→ax Tryz.prog 79 [.ptr c.d 0,.int .i64 i,.int .i64 k] H (jD c (E c.O (c.tm i) (c.tm k)) H)
def ji (c:Cx) (i k:Int):Prop:=∀ H,Du c H→ax Tryz.prog 76 [.ptr c.d 0,.int .i64 i,.int .i64 k] H (jD c (R c.O (c.tm i) (c.tm k)) H)
def EQ (c:Cx) (i k:Int):List AV:=[.ai (.ptr c.d 0),.ai (.int .i64 i),.ai (.int .i64 k)]
theorem g53 (a b c d e z:AV):[a,b,c,d,e].getD 3 z=d:=rfl
theorem g54 (a b c d e z:AV):[a,b,c,d,e].getD 4 z=e:=rfl
theorem c79 {c:Cx} (hc:c.Ok) {i k:Int} (h:∀ H,Du c H→ax Tryz.prog 138 (EQ c i k) H (jD c (E c.O (c.tm i) (c.tm k)) H)):lI c i k:=by
 intro H hD
 refine k79.2.calls rfl ?_
 simp only [k79,aH]
 simp +contextual only [hD.d,g53,sZ,Nat.reduceEqDiff,Nat.reduceAdd,Nat.reduceLT,↓reduceIte,reduceCtorEq]
 refine af (aam hc (.inl ⟨rfl,rfl⟩) i k 138 (EQ c i k) hD rfl (h H hD)) ?_
 rintro r H' ⟨b,rfl,hb,hU,kv⟩
 simp +contextual only [sZ,↓reduceIte,reduceCtorEq]
 exact eX rfl hb hU kv
theorem c76 {c:Cx} (hc:c.Ok) {i k:Int} (h:∀ H,Du c H→ax Tryz.prog 134 (EQ c i k) H (jD c (R c.O (c.tm i) (c.tm k)) H)):ji c i k:=by
 intro H hD
 refine k76.2.calls rfl ?_
 simp only [k76,aH]
 simp +contextual only [hD.d,g54,sZ,Nat.reduceEqDiff,Nat.reduceAdd,Nat.reduceLT,↓reduceIte,reduceCtorEq]
 refine af (aam hc (.inr ⟨rfl,rfl⟩) i k 134 (EQ c i k) hD rfl (h H hD)) ?_
 rintro r H' ⟨b,rfl,hb,hU,kv⟩
 simp +contextual only [sZ,↓reduceIte,reduceCtorEq]
 exact eX rfl hb hU kv
theorem dO (c:Cx) (i:Int):(Ns c i).ab=Ns c i:=rfl
theorem gh (c:Cx) (i:Int) (φ:AV→Prop):bK (Ns c i) 0 φ=φ (.int .i64 (rq c i)):=by simp [Ns,bK,pg]
theorem gk (c:Cx) (i:Int) (φ:AV→Prop):bK (Ns c i) 1 φ=φ (.int .i64 (dN c i)):=by simp [Ns,bK,pg]
theorem gl (c:Cx) (i:Int) (φ:AV→Prop):bK (Ns c i) 2 φ=φ (.bool (tx c i)):=by simp [Ns,bK,pS]
def we (c:Cx) (i k:Int):Bool:=tx c i && (tx c k && decide (rq c i=rq c k))
theorem lJ {c:Cx} {i k:Int}:we c i k=true↔(c.tm i).k=2∧(c.tm k).k=2∧c.O.pl (c.tm i).n=c.O.pl (c.tm k).n:=by
 simp only [we,tx,zU,decide_eq_true_eq]
 unfold rq
 constructor
 ·rintro ⟨h1,h2,h3⟩;rw [if_pos h1,if_pos h2] at h3;exact ⟨h1,h2,h3⟩
 ·rintro ⟨h1,h2,h3⟩;refine ⟨h1,h2,?_⟩;rw [if_pos h1,if_pos h2];exact h3
theorem Hm {c:Cx} (hc:c.Ok) {i k:Int} (hi:c.ew i) (hk:c.ew k) {H:List aa} (hD:Du c H):ax Tryz.prog 155 [.ptr c.d 0,.int .i64 i,.int .i64 k] H fun r H'=>r=.tuple [.int .i64 (dN c i),.bool (we c i k)]∧H'=H:=by
 refine YG.2.calls rfl ?_
 simp only [YG,aH]
 simp +contextual only [sZ,Nat.reduceEqDiff,Nat.reduceAdd,↓reduceIte,reduceCtorEq]
 refine af (ru hc hi hD) ?_
 rintro r H1 ⟨rfl,rfl⟩
 simp +contextual only [dO,gh,gk,gl,sZ,Nat.reduceEqDiff,Nat.reduceAdd,↓reduceIte,reduceCtorEq]
 refine af (ru hc hk hD) ?_
 rintro r H1 ⟨rfl,rfl⟩
 simp +contextual only [dO,gh,gk,gl,sZ,Nat.reduceEqDiff,↓reduceIte,reduceCtorEq]
 have fin:∀ (s:Int) (b:Bool),s=dN c i→b=we c i k→bS H1.length [.t 6,.t 7] [(6,.int .i64 s),(7,.bool b)] H1 fun r H'=>r=.tuple [.int .i64 (dN c i),.bool (we c i k)]∧H'=H1:=by
  rintro s b rfl rfl
  have:=xW (H:=H1) (e:=[]) (s:=6) (s':=7) (v:=.int .i64 (dN c i)) (v':=.bool (we c i k)) (by decide) rfl rfl rfl rfl
  rwa [ack] at this
 cases h1:tx c i with
 | false=>
   simp +contextual only [sZ,Nat.reduceEqDiff,↓reduceIte,reduceCtorEq]
   exact fin _ _ rfl (by rw [we,h1];rfl)
 | true=>
   cases h2:tx c k with
   | false=>
     simp +contextual only [sZ,Nat.reduceEqDiff,↓reduceIte,reduceCtorEq]
     exact fin _ _ rfl (by rw [we,h1,h2];rfl)
   | true=>
     simp +contextual only [sZ,Nat.reduceEqDiff,↓reduceIte,reduceCtorEq]
     exact fin _ _ rfl (by rw [we,h1,h2];rfl)
end Go.aI
end
section
set_option maxRecDepth 100000
namespace Go.aI
open Go Go.Proofs Go.dV
def IL (v:AV) (l:List Int):Prop:=v=bu l∨v=.aj 0 (ints l)
theorem IL.one {v:AV} {l:List Int} (h:IL v l):v.one=true∧v.ab=v∧v.val=true∧v.cells=[v]:=by
 rcases h with rfl | rfl
 ·obtain ⟨k1,k2,_,k4,k5⟩:=aJ l;exact ⟨k1,k2,k4,k5⟩
 ·exact ⟨rfl,rfl,rfl,rfl⟩
theorem IL.len {v:AV} {l:List Int} (h:IL v l) (hs:l.length < 9223372036854775808) (H:List aa) (φ:AV→Prop):fj v H φ=φ (.int .i64 l.length):=by
 have hl:∀ l:List Int,l.length < 9223372036854775808→fj (.aj 0 (ints l)) H φ=φ (.int .i64 l.length):=by
  intro l hs;simp [fj,aw,hs]
 rcases h with rfl | rfl
 ·cases l with
  | nil=>rfl
  | cons x r=>exact hl _ hs
 ·exact hl _ hs
theorem IL.yi {v:AV} {l:List Int} (h:IL v l) (H:List aa) (φ:AV→Prop):jh v H φ=φ (.int .i64 l.length):=by
 rcases h with rfl | rfl
 ·cases l with
  | nil=>rfl
  | cons x r=>rw [bu,mD,aw]
 ·rw [mD,aw]
theorem IL.aO {v:AV} {l:List Int} (h:IL v l):aO 1 v=True:=by
 rcases h with rfl | rfl
 ·cases l <;> simp [bu,Go.aI.aO]
 ·simp [Go.aI.aO]
theorem IL.idx {v:AV} {l:List Int} (h:IL v l) (k:IntKind) (i:Int) (φ:AV→Prop):aE 1 v (.int k i) φ=((0≤i∧i < l.length)∧φ (.ai (.int .i64 (l.getD i.toNat 0)))):=by
 rcases h with rfl | rfl
 ·cases l with
  | nil=>simp [bu,aE];omega
  | cons x r=>exact aR 1 0 (x::r) k i φ
 ·exact aR 1 0 l k i φ
theorem IL.lens {v:AV} {l:List Int} (h:IL v l):(∀ (own:Nat) (xs:List AV),v=AV.aj own xs→∀ z∈xs,z.cells.length=1)=True:=by
 rcases h with rfl | rfl
 ·cases l with
  | nil=>simp [bu]
  | cons x r=>exact dS 0 (x::r)
 ·exact dS 0 l
def AQ (S:List aa→Prop):Prop:=∀ H H',S H→S H'→H'.length=H.length
def SB (S:List aa→Prop) (Q:Prop) (r:AV) (H':List aa):Prop:=∃ b:Bool,r=.bool b∧(b=true↔Q)∧S H'
def SI (S:List aa→Prop) (Q:Int→Prop) (l:List Int) (r:AV) (H':List aa):Prop:=
 S H'∧((r=.int .i64 (-1)∧∀ x∈l,¬ Q x)∨∃ n:Nat,r=.int .i64 n∧n < l.length∧Q (l.getD n 0)∧∀ j,j < n→¬ Q (l.getD j 0))
theorem Cu {S:List aa→Prop} (hl:AQ S) {s:Nat} {b:Bool} {Q:Prop} {H H':List aa} {x:AV} (hx:x=.bool b) (hb:b=true↔Q) (hS:S H) (hS':S H'):bS H.length [.t s] [(s,x)] H' (SB S Q):=by
 subst hx
 refine a8 H.length (tv _) (by rw [aC,if_pos rfl];rfl) ?_
 rw [aC,if_pos rfl,aaJ (by rw [hl H H' hS hS'];exact tv _)]
 exact ⟨b,rfl,hb,hS'⟩
theorem aV {l:List Int} {i:Nat} (h:i < l.length):l.getD i 0∈l:=by rw [tu,T1 h];exact acP h
theorem aao {S:List aa→Prop} (hS:AQ S) {Q:Int→Int→Prop} {a b:List Int} {va vb:AV} (ha:IL va a) (hb:IL vb b) (la:a.length≤1000000000) (lb:b.length≤1000000000) (g:Nat) (pre cP:List AV) (cr:cP.map AV.ab=cP) (mZ:pre.map AV.ab=pre)
 (hf:∀ x∈a,∀ y∈b,∀ H,S H→ax Tryz.prog g (pre++[.int .i64 x,.int .i64 y]++cP) H (SB S (Q x y))) {H:List aa} (hH:S H) :
 ax Tryz.prog 140 [va,vb,.fn (.func g) pre cP] H (SB S (a.length=b.length∧∀ j,j < a.length→Q (a.getD j 0) (b.getD j 0))):=by
 refine Yx.2.calls rfl ?_
 simp only [Yx,aH]
 obtain ⟨a1,a2,a3,a4⟩:=ha.one
 obtain ⟨b1,b2,b3,b4⟩:=hb.one
 simp +contextual only [a2,b2,ha.aO,hb.aO,ha.len (by omega),hb.len (by omega),sZ,Nat.reduceEqDiff,Nat.reduceAdd,↓reduceIte,reduceCtorEq]
 refine ⟨fun dP=>Cu hS rfl ⟨fun h=>by simp at h,fun h=>absurd (by omega) dP⟩ hH hH,fun heq=>?_⟩
 refine aG a.length (fun i (G:List aa)=>S G∧∀ j,j < i→Q (a.getD j 0) (b.getD j 0))
  (fun i G=>[(1,vb),(2,.fn (.func g) pre cP),(15,va),(16,.int .i64 b.length),(17,.int .i64 i)]) (fun i G=>G) H ⟨⟨hH,fun j hj=>by omega⟩,aA _ _ _⟩ fun i G hi hI=>?_
 obtain ⟨hG,hq⟩:=hI
 simp +contextual only [b2,ha.lens,hb.lens,ha.idx,hb.idx,zV,cr,mZ,sZ,Nat.reduceEqDiff,Nat.reduceAdd,↓reduceIte,reduceCtorEq]
 refine ⟨fun aP=>⟨by omega,by omega,?_⟩,fun iq=>?_⟩
 ·refine af (hf _ (aV (by omega)) _ (aV (by omega)) G hG) ?_
  rintro r G' ⟨x,rfl,hx,eW⟩
  cases x with
  | true=>
    simp +contextual only [sZ,Nat.reduceEqDiff,↓reduceIte]
    refine ⟨i + 1,G',⟨by omega,eW,fun j hj=>?_⟩,by omega,aD (by rw [aq i (by omega)]) rfl⟩
    by_cases h:j=i
    ·subst h;exact hx.1 rfl
    ·exact hq j (by omega)
  | false=>
    simp +contextual only [sZ,Nat.reduceEqDiff,↓reduceIte,reduceCtorEq]
    refine Cu hS rfl ⟨fun h=>by simp at h,fun h=>?_⟩ hH eW
    exact absurd (hx.2 (h.2 i (by omega))) (by simp)
 ·refine Cu hS rfl ⟨fun _=>⟨by omega,fun j hj=>hq j (by omega)⟩,fun _=>rfl⟩ hH hG
theorem Nu {S:List aa→Prop} (hS:AQ S) {Q:Int→Prop} {a:List Int} {va:AV} (ha:IL va a) (la:a.length≤1000000000) (g:Nat) (pre cP:List AV) (cr:cP.map AV.ab=cP) (mZ:pre.map AV.ab=pre)
 (hf:∀ x∈a,∀ H,S H→ax Tryz.prog g (pre++[.int .i64 x]++cP) H (SB S (Q x))) {H:List aa} (hH:S H) :
 ax Tryz.prog 100 [va,.fn (.func g) pre cP] H (SI S Q a):=by
 refine D2.2.calls rfl ?_
 simp only [D2,aH]
 obtain ⟨a1,a2,a3,a4⟩:=ha.one
 simp +contextual only [a2,ha.aO,ha.len (by omega),sZ,Nat.reduceEqDiff,Nat.reduceAdd,↓reduceIte,reduceCtorEq]
 have fin:∀ (n:Int) (G:List aa),S G→((n=-1∧∀ x∈a,¬ Q x)∨∃ m:Nat,n=m∧m < a.length∧Q (a.getD m 0)∧∀ j,j < m→¬ Q (a.getD j 0))→bS H.length [.t 4] [(4,.int .i64 n)] G (SI S Q a):=by
  intro n G hG hn
  refine a8 H.length (tv _) (by rw [aC,if_pos rfl];rfl) ?_
  rw [aC,if_pos rfl,aaJ (by rw [hS H G hH hG];exact tv _)]
  refine ⟨hG,?_⟩
  rcases hn with ⟨rfl,h⟩ | ⟨m,rfl,h⟩
  ·exact .inl ⟨rfl,h⟩
  ·exact .inr ⟨m,rfl,h⟩
 refine aG a.length (fun i (G:List aa)=>S G∧∀ j,j < i→¬ Q (a.getD j 0))
  (fun i G=>[(0,va),(1,.fn (.func g) pre cP),(7,.int .i64 a.length),(8,.int .i64 i)]) (fun i G=>G) H ⟨⟨hH,fun j hj=>by omega⟩,aA _ _ _⟩ fun i G hi hI=>?_
 obtain ⟨hG,hq⟩:=hI
 simp +contextual only [a2,ha.lens,ha.idx,zV,cr,mZ,sZ,Nat.reduceEqDiff,Nat.reduceAdd,↓reduceIte,reduceCtorEq]
 refine ⟨fun aP=>⟨by omega,?_⟩,fun iq=>?_⟩
 ·refine af (hf _ (aV (by omega)) G hG) ?_
  rintro r G' ⟨x,rfl,hx,eW⟩
  cases x with
  | false=>
    simp +contextual only [sZ,Nat.reduceEqDiff,↓reduceIte,reduceCtorEq]
    refine ⟨i + 1,G',⟨by omega,eW,fun j hj=>?_⟩,by omega,aD (by rw [aq i (by omega)]) rfl⟩
    by_cases h:j=i
    ·subst h;exact fun h=>absurd (hx.2 h) (by simp)
    ·exact hq j (by omega)
  | true=>
    simp +contextual only [sZ,Nat.reduceEqDiff,↓reduceIte,reduceCtorEq]
    exact fin _ _ eW (.inr ⟨i,rfl,by omega,hx.1 rfl,hq⟩)
 ·refine fin _ _ hG (.inl ⟨rfl,fun x hx=>?_⟩)
  obtain ⟨j,hj,rfl⟩:=acI hx
  have:=hq j (by omega)
  simpa [hj] using this
theorem ER {S:List aa→Prop} (hS:AQ S) {Q:Int→Prop} {a:List Int} {va:AV} (ha:IL va a) (la:a.length≤1000000000) (g:Nat) (pre cP:List AV) (cr:cP.map AV.ab=cP) (mZ:pre.map AV.ab=pre)
 (hf:∀ x∈a,∀ H,S H→ax Tryz.prog g (pre++[.int .i64 x]++cP) H (SB S (Q x))) {H:List aa} (hH:S H) :
 ax Tryz.prog 102 [va,.fn (.func g) pre cP] H (SB S (∃ x∈a,Q x)):=by
 refine D3.2.calls rfl ?_
 simp only [D3,aH]
 obtain ⟨a1,a2,a3,a4⟩:=ha.one
 simp +contextual only [a2,sZ,Nat.reduceEqDiff,Nat.reduceAdd,↓reduceIte,reduceCtorEq]
 refine af (Nu hS ha la g pre cP cr mZ hf hH) ?_
 rintro r G ⟨hG,⟨rfl,h⟩ | ⟨n,rfl,h1,h2,_⟩⟩
 ·simp +contextual only [sZ,↓reduceIte,reduceCtorEq]
  exact Cu hS (b:=false) (by simp) ⟨fun h=>by simp at h,fun ⟨x,hx,h'⟩=>absurd h' (h x hx)⟩ hH hG
 ·simp +contextual only [sZ,↓reduceIte,reduceCtorEq]
  exact Cu hS (b:=true) (by simp) ⟨fun _=>⟨_,aV h1,h2⟩,fun _=>rfl⟩ hH hG
end Go.aI
end
section
set_option maxRecDepth 100000
namespace Go.aI
open Go Go.Proofs Go.dV
def SD (c:Cx) (H0 H:List aa):Prop:=Du c H∧Up c H0 H
theorem SD.Cv (c:Cx) (H0:List aa):AQ (SD c H0):=fun H H' h h'=>by rw [h'.2.len,h.2.len]
theorem jD.sb {c:Cx} {Q:Prop} {H0 H H':List aa} {r:AV} (h:jD c Q H r H') (hS:SD c H0 H):SB (SD c H0) Q r H':=by
 obtain ⟨b,h1,h2,h3,h4⟩:=h;exact ⟨b,h1,h2,h4,hS.2.trans h3⟩
theorem ad5 {c:Cx} {i x:Int} (h:ji c i x) {H:List aa} (hD:Du c H):ax Tryz.prog 233 [.int .i64 x,.ai (.ptr c.d 0),.ai (.int .i64 i)] H (jD c (¬ R c.O (c.tm i) (c.tm x)) H):=by
 refine Zn.2.calls rfl ?_
 simp only [Zn,aH]
 simp +contextual only [sZ,Nat.reduceEqDiff,Nat.reduceAdd,↓reduceIte,reduceCtorEq]
 refine af (h H hD) ?_
 rintro r H' ⟨b,rfl,hb,hU,kv⟩
 simp +contextual only [sZ,↓reduceIte,reduceCtorEq]
 refine eX (b:=!b) rfl ?_ hU kv
 rw [← hb];cases b <;> simp
theorem Wk {c:Cx} {i:Int} {l:List Int} {v:AV} (hv:IL v l) (hl:l.length≤1000000000) (h:∀ x∈l,ji c i x) {H:List aa} (hD:Du c H):ax Tryz.prog 204 [.ptr c.d 0,.int .i64 i,v] H (jD c (∀ x∈l,R c.O (c.tm i) (c.tm x)) H):=by
 refine Y4.2.calls rfl ?_
 simp only [Y4,aH]
 obtain ⟨a1,a2,a3,a4⟩:=hv.one
 simp +contextual only [a2,sZ,Nat.reduceEqDiff,Nat.reduceAdd,↓reduceIte,reduceCtorEq]
 refine af (ER (SD.Cv c H) hv hl 233 [] [.ai (.ptr c.d 0),.ai (.int .i64 i)] rfl rfl (Q:=fun x=>¬ R c.O (c.tm i) (c.tm x)) (fun x hx G hG=>(ad5 (h x hx) hG.1).mono fun r H' hr=>hr.sb hG) ⟨hD,Up.refl c H⟩) ?_
 rintro r G ⟨b,rfl,hb,hG⟩
 simp +contextual only [sZ,↓reduceIte,reduceCtorEq]
 refine eX (b:=!b) rfl ?_ hG.2 hG.1
 cases b with
 | true=>
   obtain ⟨x,hx,hr⟩:=hb.1 rfl
   exact ⟨fun h=>by simp at h,fun h=>absurd (h x hx) hr⟩
 | false=>
   refine ⟨fun _ x hx=>?_,fun _=>rfl⟩
   by_cases hr:R c.O (c.tm i) (c.tm x)
   ·exact hr
   ·exact absurd (hb.2 ⟨x,hx,hr⟩) (by simp)
theorem ad6 {c:Cx} {x k:Int} (h1:lI c x k) (h2:ji c x k) {H:List aa} (hD:Du c H):ax Tryz.prog 220 [.int .i64 x,.ai (.ptr c.d 0),.ai (.int .i64 k)] H (jD c (E c.O (c.tm x) (c.tm k)∨R c.O (c.tm x) (c.tm k)) H):=by
 refine Zd.2.calls rfl ?_
 simp only [Zd,aH]
 simp +contextual only [sZ,Nat.reduceEqDiff,Nat.reduceAdd,↓reduceIte,reduceCtorEq]
 refine af (h1 H hD) ?_
 rintro r H' ⟨b,rfl,hb,hU,kv⟩
 cases b with
 | true=>
   simp +contextual only [sZ,Nat.reduceEqDiff,↓reduceIte,reduceCtorEq]
   exact eX rfl ⟨fun _=>.inl (hb.1 rfl),fun _=>rfl⟩ hU kv
 | false=>
   simp +contextual only [sZ,Nat.reduceEqDiff,Nat.reduceAdd,↓reduceIte,reduceCtorEq]
   refine af (h2 H' kv) ?_
   rintro r H2 ⟨b,rfl,qx,TA,Da⟩
   simp +contextual only [sZ,Nat.reduceEqDiff,↓reduceIte,reduceCtorEq]
   refine eX rfl ⟨fun h=>.inr (qx.1 h),fun h=>?_⟩ (hU.trans TA) Da
   rcases h with h | h
   ·exact absurd (hb.2 h) (by simp)
   ·exact qx.2 h
theorem aap {c:Cx} (hc:c.Ok) {i k:Int} (hi:c.ew i) (h1:∀ x∈c.kd i,lI c x k) (h2:∀ x∈c.kd i,ji c x k) {H:List aa} (hD:Du c H):ax Tryz.prog 183 [.ptr c.d 0,.int .i64 i,.int .i64 k] H (jD c (∃ x∈c.kd i,E c.O (c.tm x) (c.tm k)∨R c.O (c.tm x) (c.tm k)) H):=by
 refine YT.2.calls rfl ?_
 simp only [YT,aH]
 have k2:∀ l,(bu l).ab=bu l:=fun l=>(aJ l).2.1
 simp +contextual only [hD.d,nT,FQ,cN,cb,k2,sZ,Nat.reduceEqDiff,Nat.reduceAdd,Nat.reduceLT,↓reduceIte,reduceCtorEq]
 refine ⟨hi,?_⟩
 refine af (ER (SD.Cv c H) (.inl rfl:IL (bu (c.kd i)) (c.kd i)) (by have:=hc.kl i hi;omega) 220 [] [.ai (.ptr c.d 0),.ai (.int .i64 k)] rfl rfl (Q:=fun x=>E c.O (c.tm x) (c.tm k)∨R c.O (c.tm x) (c.tm k)) (fun x hx G hG=>(ad6 (h1 x hx) (h2 x hx) hG.1).mono fun r H' hr=>hr.sb hG) ⟨hD,Up.refl c H⟩) ?_
 rintro r G ⟨b,rfl,hb,hG⟩
 simp +contextual only [sZ,↓reduceIte,reduceCtorEq]
 exact eX rfl hb hG.2 hG.1
theorem aaq {c:Cx} (hc:c.Ok) {i k:Int} (hi:c.ew i) (hk:c.ew k) (h:∀ x∈c.kd k,ji c i x) {H:List aa} (hD:Du c H):ax Tryz.prog 184 [.ptr c.d 0,.int .i64 i,.int .i64 k] H
 (jD c (tx c k=true∧rq c k < rq c i∧∀ x∈c.kd k,R c.O (c.tm i) (c.tm x)) H):=by
 refine YU.2.calls rfl ?_
 simp only [YU,aH]
 have k2:∀ l,(bu l).ab=bu l:=fun l=>(aJ l).2.1
 simp +contextual only [sZ,Nat.reduceEqDiff,Nat.reduceAdd,↓reduceIte,reduceCtorEq]
 refine af (ru hc hi hD) ?_
 rintro r H1 ⟨rfl,rfl⟩
 simp +contextual only [dO,gh,gk,gl,sZ,Nat.reduceEqDiff,Nat.reduceAdd,↓reduceIte,reduceCtorEq]
 refine af (ru hc hk hD) ?_
 rintro r H1 ⟨rfl,rfl⟩
 simp +contextual only [dO,gh,gk,gl,sZ,Nat.reduceEqDiff,↓reduceIte,reduceCtorEq]
 cases hb:tx c k with
 | false=>
   simp +contextual only [sZ,Nat.reduceEqDiff,↓reduceIte,reduceCtorEq]
   exact eX rfl ⟨fun h=>by simp at h,fun h=>by simp at h⟩ (Up.refl c _) hD
 | true=>
   by_cases hp:rq c k < rq c i
   ·simp +contextual only [hp,hD.d,nT,FQ,cN,cb,k2,sZ,Nat.reduceEqDiff,Nat.reduceAdd,Nat.reduceLT,↓reduceIte,reduceCtorEq]
    refine ⟨hk,af (Wk (.inl rfl:IL (bu (c.kd k)) (c.kd k)) (by have:=hc.kl k hk;omega) h hD) ?_⟩
    rintro r H2 ⟨b,rfl,qx,hU,kv⟩
    simp +contextual only [sZ,Nat.reduceEqDiff,↓reduceIte,reduceCtorEq]
    exact eX rfl ⟨fun h=>⟨rfl,hp,qx.1 h⟩,fun h=>qx.2 h.2.2⟩ hU kv
   ·simp +contextual only [hp,sZ,Nat.reduceEqDiff,↓reduceIte,reduceCtorEq]
    exact eX rfl ⟨fun h=>by simp at h,fun h=>absurd h.2.1 hp⟩ (Up.refl c _) hD
structure Lg (Q:Int→Int→Prop) (a b:List Int) (n:Nat):Prop where
 la:n≤a.length
 lb:n≤b.length
 eq:∀ j,j < n→Q (a.getD j 0) (b.getD j 0)
 no:n < a.length→n < b.length→¬ Q (a.getD n 0) (b.getD n 0)
theorem aar {c:Cx} {a b:List Int} {va vb:AV} (ha:IL va a) (hb:IL vb b) (la:a.length≤1000000000) (lb:b.length≤1000000000) (h:∀ x∈a,∀ y∈b,lI c x y) {H:List aa} (hD:Du c H) :
 ax Tryz.prog 150 [.ptr c.d 0,va,vb] H fun r H'=>∃ n:Nat,r=.int .i64 n∧Lg (fun x y=>E c.O (c.tm x) (c.tm y)) a b n∧Up c H H'∧Du c H':=by
 refine YB.2.calls rfl ?_
 simp only [YB,aH]
 obtain ⟨a1,a2,a3,a4⟩:=ha.one
 obtain ⟨b1,b2,b3,b4⟩:=hb.one
 simp +contextual only [sZ,Nat.reduceEqDiff,Nat.reduceAdd,↓reduceIte,reduceCtorEq]
 refine aG a.length (fun i (G:List aa)=>SD c H G∧i≤b.length∧∀ j,j < i→E c.O (c.tm (a.getD j 0)) (c.tm (b.getD j 0)))
  (fun i G=>[(0,.ptr c.d 0),(1,va),(2,vb),(7,.int .i64 i)]) (fun i G=>G) H ⟨⟨⟨hD,Up.refl c H⟩,acR _,fun j hj=>by omega⟩,aA _ _ _⟩ fun i G hi hI=>?_
 obtain ⟨hG,hib,hq⟩:=hI
 have fin:∀ G',SD c H G'→Lg (fun x y=>E c.O (c.tm x) (c.tm y)) a b i→bS H.length [.t 6] [(6,.int .i64 (i:Int))] G' fun r H'=>∃ n:Nat,r=.int .i64 n∧Lg (fun x y=>E c.O (c.tm x) (c.tm y)) a b n∧Up c H H'∧Du c H':=by
  intro G' eW hp
  refine a8 H.length (tv _) (by rw [aC,if_pos rfl];rfl) ?_
  rw [aC,if_pos rfl,aaJ (by rw [eW.2.len];exact tv _)]
  exact ⟨i,rfl,hp,eW.2,eW.1⟩
 by_cases h1:(i:Int) < a.length
 ·by_cases h2:(i:Int) < b.length
  ·simp +contextual only [a2,b2,ha.aO,hb.aO,ha.yi,hb.yi,ha.lens,hb.lens,ha.idx,hb.idx,zV,h1,h2,decide_true,sZ,Nat.reduceEqDiff,Nat.reduceAdd,↓reduceIte,reduceCtorEq]
   refine ⟨by omega,by omega,?_⟩
   refine af (h _ (aV (by omega)) _ (aV (by omega)) G hG.1) ?_
   rintro r G' ⟨x,rfl,hx,hU,kv⟩
   have eW:SD c H G':=⟨kv,hG.2.trans hU⟩
   cases x with
   | true=>
     simp +contextual only [sZ,Nat.reduceEqDiff,↓reduceIte,reduceCtorEq]
     refine ⟨i + 1,G',⟨by omega,eW,by omega,fun j hj=>?_⟩,by omega,aD (by rw [aq i (by omega)]) rfl⟩
     by_cases h:j=i
     ·subst h;exact hx.1 rfl
     ·exact hq j (by omega)
   | false=>
     simp +contextual only [sZ,Nat.reduceEqDiff,↓reduceIte,reduceCtorEq]
     exact fin G' eW ⟨hi,hib,hq,fun _ _ he=>absurd (hx.2 he) (by simp)⟩
  ·simp +contextual only [a2,b2,ha.aO,hb.aO,ha.yi,hb.yi,h1,h2,decide_true,decide_false,sZ,Nat.reduceEqDiff,↓reduceIte,reduceCtorEq]
   exact fin G hG ⟨hi,hib,hq,fun _ h'=>absurd h' (by omega)⟩
 ·simp +contextual only [a2,ha.aO,ha.yi,h1,decide_false,sZ,Nat.reduceEqDiff,↓reduceIte,reduceCtorEq]
  exact fin G hG ⟨hi,hib,hq,fun h' _=>absurd h' (by omega)⟩
def Cw (c:Cx) (i k:Int):Prop:=
 we c i k=true∧dN c i≠3∧(∀ x∈c.kd k,R c.O (c.tm i) (c.tm x))∧
 ∃ n,Lg (fun x y=>E c.O (c.tm x) (c.tm y)) (bt (dN c i) (c.kd i)) (bt (dN c i) (c.kd k)) n∧n < (bt (dN c i) (c.kd i)).length∧
  (n=(bt (dN c i) (c.kd k)).length∨R c.O (c.tm ((bt (dN c i) (c.kd i)).getD n 0)) (c.tm ((bt (dN c i) (c.kd k)).getD n 0)))
theorem kC {s x:Int} {l:List Int}:x∈bt s l↔x∈l:=by unfold bt;split <;> simp
theorem iz {s:Int} {l:List Int}:(bt s l).length=l.length:=by unfold bt;split <;> simp
theorem Lg.Wl {Q:Int→Int→Prop} {a b:List Int} {n m:Nat} (h:Lg Q a b n) (k:Lg Q a b m):n=m:=by
 rcases afR n m with h1 | h1 | h1
 ·exact absurd (k.eq n h1) (h.no (by have:=k.la;omega) (by have:=k.lb;omega))
 ·exact h1
 ·exact absurd (h.eq m h1) (k.no (by have:=h.la;omega) (by have:=h.lb;omega))
theorem aas {c:Cx} (hc:c.Ok) {i k:Int} (hi:c.ew i) (hk:c.ew k) (h1:∀ x∈c.kd k,ji c i x) (h2:∀ x∈c.kd i,∀ y∈c.kd k,lI c x y) (h3:∀ x∈c.kd i,∀ y∈c.kd k,ji c x y) {H:List aa} (hD:Du c H) :
 ax Tryz.prog 185 [.ptr c.d 0,.int .i64 i,.int .i64 k] H (jD c (Cw c i k) H):=by
 refine To.2.calls rfl ?_
 simp only [To,aH]
 have k2:∀ l,(bu l).ab=bu l:=fun l=>(aJ l).2.1
 have l1:=hc.kl i hi
 have l2:=hc.kl k hk
 simp +contextual only [sZ,Nat.reduceEqDiff,Nat.reduceAdd,↓reduceIte,reduceCtorEq]
 refine af (Hm hc hi hk hD) ?_
 rintro r H1 ⟨rfl,rfl⟩
 simp +contextual only [sZ,Nat.reduceEqDiff,Nat.reduceAdd,Nat.reduceLT,↓reduceIte,reduceCtorEq]
 cases hl:we c i k with
 | false=>
   simp +contextual only [Bool.not_false,sZ,Nat.reduceEqDiff,↓reduceIte,reduceCtorEq]
   exact eX rfl ⟨fun h=>by simp at h,fun h=>by have:=h.1;rw [hl] at this;simp at this⟩ (Up.refl c _) hD
 | true=>
   by_cases hs:dN c i=3
   ·simp +contextual only [Bool.not_true,hs,decide_true,sZ,Nat.reduceEqDiff,↓reduceIte,reduceCtorEq]
    exact eX rfl ⟨fun h=>by simp at h,fun h=>absurd hs h.2.1⟩ (Up.refl c _) hD
   ·simp +contextual only [Bool.not_true,hs,decide_false,hD.d,nT,FQ,cN,cb,k2,sZ,Nat.reduceEqDiff,Nat.reduceAdd,Nat.reduceLT,↓reduceIte,reduceCtorEq]
    refine ⟨hk,af (Wk (.inl rfl:IL (bu (c.kd k)) (c.kd k)) (by omega) h1 hD) ?_⟩
    rintro r H2 ⟨b,rfl,qx,hU,Da⟩
    cases b with
    | false=>
      simp +contextual only [Bool.not_false,sZ,Nat.reduceEqDiff,↓reduceIte,reduceCtorEq]
      exact eX rfl ⟨fun h=>by simp at h,fun h=>absurd (qx.2 h.2.2.1) (by simp)⟩ hU Da
    | true=>
      have tw:=qx.1 rfl
      simp +contextual only [Bool.not_true,Da.d,nT,FQ,cN,cb,k2,sZ,Nat.reduceEqDiff,Nat.reduceAdd,Nat.reduceLT,↓reduceIte,reduceCtorEq]
      refine ⟨hi,aF (KF (c.kd i) (dN c i) (by omega)) ?_⟩
      simp +contextual only [Da.d,nT,FQ,cN,cb,k2,sZ,Nat.reduceEqDiff,Nat.reduceAdd,Nat.reduceLT,↓reduceIte,reduceCtorEq]
      refine ⟨hk,aF (KF (c.kd k) (dN c i) (by omega)) ?_⟩
      have la:(bt (dN c i) (c.kd i)).length≤1000000000:=by rw [iz];omega
      have lb:(bt (dN c i) (c.kd k)).length≤1000000000:=by rw [iz];omega
      have ia:IL (.aj 0 (ints (bt (dN c i) (c.kd i)))) (bt (dN c i) (c.kd i)):=.inr rfl
      have ib:IL (.aj 0 (ints (bt (dN c i) (c.kd k)))) (bt (dN c i) (c.kd k)):=.inr rfl
      simp +contextual only [sZ,Nat.reduceEqDiff,Nat.reduceAdd,↓reduceIte,reduceCtorEq]
      refine af (aar ia ib la lb (fun x hx y hy=>h2 x (kC.1 hx) y (kC.1 hy)) Da) ?_
      rintro r H3 ⟨n,rfl,hp,hU3,Nv⟩
      have U3:=hU.trans hU3
      have yes:∀ (Hx:List aa),Up c H1 Hx→Du c Hx→n < (bt (dN c i) (c.kd i)).length→(n=(bt (dN c i) (c.kd k)).length∨R c.O (c.tm ((bt (dN c i) (c.kd i)).getD n 0)) (c.tm ((bt (dN c i) (c.kd k)).getD n 0)))→
       bS H1.length [.t 6] [(6,.bool true)] Hx (jD c (Cw c i k) H1):=fun Hx u d hn hx=>eX rfl ⟨fun _=>⟨hl,hs,tw,n,hp,hn,hx⟩,fun _=>rfl⟩ u d
      have no:∀ (Hx:List aa),Up c H1 Hx→Du c Hx→¬ (n < (bt (dN c i) (c.kd i)).length∧(n=(bt (dN c i) (c.kd k)).length∨R c.O (c.tm ((bt (dN c i) (c.kd i)).getD n 0)) (c.tm ((bt (dN c i) (c.kd k)).getD n 0))))→
       bS H1.length [.t 6] [(6,.bool false)] Hx (jD c (Cw c i k) H1):=fun Hx u d hx=>eX rfl ⟨fun h=>by simp at h,fun ⟨_,_,_,m,hm,rJ⟩=>absurd (hm.Wl hp ▸ rJ) hx⟩ u d
      by_cases h4:(n:Int) < (bt (dN c i) (c.kd i)).length
      ·have d4:decide ((n:Int) < (bt (dN c i) (c.kd i)).length)=true:=decide_eq_true h4
       by_cases h5:(n:Int)=(bt (dN c i) (c.kd k)).length
       ·have d5:decide ((n:Int)=(bt (dN c i) (c.kd k)).length)=true:=decide_eq_true h5
        simp +contextual only [aw,d4,d5,sZ,Nat.reduceEqDiff,↓reduceIte,reduceCtorEq]
        exact yes H3 U3 Nv (by omega) (.inl (by omega))
       ·have O8:=hp.lb
        simp +contextual only [aw,dS,aR,zV,h4,h5,decide_true,decide_false,sZ,Nat.reduceEqDiff,Nat.reduceAdd,↓reduceIte,reduceCtorEq]
        refine ⟨by omega,⟨by omega,by omega⟩,af (h3 _ (kC.1 (aV (by omega))) _ (kC.1 (aV (by omega))) H3 Nv) ?_⟩
        rintro r H4 ⟨b,rfl,hb,Xy,Xz⟩
        cases b with
        | true=>
          simp +contextual only [sZ,Nat.reduceEqDiff,↓reduceIte,reduceCtorEq]
          exact yes H4 (U3.trans Xy) Xz (by omega) (.inr (hb.1 rfl))
        | false=>
          simp +contextual only [sZ,Nat.reduceEqDiff,↓reduceIte,reduceCtorEq]
          refine no H4 (U3.trans Xy) Xz fun ⟨_,hx⟩=>?_
          rcases hx with hx | hx
          ·omega
          ·exact absurd (hb.2 hx) (by simp)
      ·simp +contextual only [aw,h4,decide_false,sZ,Nat.reduceEqDiff,↓reduceIte,reduceCtorEq]
       exact no H3 U3 Nv fun ⟨hx,_⟩=>by omega
end Go.aI
end
section
set_option maxRecDepth 100000
namespace Go.aI
open Go Go.Proofs Go.dV
theorem ES (n:Int) (h:0≤n∧n < 18446744073709551616):IntKind.u64.wrap n=n:=by
 have:IntKind.u64.bits=64:=rfl
 have:IntKind.u64.signed=false:=rfl
 simp only [IntKind.wrap, *]
 have e:n % 2 ^ 64=n:=agH h.1 (by omega)
 rw [e]
 simp
theorem Wm {n:Nat} (h:n < 4294967296) (φ:AV→Prop):dl .and (.int .u64 (n:Int)) (.int .u64 4294967295) φ=φ (.int .u64 (n:Int)):=by
 have e:(BitVec.ofInt IntKind.u64.bits (n:Int) &&& BitVec.ofInt IntKind.u64.bits 4294967295).toNat=n:=by
  show (BitVec.ofInt 64 (n:Int) &&& BitVec.ofInt 64 4294967295).toNat=n
  rw [BitVec.toNat_and]
  have e1:(BitVec.ofInt 64 (n:Int)).toNat=n:=by rw [BitVec.toNat_ofInt];omega
  have e2:(BitVec.ofInt 64 4294967295).toNat=2 ^ 32 - 1:=rfl
  rw [e1,e2,Nat.and_two_pow_sub_one_eq_mod,Nat.mod_eq_of_lt h]
 simp only [dl,e,true_and]
 rw [ES _ (by omega)]
theorem Wn {n:Nat} (h:n < 4294967296) (φ:AV→Prop):eE .shr (.int .u64 (n:Int)) (.int .u64 32) φ=φ (.int .u64 0):=by
 have e:Int.fdiv (n:Int) (2 ^ min (32:Int).toNat IntKind.u64.bits)=0:=by
  show Int.fdiv (n:Int) (2 ^ 32)=0
  rw [Int.fdiv_eq_ediv_of_nonneg _ (by decide)]
  omega
 simp only [eE,e]
 simp
theorem ad8 {n:Nat} (h:n < 4294967296):Pure Tryz.prog 213 [.int .u64 1,.int .u64 (n:Int)] (.tuple [.int .u64 0,.int .u64 (n:Int)]):=by
 refine fun H=>Za.2.calls rfl ?_
 simp only [Za,aH]
 have a1:∀ φ:AV→Prop,dl .and (.int .u64 1) (.int .u64 4294967295) φ=φ (.int .u64 1):=fun φ=>Wm (n:=1) (by decide) φ
 have s1:∀ φ:AV→Prop,eE .shr (.int .u64 1) (.int .u64 32) φ=φ (.int .u64 0):=fun φ=>Wn (n:=1) (by decide) φ
 have a0:∀ φ:AV→Prop,dl .and (.int .u64 0) (.int .u64 4294967295) φ=φ (.int .u64 0):=fun φ=>Wm (n:=0) (by decide) φ
 have s0:∀ φ:AV→Prop,eE .shr (.int .u64 0) (.int .u64 32) φ=φ (.int .u64 0):=fun φ=>Wn (n:=0) (by decide) φ
 have w1:IntKind.u64.wrap (1 * (n:Int))=n:=by rw [Int.one_mul];exact ES _ (by omega)
 have w0:IntKind.u64.wrap 0=0:=ES _ (by omega)
 simp +contextual only [a1,s1,a0,s0,Wm h,Wn h,w1,w0,Int.zero_mul,Int.mul_zero,Int.add_zero,sZ,Nat.reduceEqDiff,Nat.reduceAdd,↓reduceIte,reduceCtorEq]
 have:=xW (H:=H) (e:=[]) (s:=4) (s':=5) (v:=.int .u64 0) (v':=.int .u64 (n:Int)) (by decide) rfl rfl rfl rfl
 rwa [ack] at this
theorem ad9 {n:Nat} (h:n < 4294967296):Pure Tryz.prog 174 [.int .u64 1,.int .u64 (n:Int)] (.tuple [.int .u64 0,.int .u64 (n:Int)]):=by
 refine fun H=>YP.2.calls rfl ?_
 simp only [YP,aH]
 simp +contextual only [sZ,Nat.reduceEqDiff,Nat.reduceAdd,↓reduceIte,reduceCtorEq]
 refine ae (ad8 h) ?_
 simp +contextual only [sZ,Nat.reduceEqDiff,Nat.reduceAdd,Nat.reduceLT,↓reduceIte,reduceCtorEq]
 have:=xW (H:=H) (e:=[]) (s:=4) (s':=5) (v:=.int .u64 0) (v':=.int .u64 (n:Int)) (by decide) rfl rfl rfl rfl
 rwa [ack] at this
def dd (l:List Int):aa:=.cells (ints l)
def ej (i n:Nat) (x:Int):List Int:=List.replicate i x++List.replicate (n - i) 0
theorem mkI (n:Nat) (H:List aa) (K:AV→List aa→Prop) (h:n≤1000000000):fF 1 8 (.int .i64 0) (.int .i64 (n:Int)) H K=K (.a7 H.length 0 n n) (H++[dd (ej 0 n 0)]):=by
 have e:flat (List.replicate n (bR (.int .i64 0)))=ints (ej 0 n 0):=by
  rw [← pY];simp [ej,ints,bR]
 simp only [fF,zV,e,aT,dd,true_and,eq_iff_iff]
 constructor
 ·rintro ⟨_,_,h⟩;exact h
 ·exact fun k=>⟨by omega,by omega,k⟩
theorem mK (l:List Int) (k:Nat):(ints l).take k=ints (l.take k):=by simp [ints,List.map_take]
theorem uq (l:List Int) (k:Nat):(ints l).drop k=ints (l.drop k):=by simp [ints,List.map_drop]
theorem mL (l m:List Int):ints l++ints m=ints (l++m):=by simp [ints]
theorem wH (l:List Int):(ints l).map AV.ab=ints l:=by simp [ints,AV.ab]
theorem mM (l:List Int):(ints l).all AV.one=true:=by simp [ints,AV.one]
theorem yj (x:Int) {i m n:Nat} (h:i + m≤n):ah (ints (ej i n x)) i (ints (List.replicate m x))=ints (ej (i + m) n x):=by
 unfold ah
 rw [mK,aw,uq,mL,mL,ada]
 congr 1
 unfold ej
 rw [aa1 (by simp),aaJ (by simp),aej,aaN (by simp),List.nil_append,ada,List.drop_replicate,← aa6,agr]
 congr 2;omega
theorem aau (x:Int) {id n:Nat} {H:List aa} (hg:H[id]?=some (dd (ej 0 n 0))) (K:AV→List aa→Prop) (hK:K (.int .i64 (min 1 n:Nat)) (H.set id (dd (ej (min 1 n) n x)))):kN 1 (.a7 id 0 n n) (.aj 0 (ints [x])) H K:=by
 have e0:ej 0 n 0=ej 0 n x:=by simp [ej]
 rw [e0] at hg
 have ec:w8 1 (.aj 0 (ints [x])) H=some (1,ints [x]):=rfl
 have et:(ints [x]).take (min 1 n * 1)=ints (List.replicate (min 1 n) x):=by
  rcases Nat.eq_zero_or_pos n with rfl | h
  ·rfl
  ·rw [show min 1 n=1 by omega];rfl
 have:=yj x (i:=0) (m:=min 1 n) (n:=n) (by omega)
 rw [ach] at this
 simp only [kN,ec,hg,dd,et,wH,mM,aT,this,aw]
 exact ⟨trivial,by simp [ej];omega,trivial,hK⟩
theorem aav (x:Int) {id i n:Nat} (h0:0 < i) (h1:i < n) {H:List aa} (hg:H[id]?=some (dd (ej i n x))) (K:AV→List aa→Prop) (hK:K (.int .i64 (min i (n - i):Nat)) (H.set id (dd (ej (i + min i (n - i)) n x)))):kN 1 (.a7 id i (n - i) (n - i)) (.a7 id 0 i n) H K:=by
 have hl:(ej i n x).length=n:=by simp [ej];omega
 have ec:w8 1 (.a7 id 0 i n) H=some (i,ints (ej i n x)):=by
  simp only [w8,hg,dd,aw,hl,List.drop_zero]
  rw [if_pos (by omega)]
 have et:(ints (ej i n x)).take (min i (n - i) * 1)=ints (List.replicate (min i (n - i)) x):=by
  rw [acs,mK]
  congr 1
  unfold ej
  rw [aa1 (by simp;omega),List.take_replicate]
  congr 1;omega
 have:=yj x (i:=i) (m:=min i (n - i)) (n:=n) (by omega)
 simp only [kN,ec,hg,dd,et,wH,mM,aT,this,aw,hl]
 exact ⟨trivial,by omega,trivial,hK⟩
theorem slA {id i n:Nat} (h:i < n) (φ:AV→Prop):bC 1 (.a7 id 0 n n) (some (.int .i64 (i:Int))) none none φ=φ (.a7 id i (n - i) (n - i)):=by
 simp only [bC,iM,ep,zV,eq_iff_iff]
 rw [if_neg (by omega)]
 constructor
 ·intro h;simpa using h.2.2.2
 ·intro k;exact ⟨by omega,by omega,tv _,by simpa using k⟩
theorem slB {id i n:Nat} (h:i < n) (φ:AV→Prop):bC 1 (.a7 id 0 n n) none (some (.int .i64 (i:Int))) none φ=φ (.a7 id 0 i n):=by
 simp only [bC,iM,ep,zV,eq_iff_iff]
 rw [if_neg (by omega)]
 constructor
 ·intro h;simpa using h.2.2.2
 ·intro k;exact ⟨by omega,by omega,by omega,by simpa using k⟩
theorem Wo (o:Nat) (x:Int) (n:Nat) (hn:n≤1000000000) (H:List aa):ax Tryz.prog 113 [.aj o (ints [x]),.int .i64 (n:Int)] H fun r H'=>r=.a7 H.length 0 n n∧H'=H++[dd (List.replicate n x)]:=by
 refine Yn.2.calls rfl ?_
 simp only [Yn,aH]
 have w1:IntKind.u64.wrap 1=1:=ES _ (by omega)
 have w2:IntKind.u64.wrap (n:Int)=n:=ES _ (by omega)
 have w3:IntKind.i64.wrap (n:Int)=n:=dk _ (by omega)
 have e1:(ints [x]).length=1:=rfl
 have nn:decide ((n:Int) < 0)=false:=decide_eq_false (by omega)
 have ng:decide ((9223372036854775807:Int) < n)=false:=decide_eq_false (by omega)
 have z0:decide ((0:Int) < 0)=false:=rfl
 have ci:∀ (k k':IntKind) (n:Int) (φ:AV→Prop),cI k (.int k' n) φ=φ (.int k (k.wrap n)):=fun _ _ _ _=>rfl
 simp +contextual only [e1,w2,ci,nn,sZ,Nat.reduceEqDiff,Nat.reduceAdd,Nat.reduceLT,↓reduceIte,reduceCtorEq]
 refine ae (ad9 (n:=n) (by omega)) ?_
 simp +contextual only [w3,ci,ng,mkI n _ _ hn,sZ,Nat.reduceEqDiff,Nat.reduceAdd,Nat.reduceLT,↓reduceIte,reduceCtorEq,Int.reduceLT]
 have g0:(H++[dd (ej 0 n 0)])[H.length]?=some (dd (ej 0 n 0)):=by simp
 refine aau x g0 _ ?_
 simp +contextual only [sZ,Nat.reduceEqDiff,↓reduceIte,reduceCtorEq]
 have es:∀ i j,(H++[dd (ej i n x)]).set H.length (dd (ej j n x))=H++[dd (ej j n x)]:=by intro i j;simp
 refine MA Nat (fun i=>i≤n∧(0 < n→0 < i)) (fun i=>[(7,.a7 H.length 0 n n),(8,.int .i64 i)]) (fun i=>H++[dd (ej i n x)]) (fun i=>n - i) (min 1 n) ⟨by omega,by omega⟩ (aD rfl ?_) ?_
 ·simp
 ·intro i hI
  have gi:(H++[dd (ej i n x)])[H.length]?=some (dd (ej i n x)):=by simp
  by_cases aP:(i:Int) < n
  ·have me:i < n:=by omega
   simp +contextual only [aP,decide_true,Option.map_some,Option.map_none,slA me,slB me,sZ,Nat.reduceEqDiff,↓reduceIte]
   refine aav x (by omega) me gi _ ?_
   simp +contextual only [es,sZ,Nat.reduceEqDiff,↓reduceIte]
   refine ⟨i + min i (n - i),⟨by omega,by omega⟩,by omega,aD ?_ rfl⟩
   rw [dk _ (by omega)]
   rw [Int.natCast_add]
  ·have e:i=n:=by omega
   subst e
   simp +contextual only [aP,decide_false,sZ,Nat.reduceEqDiff,↓reduceIte,reduceCtorEq]
   have e3:ej i i x=List.replicate i x:=by simp [ej]
   rw [e3]
   refine a8 (H.length + 1) (by omega) (by rw [aC,if_pos rfl,fL];simp) ?_
   rw [aC,if_pos rfl,aaJ (by simp)]
   exact ⟨rfl,rfl⟩
end Go.aI
end
section
set_option maxRecDepth 100000
namespace Go.aI
open Go Go.Proofs Go.dV
def qM (l:List Bool):List AV:=l.map .bool
def ur (l:List Bool):aa:=.cells (qM l)
theorem uv (l:List Bool):(qM l).length=l.length:=by simp [qM]
def below (n:Nat) (p:Nat→Bool):List Int:=((List.range n).filter p).map Int.ofNat
theorem yl (n:Nat) (p:Nat→Bool):below (n + 1) p=if p n=true then below n p++[(n:Int)] else below n p:=by
 unfold below
 rw [adi,List.filter_append,acG]
 by_cases h:p n=true
 ·simp [h]
 ·simp [h]
theorem kD (n:Nat) (p:Nat→Bool):(below n p).length≤n:=by
 unfold below
 rw [acL]
 have:=List.length_filter_le p (List.range n)
 simpa using this
theorem iA {n:Nat} {p:Nat→Bool} {x:Int}:x∈below n p↔∃ j:Nat,x=j∧j < n∧p j=true:=by
 unfold below
 simp only [aan,acx,acf]
 constructor
 ·rintro ⟨j,h,rfl⟩;exact ⟨j,rfl,h⟩
 ·rintro ⟨j,rfl,h⟩;exact ⟨j,h,rfl⟩
structure Pr (Q:Int→Int→Prop) (a b:List Int) (k:Nat) (us:List Bool) (to:List Int):Prop where
 lu:us.length=a.length
 lt:to.length=b.length
 rest:∀ j,k≤j→j < b.length→to.getD j 0=-1
 t1:∀ j,j < k→to.getD j 0=-1∨∃ i:Nat,to.getD j 0=i∧i < a.length∧us.getD i false=true∧Q (a.getD i 0) (b.getD j 0)
 inj:∀ j j',j < k→j' < k→to.getD j 0=to.getD j' 0→to.getD j 0≠-1→j=j'
 uu:∀ i,i < a.length→us.getD i false=true→∃ j,j < k∧to.getD j 0=i
 free:∀ j,j < k→to.getD j 0=-1→∀ i,i < a.length→us.getD i false=false→¬ Q (a.getD i 0) (b.getD j 0)
theorem KG {l:List Bool} {i j:Nat} {x:Bool} (hi:i < l.length):(l.set i x).getD j false=if j=i then x else l.getD j false:=by
 simp only [tu,acy]
 by_cases h:i=j
 ·subst h;simp [hi]
 ·rw [if_neg h,if_neg (fun e=>h e.symm)]
theorem Pr.start {Q:Int→Int→Prop} {a b:List Int}:Pr Q a b 0 (List.replicate a.length false) (List.replicate b.length (-1)):=
 ⟨by simp,by simp,fun j _ hj=>by simp [hj],fun j h=>by omega,fun j j' h=>by omega,fun i hi h=>by simp [hi] at h,fun j h=>by omega⟩
theorem Pr.pair {Q:Int→Int→Prop} {a b:List Int} {k i:Nat} {us:List Bool} {to:List Int} (h:Pr Q a b k us to) (hk:k < b.length) (hi:i < a.length) (hu:us.getD i false=false) (hq:Q (a.getD i 0) (b.getD k 0)) :
 Pr Q a b (k + 1) (us.set i true) (to.set k i):=by
 have hl:=h.lt
 have mW:=h.lu
 have gt:∀ j,(to.set k (i:Int)).getD j 0=if j=k then (i:Int) else to.getD j 0:=fun j=>mJ (by omega)
 have gu:∀ j,(us.set i true).getD j false=if j=i then true else us.getD j false:=fun j=>KG (by omega)
 refine ⟨by simp [mW],by simp [hl],fun j h1 h2=>?_,fun j hj=>?_,fun j j' hj wI he hn=>?_,fun i' mq Jq=>?_,fun j hj hn i' mq Jq=>?_⟩
 ·rw [gt,if_neg (by omega)];exact h.rest j (by omega) h2
 ·rw [gt]
  by_cases e:j=k
  ·subst e;rw [if_pos rfl];exact .inr ⟨i,rfl,hi,by rw [gu,if_pos rfl],hq⟩
  ·rw [if_neg e]
   rcases h.t1 j (by omega) with h1 | ⟨i',h1,h2,h3,h4⟩
   ·exact .inl h1
   ·exact .inr ⟨i',h1,h2,by rw [gu];split;rfl;exact h3,h4⟩
 ·rw [gt] at he hn
  rw [gt] at he
  by_cases e:j=k
  ·by_cases e':j'=k
   ·omega
   ·rw [if_pos e,if_neg e'] at he
    rcases h.t1 j' (by omega) with h1 | ⟨i',h1,h2,h3,h4⟩
    ·omega
    ·have:i'=i:=by omega
     subst this;rw [hu] at h3;cases h3
  ·rw [if_neg e] at he hn
   by_cases e':j'=k
   ·rw [if_pos e'] at he
    rcases h.t1 j (by omega) with h1 | ⟨i',h1,h2,h3,h4⟩
    ·omega
    ·have:i'=i:=by omega
     subst this;rw [hu] at h3;cases h3
   ·rw [if_neg e'] at he
    exact h.inj j j' (by omega) (by omega) he hn
 ·rw [gu] at Jq
  by_cases e:i'=i
  ·subst e;exact ⟨k,by omega,by rw [gt,if_pos rfl]⟩
  ·rw [if_neg e] at Jq
   obtain ⟨j,h1,h2⟩:=h.uu i' mq Jq
   exact ⟨j,by omega,by rw [gt,if_neg (by omega)];exact h2⟩
 ·rw [gt] at hn
  rw [gu] at Jq
  by_cases e:j=k
  ·rw [if_pos e] at hn;omega
  ·rw [if_neg e] at hn
   by_cases e':i'=i
   ·rw [if_pos e'] at Jq;cases Jq
   ·rw [if_neg e'] at Jq
    exact h.free j (by omega) hn i' mq Jq
theorem Pr.fh {Q:Int→Int→Prop} {a b:List Int} {k:Nat} {us:List Bool} {to:List Int} (h:Pr Q a b k us to) (hk:k < b.length) (hq:∀ i,i < a.length→us.getD i false=false→¬ Q (a.getD i 0) (b.getD k 0)):Pr Q a b (k + 1) us to:=by
 have hr:=h.rest k (tv _) hk
 refine ⟨h.lu,h.lt,fun j h1 h2=>h.rest j (by omega) h2,fun j hj=>?_,fun j j' hj wI he hn=>?_,fun i hi hu=>?_,fun j hj hn i hi hu=>?_⟩
 ·by_cases e:j=k
  ·subst e;exact .inl hr
  ·exact h.t1 j (by omega)
 ·have h1:j≠k:=fun e=>by subst e;exact hn hr
  have h2:j'≠k:=fun e=>by subst e;exact hn (he.trans hr)
  exact h.inj j j' (by omega) (by omega) he hn
 ·obtain ⟨j,h1,h2⟩:=h.uu i hi hu;exact ⟨j,by omega,h2⟩
 ·by_cases e:j=k
  ·subst e;exact hq i hi hu
  ·exact h.free j (by omega) hn i hi hu
def aaw (c:Cx) (a b:List Int) (H:List aa) (r:AV) (H':List aa):Prop:=
 ∃ us to,Pr (fun x y=>E c.O (c.tm x) (c.tm y)) a b b.length us to∧r=.tuple [bu (below a.length fun i=>!us.getD i false),bu (below b.length fun j=>decide (to.getD j 0 < 0)),.aj 0 (ints to)]∧Up c H H'∧Du c H'
theorem mkB (n:Nat) (H:List aa) (K:AV→List aa→Prop) (h:n≤1000000000):fF 1 1 (.bool false) (.int .i64 (n:Int)) H K=K (.a7 H.length 0 n n) (H++[ur (List.replicate n false)]):=by
 have e:flat (List.replicate n (bR (.bool false)))=qM (List.replicate n false):=by
  induction n with
  | zero=>rfl
  | succ n ih=>rw [afm,afm];exact congrArg (AV.bool false::·) (ih (by omega))
 have eb:∀ m,al m (qM (List.replicate n false))=true:=fun m=>(a9 _ _).2 fun x hx=>by
  obtain ⟨y,_,rfl⟩:=aan.1 hx;rfl
 simp only [fF,zV,e,eb,ur,true_and,eq_iff_iff]
 constructor
 ·rintro ⟨_,_,h⟩;exact h
 ·exact fun k=>⟨by omega,by omega,k⟩
theorem ET {n:Nat} {p q:Nat→Bool} (h:∀ j,j < n→p j=q j):below n p=below n q:=by
 unfold below
 congr 1
 apply List.filter_congr
 intro j hj
 exact h j (acf.1 hj)
structure PS (c:Cx) (H:List aa) (us:List Bool) (to:List Int) (G:List aa):Prop where
 du:Du c G
 up:Up c (H++[ur us,dd to]) G
theorem PS.u {c:Cx} {H:List aa} {us:List Bool} {to:List Int} {G:List aa} (hD:Du c H) (h:PS c H us to G):G[H.length]?=some (ur us):=by
 obtain ⟨l1,l2,l3⟩:=hD.lt
 rw [h.up.get _ (by omega) (by omega)];simp
theorem PS.t {c:Cx} {H:List aa} {us:List Bool} {to:List Int} {G:List aa} (hD:Du c H) (h:PS c H us to G):G[H.length + 1]?=some (dd to):=by
 obtain ⟨l1,l2,l3⟩:=hD.lt
 rw [h.up.get _ (by omega) (by omega)];simp
theorem PS.call {c:Cx} {H:List aa} {us:List Bool} {to:List Int} {G G':List aa} (h:PS c H us to G) (hU:Up c G G') (hD:Du c G'):PS c H us to G':=⟨hD,h.up.trans hU⟩
theorem PS.len {c:Cx} {H:List aa} {us:List Bool} {to:List Int} {G:List aa} (h:PS c H us to G):G.length=H.length + 2:=by have:=h.up.len;simpa using this
theorem PS.aea {c:Cx} {H:List aa} {us us':List Bool} {to:List Int} {G:List aa} (hD:Du c H) (h:PS c H us to G):PS c H us' to (G.set H.length (ur us')):=by
 obtain ⟨l1,l2,l3⟩:=hD.lt
 have hl:=h.len
 refine ⟨h.du.set (by omega) (by omega) (by omega),by simp [hl],fun j h1 h2=>?_⟩
 rw [acy]
 by_cases e:H.length=j
 ·subst e;rw [if_pos rfl,if_pos (by omega)];simp
 ·rw [if_neg e,h.up.get j h1 h2]
  by_cases e2:j < H.length
  ·rw [zR e2,zR e2]
  ·rw [aba (by omega),aba (by omega)]
   obtain ⟨m,rfl⟩:∃ m,j=H.length + (m + 1):=⟨j - H.length - 1,by omega⟩
   simp
theorem PS.aeb {c:Cx} {H:List aa} {us:List Bool} {to to':List Int} {G:List aa} (hD:Du c H) (h:PS c H us to G):PS c H us to' (G.set (H.length + 1) (dd to')):=by
 obtain ⟨l1,l2,l3⟩:=hD.lt
 have hl:=h.len
 refine ⟨h.du.set (by omega) (by omega) (by omega),by simp [hl],fun j h1 h2=>?_⟩
 rw [acy]
 by_cases e:H.length + 1=j
 ·subst e;rw [if_pos rfl,if_pos (by omega)];simp
 ·rw [if_neg e,h.up.get j h1 h2]
  by_cases e2:j < H.length
  ·rw [zR e2,zR e2]
  ·rw [aba (by omega),aba (by omega)]
   obtain ⟨m,rfl⟩:∃ m,j=H.length + m:=⟨j - H.length,by omega⟩
   rcases m with _ | m
   ·simp
   ·rcases m with _ | m
    ·omega
    ·simp
theorem ldB {us:List Bool} {i:Nat} (h:i < us.length) (φ:AV→Prop):c8 (some (ur us)) none (i * 1) φ=φ (.bool (us.getD i false)):=by
 have e:(qM us).getD (i * 1) .any=.bool (us.getD i false):=by
  rw [acs];simp [qM,h]
 simp only [ur,c8,e,pS,uv,eq_iff_iff]
 constructor
 ·exact fun h=>h.2
 ·exact fun h2=>⟨by omega,h2⟩
theorem Cy {l:List Int} {i:Nat} (h:i < l.length) (φ:AV→Prop):c8 (some (dd l)) none (i * 1) φ=φ (.int .i64 (l.getD i 0)):=by
 have e:(ints l).getD (i * 1) .any=.int .i64 (l.getD i 0):=by
  rw [acs];simp [ints,h]
 simp only [dd,c8,e,pg,aw,eq_iff_iff]
 constructor
 ·exact fun h=>h.2
 ·exact fun h2=>⟨by omega,h2⟩
theorem stB {us:List Bool} {i:Nat} (h:i < us.length) (x:Bool) (id:Nat) (H:List aa) (K:List aa→Prop):iS (some (ur us)) 1 id (i * 1) (.bool x) H K=K (H.set id (ur (us.set i x))):=by
 have e:ah (qM us) (i * 1) [AV.bool x]=qM (us.set i x):=by
  rw [acs,lF _ _ _ (by rw [uv];exact h)];simp [qM,aek]
 have e2:(AV.bool x).cells.map AV.ab=[.bool x]:=rfl
 simp only [ur,iS,e2,e,uv,eq_iff_iff]
 constructor
 ·exact fun h=>h.2.2.2.2.2
 ·exact fun h2=>⟨rfl,rfl,by omega,rfl,rfl,h2⟩
theorem Nw {l:List Int} {i:Nat} (h:i < l.length) (x:Int) (id:Nat) (H:List aa) (K:List aa→Prop):iS (some (dd l)) 1 id (i * 1) (.int .i64 x) H K=K (H.set id (dd (l.set i x))):=by
 have e:ah (ints l) (i * 1) [AV.int .i64 x]=ints (l.set i x):=by
  rw [acs,lF _ _ _ (by rw [aw];exact h)];simp [ints,aek]
 have e2:(AV.int .i64 x).cells.map AV.ab=[.int .i64 x]:=rfl
 simp only [dd,iS,e2,e,aw,eq_iff_iff]
 constructor
 ·exact fun h=>h.2.2.2.2.2
 ·exact fun h2=>⟨rfl,rfl,by omega,rfl,rfl,h2⟩
theorem EU {id:Nat} {l:List Int} {H:List aa} (h:H[id]?=some (dd l)) {K:AV→List aa→Prop} (hK:K (.aj 0 (ints l)) (H.set id .dead)):ee 1 (.a7 id 0 l.length l.length) H K:=by
 have hc:∀ (l:List Int),chunks 1 l.length (ints l)=ints l:=by
  intro l
  induction l with
  | nil=>rfl
  | cons x q ih=>exact congrArg (AV.int .i64 x::·) ih
 simp only [ee,h,dd,List.drop_zero,hc,mM]
 exact ⟨by omega,tv _,by simp [aw],trivial,hK⟩
theorem Nx {id n:Nat} {l:List Int} {H:List aa} (h:H[id]?=some (dd l)) (hn:l.length=n) {K:AV→List aa→Prop} (hK:K (.aj 0 (ints l)) (H.set id .dead)):gf 1 (.a7 id 0 n n) H K:=by
 subst hn;exact EU h hK
theorem Wp {c:Cx} {a b:List Int} {va vb:AV} (ha:IL va a) (hb:IL vb b) (la:a.length≤1000000000) (lb:b.length≤1000000000) (h:∀ x∈a,∀ y∈b,lI c x y) {H:List aa} (hD:Du c H) :
 ax Tryz.prog 139 [.ptr c.d 0,va,vb] H (aaw c a b H):=by
 refine Tm.2.calls rfl ?_
 simp only [Tm,aH]
 obtain ⟨a1,a2,a3,a4⟩:=ha.one
 obtain ⟨b1,b2,b3,b4⟩:=hb.one
 simp +contextual only [a2,b2,ha.aO,hb.aO,ha.len (by omega),hb.len (by omega),mkB _ _ _ la,sZ,Nat.reduceEqDiff,Nat.reduceAdd,↓reduceIte,reduceCtorEq]
 refine af (Wo 0 (-1) b.length lb _) ?_
 rintro r G0 ⟨rfl,rfl⟩
 have el:(H++[ur (List.replicate a.length false)]).length=H.length + 1:=by simp
 rw [el]
 simp +contextual only [b2,hb.aO,hb.len (by omega),sZ,Nat.reduceEqDiff,↓reduceIte,reduceCtorEq]
 have ps0:PS c H (List.replicate a.length false) (List.replicate b.length (-1)) (H++[ur (List.replicate a.length false),dd (List.replicate b.length (-1))]):=⟨hD.um _,Up.refl c _⟩
 generalize H++[ur (List.replicate a.length false),dd (List.replicate b.length (-1))]=G0 at ps0 ⊢
 refine aG b.length (fun k (p:List aa×List Bool×List Int)=>PS c H p.2.1 p.2.2 p.1∧Pr (fun x y=>E c.O (c.tm x) (c.tm y)) a b k p.2.1 p.2.2)
  (fun k p=>[(0,.ptr c.d 0),(1,va),(9,.a7 H.length 0 a.length a.length),(10,.a7 (H.length + 1) 0 b.length b.length),(11,.ag),(12,gX (below k fun j=>decide (p.2.2.getD j 0 < 0))),(26,vb),(27,.int .i64 b.length),(28,.int .i64 k)])
  (fun k p=>p.1) (G0,List.replicate a.length false,List.replicate b.length (-1)) ⟨⟨ps0,Pr.start⟩,aA _ _ _⟩ fun k p hk hI=>?_
 obtain ⟨G,us,to⟩:=p
 obtain ⟨qB,Cz⟩:=hI
 simp only at qB Cz
 simp +contextual only [a2,ha.aO,hb.lens,hb.idx,zV,ha.len (by omega),sZ,Nat.reduceEqDiff,↓reduceIte,reduceCtorEq]
 refine ⟨fun aP=>⟨by omega,?_⟩,fun iq=>?_⟩
 ·have aP:=bA aP
  refine mE (Q1:=fun x e G'=>x=.exit 2∧∃ us' to',PS c H us' to' G'∧Pr (fun x y=>E c.O (c.tm x) (c.tm y)) a b (k + 1) us' to'∧(∀ j,j < k→to'.getD j 0=to.getD j 0)∧
   get e 0=.ptr c.d 0∧get e 1=va∧get e 9=.a7 H.length 0 a.length a.length∧get e 10=.a7 (H.length + 1) 0 b.length b.length∧get e 11=.ag∧get e 12=gX (below k fun j=>decide (to.getD j 0 < 0))∧get e 13=.int .i64 (k:Int)∧get e 26=vb∧get e 27=.int .i64 (b.length:Int)∧get e 28=.int .i64 (k:Int)) ?_ ?_
  ·refine aG a.length (fun i (G':List aa)=>PS c H us to G'∧∀ i',i' < i→us.getD i' false=false→¬ E c.O (c.tm (a.getD i' 0)) (c.tm (b.getD k 0)))
    (fun i G'=>[(0,.ptr c.d 0),(1,va),(9,.a7 H.length 0 a.length a.length),(10,.a7 (H.length + 1) 0 b.length b.length),(11,.ag),(12,gX (below k fun j=>decide (to.getD j 0 < 0))),(13,.int .i64 (k:Int)),(14,.int .i64 (b.getD k 0)),(26,vb),(27,.int .i64 b.length),(28,.int .i64 k),(33,va),(34,.int .i64 a.length),(35,.int .i64 i)])
    (fun i G'=>G') G ⟨⟨qB,fun i' mq=>by omega⟩,aA _ _ _⟩ fun i G' hi hI=>?_
   obtain ⟨CA,kq⟩:=hI
   have hlu:=Cz.lu
   have oA:=Cz.lt
   have gu:=CA.u hD
   by_cases O9:(i:Int) < a.length
   ·have aax:i < a.length:=by omega
    have XA:i < us.length:=by omega
    cases hu:us.getD i false with
    | true=>
      simp +contextual only [O9,decide_true,ha.lens,ha.idx,zV,l9,gu,ldB XA,hu,Bool.not_true,sZ,Nat.reduceEqDiff,↓reduceIte,reduceCtorEq]
      refine ⟨by omega,by omega,⟨i + 1,G',⟨by omega,CA,fun i' mq h0=>?_⟩,by omega,aD (by rw [aq i (by omega)]) rfl⟩⟩
      by_cases e:i'=i
      ·subst e;rw [hu] at h0;cases h0
      ·exact kq i' (by omega) h0
    | false=>
      simp +contextual only [O9,decide_true,ha.lens,ha.idx,zV,l9,gu,ldB XA,hu,Bool.not_false,sZ,Nat.reduceEqDiff,Nat.reduceAdd,↓reduceIte,reduceCtorEq]
      refine ⟨by omega,by omega,?_⟩
      refine af (h _ (aV aax) _ (aV aP) G' CA.du) ?_
      rintro r G2 ⟨x,rfl,hx,hU,Da⟩
      have ps2:=CA.call hU Da
      cases x with
      | false=>
        simp +contextual only [sZ,Nat.reduceEqDiff,↓reduceIte,reduceCtorEq]
        refine ⟨i + 1,G2,⟨by omega,ps2,fun i' mq h0=>?_⟩,by omega,aD (by rw [aq i (by omega)]) rfl⟩
        by_cases e:i'=i
        ·subst e;exact fun hh=>absurd (hx.2 hh) (by simp)
        ·exact kq i' (by omega) h0
      | true=>
        have gu2:=ps2.u hD
        have ps3:=ps2.aea (us':=us.set i true) hD
        have gt3:=ps3.t hD
        have JB:k < to.length:=by omega
        simp +contextual only [l9,gu2,gt3,stB XA,Nw JB,sZ,Nat.reduceEqDiff,↓reduceIte,reduceCtorEq]
        refine ⟨by omega,by omega,us.set i true,to.set k i,ps3.aeb hD,Cz.pair aP aax hu (hx.1 rfl),fun j hj=>?_⟩
        rw [mJ JB,if_neg (by omega)]
   ·simp +contextual only [O9,decide_false,sZ,Nat.reduceEqDiff,↓reduceIte,reduceCtorEq]
    exact ⟨us,to,CA,Cz.fh aP fun i' mq h0=>kq i' (by omega) h0,fun _ _=>rfl⟩
  ·rintro x e G' ⟨rfl,us',to',CA,RT,hsame,e0,e1,e9,e10,e11,e12,e13,e26,e27,e28⟩
   have hlu:=RT.lu
   have oA:=RT.lt
   have gt:=CA.t hD
   have JB:k < to'.length:=by omega
   have ebl:(below k fun j=>decide (to'.getD j 0 < 0))=below k fun j=>decide (to.getD j 0 < 0):=ET fun j hj=>by rw [hsame j hj]
   have ebs:=yl k fun j=>decide (to'.getD j 0 < 0)
   have ebn:=kD k fun j=>decide (to.getD j 0 < 0)
   by_cases zc:to'.getD k 0 < 0
   ·rw [if_pos (by simpa using zc),ebl] at ebs
    simp +contextual only [e0,e1,e9,e10,e11,e12,e13,e26,e27,e28,l9,gt,Cy JB,zc,decide_true,(eV _).2.1,nP,fX,sZ,Nat.reduceEqDiff,Nat.reduceAdd,↓reduceIte,reduceCtorEq]
    refine ⟨by omega,by omega,k + 1,(G',us',to'),⟨aP,CA,RT⟩,by omega,aD (by rw [aq k (by omega),ebs]) rfl⟩
   ·rw [if_neg (by simpa using zc),ebl] at ebs
    simp +contextual only [e0,e1,e9,e10,e11,e12,e13,e26,e27,e28,l9,gt,Cy JB,zc,decide_false,sZ,Nat.reduceEqDiff,↓reduceIte,reduceCtorEq]
    refine ⟨by omega,k + 1,(G',us',to'),⟨aP,CA,RT⟩,by omega,aD (by rw [aq k (by omega),ebs]) rfl⟩
 ·have hkk:k=b.length:=by omega
  subst hkk
  have hlu:=Cz.lu
  have oA:=Cz.lt
  have gu:=qB.u hD
  have gt:=qB.t hD
  refine ay a.length (fun i=>True) (fun i=>[(10,.a7 (H.length + 1) 0 b.length b.length),(11,gX (below i fun j=>!us.getD j false)),(12,gX (below b.length fun j=>decide (to.getD j 0 < 0))),(69,.a7 H.length 0 a.length a.length),(70,.int .i64 a.length),(71,.int .i64 i)])
   (fun i=>G) ⟨trivial,aA _ _ _⟩ fun i hi _=>?_
  have ebs:=yl i fun j=>!us.getD j false
  have ebn:=kD i fun j=>!us.getD j false
  by_cases O9:(i:Int) < a.length
  ·have XA:i < us.length:=by omega
   cases hu:us.getD i false with
   | true=>
     rw [hu,if_neg (by simp)] at ebs
     simp +contextual only [O9,decide_true,l9,gu,ldB XA,hu,Bool.not_true,sZ,Nat.reduceEqDiff,↓reduceIte,reduceCtorEq]
     refine ⟨by omega,i + 1,by omega,by omega,aD (by rw [aq i (by omega),ebs]) rfl⟩
   | false=>
     rw [hu,if_pos (by simp)] at ebs
     simp +contextual only [O9,decide_true,l9,gu,ldB XA,hu,Bool.not_false,(eV _).2.1,nP,fX,sZ,Nat.reduceEqDiff,Nat.reduceAdd,↓reduceIte,reduceCtorEq]
     refine ⟨by omega,by omega,i + 1,by omega,by omega,aD (by rw [aq i (by omega),ebs]) rfl⟩
  ·have hii:i=a.length:=by omega
   subst hii
   simp +contextual only [O9,decide_false,(eV _).2.1,sZ,Nat.reduceEqDiff,↓reduceIte]
   refine Nx gt oA ?_
   simp +contextual only [(aJ _).2.1,sZ,Nat.reduceEqDiff,↓reduceIte,reduceCtorEq]
   obtain ⟨l1,l2,l3⟩:=hD.lt
   refine yh (by decide) rfl ⟨(aJ _).2.2.1 _,(aJ _).2.2.1 _,?_⟩ (aJ _).2.1 (aJ _).2.1 rfl ⟨us,to,Cz,rfl,?_,?_⟩
   ·rw [xL,bM];exact aT _ _
   ·rw [ace (by omega)];exact qB.up.take
   ·rw [ace (by omega)];exact qB.du.take l1 l2 l3
end Go.aI
end
section
namespace Go.aI
open Go Go.Proofs Go.dV
theorem KH {β:Type} (f:Int→β) (a:List Int):a.map f=(List.range a.length).map fun i=>f (a.getD i 0):=by
 apply aev
 ·simp
 ·intro i h1 h2
  have:i < a.length:=by simpa using h1
  simp [this]
theorem EV {β:Type} (f:Int→β) (a:List Int) (p:Nat→Bool):(a.map f).Perm (((List.range a.length).filter p).map (fun i=>f (a.getD i 0))++((List.range a.length).filter fun i=>!p i).map fun i=>f (a.getD i 0)):=by
 rw [KH,← acG]
 exact (List.filter_append_perm p (List.range a.length)).symm.map _
theorem sU (n:Nat) (p:Nat→Bool):((List.range n).filter p).Nodup:=List.Pairwise.filter p List.nodup_range
def vH (f:Int→T) (a:List Int) (us:List Bool):List T:=((List.range a.length).filter fun i=>!us.getD i false).map fun i=>f (a.getD i 0)
def EW (f:Int→T) (b to:List Int):List T:=((List.range b.length).filter fun j=>decide (to.getD j 0 < 0)).map fun j=>f (b.getD j 0)
theorem Pr.parts {f:Int→T} {a b:List Int} {us:List Bool} {to:List Int} (h:Pr (fun x y=>f x=f y) a b b.length us to) :
 ∃ C,(a.map f).Perm (vH f a us++C)∧(b.map f).Perm (EW f b to++C)∧RJ (vH f a us) (EW f b to):=by
 refine ⟨((List.range b.length).filter fun j=>!decide (to.getD j 0 < 0)).map fun j=>f (b.getD j 0),?_,EV f b _,?_⟩
 ·have h1:=EV f a (fun i=>!us.getD i false)
  refine h1.trans (List.Perm.append_left _ ?_)
  have hp:(((List.range b.length).filter fun j=>!decide (to.getD j 0 < 0)).map fun j=>(to.getD j 0).toNat).Perm ((List.range a.length).filter fun i=>!!us.getD i false):=by
   rw [List.perm_ext_iff_of_nodup]
   ·intro i
    simp only [aan,acx,acf,abX,decide_eq_false_iff_not,aft]
    constructor
    ·rintro ⟨j,⟨hj,hn⟩,rfl⟩
     rcases h.t1 j hj with h2 | ⟨i,h2,h3,h4,_⟩
     ·omega
     ·rw [h2];exact ⟨by simpa using h3,by simpa using h4⟩
    ·rintro ⟨hi,hu⟩
     obtain ⟨j,h2,h3⟩:=h.uu i hi hu
     exact ⟨j,⟨h2,by omega⟩,by omega⟩
   ·rw [List.Nodup,List.pairwise_map]
    refine List.Pairwise.imp_of_mem ?_ (sU _ _)
    intro j j' hj wI dP he
    simp only [acx,acf,abX,decide_eq_false_iff_not] at hj wI
    exact dP (h.inj j j' hj.1 wI.1 (by omega) (by omega))
   ·exact sU _ _
  refine (hp.map fun i=>f (a.getD i 0)).symm.trans ?_
  rw [ac0]
  refine List.Perm.of_eq (acB fun j hj=>?_)
  simp only [acx,acf,abX,decide_eq_false_iff_not] at hj
  rcases h.t1 j hj.1 with h2 | ⟨i,h2,h3,h4,h5⟩
  ·omega
  ·show f (a.getD (to.getD j 0).toNat 0)=f (b.getD j 0)
   rw [h2];exact h5
 ·intro z hz ym
  simp only [vH,EW,aan,acx,acf,decide_eq_true_eq,abX] at hz ym
  obtain ⟨i,⟨hi,hu⟩,rfl⟩:=hz
  obtain ⟨j,⟨hj,hn⟩,he⟩:=ym
  refine h.free j hj ?_ i hi hu he.symm
  rcases h.t1 j hj with h2 | ⟨i',h2,_⟩
  ·exact h2
  ·omega
theorem uw {f:Int→T} {a:List Int} {us:List Bool}:vH f a us=[]↔below a.length (fun i=>!us.getD i false)=[]:=by
 simp [vH,below]
theorem Pr.mu {f:Int→T} {G:T→T→Prop} {a b:List Int} {us:List Bool} {to:List Int} (h:Pr (fun x y=>f x=f y) a b b.length us to) :
 Mu G (a.map f) (b.map f)↔below a.length (fun i=>!us.getD i false)≠[]∧∀ y∈below b.length (fun j=>decide (to.getD j 0 < 0)),∃ x∈below a.length (fun i=>!us.getD i false),G (f (a.getD x.toNat 0)) (f (b.getD y.toNat 0)):=by
 obtain ⟨C,h1,h2,h3⟩:=h.parts
 rw [Nm h1 h2 h3,Ne,uw]
 refine and_congr Iff.rfl ⟨fun hh y hy=>?_,fun hh y hy=>?_⟩
 ·obtain ⟨j,rfl,hj,hn⟩:=iA.1 hy
  obtain ⟨x,hx,hg⟩:=hh (f (b.getD j 0)) (by simp only [EW,aan,acx,acf];exact ⟨j,⟨hj,hn⟩,rfl⟩)
  simp only [vH,aan,acx,acf] at hx
  obtain ⟨i,⟨hi,hu⟩,rfl⟩:=hx
  exact ⟨i,iA.2 ⟨i,rfl,hi,hu⟩,hg⟩
 ·simp only [EW,aan,acx,acf] at hy
  obtain ⟨j,⟨hj,hn⟩,rfl⟩:=hy
  obtain ⟨x,hx,hg⟩:=hh j (iA.2 ⟨j,rfl,hj,hn⟩)
  obtain ⟨i,rfl,hi,hu⟩:=iA.1 hx
  refine ⟨f (a.getD i 0),?_,hg⟩
  simp only [vH,aan,acx,acf]
  exact ⟨i,⟨hi,hu⟩,rfl⟩
theorem Pr.perm {f:Int→T} {a b:List Int} {us:List Bool} {to:List Int} (h:Pr (fun x y=>f x=f y) a b b.length us to) (hl:a.length=b.length) :
 (a.map f).Perm (b.map f)↔below a.length (fun i=>!us.getD i false)=[]:=by
 obtain ⟨C,h1,h2,h3⟩:=h.parts
 rw [qK h1 h2 h3,uw (f:=f)]
 constructor
 ·exact fun h=>h.1
 ·intro h0
  refine ⟨h0,?_⟩
  have e1:=h1.length_eq
  have e2:=h2.length_eq
  have e3:(vH f a us).length=0:=by rw [(uw (f:=f)).2 h0];rfl
  simp only [aaj,acL] at e1 e2
  exact abY.1 (by omega)
end Go.aI
end
section
set_option maxRecDepth 100000
set_option maxHeartbeats 0
namespace Go.aI
open Go Go.Proofs
noncomputable def TB:=aH Tryz.call186 Tryz.func186 Tryz.ntmps186 [(0,0,1),(5,3,2000),(5,8,1000),(6,6,2000)] [(0,[1,2,3]),(1,[1,2,3,7,8]),(2,[1,2,3,26]),(3,[6]),(4,[3,9,10]),(5,[3,9,10,11,12]),(6,[6])] [(4,(.take 0 true (.take 1 true (.take 2 true (.take 3 true (.take 4 true (.take 5 true (.take 6 true (.take 7 true (.take 8 false (.take 9 false (.take 10 false (.take 12 false (.br 11 (.take 13 false (.take 14 false (.take 15 false (.br 16 (.br 17 (.br 18 (.br 19 .done .nil) .nil) .nil) (.br 17 (.br 16 (.br 18 (.br 19 .done .nil) .nil) .nil) .nil))))) (.br 16 (.br 11 (.take 13 false (.take 14 false (.take 15 false (.br 17 (.br 18 (.br 19 .done .nil) .nil) .nil)))) (.br 17 (.br 11 (.take 13 false (.take 14 false (.take 15 false (.br 18 (.br 19 .done .nil) .nil)))) (.br 18 (.take 11 true (.take 13 true (.take 14 true (.take 15 true (.br 19 .done .nil))))) .nil)) .nil)) (.br 17 (.br 11 (.take 13 false (.take 14 false (.take 15 false (.br 16 (.br 18 (.br 19 .done .nil) .nil) .nil)))) (.br 16 (.br 11 (.take 13 false (.take 14 false (.take 15 false (.br 18 (.br 19 .done .nil) .nil)))) (.br 18 (.take 11 true (.take 13 true (.take 14 true (.take 15 true (.br 19 .done .nil))))) .nil)) .nil)) .nil))))))))))))))))]
end Go.aI
end
