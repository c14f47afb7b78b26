/- Part 16 of 20 of the proof. -/
import Derived.Test.YtljchnfgjdjobaaGreatVam
import Derived.Test.YtljchnfgjdjobaaGreatVao
import Derived.Test.YtljchnfgjdjobaaGreatVag
import Derived.KernelRfl
import Derived.Test.YtljchnfgjdjobaaGreatVai
import Derived.Test.YtljchnfgjdjobaaGreatVah
import Derived.Test.YtljchnfgjdjobaaGreatVak
set_option linter.unusedVariables false
set_option linter.unusedSimpArgs false
set_option linter.defProp false
set_option linter.unusedSectionVars false
section
set_option maxRecDepth 100000
namespace Go.aK
open Go Go.Proofs Go.eI
def vF (z:AV) (kp:Nat→Prop) (v:AV) (xs:List AV) (G:List aa):Prop:=
 (xs=[]∧v=.ag)∨∃ id cap,¬ kp id∧v=.aZ id 0 xs.length cap∧G[id]?=some (bB z xs cap)∧xs.length≤cap∧xs≠[]
section
variable {z:AV} {kp:Nat→Prop} {v:AV} {xs:List AV} {G:List aa}
theorem vF.one (h:vF z kp v xs G):v.one=true∧v.val=true∧v.ab=v∧v.cells=[v]:=by
 rcases h with ⟨_,rfl⟩ | ⟨id,cap,_,rfl,_⟩ <;> exact ⟨rfl,rfl,rfl,rfl⟩
theorem vF.bc (h:vF z kp v xs G) {n:Nat} (hn:G.length≤n):v.bc n=true:=by
 rcases h with ⟨_,rfl⟩ | ⟨id,cap,_,rfl,c,_⟩
 ·rfl
 ·have:=(aaJ.1 c).1
  rw [fJ];simp;omega
theorem vF.len (h:vF z kp v xs G) {H:List aa} (φ:AV→Prop):fg v H φ=φ (.int .i64 xs.length):=by
 rcases h with ⟨rfl,rfl⟩ | ⟨id,cap,_,rfl,_⟩ <;> rfl
theorem vF.aO (h:vF z kp v xs G):aO 1 v=True:=by
 rcases h with ⟨_,rfl⟩ | ⟨id,cap,_,rfl,_⟩ <;> rfl
theorem vF.set (h:vF z kp v xs G) {j:Nat} (hj:∀ l c,v≠.aZ j 0 l c) (o:aa):vF z kp v xs (G.set j o):=by
 rcases h with h | ⟨id,cap,a,b,c,d⟩
 ·exact .inl h
 ·exact .inr ⟨id,cap,a,b,by rw [yQ (fun e=>hj _ _ (by rw [e];exact b))];exact c,d⟩
end
theorem A7 {esz bytes:Nat} {z:AV} (hz:jW esz (bS z)) {kp:Nat→Prop} {v:AV} {xs:List AV} {G:List aa} (h:vF z kp v xs G) (fx:∀ x∈xs,jW esz x) (o:Nat) (ys:List AV) (hy:ys≠[]) (rG:∀ x∈ys,jW esz x)
 (hb:(xs.length + ys.length) * bytes≤140737488355328) (hG:∀ j,kp j→j < G.length) {K:AV→List aa→Prop}
 (hK:∀ v' G',vF z kp v' (xs++ys) G'→(∀ j,kp j→G'[j]?=G[j]?)→G.length≤G'.length→K v' G'):da esz bytes z v (.al o ys) G K:=by
 have nZ:¬ kp G.length:=fun h=>acB _ (hG _ h)
 have jM:rE esz ys:=fun y hy=>⟨(rG y hy).len,(rG y hy).one⟩
 obtain ⟨f1,f2,f3,f4⟩:=jW.flat rG
 obtain ⟨g1,g2,g3,g4⟩:=jW.flat fx
 have ta:=sD hz
 have lV:∀ n m,aj n (c8 z m)=true:=fun n m=>(jW.flat (kR hz m)).2.2.1 n
 unfold da
 simp only [dB]
 refine ⟨jM,?_⟩
 rcases h with ⟨rfl,rfl⟩ | ⟨id,cap,bn,rfl,hg,hle,_⟩
 ·refine ⟨by simpa using hb,fun e=>absurd e hy,fun _ cap hc _=>⟨?_,hK _ _ (.inr ⟨G.length,cap,nZ,by simp,?_,by simpa using hc,by simpa using hy⟩) ?_ (by simp)⟩⟩
  ·rw [f2,bK];exact ⟨f3 _,lV _ _⟩
  ·rw [f2];simp [bB]
  ·intro j hj;have:=hG j hj;rw [yO (by omega)]
 ·have wh:=(aaJ.1 hg).1
  simp only [hg,bB,aaf,g1,ta,abM,List.drop_zero]
  refine ⟨hb,hle,by rw [← abP];exact Nat.le_of_eq (by congr 1;omega),fun hroom=>⟨by rw [f2];exact f3 _,?_⟩,fun jy dN hc _=>⟨?_,?_⟩⟩
  ·rw [f2]
   refine hK _ _ (.inr ⟨id,cap,bn,by simp,?_,by simpa using hroom,by simp [hy]⟩) ?_ (by simp)
   ·rw [yS wh,bB]
    congr 2
    unfold ah
    rw [f1,aaR (by rw [g1];exact rC _),aaw (by rw [g1];exact rC _),adI,abu (by rw [g1];omega),g1,
     show xs.length * esz + ys.length * esz - xs.length * esz=ys.length * esz by omega,Ax hz _ _ (by omega),oX,List.nil_append,aaf]
    rw [show cap - xs.length - ys.length=cap - (xs.length + ys.length) by omega,abb]
   ·intro j hj;rw [yQ (fun e=>bn (by rw [e];exact hj))]
  ·rw [aaR (by rw [g1];exact rC _),aaw (by rw [g1];exact rC _),g2,f2,bK,bK];exact ⟨⟨g3 _,f3 _⟩,lV _ _⟩
  ·rw [aaR (by rw [g1];exact rC _),aaw (by rw [g1];exact rC _),g2,f2,← oX]
   refine hK _ _ (.inr ⟨G.length,dN,nZ,by simp,?_,by simpa using hc,by simp [hy]⟩) ?_ (by simp)
   ·simp [bB]
   ·intro j hj;have:=hG j hj;rw [yO (by omega)]
def Wj (kp:Nat→Prop) (H:List aa) (xs:List AV) (r:AV) (H':List aa):Prop:=vF zN kp r xs H'∧(∀ j,kp j→H'[j]?=H[j]?)∧H.length≤H'.length
theorem aaN:∀ (N:Nat) (t:T),wt t≤N→∀ (kp:Nat→Prop) (v:AV) (xs:List AV) (H:List aa),vF zN kp v xs H→(∀ x∈xs,jW 4 x)→(∀ j,kp j→j < H.length)→(xs.length + wt t) * 64≤140737488355328→
 ax Tryz.prog 132 [t.av,v] H (Wj kp H (xs++fj (xY t xs.length))):=by
 intro N
 induction N with
 | zero=>intro t ht;have:=dH t;omega
 | succ N ih=>
 intro t ht kp v xs H hR fx hbase hb
 have hw:=xZ t
 have ZS:=gI t.l
 refine Iy.2.calls rfl ?_
 simp only [Iy,aG]
 obtain ⟨o1,o2,o3,o4⟩:=hR.one
 simp +contextual only [o3,hR.len,hR.aO,bdN,ZQ,sZ,Nat.reduceEqDiff,Nat.reduceAdd,↓reduceIte,reduceCtorEq]
 refine A7 Co hR fx 0 [nI t] (by simp) (by simp [sL]) (by simp;omega) hbase fun v1 G1 VK VL vS=>?_
 obtain ⟨o1',o2',o3',o4'⟩:=VK.one
 simp +contextual only [sZ]
 intro _
 have eS:∀ i,(xs++nI t::fj (dl (t.l.take i) (xs.length + 1))).length=xs.length + 1 + fM (t.l.take i):=by intro i;simp [sN,iN];omega
 have jM:∀ i,∀ x∈xs++nI t::fj (dl (t.l.take i) (xs.length + 1)),jW 4 x:=by
  intro i x hx
  rcases abJ.1 hx with hx | hx
  ·exact fx x hx
  ·rcases aai.1 hx with rfl | hx
   ·exact sL t
   ·exact kT _ x hx
 refine aJ t.l.length (fun i (p:AV×List aa)=>vF zN kp p.1 (xs++nI t::fj (dl (t.l.take i) (xs.length + 1))) p.2∧(∀ j,kp j→p.2[j]?=H[j]?)∧H.length≤p.2.length)
  (fun i p=>[(1,p.1),(5,.int .i64 xs.length),(6,iW (ba (t.l.take i) (xs.length + 1))),(17,.al 0 (cJ t.l)),(18,.int .i64 t.l.length),(19,.int .i64 i)])
  (fun i p=>p.2) (v1,G1) ⟨⟨VK,VL,vS⟩,aB _ _ _⟩ fun i p hi hI=>?_
 obtain ⟨v,G⟩:=p
 obtain ⟨hR,hG,hl⟩:=hI
 simp only at hR hG hl
 obtain ⟨o1,o2,o3,o4⟩:=hR.one
 have hle:=cZ t.l i
 have FY:=cS (t.l.take i) (xs.length + 1)
 have Q9:(t.l.take i).length≤t.l.length:=by simp;omega
 simp +contextual only [o3,hR.len,hR.aO,eS,oZ,(eV _).2.1,g9,sZ,Nat.reduceEqDiff,Nat.reduceAdd,↓reduceIte,reduceCtorEq]
 refine ⟨fun aS=>⟨bN aS,by omega,?_⟩,fun jw=>?_⟩
 ·have aS:=bN aS
  have hwt:=mE aS
  have hnext:=cZ t.l (i + 1)
  have e2:t.l.take (i + 1)=t.l.take i++[t.l.getD i default]:=by rw [abT aS];simp [aS]
  refine af (ih (t.l.getD i default) (by have:=cR (fa aS);omega) kp v _ G hR (jM i) (fun j hj=>by have:=hbase j hj;omega) (by rw [eS];omega)) ?_
  rintro r G' ⟨zD,eR,xh⟩
  obtain ⟨o1',o2',o3',o4'⟩:=zD.one
  simp +contextual only [o3',sZ,Nat.reduceEqDiff,↓reduceIte]
  refine ⟨i + 1,(r,G'),⟨aS,?_,fun j hj=>(eR j hj).trans (hG j hj),abX hl xh⟩,by omega,aE ?_ rfl⟩
  ·rw [eS] at zD
   rw [e2,mD,sM,← List.cons_append,← abb]
   exact zD
  ·rw [e2,jD,au i (by omega)]
 ·have k9:i=t.l.length:=by have:=dh jw;omega
  subst k9
  rw [abp] at hR
  have vW:=eS t.l.length
  have G9:=jM t.l.length
  rw [abp] at vW G9
  have gr:(xs++nI t::fj (dl t.l (xs.length + 1))).set xs.length (G8 (t,ba t.l (xs.length + 1)))=xs++fj (xY t xs.length):=by
   rw [adr _ _ (rC _),adj,afe,pO];rfl
  have jv:(xs++nI t::fj (dl t.l (xs.length + 1))).getD xs.length .any=nI t:=by simp
  generalize xs++nI t::fj (dl t.l (xs.length + 1))=ys at hR vW G9 gr jv
  rcases hR with ⟨rfl,_⟩ | ⟨id,cap,bn,rfl,hg,cp,_⟩
  ·simp at vW
   omega
  have wh:=(aaJ.1 hg).1
  obtain ⟨k1,k2,k3,k4,k5⟩:=aI (ba t.l (xs.length + 1))
  simp +contextual only [hg,iV,abp,sZ,Nat.reduceEqDiff,↓reduceIte,reduceCtorEq]
  refine ⟨by omega,?_⟩
  refine Ch G9 (by omega) (by decide) (y:=G8 (t,ba t.l (xs.length + 1))) k1 k4 (by rw [k2];exact k3 _) (by rw [jv,k2];rfl) ?_
  simp +contextual only [sZ,Nat.reduceEqDiff,↓reduceIte,reduceCtorEq]
  rw [gr]
  refine aX (G.length) (by omega) (by rw [aA,if_pos rfl,fJ];simpa using wh) ?_
  rw [aA,if_pos rfl,aaw (by simp)]
  refine ⟨.inr ⟨id,cap,bn,?_,?_,?_,?_⟩,?_,by simpa using hl⟩
  ·rw [← gr];simp
  ·rw [yS wh]
  ·rw [← gr];simpa using cp
  ·rw [pO];simp [fj]
  ·intro j hj;rw [yQ (fun e=>bn (by rw [e];exact hj))];exact hG j hj
end Go.aK
end
section
set_option maxRecDepth 100000
namespace Go.aK
open Go Go.Proofs Go.eI
def yy (n0 id:Nat) (G:List aa):List aa:=G.mapIdx fun j o=>if j < n0 + 3∨j=id then o else .dead
theorem ux {n0 id j:Nat} {G:List aa}:(yy n0 id G)[j]?=(G[j]?).map fun o=>if j < n0 + 3∨j=id then o else .dead:=by simp [yy]
theorem A8 {n0 id:Nat} {G:List aa}:(yy n0 id G).length=G.length:=by simp [yy]
theorem Hw {n0 id:Nat} {G:List aa}:(yy n0 id G).take (n0 + 3)=G.take (n0 + 3):=by
 apply abU
 intro j
 rw [aax,aax]
 split
 ·rename_i hj
  rw [ux]
  cases G[j]? with
  | none=>rfl
  | some o=>simp [hj]
 ·rfl
theorem E7 {n0 id:Nat} {G:List aa} (h3:∀ (j:Nat) (o:aa),n0≤j→j < n0 + 3→G[j]?=some o→o.bc (j + 1)=true) (bn:∀ o,G[id]?=some o→o.bc (id + 1)=true):nT n0 G G.length (yy n0 id G):=by
 refine ⟨by rw [A8,Nat.min_self],fun j o ho=>?_⟩
 rw [ux] at ho
 cases hg:G[j]? with
 | none=>rw [hg] at ho;cases ho
 | some o'=>
   rw [hg] at ho
   simp only [Option.map_some,Option.some.injEq] at ho
   split at ho
   ·rename_i hc
    subst ho
    refine .inr ⟨rfl,fun h=>?_⟩
    rcases hc with hc | hc
    ·exact h3 j _ h hc hg
    ·subst hc;exact bn _ hg
   ·exact .inl ho.symm
def NM (H:List aa) (ps ss:List Int) (ts:List T) (r:AV) (G:List aa):Prop:=
 ∃ va,r=.tuple [.ptr (H.length + 2) 0,va]∧G.take (H.length + 3)=H++[.map [],.map [],kU ps ss (dl ts 0) H.length (H.length + 1)]∧H.length + 3≤G.length∧RO zI (H.length + 3) va (ints (ba ts 0)) G
theorem vF.aaO {z:AV} {kp kp':Nat→Prop} {v:AV} {xs:List AV} {G G':List aa} (h:vF z kp v xs G) (hk:∀ id l c,v=.aZ id 0 l c→¬ kp' id∧G'[id]?=G[id]?):vF z kp' v xs G':=by
 rcases h with h | ⟨id,cap,a,b,c,d⟩
 ·exact .inl h
 ·obtain ⟨h1,h2⟩:=hk _ _ _ b
  exact .inr ⟨id,cap,h1,b,by rw [h2];exact c,d⟩
theorem vF.ne {z:AV} {kp:Nat→Prop} {v:AV} {xs:List AV} {G:List aa} (h:vF z kp v xs G) {id l c:Nat} (e:v=.aZ id 0 l c):¬ kp id:=by
 rcases h with ⟨_,rfl⟩ | ⟨id',cap,a,rfl,_⟩
 ·cases e
 ·cases e;exact a
theorem aeI (ps ss:List Int) (ts:List T) (H:List aa) (hb:fM ts * 64≤140737488355328):ax Tryz.prog 75 [dV ps ss,.al 0 (cJ ts)] H (NM H ps ss ts):=by
 refine aaM.2.xK rfl ?_
 simp only [aaM,aG,dV]
 have ZS:=gI ts
 simp +contextual only [bdD,Ra,sZ,Nat.reduceEqDiff,Nat.reduceAdd,↓reduceIte,reduceCtorEq]
 refine ⟨by simp;omega,fun _=>?_⟩
 have e0:∀ (l:List aa) (x:aa),(H++x::l)[H.length]?=some x:=by simp
 refine iK ts.length (fun i (p:AV×AV×List aa)=>vF zN (fun j=>j < H.length + 3∨∃ l c,p.2.1=.aZ j 0 l c) p.1 (fj (dl (ts.take i) 0)) p.2.2∧vF zI (fun j=>j < H.length + 3∨∃ l c,p.1=.aZ j 0 l c) p.2.1 (ints (ba (ts.take i) 0)) p.2.2∧H.length + 3≤p.2.2.length∧
  p.2.2.take (H.length + 3)=H++[.map [],.map [],.cells [.al 0 (ints ps),.al 0 (ints ss),p.1,.map H.length,.map (H.length + 1)]])
  (fun i p=>[(6,.ptr (H.length + 2) 0),(7,p.2.1),(15,.al 0 (cJ ts)),(16,.int .i64 ts.length),(17,.int .i64 i)])
  (fun i p=>p.2.2) (.ag,.ag,_) ⟨⟨.inl ⟨rfl,rfl⟩,.inl ⟨rfl,rfl⟩,by simp,?_⟩,kr _ _ _⟩ fun i p hi hI=>?_
 ·rw [aaw (by simp)]
 obtain ⟨v,va,G⟩:=p
 obtain ⟨hR,hA,hl,hG⟩:=hI
 simp only at hR hA hl hG
 obtain ⟨o1,o2,o3,o4⟩:=hR.one
 obtain ⟨p1,p2,p3,p4⟩:=hA.one
 have gget:∀ j,j < H.length + 3→G[j]?=(H++[.map [],.map [],.cells [.al 0 (ints ps),.al 0 (ints ss),v,.map H.length,.map (H.length + 1)]])[j]?:=by
  intro j hj;rw [← hG,aax,if_pos hj]
 have g2:G[H.length + 2]?=some (.cells [.al 0 (ints ps),.al 0 (ints ss),v,.map H.length,.map (H.length + 1)]):=by rw [gget _ (by omega)];simp
 have hle:=cZ ts i
 have FY:=cS (ts.take i) 0
 have Q9:(ts.take i).length≤ts.length:=by simp;omega
 by_cases aS:i < ts.length
 ·have oa:((i:Int) < ts.length)=True:=eq_true (by omega)
  simp +contextual only [o3,p3,g2,hR.len,hR.aO,ku,oa,decide_true,sZ,Nat.reduceEqDiff,Nat.reduceAdd,Nat.reduceLT,↓reduceIte]
  have hwt:=mE aS
  have hnext:=cZ ts (i + 1)
  have e2:ts.take (i + 1)=ts.take i++[ts.getD i default]:=by rw [abT aS];simp [aS]
  have arrlt:∀ {z:AV} {kp:Nat→Prop} {u:AV} {xs:List AV} {G:List aa} {j l c:Nat},vF z kp u xs G→u=.aZ j 0 l c→j < G.length:=by
   intro z kp u xs G j l c h e
   rcases h with ⟨_,rfl⟩ | ⟨id',cap,_,rfl,h2,_⟩
   ·cases e
   ·cases e;exact aR h2
  refine ⟨aS,A7 Cp hA (o7 _) 0 [.int .i64 (fM (ts.take i):Nat)] (by simp) (o7 [_]) (by rw [aw];simp;omega) (fun j hj=>?_) fun va' G1 TJ Nb vS=>?_⟩
  ·rcases hj with hj | ⟨l,c,e⟩
   ·omega
   ·exact arrlt hR e
  obtain ⟨p1',p2',p3',p4'⟩:=TJ.one
  have g21:G1[H.length + 2]?=some (.cells [.al 0 (ints ps),.al 0 (ints ss),v,.map H.length,.map (H.length + 1)]):=by rw [Nb _ (.inl (by omega)),g2]
  have VK:vF zN (fun j=>j < H.length + 3∨∃ l c,va'=.aZ j 0 l c) v (fj (dl (ts.take i) 0)) G1:=hR.aaO fun id l c e=>by
   refine ⟨fun h=>?_,Nb id (.inr ⟨l,c,e⟩)⟩
   rcases h with h | ⟨l',c',e'⟩
   ·exact hR.ne e (.inl h)
   ·exact TJ.ne e' (.inr ⟨l,c,e⟩)
  simp +contextual only [o3,p3',g21,sZ,Nat.reduceEqDiff,Nat.reduceAdd,Nat.reduceLT,↓reduceIte,reduceCtorEq]
  have hc:=aaN (wt (ts.getD i default)) (ts.getD i default) (rC _) (fun j=>j < H.length + 3∨∃ l c,va'=.aZ j 0 l c) v _ G1 VK (kT _) (fun j hj=>by
   rcases hj with hj | ⟨l,c,e⟩
   ·omega
   ·exact arrlt TJ e) (by rw [ku];omega)
  refine af hc ?_
  rintro r G' ⟨zD,vf,xh⟩
  obtain ⟨o1',o2',o3',o4'⟩:=zD.one
  have g2':G'[H.length + 2]?=some (.cells [.al 0 (ints ps),.al 0 (ints ss),v,.map H.length,.map (H.length + 1)]):=by rw [vf _ (.inl (by omega)),g21]
  have ey:=zD.bc (rC _)
  have Gh:vF zI (fun j=>j < H.length + 3∨∃ l c,r=.aZ j 0 l c) va' (ints (ba (ts.take i) 0)++[.int .i64 (fM (ts.take i):Nat)]) G':=TJ.aaO fun id l c e=>by
   refine ⟨fun h=>?_,vf id (.inr ⟨l,c,e⟩)⟩
   rcases h with h | ⟨l',c',e'⟩
   ·exact TJ.ne e (.inl h)
   ·exact zD.ne e' (.inr ⟨l,c,e⟩)
  have gt':G'.take (H.length + 3)=G.take (H.length + 3):=by
   apply abU
   intro j
   rw [aax,aax]
   split
   ·rename_i hj;rw [vf j (.inl hj),Nb j (.inl hj)]
   ·rfl
  simp +contextual only [kQ,o1',o2',o3',o4',g2',ey,sZ,Nat.reduceEqDiff,Nat.reduceAdd,Nat.reduceLeDiff,↓reduceIte]
  refine ⟨by omega,i + 1,(r,va',_),⟨aS,?_,?_,by simp;omega,?_⟩,by omega,sC ?_ rfl⟩
  ·have h1:=zD.set (j:=H.length + 2) (fun l c e=>zD.ne e (.inl (by omega))) (.cells (ah [.al 0 (ints ps),.al 0 (ints ss),v,.map H.length,.map (H.length + 1)] 2 [r]))
   rw [ku] at h1
   rw [e2,mD,sM,abM]
   exact h1
  ·have h1:=Gh.set (j:=H.length + 2) (fun l c e=>Gh.ne e (.inl (by omega))) (.cells (ah [.al 0 (ints ps),.al 0 (ints ss),v,.map H.length,.map (H.length + 1)] 2 [r]))
   have ek:ints (ba (ts.take i++[ts.getD i default]) 0)=ints (ba (ts.take i) 0)++[.int .i64 (fM (ts.take i):Nat)]:=by rw [jD,abM];simp [ints]
   rw [e2,ek]
   exact h1
  ·rw [aeu,gt',hG]
   simp [ah]
  ·rw [au i (by omega)]
 ·have k9:i=ts.length:=by omega
  subst k9
  have oa:((ts.length:Int) < ts.length)=False:=eq_false (by omega)
  simp +contextual only [oa,decide_false,sZ,Nat.reduceEqDiff,↓reduceIte]
  rw [abp] at hR hA
  have bz:∀ (l:List Int) (cap n:Nat),(bB zI (ints l) cap).bc n=true:=fun l cap n=>by
   rw [Cq]
   simp only [aa.bc,bK]
   exact ⟨bf _ _,(jW.flat (kR Cp _)).2.2.1 n⟩
  have fin:∀ (G':List aa),H.length + 3≤G'.length→(∀ id l c,va=.aZ id 0 l c→G'[id]?=G[id]?)→G'.take (H.length + 3)=H++[.map [],.map [],kU ps ss (dl ts 0) H.length (H.length + 1)]→jA (nT H.length) H.length [.t 4,.t 5] [(4,.ptr (H.length + 2) 0),(5,va)] G' (NM H ps ss ts):=by
   intro G' xh bn eR
   have get3:∀ (j:Nat) (o:aa),H.length≤j→j < H.length + 3→G'[j]?=some o→o.bc (j + 1)=true:=by
    intro j o h1 h2 ho
    have h3:(G'.take (H.length + 3))[j]?=some o:=by rw [aax,if_pos h2];exact ho
    rw [eR,abt h1] at h3
    have:j=H.length∨j=H.length + 1∨j=H.length + 2:=by omega
    rcases this with rfl | rfl | rfl
    ·simp at h3;subst h3;rfl
    ·simp at h3;subst h3;rfl
    ·simp at h3;subst h3;exact AM ps ss _ _
   have vV:∀ id,RO zI (H.length + 3) va (ints (ba ts 0)) (yy H.length id G')→(∀ o,G'[id]?=some o→o.bc (id + 1)=true)→va.bc G'.length=true→jA (nT H.length) H.length [.t 4,.t 5] [(4,.ptr (H.length + 2) 0),(5,va)] G' (NM H ps ss ts):=by
    intro id yU ey hva
    refine M7 (m:=G'.length) (by omega) (E7 get3 ey) (x:=.ptr (H.length + 2) 0) (y:=va) rfl (by simp [aA,p3]) (by rw [qV];exact decide_eq_true (by omega)) hva ⟨va,rfl,by rw [Hw,eR],by rw [A8];exact xh,yU⟩
   rcases hA with ⟨e1,rfl⟩ | ⟨id,cap,hk,rfl,hg,hc,dJ⟩
   ·exact vV G'.length (.inl ⟨e1,rfl⟩) (fun o ho=>by rw [abL (rC _)] at ho;cases ho) rfl
   ·have Ru:=bn _ _ _ rfl
    rw [hg] at Ru
    refine vV id (.inr ⟨id,cap,by have:=fun h=>hk (.inl h);omega,rfl,by rw [ux,Ru];simp,hc,dJ⟩) (fun o ho=>?_) ?_
    ·rw [Ru] at ho;cases ho;exact bz _ _ _
    ·rw [fJ];exact decide_eq_true (aR Ru)
  rw [EE]
  unfold Bz
  rw [g2]
  rcases hR with ⟨e1,rfl⟩ | ⟨id,cap,bn,rfl,hg,cp,dJ⟩
  ·simp +contextual only [List.getElem?_cons_succ,List.getElem?_cons_zero,p3,sZ,Nat.reduceEqDiff,↓reduceIte,reduceCtorEq]
   refine fin G hl (fun _ _ _ _=>rfl) ?_
   rw [hG,kU,o6,if_pos (EF e1)]
  ·simp +contextual only [List.getElem?_cons_succ,List.getElem?_cons_zero,p3,sZ,Nat.reduceEqDiff,↓reduceIte,reduceCtorEq]
   have XF:H.length + 3≤id:=by have:=fun h=>bn (.inl h);omega
   refine xP (by decide) Co (kT _) (fun x hx=>?_) hg cp ⟨?_,?_,?_⟩
   ·obtain ⟨q,_,rfl⟩:=aal.1 hx;rfl
   ·rw [yQ (by omega)];exact g2
   ·rw [bW];exact x7 _ _
   ·refine fin _ (by simp;omega) (fun id' l c e=>?_) ?_
    ·have h1:id'≠id:=fun e'=>hA.ne e (.inr ⟨_,_,by rw [e']⟩)
     have h2:id'≠H.length + 2:=fun e'=>hA.ne e (.inl (by omega))
     rw [yQ (Ne.symm h2),yQ (Ne.symm h1)]
    ·rw [aeu,aeu,hG]
     have e1:∀ X:List aa,X.length≤id→X.set id .dead=X:=fun X h=>List.set_eq_of_length_le h
     rw [e1 _ (by simp;omega),kU,o6,if_neg (fun e=>dJ (by rw [e];rfl))]
     simp
end Go.aK
end
section
set_option maxRecDepth 100000
set_option maxHeartbeats 0
namespace Go.aK
open Go Go.Proofs
noncomputable def Td:=aG Tryz.call105 Tryz.func105 Tryz.ntmps105 [(5,6,2)] [(0,[0,1,2]),(1,[0,1,2]),(2,[0,1,2,16]),(3,[6]),(4,[0,1,2,7]),(5,[0,7]),(6,[0]),(7,[6])] [(5,(.take 0 true (.take 1 true (.take 2 true (.take 3 true (.take 4 true (.take 5 true (.br 6 (.take 7 true .done) .nil))))))))]
end Go.aK
end
section
set_option maxRecDepth 100000
namespace Go.aK
open Go Go.Proofs Go.eI
theorem spI (A B:List Int) (k:Nat):ah (ints A) k (ints B)=ints (A.take k++B++A.drop (k + B.length)):=by
 unfold ah
 rw [mF,ug,mG,aw,mG]
 rw [abb]
theorem sl3 {id i n cap:Nat} (h:i < n) (hc:n≤cap) (φ:AV→Prop):bA 1 (.aZ id 0 n cap) (some (.int .i64 (i:Int))) (some (.int .i64 ((i:Int) + 1))) (some (.int .i64 (n:Int))) φ=φ (.aZ id (if n=i then 0 else 0 + i * 1) ((i + 1) - i) (n - i)):=by
 have e1:((i:Int) + 1).toNat=i + 1:=by omega
 simp only [bA,pq,eo,yP,Option.isSome_some,true_and,e1,eq_iff_iff]
 constructor
 ·rintro ⟨_,_,_,h⟩;exact h.2.2.2
 ·exact fun k=>⟨by omega,by omega,by omega,by omega,by omega,by omega,k⟩
theorem aeJ {id i n cap:Nat} (hc:i≤cap) (φ:AV→Prop):bA 1 (.aZ id 0 n cap) none (some (.int .i64 (i:Int))) none φ=φ (.aZ id 0 i cap):=by
 have e:(if cap=0 then 0 else 0 + 0 * 1)=0:=by split <;> simp
 simp only [bA,iE,eo,yP,e,afP,eq_iff_iff]
 constructor
 ·rintro ⟨_,h⟩;exact h.2.2
 ·exact fun k=>⟨by omega,by omega,hc,k⟩
theorem aeK {id i n cap:Nat} (h:i + 1≤n) (hc:n≤cap) (φ:AV→Prop):bA 1 (.aZ id 0 n cap) (some (.int .i64 ((i:Int) + 1))) none none φ=φ (.aZ id (if cap=i + 1 then 0 else 0 + (i + 1) * 1) (n - (i + 1)) (cap - (i + 1))):=by
 have e1:((i:Int) + 1).toNat=i + 1:=by omega
 simp only [bA,iE,eo,e1,eq_iff_iff]
 constructor
 ·rintro ⟨_,h⟩;exact h.2.2
 ·exact fun k=>⟨by omega,h,hc,k⟩
theorem aeL {id l h n cap:Nat} (hl:l < h) (hc:h≤cap) (φ:AV→Prop):bA 1 (.aZ id 0 n cap) (some (.int .i64 (l:Int))) (some (.int .i64 (h:Int))) none φ=φ (.aZ id l (h - l) (cap - l)):=by
 have e:(if cap=l then 0 else 0 + l * 1)=l:=by rw [if_neg (by omega)];omega
 simp only [bA,iE,eo,yP,e,eq_iff_iff]
 constructor
 ·rintro ⟨_,_,h⟩;exact h.2.2
 ·exact fun k=>⟨by omega,by omega,by omega,hc,k⟩
theorem aeM (P S pad:List Int) (a:Int) (hb:(P++a::S).length≤1000000000) (id cap:Nat) (cp:cap=(P++a::S++pad).length) {H:List aa} (hg:H[id]?=some (.cells (ints (P++a::S++pad)))) :
 ax Tryz.prog 105 [.aZ id 0 (P.length + 1 + S.length) cap,.int .i64 P.length,.int .i64 ((P.length:Int) + 1)] H fun r H'=>r=.aZ id 0 (P.length + S.length) cap∧H'=H.set id (.cells (ints (P++S++0::pad))):=by
 refine Td.2.calls rfl ?_
 simp only [Td,aG]
 have jL:cap=P.length + 1 + S.length + pad.length:=by rw [cp];simp;omega
 rw [cp] at jL
 have ne:((P.length:Int)=(P.length:Int) + 1)=False:=eq_false (by omega)
 have rL:=aR hg
 have s1:=fun φ=>sl3 (id:=id) (i:=P.length) (n:=P.length + 1 + S.length) (cap:=cap) (by omega) (by omega) φ
 have s2:=fun φ=>aeJ (id:=id) (i:=P.length) (n:=P.length + 1 + S.length) (cap:=cap) (by omega) φ
 have s3':=fun φ=>aeK (id:=id) (i:=P.length) (n:=P.length + 1 + S.length) (cap:=cap) (by omega) (by omega) φ
 have un:∀ a b c d,(AV.aZ a b c d).ab=.aZ a b c d:=fun _ _ _ _=>rfl
 have ox1:∀ (env:Env) (i:IX),gQ env (some i)=some (aq env i):=fun _ _=>rfl
 have ox2:∀ (env:Env),gQ env none=none:=fun _=>rfl
 have s4:=fun φ=>aeL (id:=id) (l:=P.length + S.length) (h:=P.length + 1 + S.length) (n:=P.length + S.length) (cap:=cap) (by omega) (by omega) φ
 simp +contextual only [Option.map_some,Option.map_none,ox1,s1,s2,s3',ne,decide_false,un,sZ,Nat.reduceEqDiff,Nat.reduceAdd,↓reduceIte,reduceCtorEq]
 have hnone:∀ a b c d,dB (AV.aZ a b c d)=none:=fun _ _ _ _=>rfl
 have e0:P.length + 1 + S.length - (P.length + 1)=S.length:=by omega
 have eA:P++a::S++pad=(P++[a])++(S++pad):=by simp
 unfold da
 simp only [hnone,wX,hg,aw,e0]
 have qd:(if cap=P.length + 1 then 0 else 0 + (P.length + 1) * 1) + S.length * 1≤(P++a::S++pad).length:=by simp only [aaf,List.length_cons];split <;> omega
 have htake:(List.take (S.length * 1) (List.drop (if cap=P.length + 1 then 0 else 0 + (P.length + 1) * 1) (ints (P++a::S++pad))))=ints S:=by
  rw [ug,mF,abR]
  congr 1
  by_cases hc:cap=P.length + 1
  ·have:S=[]:=aby.1 (by omega)
   subst this;simp
  ·rw [if_neg hc,eA,List.drop_left' (by simp),adH]
 rw [if_pos qd]
 simp only [hg,htake,wD,mH,bf]
 refine ⟨?_,trivial,by omega,by rw [aw,← cp];omega,trivial,?_⟩
 ·rw [aej,aw];simp only [aaf,List.length_cons] at qd ⊢;omega
 obtain ⟨x,X,hxX,hXl⟩:∃ x X,(a::S).drop S.length=x::X∧X.length=0:=by
  have hl:((a::S).drop S.length).length=1:=by simp
  cases hd:(a::S).drop S.length with
  | nil=>rw [hd] at hl;simp at hl
  | cons x X=>rw [hd] at hl;exact ⟨x,X,rfl,by simpa using hl⟩
 have Rv:X=[]:=aby.1 hXl
 subst Rv
 have e1:ah (ints (P++a::S++pad)) (0 + P.length * 1) (ints S)=ints (P++S++x::pad):=by
  rw [spI]
  congr 1
  have h1:(P++a::S++pad).take (0 + P.length * 1)=P:=by rw [abb,abM,abR,adH]
  have h2:(P++a::S++pad).drop (0 + P.length * 1 + S.length)=x::pad:=by
   rw [abb,abM,abR,← List.drop_drop,afU,acR (by simp),hxX];rfl
  rw [h1,h2]
 rw [e1]
 have gs:∀ o,(H.set id o)[id]?=some o:=fun o=>yS rL
 have e2:P.length + 1 + S.length - (P.length + S.length)=1:=by omega
 have e3:((P.length + S.length:Nat):Int)=((P.length + S.length:Nat):Int):=rfl
 simp +contextual only [ox1,ox2,s4,un,e2,Ka,sZ,Nat.reduceEqDiff,↓reduceIte,reduceCtorEq]
 unfold jn
 have ap1:c8 (.int .i64 0) 1=ints [0]:=rfl
 simp only [gs,ap1,wD,mH,bf,aw,spI,aeg]
 refine ⟨by simp;omega,trivial,trivial,?_⟩
 have e4:(P++S++x::pad).take (P.length + S.length)++[0]++(P++S++x::pad).drop (P.length + S.length + [(0:Int)].length)=P++S++0::pad:=by
  have hl:(P++S).length=P.length + S.length:=by simp
  rw [← hl,adH,← List.drop_drop,afU];simp
 rw [e4]
 simp +contextual only [un,sZ,↓reduceIte,reduceCtorEq]
 exact Vx (by simp) (by rw [fJ];exact decide_eq_true rL) rfl rfl
end Go.aK
end
section
set_option maxRecDepth 100000
namespace Go.aK
open Go Go.Proofs Go.eI
theorem Te {S:List aa→Prop} (hS:tf S) {Q:Int→Prop} {a:List Int} {id cap:Nat} (hg:∀ G,S G→G[id]?=some (bB zI (ints a) cap)) (hc:a.length≤cap) (la:a.length≤1000000000) (g:Nat) (pre cc:List AV) (cp:cc.map AV.ab=cc) (mQ:pre.map AV.ab=pre)
 (hf:∀ x∈a,∀ H,S H→ax Tryz.prog g (pre++[.int .i64 x]++cc) H (SB S (Q x))) {H:List aa} (hH:S H) :
 ax Tryz.prog 100 [.aZ id 0 a.length cap,.fn (.func g) pre cc] H (SI S Q a):=by
 refine DU.2.calls rfl ?_
 simp only [DU,aG]
 simp +contextual only [sZ,Nat.reduceEqDiff,Nat.reduceAdd,↓reduceIte,reduceCtorEq]
 have fin:∀ (n:Int) (G:List aa),S G→((n=-1∧∀ x∈a,¬ Q x)∨∃ m:Nat,n=m∧m < a.length∧Q (a.getD m 0)∧∀ j,j < m→¬ Q (a.getD j 0))→bV H.length [.t 4] [(4,.int .i64 n)] G (SI S Q a):=by
  intro n G hG hn
  refine aX H.length (rC _) (by rw [aA,if_pos rfl];rfl) ?_
  rw [aA,if_pos rfl,aaw (by rw [hS H G hH hG];exact rC _)]
  refine ⟨hG,?_⟩
  rcases hn with ⟨rfl,h⟩ | ⟨m,rfl,h⟩
  ·exact .inl ⟨rfl,h⟩
  ·exact .inr ⟨m,rfl,h⟩
 refine aJ a.length (fun i (G:List aa)=>S G∧∀ j,j < i→¬ Q (a.getD j 0))
  (fun i G=>[(0,.aZ id 0 a.length cap),(1,.fn (.func g) pre cc),(7,.int .i64 a.length),(8,.int .i64 i)]) (fun i G=>G) H ⟨⟨hH,fun j hj=>by omega⟩,aB _ _ _⟩ fun i G hi hI=>?_
 obtain ⟨hG,hq⟩:=hI
 by_cases aS:i < a.length
 ·have oa:((i:Int) < a.length)=True:=eq_true (by omega)
  simp +contextual only [oa,decide_true,iV,hg G hG,IH aS,cp,mQ,sZ,Nat.reduceEqDiff,Nat.reduceAdd,↓reduceIte,reduceCtorEq]
  refine ⟨by omega,af (hf _ (aT (by omega)) G hG) ?_⟩
  rintro r G' ⟨x,rfl,hx,eR⟩
  cases x with
  | false=>
    simp +contextual only [sZ,Nat.reduceEqDiff,↓reduceIte,reduceCtorEq]
    refine ⟨i + 1,G',⟨by omega,eR,fun j hj=>?_⟩,by omega,aE (by rw [au i (by omega)]) rfl⟩
    by_cases h:j=i
    ·subst h;exact fun h=>absurd (hx.2 h) (by simp)
    ·exact hq j (by omega)
  | true=>
    simp +contextual only [sZ,Nat.reduceEqDiff,↓reduceIte,reduceCtorEq]
    exact fin _ _ eR (.inr ⟨i,rfl,by omega,hx.1 rfl,hq⟩)
 ·have oa:((i:Int) < a.length)=False:=eq_false (by omega)
  simp +contextual only [oa,decide_false,sZ,Nat.reduceEqDiff,↓reduceIte,reduceCtorEq]
  refine fin _ _ hG (.inl ⟨rfl,fun x hx=>?_⟩)
  obtain ⟨j,hj,rfl⟩:=acq hx
  have:=hq j (by omega)
  simpa [hj] using this
theorem aaP {S:List aa→Prop} (hS:tf S) {Q:Int→Prop} {a:List Int} {id cap:Nat} (hg:∀ G,S G→G[id]?=some (bB zI (ints a) cap)) (hc:a.length≤cap) (la:a.length≤1000000000) (g:Nat) (pre cc:List AV) (cp:cc.map AV.ab=cc) (mQ:pre.map AV.ab=pre)
 (hf:∀ x∈a,∀ H,S H→ax Tryz.prog g (pre++[.int .i64 x]++cc) H (SB S (Q x))) {H:List aa} (hH:S H) :
 ax Tryz.prog 102 [.aZ id 0 a.length cap,.fn (.func g) pre cc] H (SB S (∃ x∈a,Q x)):=by
 refine DV.2.calls rfl ?_
 simp only [DV,aG]
 simp +contextual only [sZ,Nat.reduceEqDiff,Nat.reduceAdd,↓reduceIte,reduceCtorEq]
 refine af (Te hS hg hc la g pre cc cp mQ hf hH) ?_
 rintro r G ⟨hG,⟨rfl,h⟩ | ⟨n,rfl,h1,h2,_⟩⟩
 ·simp +contextual only [sZ,↓reduceIte,reduceCtorEq]
  exact Cr hS (b:=false) (by simp) ⟨fun h=>by simp at h,fun ⟨x,hx,h'⟩=>absurd h' (h x hx)⟩ hH hG
 ·simp +contextual only [sZ,↓reduceIte,reduceCtorEq]
  exact Cr hS (b:=true) (by simp) ⟨fun _=>⟨_,aT h1,h2⟩,fun _=>rfl⟩ hH hG
def SG (c:Cx) (G H:List aa):Prop:=Du c H∧Up c G H
theorem SG.len (c:Cx) (G:List aa):tf (SG c G):=fun H H' h h'=>h'.2.len.trans h.2.len.symm
theorem aeO {c:Cx} (hc:c.Ok) {i x:Int} (hi:c.ep i) (hx:c.ep x) {t9:Nat} {G:List aa} (h9:G[t9]?=some (.cells [.ptr c.d 0])) (n1:t9≠c.e) (n2:t9≠c.g) (H:List aa) (hH:SG c G H) :
 ax Tryz.prog 103 ([]++[.int .i64 x]++[.ptr t9 0,.ai (.int .i64 i)]) H (SB (SG c G) (R c.O (c.tm i) (c.tm x))):=by
 refine XO.2.calls rfl ?_
 simp only [XO,aG,List.nil_append,List.cons_append]
 have h9':H[t9]?=some (.cells [.ptr c.d 0]):=by rw [hH.2.get t9 n1 n2,h9]
 simp +contextual only [h9',sZ,Nat.reduceEqDiff,Nat.reduceAdd,Nat.reduceLT,↓reduceIte,reduceCtorEq]
 refine af (kW hc hi hx H hH.1) ?_
 rintro r G' ⟨b,rfl,hb,hU,hD⟩
 simp +contextual only [sZ,↓reduceIte,reduceCtorEq]
 exact Cr (SG.len c G) rfl hb hH ⟨hD,hH.2.trans hU⟩
theorem aeP {c:Cx} (hc:c.Ok) {i:Int} (hi:c.ep i) {t9 t10 id cap:Nat} {l:List Int} {G:List aa} (hl:∀ x∈l,c.ep x) (Bo:l.length≤cap) (H7:l.length≤1000000000)
 (h9:G[t9]?=some (.cells [.ptr c.d 0])) (n1:t9≠c.e) (n2:t9≠c.g)
 (h10:G[t10]?=some (.cells [.aZ id 0 l.length cap])) (m1:t10≠c.e) (m2:t10≠c.g)
 (hg:G[id]?=some (bB zI (ints l) cap)) (k1:id≠c.e) (k2:id≠c.g) (H:List aa) (hH:SG c G H) :
 ax Tryz.prog 101 ([]++[.int .i64 i]++[.ptr t10 0,.ptr t9 0]) H (SB (SG c G) (¬ ∃ x∈l,R c.O (c.tm i) (c.tm x))):=by
 refine XN.2.calls rfl ?_
 simp only [XN,aG,List.nil_append,List.cons_append]
 have aeQ:H[t10]?=some (.cells [.aZ id 0 l.length cap]):=by rw [hH.2.get t10 m1 m2,h10]
 simp +contextual only [aeQ,sZ,Nat.reduceEqDiff,Nat.reduceAdd,Nat.reduceLT,↓reduceIte,reduceCtorEq]
 refine af (aaP (SG.len c G) (fun G' eR=>by rw [eR.2.get id k1 k2,hg]) Bo H7 103 [] [.ptr t9 0,.ai (.int .i64 i)] rfl rfl (fun x hx H' hH'=>aeO hc hi (hl x hx) h9 n1 n2 H' hH') hH) ?_
 rintro r G' ⟨b,rfl,hb,hG⟩
 simp +contextual only [sZ,↓reduceIte,reduceCtorEq]
 refine Cr (SG.len c G) (b:=!b) (by simp) ?_ hH hG
 rw [← hb];cases b <;> simp
end Go.aK
end
section
set_option maxRecDepth 100000
set_option maxHeartbeats 0
namespace Go.aK
open Go Go.Proofs
noncomputable def aaQ:=aG Tryz.call37 Tryz.func37 Tryz.ntmps37 [(0,0,1),(0,1,1),(9,2,2000),(10,0,1),(10,12,2000),(10,15,1),(11,4,2000)] [(0,[2,3,4]),(1,[2,4,8]),(2,[2,4,8,18]),(3,[6,7]),(4,[2,4,22]),(5,[6,7]),(6,[9,10]),(7,[9,10,11]),(8,[9,10,11,31]),(9,[9,10,11,12]),(10,[9,10,11,12]),(11,[9,10,11]),(12,[6,7])] [(10,(.take 1 true (.take 2 true (.take 3 true (.take 4 true (.take 5 true (.take 6 true (.take 7 true (.take 8 true (.take 9 true (.take 10 true (.take 11 true (.br 0 (.br 12 (.take 13 true (.br 14 (.br 15 .done .nil) .nil)) .nil) (.br 12 (.take 13 true (.br 0 (.br 14 (.br 15 .done .nil) .nil) .nil)) .nil))))))))))))))]
noncomputable def Tf:=aG Tryz.call104 Tryz.func104 Tryz.ntmps104 [(1,4,2),(5,4,2000),(7,0,3003)] [(0,[1,2]),(1,[1,2]),(2,[1,2,10,11,12]),(3,[1,2,10,11,12,13]),(4,[1,2,3,4,10,11,12]),(5,[1,2,10,11,12]),(6,[1,2,10,11,12]),(7,[2])] [(5,(.take 3 true (.take 0 false (.take 2 false (.br 1 (.br 4 (.take 5 true (.br 6 .done .nil)) .nil) (.br 4 (.take 1 true (.take 5 true (.br 6 .done .nil))) .nil))))))]
end Go.aK
end
section
set_option maxRecDepth 100000
namespace Go.aK
open Go Go.Proofs Go.eI
def zT:AV:=.agg [.int .i64 0,.int .i64 0,.ag]
theorem NN:jW 3 (bS zT):=⟨rfl,rfl,rfl,rfl⟩
theorem vx (t:T):t.av=.agg [.int .i64 t.k,.int .i64 t.n,.al 0 (cJ t.l)]:=by cases t;rfl
theorem yz (t:T):jW 3 t.av:=by
 rw [vx]
 exact ⟨rfl,rfl,by simp [AV.cells,dq,bP,c9,ji,bW],rfl⟩
theorem IV {l:List T} {x:AV} (h:x∈cJ l):∃ t∈l,x=t.av:=by
 induction l with
 | nil=>cases h
 | cons y r ih=>
   rcases aai.1 h with rfl | h
   ·exact ⟨y,aaW,rfl⟩
   ·obtain ⟨t,ht,e⟩:=ih h;exact ⟨t,aaF _ ht,e⟩
theorem pV (l:List T):∀ x∈cJ l,jW 3 x:=by
 intro x hx;obtain ⟨t,_,rfl⟩:=IV hx;exact yz t
theorem IW {l:List T} {i:Nat} (h:i < l.length):(cJ l).getD i .any=(l.getD i default).av:=by
 induction l generalizing i with
 | nil=>simp at h
 | cons x r ih=>
   cases i with
   | zero=>rfl
   | succ i=>simpa [cJ] using ih (i:=i) (by simpa using h)
theorem jI (l:List T):(cJ l).length=l.length:=by induction l with | nil=>rfl | cons x r ih=>simp [cJ,ih]
def CT (base:Nat) (v:AV) (l:List T) (G:List aa):Prop:=
 (l=[]∧v=.ag)∨∃ id cap,base≤id∧v=.aZ id 0 l.length cap∧G[id]?=some (bB zT (cJ l) cap)∧l.length≤cap
theorem CT.one {base:Nat} {v:AV} {l:List T} {G:List aa} (h:CT base v l G):v.one=true∧v.val=true∧v.ab=v∧v.cells=[v]:=by
 rcases h with ⟨_,rfl⟩ | ⟨id,cap,_,rfl,_⟩ <;> exact ⟨rfl,rfl,rfl,rfl⟩
theorem CT.bc {base:Nat} {v:AV} {l:List T} {G:List aa} (h:CT base v l G) {n:Nat} (hn:G.length≤n):v.bc n=true:=by
 rcases h with ⟨_,rfl⟩ | ⟨id,cap,_,rfl,c,_⟩
 ·rfl
 ·have:=(aaJ.1 c).1
  rw [fJ];simp;omega
theorem CT.len {base:Nat} {v:AV} {l:List T} {G:List aa} (h:CT base v l G) {H:List aa} (φ:AV→Prop):fg v H φ=φ (.int .i64 l.length):=by
 rcases h with ⟨rfl,rfl⟩ | ⟨id,cap,_,rfl,_⟩ <;> rfl
theorem CT.aO {base:Nat} {v:AV} {l:List T} {G:List aa} (h:CT base v l G):aO 1 v=True:=by
 rcases h with ⟨rfl,rfl⟩ | ⟨id,cap,_,rfl,_⟩ <;> rfl
theorem NO (o:Nat) (φ:AV→Prop):dz 0 false (.al o []) φ=(φ (.bool true)∧φ (.bool false)):=by simp [dz,isNil]
theorem NQ (o:Nat) (x:AV) (r:List AV) (φ:AV→Prop):dz 0 false (.al o (x::r)) φ=φ (.bool false):=by simp [dz,isNil]
theorem NR {esz bytes:Nat} {z:AV} {id o:Nat} {G:List aa} (bn:G[id]?=some (.cells [])) {K:AV→List aa→Prop} (hK:K (.aZ id 0 0 0) G):da esz bytes z (.aZ id 0 0 0) (.al o []) G K:=by
 unfold da
 simp only [dB,bn]
 refine ⟨fun y h=>by simp at h,by simp,rC _,by simp,fun _=>⟨by simp [flat,aj],?_⟩,fun h=>absurd h (by simp)⟩
 have e:ah ([]:List AV) ((0 + 0) * esz) (List.map AV.ab (flat []))=[]:=by simp [ah,flat]
 simp only [flat,ah,afB,List.map_nil,List.length_nil,abQ,List.take_nil,List.drop_nil]
 rw [Hb bn]
 exact hK
theorem aeS (l:List T) (H:List aa) (hb:l.length * 40≤140737488355328):ax Tryz.prog 58 [.al 0 (cJ l)] H fun r H'=>CT H.length r l H'∧H'.take H.length=H∧H.length≤H'.length:=by
 refine ZC.2.calls rfl ?_
 simp only [ZC,aG]
 cases l with
 | nil=>
   simp +contextual only [cJ,NO,wB,uP,sZ,Nat.reduceEqDiff,Nat.reduceAdd,↓reduceIte,reduceCtorEq]
   refine ⟨aX H.length (rC _) (by rw [aA,if_pos rfl];rfl) ⟨.inl ⟨rfl,by rw [aA,if_pos rfl]⟩,by simp,by simp⟩,?_⟩
   refine ⟨rfl,NR (by simp [flat]) ?_⟩
   simp +contextual only [sZ,↓reduceIte,reduceCtorEq]
   refine aX (H.length + 1) (by omega) (by rw [aA,if_pos rfl,fJ];exact decide_eq_true (by omega)) ?_
   rw [aA,if_pos rfl,aaw (by simp)]
   exact ⟨.inr ⟨H.length,0,rC _,rfl,by simp [bB,cJ,flat,c8],rC _⟩,by simp,by simp⟩
 | cons v r=>
   simp +contextual only [cJ,NQ,wB,uP,sZ,Nat.reduceEqDiff,Nat.reduceAdd,↓reduceIte,reduceCtorEq]
   refine ⟨rfl,IG NN (by simp [flat]) (cJ (v::r)) (by simp [cJ]) (pV _) (by rw [jI];exact hb) (base:=H.length) (by simp) fun v' G' hR hG hl=>?_⟩
   obtain ⟨o1,o2,o3,o4⟩:=hR.one
   simp +contextual only [o3,sZ,↓reduceIte,reduceCtorEq]
   have xh:H.length≤G'.length:=by simp at hl;omega
   refine aX G'.length xh (by rw [aA,if_pos rfl];exact hR.bc (rC _)) ?_
   rw [aA,if_pos rfl,abp]
   refine ⟨?_,by rw [hG];simp,xh⟩
   rcases hR with ⟨h,_⟩ | ⟨id,cap,a,b,c,d,_⟩
   ·cases h
   ·rw [jI] at b d;exact .inr ⟨id,cap,a,b,c,d⟩
theorem loadT {l:List T} {cap i:Nat} (h:i < l.length) (φ:AV→Prop):dd (some (bB zT (cJ l) cap)) (some 3) (i * 3) φ=φ (l.getD i default).av:=by
 obtain ⟨g1,_⟩:=jW.flat (pV l)
 rw [jI] at g1
 have h1:=qY (pV l) i (by rw [jI];exact h)
 rw [IW h] at h1
 have rJ:(l.getD i default).av.cells.length=3:=(yz _).len
 have e:((flat (cJ l)++c8 zT (cap - (cJ l).length)).drop (i * 3)).take 3=(l.getD i default).av.cells:=by
  rw [acR (by omega),h1,abb,aaR (by omega),aaw (by omega)]
 simp only [bB,dd,e,eq_iff_iff,aaf]
 have e2:AV.agg ((l.getD i default).av.cells.map AV.drop)=(l.getD i default).av:=by rw [vx];rfl
 rw [e2]
 constructor
 ·exact fun h=>h.2
 ·exact fun h2=>⟨by omega,h2⟩
theorem storeT {l:List T} {cap i id:Nat} (h:i < l.length) {H:List aa} (hg:H[id]?=some (bB zT (cJ l) cap)) {K:List aa→Prop} (hK:K H):iJ (some (bB zT (cJ l) cap)) 3 id (i * 3) (l.getD i default).av H K:=by
 obtain ⟨g1,_⟩:=jW.flat (pV l)
 rw [jI] at g1
 have h1:=qY (pV l) i (by rw [jI];exact h)
 rw [IW h] at h1
 have ho:=yz (l.getD i default)
 have rJ:=ho.len
 have hs:ah (flat (cJ l)++c8 zT (cap - (cJ l).length)) (i * 3) ((l.getD i default).av.cells.map AV.ab)=flat (cJ l)++c8 zT (cap - (cJ l).length):=by
  rw [ho.un]
  unfold ah
  have e1:(flat (cJ l)++c8 zT (cap - (cJ l).length)).drop (i * 3)=(l.getD i default).av.cells++(flat ((cJ l).drop (i + 1))++c8 zT (cap - (cJ l).length)):=by
   rw [acR (by omega),h1,abb]
  have e2:(flat (cJ l)++c8 zT (cap - (cJ l).length)).drop (i * 3 + (l.getD i default).av.cells.length)=flat ((cJ l).drop (i + 1))++c8 zT (cap - (cJ l).length):=by
   rw [← List.drop_drop,e1,afU]
  rw [e2,← e1,ad1]
 have hv:(l.getD i default).av.val=true:=by rw [vx];rfl
 simp only [bB,iJ]
 refine ⟨hv,rJ,by rw [aaf];omega,ho.one,by rw [ho.un];exact bE (acA _) _ ho.bl,?_⟩
 rw [hs,show (aa.cells (flat (cJ l)++c8 zT (cap - (cJ l).length)))=bB zT (cJ l) cap from rfl,Hb hg]
 exact hK
theorem CT.set {base:Nat} {v:AV} {l:List T} {G:List aa} (h:CT base v l G) {j:Nat} (hj:j < base) (o:aa):CT base v l (G.set j o):=by
 rcases h with h | ⟨id,cap,a,b,c,d⟩
 ·exact .inl h
 ·exact .inr ⟨id,cap,a,b,by rw [yQ (by omega)];exact c,d⟩
theorem CT.ue {base:Nat} {v:AV} {l:List T} {G:List aa} (h:CT base v l G) (X:List aa):CT base v l (G++X):=by
 rcases h with h | ⟨id,cap,a,b,c,d⟩
 ·exact .inl h
 ·exact .inr ⟨id,cap,a,b,by rw [yO (aR c)];exact c,d⟩
theorem CT.get {base:Nat} {v:AV} {l:List T} {G:List aa} (h:CT base v l G) {i:Nat} (hi:i < l.length):∃ id cap,base≤id∧v=.aZ id 0 l.length cap∧G[id]?=some (bB zT (cJ l) cap)∧l.length≤cap:=by
 rcases h with ⟨rfl,_⟩ | h
 ·simp at hi
 ·exact h
theorem aeT:∀ (n:Nat) (t:T),wt t≤n→wt t≤1000000000→Pure Tryz.prog 104 [t.av] t.av:=by
 intro n
 induction n with
 | zero=>intro t h;have:=dH t;omega
 | succ n ih=>
   intro t hn hb H
   refine Tf.2.xK rfl ?_
   simp only [Tf,aG]
   have hw:=xZ t
   have ZS:=gI t.l
   rw [vx]
   simp +contextual only [sZ,Nat.reduceEqDiff,Nat.reduceAdd,Nat.reduceLT,↓reduceIte]
   have wh:(H++[aa.cells [.int .i64 t.k,.int .i64 t.n,.al 0 (cJ t.l)],.cells [.int .i64 0,.int .i64 0,.ag]]).length=H.length + 2:=by simp
   refine af (aeS t.l _ (by omega)) ?_
   rintro v G ⟨hC,hG,hl⟩
   rw [wh] at hC hG hl
   obtain ⟨o1,o2,o3,o4⟩:=hC.one
   have g0:G[H.length]?=some (.cells [.int .i64 t.k,.int .i64 t.n,.al 0 (cJ t.l)]):=by
    have:(G.take (H.length + 2))[H.length]?=G[H.length]?:=by rw [aax,if_pos (by omega)]
    rw [← this,hG];simp
   have g1:G[H.length + 1]?=some (.cells [.int .i64 0,.int .i64 0,.ag]):=by
    have:(G.take (H.length + 2))[H.length + 1]?=G[H.length + 1]?:=by rw [aax,if_pos (by omega)]
    rw [← this,hG];simp
   have eR:G.take H.length=H:=by
    have:G.take H.length=(G.take (H.length + 2)).take H.length:=by rw [List.take_take];congr 1;omega
    rw [this,hG];simp
   have hbv:=hC.bc (rC _)
   have Dd:H.length < G.length:=by omega
   have gr:∀ o,(G.set H.length o)[H.length]?=some o:=fun o=>yS Dd
   simp +contextual only [kQ,o1,o2,o3,o4,g0,hbv,gr,hC.aO,hC.len,sZ,Nat.reduceEqDiff,Nat.reduceAdd,Nat.reduceLT,↓reduceIte]
   refine iK t.l.length (fun i (G:List aa)=>CT (H.length + 2) v t.l G∧G[H.length]?=some (.cells [.int .i64 t.k,.int .i64 t.n,v])∧G[H.length + 1]?=some (.cells [.int .i64 0,.int .i64 0,.ag])∧G.take H.length=H)
    (fun i G=>[(1,.ptr H.length 0),(2,.ptr (H.length + 1) 0),(10,v),(11,.int .i64 t.l.length),(12,.int .i64 i)]) (fun i G=>G) (G.set H.length (.cells [.int .i64 t.k,.int .i64 t.n,v]))
    ⟨⟨hC.set (by omega) _,gr _,by rw [yQ (by omega)];exact g1,by rw [abI (by omega)];exact eR⟩,kr _ _ _⟩ fun i G hi hI=>?_
   clear hG g0 g1 eR hbv Dd gr hl hC
   obtain ⟨hC,g0,g1,hG⟩:=hI
   by_cases aS:i < t.l.length
   ·have oa:((i:Int) < t.l.length)=True:=eq_true (by omega)
    obtain ⟨id,cap,bn,rfl,hg,cp⟩:=hC.get aS
    have wh:=aR hg
    have Ru:∀ X,(G++X)[id]?=some (bB zT (cJ t.l) cap):=fun X=>by rw [yO wh];exact hg
    have g0':∀ X,(G++X)[H.length]?=some (.cells [.int .i64 t.k,.int .i64 t.n,.aZ id 0 t.l.length cap]):=fun X=>by rw [yO (aR g0)];exact g0
    have hx:=vx (t.l.getD i default)
    have hL:∀ φ,dd (some (bB zT (cJ t.l) cap)) (some 3) (i * 3) φ=φ (.agg [.int .i64 (t.l.getD i default).k,.int .i64 (t.l.getD i default).n,.al 0 (cJ (t.l.getD i default).l)]):=fun φ=>by rw [← hx];exact loadT aS φ
    have hwx:wt (t.l.getD i default)≤fM t.l:=by
     have:=mE aS;have:=cZ t.l (i + 1);omega
    have hcall:=ih (t.l.getD i default) (by omega) (by omega)
    rw [hx] at hcall
    have hS:=fun {H':List aa} (hg:H'[id]?=some (bB zT (cJ t.l) cap)) {K:List aa→Prop} (hK:K H')=>storeT (id:=id) aS hg hK
    rw [hx] at hS
    simp +contextual only [oa,decide_true,iV,hg,hL,g0',sZ,Nat.reduceEqDiff,Nat.reduceAdd,Nat.reduceLT,↓reduceIte,reduceCtorEq]
    refine ⟨aS,ae hcall ?_,ae hcall ?_⟩
    all_goals
     simp +contextual only [iV,g0',Ru,sZ,Nat.reduceEqDiff,Nat.reduceAdd,Nat.reduceLT,↓reduceIte,reduceCtorEq]
     refine ⟨aS,hS (Ru _) ?_⟩
     simp +contextual only [sZ,Nat.reduceEqDiff,↓reduceIte]
     refine ⟨i + 1,_,⟨aS,hC.ue _,g0' _,by rw [yO (aR g1)];exact g1,by rw [aaR (by have:=aR g1;omega)];exact hG⟩,by omega,sC (by rw [au i (by omega)]) rfl⟩
   ·have k9:i=t.l.length:=by omega
    have oa:((i:Int) < t.l.length)=False:=eq_false (by omega)
    simp +contextual only [kQ,oa,decide_false,g0,sZ,Nat.reduceEqDiff,↓reduceIte]
    have fin:∀ (G':List aa),G'[H.length + 1]?=some (.cells [.int .i64 t.k,.int .i64 t.n,.al 0 (cJ t.l)])→G'.take H.length=H→dd G'[H.length + 1]? (some 3) 0 fun v=>xO (nT H.length) H.length v G' fun r H'=>r=AV.agg [AV.int IntKind.i64 t.k,AV.int IntKind.i64 t.n,AV.al 0 (cJ t.l)]∧H'=H:=by
     intro G' h1 h2
     rw [h1,Iv]
     exact ⟨H.length,H,rC _,tX h2 rfl,_,le_refl _,by simp [AV.drop,tT,bP,c9,ji,bW,dq],rfl,rfl⟩
    have ls:∀ (l:List AV) (G':List aa),(∀ o,(G'.set (H.length + 1) o).take H.length=G'.take H.length):=fun l G' o=>abI (by omega)
    have vS:=aR g1
    rcases hC with ⟨e,rfl⟩ | ⟨id,cap,bn,rfl,hg,cp⟩
    ·rw [e] at fin ⊢
     have e1:∀ (K:AV→List aa→Prop),dZ 3 AV.ag.drop G K=K (.al 0 []) G:=fun K=>rfl
     rw [e1]
     simp +contextual only [kQ,g1,sZ,Nat.reduceEqDiff,Nat.reduceAdd,↓reduceIte,reduceCtorEq]
     exact fin _ (yS vS) (by rw [abI (by omega)];exact hG)
    ·have e1:∀ l c,(AV.aZ id 0 l c).drop=.aZ id 0 l c:=fun _ _=>rfl
     rw [e1]
     have ef:=fun K hK=>xP (esz:=3) (by decide) NN (pV t.l) (fun x hx=>by obtain ⟨y,_,rfl⟩:=IV hx;rw [vx];rfl) hg (by rw [jI];exact cp) (K:=K) hK
     rw [jI] at ef
     refine ef _ ?_
     have g1':(G.set id .dead)[H.length + 1]?=some (.cells [.int .i64 0,.int .i64 0,.ag]):=by rw [yQ (by omega)];exact g1
     simp +contextual only [kQ,g1',sZ,Nat.reduceEqDiff,Nat.reduceAdd,↓reduceIte,reduceCtorEq]
     exact fin _ (yS (by simpa using vS)) (by rw [abI (by omega),abI (by omega)];exact hG)
end Go.aK
end
section
set_option maxRecDepth 100000
namespace Go.aK
open Go Go.Proofs Go.eI
def NS (r:T→T→Bool) (l:List T):Nat:=l.findIdx fun a=>l.all fun x=>!r a x
def yW (r:T→T→Bool):Nat→List T→List T
 | 0,_=>[]
 | n + 1,l=>l.getD (NS r l) default::yW r n (l.eraseIdx (NS r l))
theorem Th {r:T→T→Prop} (hi:∀ a,¬ r a a) (ht:∀ a b c,r a b→r b c→r a c):∀ l:List T,l≠[]→∃ a∈l,∀ x∈l,¬ r a x
 | [],h=>absurd rfl h
 | [a],_=>⟨a,aaW,fun x hx=>by rcases aai.1 hx with rfl | hx;exact hi _;cases hx⟩
 | a::b::l,_=>by
   obtain ⟨m,hm,hl⟩:=Th hi ht (b::l) (by simp)
   by_cases h:r m a
   ·refine ⟨a,aaW,fun x hx=>?_⟩
    rcases aai.1 hx with rfl | hx
    ·exact hi _
    ·exact fun h'=>hl x hx (ht _ _ _ h h')
   ·refine ⟨m,aaF _ hm,fun x hx=>?_⟩
    rcases aai.1 hx with rfl | hx
    ·exact h
    ·exact hl x hx
noncomputable def zO (s:Sg) (ps ss:List Int) (ts:List T):List T×Int:=
 if ft s ps ss ts=0 then if 1000 < ts.length then ([],2) else (yW (ES ps ss) ts.length ts,0) else ([],ft s ps ss ts)
theorem Rw (n:Nat):c8 zI n=ints (List.replicate n 0):=by
 induction n with
 | zero=>rfl
 | succ n ih=>
   have e:c8 zI (n + 1)=.int .i64 0::c8 zI n:=rfl
   rw [e,ih];rfl
theorem E8 (l:List Int) (cap:Nat):bB zI (ints l) cap=.cells (ints (l++List.replicate (cap - l.length) 0)):=by
 rw [Cq,Rw,mG]
theorem aaS {L:List Int} {n id cap:Nat} (hn:n < L.length) (hc:L.length≤cap) (hb:L.length≤1000000000) {H:List aa} (hg:H[id]?=some (bB zI (ints L) cap)) :
 ax Tryz.prog 105 [.aZ id 0 L.length cap,.int .i64 (n:Int),.int .i64 ((n:Int) + 1)] H fun r H'=>r=.aZ id 0 (L.eraseIdx n).length cap∧H'=H.set id (bB zI (ints (L.eraseIdx n)) cap):=by
 have e1:L=L.take n++L.getD n 0::L.drop (n + 1):=by
  have:L.getD n 0=L[n]:=by simp [hn]
  rw [this,← abr hn,ad1]
 have e2:L.eraseIdx n=L.take n++L.drop (n + 1):=acI ..
 have l1:(L.take n).length=n:=by simp;omega
 have l2:(L.drop (n + 1)).length=L.length - (n + 1):=by simp
 have hp:(L.take n++L.getD n 0::L.drop (n + 1)++List.replicate (cap - L.length) 0).length=cap:=by rw [← e1];simp;omega
 have Ru:H[id]?=some (.cells (ints (L.take n++L.getD n 0::L.drop (n + 1)++List.replicate (cap - L.length) 0))):=by rw [← e1,← E8];exact hg
 have h:=aeM (L.take n) (L.drop (n + 1)) (List.replicate (cap - L.length) 0) (L.getD n 0) (by rw [← e1];exact hb) id cap hp.symm Ru
 have el:L.take n++L.drop (n + 1)++0::List.replicate (cap - L.length) 0=L.eraseIdx n++List.replicate (cap - (L.eraseIdx n).length) 0:=by
  rw [e2]
  congr 1
  rw [aaf,l1,l2,show cap - (n + (L.length - (n + 1)))=(cap - L.length) + 1 by omega]
  rfl
 have ll:(L.eraseIdx n).length=(L.take n).length + (L.drop (n + 1)).length:=by rw [e2,aaf]
 rw [el,l1,l2,show n + 1 + (L.length - (n + 1))=L.length by omega] at h
 rw [E8,ll,l1,l2]
 rw [ll,l1,l2] at h
 exact h
theorem NT {r:T→T→Bool} {l:List T} {n:Nat} (hn:n < l.length) (h1:∀ x∈l,r (l.getD n default) x=false) (h2:∀ j,j < n→∃ x∈l,r (l.getD j default) x=true):NS r l=n:=by
 unfold NS
 rw [List.findIdx_eq hn]
 refine ⟨?_,fun j hj=>?_⟩
 ·have e:l[n]=l.getD n default:=by simp [hn]
  rw [e,abF]
  intro x hx;rw [h1 x hx];rfl
 ·obtain ⟨x,hx,h⟩:=h2 j hj
  have mU:j < l.length:=by omega
  have e:l[j]=l.getD j default:=by simp [mU]
  rw [e,List.all_eq_false]
  exact ⟨x,hx,by rw [h];simp⟩
theorem yA {c:Cx} {L:List Int} {n:Nat} (h:n < L.length):(L.map c.tm).getD n default=c.tm (L.getD n 0):=by simp [h]
theorem IY {Hs G:List aa} {n0:Nat} {l:List T} {e:Int} {u:AV} (hu:u.ab.le (.al 0 (cJ l))) (hH:Hs.take n0=G):bV n0 [.t 6,.t 7] [(6,u),(7,.int .i64 e)] Hs (fun r H'=>r=.tuple [.al 0 (cJ l),.int .i64 e]∧H'=G):=by
 subst hH
 refine ⟨n0,rC _,[.al 0 (cJ l),.int .i64 e],?_,by simp [aj,bW,dq,ji],rfl,rfl⟩
 exact ⟨hu,le_refl _,trivial⟩
theorem nQ (vs:List T):(ra vs).ab.le (.al 0 (cJ vs)):=by
 cases vs with
 | nil=>exact .inr (.inr (.inr (.inl ⟨rfl,0,rfl⟩)))
 | cons v r=>exact le_refl _
theorem Du.Wk {c:Cx} {H:List aa} {n:Nat} (h:Du c (H.take n)) (hn:True):Du c H:=by
 have hg:∀ {j:Nat} {o:aa},(H.take n)[j]?=some o→H[j]?=some o:=by
  intro j o h
  rw [aax] at h
  split at h
  ·exact h
  ·cases h
 exact ⟨hg h.d,by obtain ⟨m,h1,h2⟩:=h.e;exact ⟨m,hg h1,h2⟩,by obtain ⟨m,h1,h2⟩:=h.g;exact ⟨m,hg h1,h2⟩⟩
theorem c37 (s:Sg) (ps ss:List Int) (ts:List T) (hlen:ts.length < 9223372036854775808):Pure Tryz.prog 37 [s.av,dV ps ss,.al 0 (cJ ts)] (.tuple [.al 0 (cJ (zO s ps ss ts).1),.int .i64 (zO s ps ss ts).2]):=by
 refine fun H=>aaQ.2.calls rfl ?_
 simp only [aaQ,aG]
 obtain ⟨q1,q2,q3,q4,q5,q6⟩:=aQ ps ss
 simp +contextual only [aF,q1,q4,bm,sZ,Nat.reduceEqDiff,Nat.reduceAdd,↓reduceIte,reduceCtorEq]
 refine ae (c74 s ps ss ts) ?_
 by_cases h0:ft s ps ss ts=0
 ·by_cases OY:1000 < ts.length
  ·have e:zO s ps ss ts=([],2):=by unfold zO;rw [if_pos h0,if_pos OY]
   have ey:((1000:Int) < ts.length)=True:=eq_true (by omega)
   rw [e]
   simp +contextual only [h0,ey,decide_true,hlen,sZ,Nat.reduceEqDiff,↓reduceIte,reduceCtorEq]
   exact IY (nQ []) abp
  ·have e:zO s ps ss ts=(yW (ES ps ss) ts.length ts,0):=by unfold zO;rw [if_pos h0,if_neg OY]
   have ey:((1000:Int) < ts.length)=False:=eq_false (by omega)
   rw [e]
   have hr:=pQ h0
   have hw:=lF hr.tree
   simp +contextual only [q4,bm,h0,ey,decide_false,hlen,sZ,Nat.reduceEqDiff,Nat.reduceAdd,↓reduceIte]
   refine af (aeI ps ss ts H (by omega)) ?_
   rintro r G ⟨va,rfl,hG,W6,hR⟩
   obtain ⟨o1,o2,o3,o4⟩:=hR.one
   have hbv:∀ n,G.length≤n→va.bc n=true:=fun n hn=>hR.bc hn
   have pn:=hbv (G.length + 2) (by omega)
   have qm:∀ o o',va.bc (G++[o,o']:List aa).length=true:=fun o o'=>hbv _ (by simp)
   have hp1:(AV.ptr (H.length + 2) 0).bc (G.length + 1)=true:=by rw [qV];exact decide_eq_true (by omega)
   simp +contextual only [o1,o2,o3,o4,pn,hp1,sZ,Nat.reduceEqDiff,Nat.reduceAdd,Nat.reduceLT,↓reduceIte]
   refine ⟨rfl,by decide,?_⟩
   have hG0:G.take H.length=H:=by
    have:G.take H.length=(G.take (H.length + 3)).take H.length:=by rw [List.take_take];congr 1;omega
    rw [this,hG];simp
   rcases hR with ⟨e1,rfl⟩ | ⟨id,cap,bn,rfl,hg,cp,dJ⟩
   ·have e2:ts=[]:=by
     have:=cS ts 0
     have h3:ba ts 0=[]:=acp.1 e1
     rw [h3] at this
     exact aby.1 this.symm
    subst e2
    refine aJ 0 (fun _ _=>True) (fun i (p:Unit)=>[(9,.ptr G.length 0),(10,.ptr (G.length + 1) 0),(11,.ag)]) (fun i p=>G++[.cells [.ptr (H.length + 2) 0],.cells [.ag]]) () ⟨trivial,aE rfl ?_⟩ fun i p hi hI=>?_
    ·rfl
    ·simp +contextual only [sZ,Nat.reduceEqDiff,Nat.reduceAdd,Nat.reduceLT,↓reduceIte,reduceCtorEq,Int.reduceLT]
     exact IY (nQ []) (by rw [aaR (by omega)];exact hG0)
   ·have TB:ts≠[]:=fun e=>dJ (by rw [e];rfl)
    have aeU:id < G.length:=aR hg
    obtain ⟨c,ec⟩:∃ c,c=iu ps ss ts H.length:=⟨_,rfl⟩
    have hc:c.Ok:=by rw [ec];exact hr.cx TB (by omega) H.length
    have cO:c.O=b9 ps ss:=by rw [ec];rfl
    have cd:c.d=H.length + 2:=by rw [ec];rfl
    have ce:c.e=H.length:=by rw [ec];rfl
    have cg:c.g=H.length + 1:=by rw [ec];rfl
    have hD0:Du c (G++[.cells [.ptr (H.length + 2) 0],.cells [.aZ id 0 (ba ts 0).length cap]]):=by
     have h1:=AP ps ss TB H
     rw [← ec,← hG] at h1
     exact Du.ue (h1.Wk trivial) _
    obtain ⟨k1,k2⟩:=(Rf ts).kids
    have aaT:(ba ts 0).map c.tm=ts:=by rw [ec];exact k1
    have aeV:∀ x∈ba ts 0,c.ep x:=by rw [ec];exact k2
    rw [aw] at *
    have FY:=cS ts 0
    refine aJ ts.length (fun j (p:List Int×List T×List aa)=>j + p.1.length=ts.length∧(∀ x∈p.1,c.ep x)∧yW (ES ps ss) ts.length ts=p.2.1++yW (ES ps ss) p.1.length (p.1.map c.tm)∧p.2.1.length=j∧Du c p.2.2∧
     p.2.2[G.length]?=some (.cells [.ptr c.d 0])∧p.2.2[G.length + 1]?=some (.cells [.aZ id 0 p.1.length cap])∧p.2.2[id]?=some (bB zI (ints p.1) cap)∧p.2.2.take H.length=H∧p.1.length≤cap∧∀ x∈p.1,c.tm x∈ts)
     (fun i p=>[(9,.ptr G.length 0),(10,.ptr (G.length + 1) 0),(11,ra p.2.1)]) (fun i p=>p.2.2) (ba ts 0,[],G++[.cells [.ptr (H.length + 2) 0],.cells [.aZ id 0 (ba ts 0).length cap]])
     ⟨⟨by simp [FY],aeV,by rw [aaT,FY];rfl,rfl,hD0,by rw [cd];simp,by simp,by rw [yO aeU];exact hg,by rw [aaR (by omega)];exact hG0,cp,fun x hx=>by rw [← aaT];exact afT hx⟩,aE rfl rfl⟩ fun j p hj hI=>?_
    obtain ⟨L,out,F⟩:=p
    obtain ⟨i1,i2,i3,i4,i5,i6,i7,i8,i9,i10,i11⟩:=hI
    simp only at i1 i2 i3 i4 i5 i6 i7 i8 i9 i10 i11
    have H7:L.length≤1000:=by omega
    by_cases hL:L=[]
    ·have hz:((0:Int) < (L.length:Int))=False:=eq_false (by rw [hL];simp)
     have hun:(ra out).ab.ab=(ra out).ab:=by cases out <;> rfl
     simp +contextual only [i7,hz,decide_false,hun,sZ,Nat.reduceEqDiff,Nat.reduceAdd,Nat.reduceLT,↓reduceIte,reduceCtorEq]
     have e2:yW (ES ps ss) ts.length ts=out:=by rw [i3,hL];simp [yW]
     rw [e2]
     exact IY (by rw [hun];exact nQ out) i9
    ·have n8:=adW.2 hL
     have hz:((0:Int) < (L.length:Int))=True:=eq_true (by omega)
     simp +contextual only [i7,hz,decide_true,sZ,Nat.reduceEqDiff,Nat.reduceAdd,Nat.reduceLT,↓reduceIte,reduceCtorEq]
     refine af (Te (Q:=fun i=>¬ ∃ x∈L,R c.O (c.tm i) (c.tm x)) (SG.len c F) (fun G' eR=>by rw [eR.2.get id (by omega) (by omega),i8]) i10 (by omega) 101 [] [.ptr (G.length + 1) 0,.ptr G.length 0] rfl rfl
      (fun x hx H' hH'=>aeP hc (i2 x hx) i2 i10 (by omega) i6 (by omega) (by omega) i7 (by omega) (by omega) i8 (by omega) (by omega) H' hH') ⟨i5,Up.refl c F⟩) ?_
     rintro r F1 ⟨⟨oh,hU1⟩,hq⟩
     have TA:∃ n:Nat,r=.int .i64 n∧n < L.length∧(¬ ∃ x∈L,R c.O (c.tm (L.getD n 0)) (c.tm x))∧∀ j,j < n→∃ x∈L,R c.O (c.tm (L.getD j 0)) (c.tm x):=by
      rcases hq with ⟨_,hq⟩ | ⟨n,h1,h2,h3,h4⟩
      ·exfalso
       obtain ⟨m,hm,h1⟩:=Th (r:=fun a b=>R c.O a b) (fun a=>ZO rfl) (fun a b d h h'=>Q7 h h') (L.map c.tm) (by simpa using hL)
       obtain ⟨x,hx,rfl⟩:=aal.1 hm
       refine hq x hx fun ⟨y,hy,h⟩=>h1 _ (afT hy) h
      ·exact ⟨n,h1,h2,h3,fun j hj=>Classical.not_not.1 (h4 j hj)⟩
     obtain ⟨n,rfl,hn,h1,h2⟩:=TA
     have j7:F1[G.length + 1]?=some (.cells [.aZ id 0 L.length cap]):=by rw [hU1.get _ (by omega) (by omega),i7]
     have j6:F1[G.length]?=some (.cells [.ptr c.d 0]):=by rw [hU1.get _ (by omega) (by omega),i6]
     have j8:F1[id]?=some (bB zI (ints L) cap):=by rw [hU1.get _ (by omega) (by omega),i8]
     have j9:F1.take H.length=H:=by
      refine Eq.trans ?_ i9
      apply abU
      intro k
      rw [aax,aax]
      by_cases hk:k < H.length
      ·rw [if_pos hk,if_pos hk];exact hU1.get _ (by omega) (by omega)
      ·rw [if_neg hk,if_neg hk]
     have KP:NS (ES ps ss) (L.map c.tm)=n:=by
      refine NT (by simpa using hn) (fun x hx=>?_) fun j hj=>?_
      ·obtain ⟨y,hy,rfl⟩:=aal.1 hx
       rw [yA hn]
       cases hb:ES ps ss (c.tm (L.getD n 0)) (c.tm y) with
       | false=>rfl
       | true=>exact absurd ⟨y,hy,by rw [cO];exact nN.1 hb⟩ h1
      ·obtain ⟨y,hy,h⟩:=h2 j hj
       rw [yA (by omega)]
       exact ⟨_,afT hy,nN.2 (by rw [← cO];exact h)⟩
     have hxN:=i2 _ (aT hn)
     have jL:c.nd.length≤2000000:=by
      have:c.nd=dl ts 0:=by rw [ec];rfl
      rw [this,iN];omega
     simp +contextual only [j7,j6,j8,oh.d,nK,fN0,cT,iV,IH hn,sZ,Nat.reduceEqDiff,Nat.reduceAdd,Nat.reduceLT,↓reduceIte,reduceCtorEq]
     have htree:=hr.tree _ (i11 _ (aT hn))
     have hwx:wt (c.tm (L.getD n 0))≤2000:=by
      have:=((T.fK _).1 htree).1;have:=Nq (c.tm (L.getD n 0));omega
     have aaU:Pure Tryz.prog 104 [(c.nd.getD (L.getD n 0).toNat default).fst.av] (c.tm (L.getD n 0)).av:=aeT _ (c.tm (L.getD n 0)) (rC _) (by omega)
     have Np:=aaS hn i10 (by omega) j8
     have jw:(L.eraseIdx n).length=L.length - 1:=List.length_eraseIdx_of_lt hn
     refine ⟨hn,hxN,ae aaU ?_,ae aaU ?_⟩
     all_goals
      simp +contextual only [wC,pM,j7,sZ,Nat.reduceEqDiff,Nat.reduceAdd,Nat.reduceLT,↓reduceIte,reduceCtorEq]
      refine ⟨by omega,?_⟩
      rw [cr _ (by omega)]
      refine af Np ?_
      rintro r F2 ⟨rfl,rfl⟩
      have m7:(F1.set id (bB zI (ints (L.eraseIdx n)) cap))[G.length + 1]?=some (.cells [.aZ id 0 L.length cap]):=by rw [yQ (by omega)];exact j7
      have me:(AV.aZ id 0 (L.eraseIdx n).length cap).bc (G.length + 1 + 1)=true:=by rw [fJ];exact decide_eq_true (by omega)
      have r1:∀ l,(AV.aZ id 0 l cap).one=true∧(AV.aZ id 0 l cap).val=true∧(AV.aZ id 0 l cap).ab=.aZ id 0 l cap∧(AV.aZ id 0 l cap).cells=[.aZ id 0 l cap]:=fun _=>⟨rfl,rfl,rfl,rfl⟩
      obtain ⟨u1,u2,u3,u4⟩:=r1 (L.eraseIdx n).length
      simp +contextual only [m7,me,u1,u2,u3,u4,sZ,Nat.reduceEqDiff,Nat.reduceAdd,↓reduceIte]
      refine ⟨j + 1,(L.eraseIdx n,out++[c.tm (L.getD n 0)],_),⟨by omega,by show j + 1 + (L.eraseIdx n).length=_;omega,fun x hx=>i2 x (acK hx),?_,by simp [i4],?_,?_,?_,?_,?_,by show (L.eraseIdx n).length≤cap;omega,fun x hx=>i11 x (acK hx)⟩,by omega,aE rfl rfl⟩
      ·have hs:L.length=(L.eraseIdx n).length + 1:=by omega
       rw [i3,hs,yW,KP,yA hn,abb]
       have em:(L.map c.tm).eraseIdx n=(L.eraseIdx n).map c.tm:=by rw [acI,acI,ab3,List.map_take,List.map_drop]
       rw [em];rfl
      ·exact (oh.set (by omega) (by omega) (by omega)).set (by omega) (by omega) (by omega)
      ·rw [yQ (by omega),yQ (by omega)];exact j6
      ·rw [yS (by have:=aR j7;simp;omega)]
      ·rw [yQ (by omega),yS (aR j8)]
      ·rw [abI (by omega),abI (by omega)];exact j9
 ·have e:zO s ps ss ts=([],ft s ps ss ts):=by unfold zO;rw [if_neg h0]
  rw [e]
  simp +contextual only [h0,sZ,Nat.reduceEqDiff,↓reduceIte,reduceCtorEq]
  exact IY (nQ []) abp
end Go.aK
end
section
set_option maxRecDepth 1000000
namespace Go.aK
open Go Go.Proofs Go.eI
def vT (n:Int):T:=.mk 1 n []
def oT (n:Int) (l:List T):T:=.mk 2 n l
def gF:Sg:=⟨[⟨#[78]⟩],[⟨⟨#[122]⟩,[],0⟩,⟨⟨#[115]⟩,[0],0⟩,⟨⟨#[97,100,100]⟩,[0,0],0⟩]⟩
def aaV:ot:=⟨[0],[],oT 2 [vT 0,oT 0 []],vT 0⟩
def cK:ot:=⟨[0,0],[],oT 2 [vT 0,oT 1 [vT 1]],oT 1 [oT 2 [vT 0,vT 1]]⟩
def df:Ty:=⟨gF,[aaV,cK]⟩
theorem Rx:qy Tryz.prog T2 (dK Tryz.prog T2 100000) false 64 [] []=some (df.av,[]):=by kernel_rfl
theorem CN:qy Tryz.prog T2 (dK Tryz.prog T2 100000) false 62 [df.av] []=some (.int .i64 0,[]):=by kernel_rfl
theorem Hy:qy Tryz.prog T2 (dK Tryz.prog T2 100000) false 92 [df.av] []=some (.al 0 (ints [0,1,2]),[]):=by kernel_rfl
theorem c64:Pure Tryz.prog 64 [] df.av:=Pure.mk rfl ((wy tS (B1 tS 100000)).1 _ _ _ _ _ Rx)
theorem CO:Pure Tryz.prog 62 [df.av] (.int .i64 0):=Pure.mk rfl ((wy tS (B1 tS 100000)).1 _ _ _ _ _ CN)
theorem Wl:Pure Tryz.prog 92 [df.av] (.al 0 (ints [0,1,2])):=Pure.mk rfl ((wy tS (B1 tS 100000)).1 _ _ _ _ _ Hy)
end Go.aK
end
section
set_option maxRecDepth 100000
namespace Go.aK
open Go Go.Proofs Go.eI
theorem c66 {a b:List Int} {va vb:AV} (ha:IL va a) (hb:IL vb b) (la:a.length≤1000000000) (lb:b.length≤1000000000):Pure Tryz.prog 66 [va,vb] (.bool (decide (a=b))):=by
 refine fun H=>k66.2.calls rfl ?_
 simp only [k66,aG]
 obtain ⟨a1,a2,a3,a4⟩:=ha.one
 obtain ⟨b1,b2,b3,b4⟩:=hb.one
 simp +contextual only [a2,b2,ha.aO,hb.aO,ha.len (by omega),hb.len (by omega),sZ,Nat.reduceEqDiff,Nat.reduceAdd,↓reduceIte,reduceCtorEq]
 refine ⟨fun dJ=>a8 rfl (by rw [decide_eq_false (fun e=>dJ (by rw [e]))]),fun heq=>?_⟩
 refine aD a.length (fun i=>∀ j,j < i→a.getD j 0=b.getD j 0)
  (fun i=>[(0,va),(1,vb),(12,.int .i64 b.length),(13,.int .i64 i)]) (fun i=>H) ⟨fun j hj=>by omega,aB _ _ _⟩ fun i hi hI=>?_
 simp +contextual only [a2,b2,ha.lens,hb.lens,ha.idx,hb.idx,yP,sZ,Nat.reduceEqDiff,↓reduceIte,reduceCtorEq]
 refine ⟨fun aS=>⟨by omega,by omega,fun dJ=>?_,fun he=>?_⟩,fun jw=>?_⟩
 ·refine a8 rfl (by rw [decide_eq_false (fun e=>dJ (by rw [e]))])
 ·refine ⟨i + 1,⟨by omega,fun j hj=>?_⟩,by omega,aE (by rw [au i (by omega)]) rfl⟩
  by_cases h:j=i
  ·subst h;exact he
  ·exact hI j (by omega)
 ·refine a8 rfl (by rw [decide_eq_true (AN (by omega) fun j hj=>hI j (by omega))])
noncomputable def rq (e:Int) (t:Ty) (ps ss:List Int):Int×Bool×Int:=
 if e≠0 then (0,false,e) else if jF t.s ps ss≠0 then (0,false,jF t.s ps ss) else (max (sU t ps ss) 0,decide (0≤sU t ps ss),0)
def Hz (p:Int×Bool×Int):AV:=.tuple [.int .i64 p.1,.bool p.2.1,.int .i64 p.2.2]
theorem c31 {t:Ty} {e:Int} (h62:Pure Tryz.prog 62 [t.av] (.int .i64 e)) (ht:e=0→CM t) (ps ss:List Int):Pure Tryz.prog 31 [t.av,dV ps ss] (Hz (rq e t ps ss)):=by
 refine fun H=>k31.2.calls rfl ?_
 simp only [k31,aG]
 obtain ⟨q1,q2,q3,q4,q5,q6⟩:=aQ ps ss
 obtain ⟨e1,e2,e3,e4,e5,e6⟩:=Ty.facts t
 simp +contextual only [q1,e1,e4,nX,sZ,Nat.reduceEqDiff,Nat.reduceAdd,↓reduceIte,reduceCtorEq]
 refine ae h62 ?_
 by_cases h0:e=0
 ·subst h0
  simp +contextual only [aF,q4,bm,NF,sZ,Nat.reduceEqDiff,Nat.reduceAdd,↓reduceIte]
  refine ae (c24 t.s ps ss) ?_
  by_cases h1:jF t.s ps ss=0
  ·have hv:=(yg.1 h1).2
   simp +contextual only [h1,q4,e4,bm,nX,sZ,Nat.reduceEqDiff,Nat.reduceAdd,↓reduceIte]
   refine ae (c89 t ps ss hv.va fun q hq=>(ht rfl).eq q hq ps hv.1) ?_
   simp +contextual only [sZ,Nat.reduceEqDiff,↓reduceIte,reduceCtorEq]
   have e0:rq 0 t ps ss=(max (sU t ps ss) 0,decide (0≤sU t ps ss),0):=by unfold rq;rw [if_neg (by simp),if_neg (by simp [h1])]
   rw [e0]
   exact AO (by decide) abp ⟨rfl,rfl,rfl⟩ rfl rfl rfl ⟨rfl,rfl⟩
  ·have e0:rq 0 t ps ss=(0,false,jF t.s ps ss):=by unfold rq;rw [if_neg (by simp),if_pos h1]
   rw [e0]
   simp +contextual only [h1,sZ,Nat.reduceEqDiff,↓reduceIte,reduceCtorEq]
   exact AO (by decide) abp ⟨rfl,rfl,rfl⟩ rfl rfl rfl ⟨rfl,rfl⟩
 ·have e0:rq e t ps ss=(0,false,e):=by unfold rq;rw [if_pos h0]
  rw [e0]
  simp +contextual only [h0,sZ,Nat.reduceEqDiff,↓reduceIte,reduceCtorEq]
  exact AO (by decide) abp ⟨rfl,rfl,rfl⟩ rfl rfl rfl ⟨rfl,rfl⟩
noncomputable def Ry (e:Int) (t:Ty) (ps ss:List Int):Int:=if (rq e t ps ss).2.2=0∧(rq e t ps ss).2.1=true then 60 else (rq e t ps ss).2.2
theorem HA (p:Int×Bool×Int) (φ:AV→Prop):bM (Hz p) 0 φ=φ (.int .i64 p.1)∧bM (Hz p) 1 φ=φ (.bool p.2.1)∧bM (Hz p) 2 φ=φ (.int .i64 p.2.2):=by simp [Hz,bM,oW,pH]
theorem IZ (p:Int×Bool×Int):(Hz p).ab=Hz p:=rfl
theorem c33 {t:Ty} {e:Int} (h62:Pure Tryz.prog 62 [t.av] (.int .i64 e)) (ht:e=0→CM t) (ps ss:List Int):Pure Tryz.prog 33 [t.av,dV ps ss] (.int .i64 (Ry e t ps ss)):=by
 refine fun H=>k33.2.calls rfl ?_
 simp only [k33,aG]
 obtain ⟨q1,q2,q3,q4,q5,q6⟩:=aQ ps ss
 obtain ⟨e1,e2,e3,e4,e5,e6⟩:=Ty.facts t
 simp +contextual only [q1,q4,e1,e4,bm,nX,sZ,Nat.reduceEqDiff,Nat.reduceAdd,↓reduceIte,reduceCtorEq]
 refine ae (c31 h62 ht ps ss) ?_
 unfold Ry
 generalize rq e t ps ss=p
 have x1:=fun φ=>(HA p φ).1
 have x2:=fun φ=>(HA p φ).2.1
 have x3:=fun φ=>(HA p φ).2.2
 obtain ⟨n,b,m⟩:=p
 simp only at x1 x2 x3
 by_cases h0:m=0
 ·subst h0
  cases b <;>
  simp +contextual only [x1,x2,x3,IZ,sZ,Nat.reduceEqDiff,↓reduceIte,reduceCtorEq] <;>
  exact a8 rfl rfl
 ·have hm:(m=0)=False:=eq_false h0
  simp +contextual only [x1,x2,x3,IZ,hm,decide_false,sZ,Nat.reduceEqDiff,↓reduceIte,reduceCtorEq]
  exact a8 rfl (by simp [h0])
theorem NU {H e:List aa} {u v w x y z:AV} (hb:x.bc H.length=true∧y.bc H.length=true∧z.bc H.length=true) (hx:u.ab=x) (hy:v.ab=y) (hz:w.ab=z):vu H.length [u,v,w] (H++e) fun r H'=>r=.tuple [x,y,z]∧H'=H:=by
 subst hx;subst hy;subst hz
 exact ⟨H.length,rC _,_,b8 _,by show aj _ [u.ab,v.ab,w.ab]=true;rw [bP,bP,bP,c9,hb.1,hb.2.1,hb.2.2];rfl,rfl,by simp⟩
theorem KF (f:Fo):∃ P S,foA f=dV P S:=by
 cases f with
 | none=>exact ⟨_,_,rfl⟩
 | some p=>exact ⟨_,_,rfl⟩
noncomputable def NV (e:Int) (t:Ty) (ops:List Int):Fo×Int:=if e≠0 then (none,e) else if 4 < ops.length then (none,2) else (zL t ops,0)
theorem c35 {t:Ty} {e:Int} {ops:List Int} (h62:Pure Tryz.prog 62 [t.av] (.int .i64 e)) (h92:e=0→Pure Tryz.prog 92 [t.av] (.al 0 (ints ops))) (ht:e=0→CM t) (hr:e=0→∀ i∈ops,0≤i∧i < t.s.ops.length) (hl:ops.length≤1000000) :
 Pure Tryz.prog 35 [t.av] (.tuple [foA (NV e t ops).1,.bool (NV e t ops).1.isSome,.int .i64 (NV e t ops).2]):=by
 refine fun H=>k35.2.calls rfl ?_
 simp only [k35,aG]
 obtain ⟨e1,e2,e3,e4,e5,e6⟩:=Ty.facts t
 have zf2:List.map AV.ab [AV.ag,.ag]=[.ag,.ag]:=rfl
 have zb2:∀ n,aj n [AV.ag,.ag]=true:=fun _=>rfl
 simp +contextual only [e1,e4,nX,zf2,zb2,sZ,Nat.reduceEqDiff,Nat.reduceAdd,↓reduceIte]
 refine ae h62 ?_
 have gz:(H++[aa.cells [AV.ag,.ag]])[H.length]?=some (.cells [.ag,.ag]):=by simp
 by_cases h0:e=0
 ·subst h0
  simp +contextual only [e4,nX,sZ,Nat.reduceEqDiff,Nat.reduceAdd,↓reduceIte]
  refine ae (h92 rfl) ?_
  by_cases h4:4 < ops.length
  ·have h4':((4:Int) < ops.length)=True:=eq_true (by omega)
   have e0:NV 0 t ops=(none,2):=by unfold NV;rw [if_neg (by simp),if_pos h4]
   rw [e0]
   have sp2:∀ (a b x y:AV),ah [a,b] 0 [x,y]=[x,y]:=fun _ _ _ _=>rfl
   simp +contextual only [zf2,zb2,aw,h4',decide_true,gz,mM,sp2,sZ,Nat.reduceEqDiff,Nat.reduceAdd,↓reduceIte,reduceCtorEq]
   exact fun _=>NU ⟨rfl,rfl,rfl⟩ rfl rfl rfl
  ·have h4':((4:Int) < ops.length)=False:=eq_false (by omega)
   have e0:NV 0 t ops=(zL t ops,0):=by unfold NV;rw [if_neg (by simp),if_neg h4]
   rw [e0]
   simp +contextual only [e4,nX,aw,h4',decide_false,sZ,Nat.reduceEqDiff,Nat.reduceAdd,↓reduceIte]
   intro hl9
   refine ae (c93 (ht rfl) (.inr rfl) (hr rfl) hl) ?_
   generalize zL t ops=f
   obtain ⟨P,S,ef⟩:=KF f
   obtain ⟨q1,q2,q3,q4,q5,q6⟩:=aQ P S
   rw [ef]
   have zo:(dV P S).cells=[.al 0 (ints P),.al 0 (ints S)]:=rfl
   have sp2:∀ (a b x y:AV),ah [a,b] 0 [x,y]=[x,y]:=fun _ _ _ _=>rfl
   simp +contextual only [gz,q1,q4,mM,zo,sp2,bm,bf,sZ,Nat.reduceEqDiff,Nat.reduceAdd,Nat.reduceLT,↓reduceIte,reduceCtorEq]
   exact NU ⟨q6 _,rfl,rfl⟩ rfl rfl rfl
 ·have hm:(e=0)=False:=eq_false h0
  have e0:NV e t ops=(none,e):=by unfold NV;rw [if_pos h0]
  rw [e0]
  have sp2:∀ (a b x y:AV),ah [a,b] 0 [x,y]=[x,y]:=fun _ _ _ _=>rfl
  simp +contextual only [zf2,zb2,hm,gz,mM,sp2,sZ,Nat.reduceEqDiff,Nat.reduceAdd,↓reduceIte,reduceCtorEq]
  exact NU ⟨rfl,rfl,rfl⟩ rfl rfl rfl
end Go.aK
end
section
namespace Go.aK
open Go Go.Proofs Go.eI
end Go.aK
end
section
namespace Go.eI
open Go.aK
def Ti {G:T→T→Prop} [h:∀ x y,Decidable (G x y)]:∀ l m,Decidable (Lx G l m)
 | [],_=>isFalse (fun h=>h)
 | _::_,[]=>isTrue trivial
 | x::l,y::m=>@instDecidableOr _ _ (@instDecidableAnd _ _ inferInstance (Ti l m)) (h x y)
def aaX {G:T→T→Prop} [h:∀ x y,Decidable (G x y)] (l m:List T):Decidable (Mu G l m):=by unfold Mu;exact inferInstance
def aaY {sp:Int→Int} {G:T→T→Prop} [h:∀ x y,Decidable (G x y)] (a b:T):Decidable (Fm sp G a b):=by
 unfold Fm
 have:=@Ti G h
 have:=@aaX G h
 exact inferInstance
def NW (sp:Int→Int):∀ (f:Nat) (a b:T),Decidable (OJ sp f a b)
 | 0,_,_=>isFalse (fun h=>h)
 | f + 1,a,b=>@aaY sp (OJ sp f) (NW sp f) a b
instance aaZ (sp:Int→Int) (a b:T):Decidable (Gt sp a b):=NW sp (wt a + wt b) a b
instance aa0 (O:Od) (a b:T):Decidable (R O a b):=aaZ O.sp (norm O a) (norm O b)
instance aa1 (O:Od) (a b:T):Decidable (E O a b):=inferInstanceAs (Decidable (norm O a=norm O b))
end Go.eI
end
section
namespace Go.aK
open Go Go.Proofs Go.eI
mutual
def E9 (n:Nat):T→Bool
 | .mk k m l=>(!decide (k=2) || (decide (0≤m) && decide (m < n))) && CP n l
def CP (n:Nat):List T→Bool
 | []=>true
 | x::r=>E9 n x && CP n r
end
mutual
theorem I0 {n:Nat}:∀ {t:T},E9 n t=true→zC (fun m=>0≤m∧m < n) t
 | .mk k m l,h=>by
   simp only [E9,Ot,ab8,abG,decide_eq_false_iff_not,decide_eq_true_eq] at h
   exact .mk k m l (fun hk=>h.1.resolve_left fun hn=>hn hk) (Fa h.2)
theorem Fa {n:Nat}:∀ {l:List T},CP n l=true→∀ x∈l,zC (fun m=>0≤m∧m < n) x
 | [],_=>fun x hx=>by cases hx
 | y::r,h=>by
   simp only [CP,Ot] at h
   have h1:=I0 h.1
   have h2:=Fa h.2
   intro x hx
   rcases aai.1 hx with rfl | hx
   ·exact h1
   ·exact h2 x hx
end
def Fb (ps ss:List Int) (a b:T):Bool:=match aa0 (b9 ps ss) a b with | .isTrue _=>true | .isFalse _=>false
theorem CQ {ps ss:List Int} {a b:T}:Fb ps ss a b=true↔R (b9 ps ss) a b:=by
 unfold Fb
 cases aa0 (b9 ps ss) a b with
 | isTrue h=>simp [h]
 | isFalse h=>simp [h]
end Go.aK
end
section
set_option maxRecDepth 1000000
namespace Go.aK
open Go Go.Proofs Go.eI
theorem CR (ps ss:List Int) (a b:T):ES ps ss a b=Fb ps ss a b:=by rw [abY,nN,CQ]
def I1 (ps ss:List Int) (a b:T):Bool:=match aa1 (b9 ps ss) a b with | .isTrue _=>true | .isFalse _=>false
theorem I2 (ps ss:List Int) (a b:T):SY ps ss a b=I1 ps ss a b:=by
 rw [abY,lG]
 unfold I1
 cases aa1 (b9 ps ss) a b with
 | isTrue h=>simp [h]
 | isFalse h=>simp [h]
def Wm (s:Sg) (ps ss:List Int):Bool:=decide (ps.length=s.ops.length) && (decide (ss.length=s.ops.length) && ((List.range ps.length).all (fun j=>decide (0≤ps.getD j 0∧ps.getD j 0≤255∧1≤ss.getD j 0∧ss.getD j 0≤3)) && (List.range ps.length).all fun j=>(List.range ps.length).all fun k=>!decide (ps.getD j 0=ps.getD k 0) || decide (ss.getD j 0=ss.getD k 0)))
theorem NX {s:Sg} {ps ss:List Int}:Wm s ps ss=true↔iq s ps ss:=by
 simp only [Wm,Ot,decide_eq_true_eq,abF,abK,ab8,abG,decide_eq_false_iff_not]
 constructor
 ·rintro ⟨h1,h2,h3,h4⟩
  exact ⟨h1,h2,h3,fun j k hj hk he=>(h4 j hj k hk).resolve_left fun hn=>hn he⟩
 ·rintro ⟨h1,h2,h3,h4⟩
  refine ⟨h1,h2,h3,fun j hj k hk=>?_⟩
  by_cases h:ps.getD j 0=ps.getD k 0
  ·exact .inr (h4 j k hj hk h)
  ·exact .inl h
def yB (s:Sg) (ps ss:List Int):Int:=if mJ s=true then (if Wm s ps ss=true then 0 else 60) else 40
theorem sV (s:Sg) (ps ss:List Int):jF s ps ss=yB s ps ss:=by
 unfold jF yB
 by_cases h:iq s ps ss
 ·rw [if_pos h,if_pos (NX.2 h)]
 ·rw [if_neg h,if_neg (fun k=>h (NX.1 k))]
def yC (s:Sg) (ps ss:List Int) (l:List T):Int:=if yB s ps ss=0 then (if (l.all fun t=>t.tree && ri s t)=true then 0 else 4) else yB s ps ss
theorem jJ (s:Sg) (ps ss:List Int) (l:List T):ft s ps ss l=yC s ps ss l:=by unfold ft yC;rw [sV]
def NY (ps ss:List Int) (e:ot):Bool:=e.rest.all fun y=>Fb ps ss e.a y
theorem NZ (ps ss:List Int) (e:ot):zK ps ss e=NY ps ss e:=by
 rw [abY]
 simp only [zK,Rj,NY,abF,CQ]
 exact @decide_eq_true_iff _ (Classical.propDecidable _)
def yD (t:Ty) (ps ss:List Int):Int:=rn (fun e=>!NY ps ss e) t.es 0
theorem uy (t:Ty) (ps ss:List Int):sU t ps ss=yD t ps ss:=by
 unfold sU yD
 congr 1
 funext e
 rw [NZ]
def HB (t:Ty) (ops pl st:List Int):Bool:=decide (yB t.s (rp t.s.ops.length ops pl) (uw t.s.ops.length ops st)=0) && decide (yD t (rp t.s.ops.length ops pl) (uw t.s.ops.length ops st) < 0)
theorem KG (t:Ty) (ops pl st:List Int):yv t ops pl st=HB t ops pl st:=by
 unfold yv HB
 rw [sV,uy,abY]
 simp
def HC (t:Ty) (ops pl:List Int) (s:Fo) (st:List Int):Fo×Bool:=if HB t ops pl st=true then (some (rp t.s.ops.length ops pl,uw t.s.ops.length ops st),false) else (s,true)
def HD (t:Ty) (ops:List Int) (s:Fo) (pl:List Int):Fo×Bool:=if pg pl=true then fw (HC t ops pl) (jl (dC 1 3) ops.length) s else (s,true)
def N0 (t:Ty) (ops:List Int):Fo:=(fw (HD t ops) (jl (dC 0 ops.length) ops.length) none).1
theorem N1 (t:Ty) (ops:List Int):zL t ops=N0 t ops:=by
 have h1:dL t ops=HC t ops:=by funext pl s st;unfold dL HC;rw [KG]
 have h2:fN t ops=HD t ops:=by funext s pl;unfold fN HD;rw [h1]
 unfold zL N0;rw [h2]
def gG:List Int:=[0,0,1]
def ol:List Int:=[1,1,1]
def stM:List Int:=[1,1,3]
def Fc:List Int:=[0,0,0]
theorem Wn:yC gF gG ol [cK.a,cK.b]=0:=by kernel_rfl
theorem aa2:yC gF gG ol [cK.b,cK.a]=0:=by kernel_rfl
theorem gr1:Fb gG ol cK.a cK.b=true:=by kernel_rfl
theorem gr2:Fb gG ol cK.b cK.a=false:=by kernel_rfl
theorem aeX:yC gF gG stM [oT 2 [vT 0,vT 1],oT 2 [vT 1,vT 0]]=0:=by kernel_rfl
theorem aeY:yC gF gG ol [oT 2 [vT 0,vT 1],oT 2 [vT 1,vT 0]]=0:=by kernel_rfl
theorem eq1:I1 gG stM (oT 2 [vT 0,vT 1]) (oT 2 [vT 1,vT 0])=true:=by kernel_rfl
theorem eq2:I1 gG ol (oT 2 [vT 0,vT 1]) (oT 2 [vT 1,vT 0])=false:=by kernel_rfl
theorem aeZ:yB gF gG ol=0:=by kernel_rfl
theorem ae0:yB gF Fc ol=0:=by kernel_rfl
theorem aa3:yD df gG ol=-1:=by kernel_rfl
theorem aa4:yD df Fc ol=1:=by kernel_rfl
theorem ae1:N0 df [0,1,2]=some (gG,ol):=by kernel_rfl
def A9:List T:=[oT 1 [oT 0 []],vT 0,oT 0 [],oT 2 [oT 0 [],oT 0 []]]
theorem ae2:yC gF gG ol A9=0:=by kernel_rfl
theorem ae3:yW (Fb gG ol) 4 A9=[vT 0,oT 0 [],oT 1 [oT 0 []],oT 2 [oT 0 [],oT 0 []]]:=by kernel_rfl
theorem sW:CM df:=by
 refine ⟨by decide,fun e he ps hp=>?_⟩
 have hp3:ps.length=3:=hp
 have key:∀ e∈df.es,e.cs.length≤1000∧(∀ t∈e.a::e.rest,t.tree=true)∧∀ t∈e.a::e.rest,E9 3 t=true:=by
  intro e he
  have h:(df.es.all fun e=>decide (e.cs.length≤1000) && ((e.a::e.rest).all (fun t=>t.tree) && (e.a::e.rest).all fun t=>E9 3 t))=true:=by kernel_rfl
  have:=abF.1 h e he
  simp only [Ot,decide_eq_true_eq,abF] at this
  exact this
 obtain ⟨k1,k2,k3⟩:=key e he
 exact ⟨k1,k2,fun t ht=>by rw [hp3];exact I0 (k3 t ht)⟩
end Go.aK
end
section
set_option maxRecDepth 100000
namespace Go.aK
open Go Go.Proofs Go.eI
theorem ae4 (n:Int) (o:Nat) (xs:List AV) (φ:AV→Prop):cH [.int .i64 0,.int .i64 0,.ag] [(0,1,.int .i64 2),(1,1,.int .i64 n),(2,1,.al o xs)] φ=φ (.agg [.int .i64 2,.int .i64 n,.al 0 xs]):=by
 simp only [cH,iB,eq_iff_iff]
 exact ⟨fun h=>h.2.2.2.2.2.2.2.2.2,fun h=>⟨rfl,rfl,by simp,rfl,rfl,by simp [ah,AV.cells],rfl,rfl,by simp [ah,AV.cells],h⟩⟩
theorem aa5 (n:Int) (φ:AV→Prop):cH [.int .i64 0,.int .i64 0,.ag] [(0,1,.int .i64 2),(1,1,.int .i64 n),(2,1,.ag)] φ=φ (.agg [.int .i64 2,.int .i64 n,.ag]):=by
 simp only [cH,iB,eq_iff_iff]
 exact ⟨fun h=>h.2.2.2.2.2.2.2.2.2,fun h=>⟨rfl,rfl,by simp,rfl,rfl,by simp [ah,AV.cells],rfl,rfl,by simp [ah,AV.cells],h⟩⟩
theorem ae5 (a b c d e f:Int) (o o':Nat) (φ:AV→Prop):cH [.ag,.ag] [(0,1,.al o [.int .i64 a,.int .i64 b,.int .i64 c]),(1,1,.al o' [.int .i64 d,.int .i64 e,.int .i64 f])] φ=φ (dV [a,b,c] [d,e,f]):=by
 simp only [cH,iB,eq_iff_iff]
 exact ⟨fun h=>h.2.2.2.2.2.2,fun h=>⟨rfl,rfl,by simp,rfl,rfl,by simp [ah,AV.cells],h⟩⟩
theorem N2 (t:T):a7 t.av=t.av:=by cases t;rfl
theorem bs4 (a b c d:T) (φ:List AV→Prop):bw (List.replicate 4 (a7 (.agg [.int .i64 0,.int .i64 0,.ag]))) 3 [(0,a.av),(1,b.av),(2,c.av),(3,d.av)] φ=φ [a.av,b.av,c.av,d.av]:=by
 have hv:∀ t:T,t.av.val=true:=fun t=>by cases t;rfl
 have hl:∀ t:T,t.av.cells.length=3:=fun t=>(yz t).len
 simp only [bw,N2,hv,hl,List.replicate,List.set,List.length_cons,List.length_nil,eq_iff_iff]
 constructor
 ·intro h;simpa using h
 ·intro h;simpa using h
theorem N3 (n:Int):Pure Tryz.prog 59 [.int .i64 n] (vT n).av:=by
 refine fun H=>k59.2.calls rfl ?_
 simp only [k59,aG]
 simp +contextual only [sZ,Nat.reduceEqDiff,Nat.reduceAdd,↓reduceIte,reduceCtorEq]
 exact vv rfl rfl
theorem c65 (n:Int) (l:List T):Pure Tryz.prog 65 [.int .i64 n,.al 0 (cJ l)] (oT n l).av:=by
 refine fun H=>WT.2.calls rfl ?_
 simp only [WT,aG]
 simp +contextual only [ae4,sZ,Nat.reduceEqDiff,Nat.reduceAdd,↓reduceIte,reduceCtorEq]
 exact vv (by simp [tT,bP,c9,ji,bW,dq]) rfl
theorem Rz (n:Int):Pure Tryz.prog 65 [.int .i64 n,.ag] (oT n []).av:=by
 refine fun H=>WT.2.calls rfl ?_
 simp only [WT,aG]
 simp +contextual only [aa5,sZ,Nat.reduceEqDiff,Nat.reduceAdd,↓reduceIte,reduceCtorEq]
 exact vv rfl rfl
theorem N4 (t:T) (φ:AV→Prop):ap 1 none (.ai t.av) φ=φ (.ai (.int .i64 t.n)):=by cases t;simp [ap,T.av,apart,AV.cells,AV.one,T.n]
theorem aa6 (o:Nat) (a b c d:T):(∀ (own:Nat) (xs:List AV),AV.al o [a.av,b.av,c.av,d.av]=AV.al own xs→∀ z∈xs,z.cells.length=3)=True:=by
 simp only [eq_iff_iff,iff_true]
 intro own xs e z hz
 cases e
 have:z=a.av∨z=b.av∨z=c.av∨z=d.av:=by simpa using hz
 rcases this with rfl | rfl | rfl | rfl <;> exact (yz _).len
theorem ix4 (o:Nat) (a b c d:AV) (φ:AV→Prop):aC 3 (.al o [a,b,c,d]) (.int .i64 0) φ=φ (.ai a)∧aC 3 (.al o [a,b,c,d]) (.int .i64 1) φ=φ (.ai b)∧aC 3 (.al o [a,b,c,d]) (.int .i64 2) φ=φ (.ai c)∧aC 3 (.al o [a,b,c,d]) (.int .i64 3) φ=φ (.ai d):=by
 simp [aC]
theorem sg1:Pure Tryz.prog 20 [df.s.av,dV [0,0,1] [1,1,1],cK.a.av,cK.b.av] (.tuple [.bool true,.int .i64 0]):=by
 have:=c20 gF gG ol cK.a cK.b
 rw [jJ,Wn,if_pos rfl,CR,gr1] at this
 exact this
theorem sg2:Pure Tryz.prog 20 [df.s.av,dV [0,0,1] [1,1,1],cK.b.av,cK.a.av] (.tuple [.bool false,.int .i64 0]):=by
 have:=c20 gF gG ol cK.b cK.a
 rw [jJ,aa2,if_pos rfl,CR,gr2] at this
 exact this
theorem p1 (H:List aa):ax Tryz.prog 27 [df.s.av,dV [0,0,1] [1,1,1],cK.a.av,cK.b.av] H fun r H'=>(∃ p,Sh (b9 gG ol) p cK.a cK.b∧r=.tuple [dA p,.bool true,.int .i64 0])∧H'=H:=by
 refine (c27 gF gG ol cK.a cK.b H).mono ?_
 rintro r H' ⟨h,rfl⟩
 refine ⟨?_,rfl⟩
 rcases h with ⟨h,_⟩ | ⟨_,h,_⟩ | ⟨_,h⟩
 ·rw [jJ,Wn] at h;exact absurd rfl h
 ·exact absurd (CQ.1 gr1) h
 ·exact h
theorem v1 {p:PP} (hp:Sh (b9 gG ol) p cK.a cK.b):Pure Tryz.prog 28 [df.s.av,dV [0,0,1] [1,1,1],cK.a.av,cK.b.av,dA p] (.int .i64 0):=by
 have:=c28 gF gG ol cK.a cK.b p
 have e:sS gF gG ol cK.a cK.b p=0:=by unfold sS;rw [if_pos (by rw [jJ,Wn]),if_pos hp]
 rw [e] at this
 exact this
theorem v2 (p:PP):Pure Tryz.prog 28 [df.s.av,dV [0,0,1] [1,1,1],cK.b.av,cK.a.av,dA p] (.int .i64 61):=by
 have:=c28 gF gG ol cK.b cK.a p
 have hn:¬ Sh (b9 gG ol) p cK.b cK.a:=fun h=>by
  have:=CQ.2 h.gt
  rw [gr2] at this;cases this
 have e:sS gF gG ol cK.b cK.a p=61:=by unfold sS;rw [if_pos (by rw [jJ,aa2]),if_neg hn]
 rw [e] at this
 exact this
theorem q1:Pure Tryz.prog 22 [df.s.av,dV [0,0,1] [1,1,3],(oT 2 [vT 0,vT 1]).av,(oT 2 [vT 1,vT 0]).av] (.tuple [.bool true,.int .i64 0]):=by
 have:=c22 gF gG stM (oT 2 [vT 0,vT 1]) (oT 2 [vT 1,vT 0])
 rw [jJ,aeX,if_pos rfl,I2,eq1] at this
 exact this
theorem q2:Pure Tryz.prog 22 [df.s.av,dV [0,0,1] [1,1,1],(oT 2 [vT 0,vT 1]).av,(oT 2 [vT 1,vT 0]).av] (.tuple [.bool false,.int .i64 0]):=by
 have:=c22 gF gG ol (oT 2 [vT 0,vT 1]) (oT 2 [vT 1,vT 0])
 rw [jJ,aeY,if_pos rfl,I2,eq2] at this
 exact this
theorem ae6:rq 0 df gG ol=(0,false,0):=by
 unfold rq
 rw [if_neg (by simp),sV,if_neg (by rw [show df.s=gF from rfl,aeZ];simp),uy,aa3];rfl
theorem aa7:rq 0 df Fc ol=(1,true,0):=by
 unfold rq
 rw [if_neg (by simp),sV,if_neg (by rw [show df.s=gF from rfl,ae0];simp),uy,aa4];rfl
theorem k1:Pure Tryz.prog 33 [df.av,dV [0,0,1] [1,1,1]] (.int .i64 0):=by
 have:=c33 CO (fun _=>sW) gG ol
 rw [Ry,ae6] at this
 exact this
theorem k2:Pure Tryz.prog 33 [df.av,dV [0,0,0] [1,1,1]] (.int .i64 60):=by
 have:=c33 CO (fun _=>sW) Fc ol
 rw [Ry,aa7] at this
 exact this
theorem bl1:Pure Tryz.prog 31 [df.av,dV [0,0,0] [1,1,1]] (.tuple [.int .i64 1,.bool true,.int .i64 0]):=by
 have:=c31 CO (fun _=>sW) Fc ol
 rw [aa7] at this
 exact this
theorem fi1:Pure Tryz.prog 35 [df.av] (.tuple [dV [0,0,1] [1,1,1],.bool true,.int .i64 0]):=by
 have:=c35 (ops:=[0,1,2]) CO (fun _=>Wl) (fun _=>sW) (fun _ i hi=>by
  have h:i=0∨i=1∨i=2:=by simpa using hi
  have e:df.s.ops.length=3:=rfl
  rw [e];omega) (by decide)
 have e:NV 0 df [0,1,2]=(some (gG,ol),0):=by
  unfold NV
  rw [if_neg (by simp),if_neg (by decide),N1,ae1]
 rw [e] at this
 exact this
def aa8:List T:=[vT 0,oT 0 [],oT 1 [oT 0 []],oT 2 [oT 0 [],oT 0 []]]
theorem so1:Pure Tryz.prog 37 [df.s.av,dV [0,0,1] [1,1,1],.al 0 (cJ A9)] (.tuple [.al 0 (cJ aa8),.int .i64 0]):=by
 have:=c37 gF gG ol A9 (by decide)
 have hg:ES gG ol=Fb gG ol:=by funext a b;exact CR _ _ _ _
 have e:zO gF gG ol A9=(aa8,0):=by
  unfold zO
  rw [if_pos (by rw [jJ,ae2]),if_neg (by decide),hg,show A9.length=4 from rfl,ae3]
  rfl
 rw [e] at this
 exact this
theorem c17:Pure Tryz.prog 17 [] (.bool true):=by
 refine fun H=>k17.2.calls rfl ?_
 simp only [k17,aG]
 simp +contextual only [sZ]
 refine ae c64 ?_
 have o01:Pure Tryz.prog 65 [.int .i64 2,.al 0 [(vT 0).av,(vT 1).av]] (oT 2 [vT 0,vT 1]).av:=c65 2 [vT 0,vT 1]
 have o10:Pure Tryz.prog 65 [.int .i64 2,.al 0 [(vT 1).av,(vT 0).av]] (oT 2 [vT 1,vT 0]).av:=c65 2 [vT 1,vT 0]
 have o00:Pure Tryz.prog 65 [.int .i64 2,.al 0 [(oT 0 []).av,(oT 0 []).av]] (oT 2 [oT 0 [],oT 0 []]).av:=c65 2 [oT 0 [],oT 0 []]
 have o1:Pure Tryz.prog 65 [.int .i64 1,.al 0 [(oT 0 []).av]] (oT 1 [oT 0 []]).av:=c65 1 [oT 0 []]
 have so2:Pure Tryz.prog 37 [df.s.av,dV [0,0,1] [1,1,1],.al 0 [(oT 1 [oT 0 []]).av,(vT 0).av,(oT 0 []).av,(oT 2 [oT 0 [],oT 0 []]).av]] (.tuple [.al 0 [(vT 0).av,(oT 0 []).av,(oT 1 [oT 0 []]).av,(oT 2 [oT 0 [],oT 0 []]).av],.int .i64 0]):=so1
 have ae7:Pure Tryz.prog 66 [.al 0 (ints [0,0,1]),.al 0 (ints [0,0,1])] (.bool true):=c66 (a:=[0,0,1]) (b:=[0,0,1]) (.inr rfl) (.inr rfl) (by decide) (by decide)
 have ae8:Pure Tryz.prog 66 [.al 0 (ints [1,1,1]),.al 0 (ints [1,1,1])] (.bool true):=c66 (a:=[1,1,1]) (b:=[1,1,1]) (.inr rfl) (.inr rfl) (by decide) (by decide)
 have i40:=fun o a b c d φ=>(ix4 o a b c d φ).1
 have i41:=fun o a b c d φ=>(ix4 o a b c d φ).2.1
 have i42:=fun o a b c d φ=>(ix4 o a b c d φ).2.2.1
 have i43:=fun o a b c d φ=>(ix4 o a b c d φ).2.2.2
 have n1:((vT 0).k=1)=True:=eq_true rfl
 have n2:((oT 0 []).n=0)=True:=eq_true rfl
 have n3:((oT 1 [oT 0 []]).n=1)=True:=eq_true rfl
 have n4:((oT 2 [oT 0 [],oT 0 []]).n=2)=True:=eq_true rfl
 have f44:(((4:Nat):Int)=4)=True:=eq_true rfl
 obtain ⟨e1,e2,e3,e4,e5,e6⟩:=Ty.facts df
 obtain ⟨a1,a2,a3,a4,a5,a6⟩:=aQ [0,0,1] [1,1,1]
 obtain ⟨b1,b2,b3,b4,b5,b6⟩:=aQ [0,0,1] [1,1,3]
 obtain ⟨c1,c2,c3,c4,c5,c6⟩:=aQ [0,0,0] [1,1,1]
 have ix:∀ φ,aC 8 (.al 0 (v7 df.es)) (.int .i64 1) φ=φ (.ai cK.av):=by
  intro φ
  have:=idx_eq 8 0 df.es .i64 1 φ
  rw [show ((1:Nat):Int)=1 from rfl] at this
  rw [this]
  exact propext ⟨fun h=>h.2,fun h=>⟨by decide,h⟩⟩
 have su:df.s.av.ab=df.s.av:=rfl
 simp +contextual only [e1,e2,e3,ae5,a1,a2,a3,a4,b1,b2,b3,c1,c2,c3,bm,NF,fY2,ix,feA,feB,sP,IQ,su,sZ,Nat.reduceEqDiff,Nat.reduceAdd,↓reduceIte]
 refine ⟨ae sg1 ?_,ae sg1 ?_⟩
 all_goals
  simp +contextual only [a4,bm,NF,sP,su,sZ,Nat.reduceEqDiff,Nat.reduceAdd,Nat.reduceLT,↓reduceIte]
  refine ae sg2 ?_
  simp +contextual only [a4,bm,NF,sP,su,sZ,Nat.reduceEqDiff,Nat.reduceAdd,Nat.reduceLT,↓reduceIte]
  refine af (p1 _) ?_
  rintro r H' ⟨⟨p,hp,rfl⟩,rfl⟩
  obtain ⟨r1,r2,r3,r4,r5,r6,r7,r8,r9⟩:=aH p
  simp +contextual only [a4,bm,NF,sP,su,r1,r2,r3,r4,eL,sZ,Nat.reduceEqDiff,Nat.reduceAdd,Nat.reduceLT,↓reduceIte]
  refine ae (v1 hp) ?_
  simp +contextual only [a4,bm,NF,sP,su,r4,eL,sZ,Nat.reduceEqDiff,Nat.reduceAdd,↓reduceIte]
  refine ae (v2 p) ?_
  simp +contextual only [sZ,Nat.reduceEqDiff,↓reduceIte]
  refine ay (N3 0) ?_
  simp +contextual only [sZ]
  refine ay (N3 1) ?_
  simp +contextual only [sZ,Nat.reduceEqDiff,↓reduceIte]
  refine ay (o01) ?_
  simp +contextual only [sZ]
  refine ay (N3 1) ?_
  simp +contextual only [sZ]
  refine ay (N3 0) ?_
  simp +contextual only [sZ,Nat.reduceEqDiff,↓reduceIte]
  refine ay (o10) ?_
  simp +contextual only [b4,bm,NF,sP,su,sZ,Nat.reduceEqDiff,↓reduceIte]
  refine ay (q1) ?_
  simp +contextual only [sZ,Nat.reduceEqDiff,Nat.reduceAdd,Nat.reduceLT,↓reduceIte]
  refine ay (N3 0) ?_
  simp +contextual only [sZ]
  refine ay (N3 1) ?_
  simp +contextual only [sZ,Nat.reduceEqDiff,↓reduceIte]
  refine ay (o01) ?_
  simp +contextual only [sZ]
  refine ay (N3 1) ?_
  simp +contextual only [sZ]
  refine ay (N3 0) ?_
  simp +contextual only [sZ,Nat.reduceEqDiff,↓reduceIte]
  refine ay (o10) ?_
  simp +contextual only [a4,bm,NF,sP,su,sZ,Nat.reduceEqDiff,↓reduceIte]
  refine ay (q2) ?_
  simp +contextual only [e4,nX,a4,bm,sZ,Nat.reduceEqDiff,Nat.reduceAdd,Nat.reduceLT,↓reduceIte]
  refine ae (k1) ?_
  simp +contextual only [e4,nX,c4,bm,sZ,Nat.reduceEqDiff,Nat.reduceAdd,↓reduceIte]
  refine ae (k2) ?_
  simp +contextual only [e4,nX,c4,bm,sZ,Nat.reduceEqDiff,Nat.reduceAdd,↓reduceIte]
  refine ae (bl1) ?_
  simp +contextual only [e4,nX,sZ,Nat.reduceEqDiff,Nat.reduceAdd,Nat.reduceLT,↓reduceIte]
  refine ae (fi1) ?_
  simp +contextual only [a1,a2,a3,a4,sR,sZ,Nat.reduceEqDiff,Nat.reduceAdd,Nat.reduceLT,↓reduceIte]
  refine ae (ae7) ?_
  simp +contextual only [qh,sZ,Nat.reduceEqDiff,Nat.reduceAdd,↓reduceIte]
  refine ae (ae8) ?_
  simp +contextual only [sZ,Nat.reduceEqDiff,↓reduceIte]
  refine ay (Rz 0) ?_
  simp +contextual only [sZ,↓reduceIte]
  refine ay (o1) ?_
  simp +contextual only [sZ]
  refine ay (N3 0) ?_
  simp +contextual only [sZ]
  refine ay (Rz 0) ?_
  simp +contextual only [sZ]
  refine ay (Rz 0) ?_
  simp +contextual only [sZ]
  refine ay (Rz 0) ?_
  simp +contextual only [sZ,Nat.reduceEqDiff,↓reduceIte]
  refine ay (o00) ?_
  simp +contextual only [a4,bm,NF,sP,su,bs4,sZ,Nat.reduceEqDiff,↓reduceIte]
  refine ay (so2) ?_
  simp +contextual only [II,N4,aa6,i40,i41,i42,i43,f44,n1,n2,n3,n4,decide_true,sZ,Nat.reduceEqDiff,Nat.reduceAdd,Nat.reduceLT,↓reduceIte,reduceCtorEq]
  exact aX H.length (rC _) rfl ⟨rfl,by simp⟩
end Go.aK
end
section
set_option maxRecDepth 100000
namespace Go.aK
open Go Go.Proofs Go.eI
def KH (S:List aa→Prop) (r:AV) (H':List aa):Prop:=(∃ b,r=.bool b)∧S H'
theorem zP {S:List aa→Prop} (hl:tf S) {s:Nat} {b:Bool} {H H':List aa} (hS:S H) (ZX:S H'):bV H.length [.t s] [(s,.bool b)] H' (KH S):=by
 refine aX H.length (rC _) (by rw [aA,if_pos rfl];rfl) ?_
 rw [aA,if_pos rfl,aaw (by rw [hl H H' hS ZX];exact rC _)]
 exact ⟨⟨b,rfl⟩,ZX⟩
theorem aa9 {S:List aa→Prop} (hS:tf S) (g:Nat) (cc:List AV) (cp:cc.map AV.ab=cc) (l:List T) (hf:∀ x∈l,∀ H,S H→ax Tryz.prog g ([x.av]++cc) H (KH S)) {H:List aa} (hH:S H) :
 ax Tryz.prog 114 [.al 0 (cJ l),.fn (.func g) [] cc] H fun r H'=>(∃ n,r=.int .i64 n)∧S H':=by
 refine DW.2.calls rfl ?_
 simp only [DW,aG]
 simp +contextual only [sZ,Nat.reduceEqDiff,Nat.reduceAdd,↓reduceIte,reduceCtorEq]
 intro hl
 have fin:∀ (n:Int) (G:List aa),S G→bV H.length [.t 4] [(4,.int .i64 n)] G fun r H'=>(∃ n,r=.int .i64 n)∧S H':=by
  intro n G hG
  refine aX H.length (rC _) (by rw [aA,if_pos rfl];rfl) ?_
  rw [aA,if_pos rfl,aaw (by rw [hS H G hH hG];exact rC _)]
  exact ⟨⟨n,rfl⟩,hG⟩
 refine aJ l.length (fun i (G:List aa)=>S G) (fun i G=>[(0,.al 0 (cJ l)),(1,.fn (.func g) [] cc),(7,.int .i64 l.length),(8,.int .i64 i)]) (fun i G=>G) H ⟨hH,aB _ _ _⟩ fun i G hi hG=>?_
 simp +contextual only [cp,sZ,Nat.reduceEqDiff,Nat.reduceAdd,↓reduceIte,reduceCtorEq]
 refine ⟨fun aS=>?_,fun jw=>?_⟩
 ·have aS:=bN aS
  refine ⟨aS,af (hf _ (fa aS) G hG) ?_⟩
  rintro r G' ⟨⟨b,rfl⟩,eR⟩
  cases b with
  | true=>simp +contextual only [sZ,Nat.reduceEqDiff,↓reduceIte,reduceCtorEq];exact fin _ _ eR
  | false=>simp +contextual only [sZ,Nat.reduceEqDiff,↓reduceIte,reduceCtorEq];exact ⟨i + 1,G',⟨aS,eR⟩,by omega,aE (by rw [au i (by omega)]) rfl⟩
 ·exact fin _ _ hG
theorem aba {S:List aa→Prop} (hS:tf S) (g:Nat) (cc:List AV) (cp:cc.map AV.ab=cc) (l:List T) (hf:∀ x∈l,∀ H,S H→ax Tryz.prog g ([x.av]++cc) H (KH S)) {H:List aa} (hH:S H) :
 ax Tryz.prog 53 [.al 0 (cJ l),.fn (.func g) [] cc] H (KH S):=by
 refine Sd.2.calls rfl ?_
 simp only [Sd,aG]
 simp +contextual only [sZ,Nat.reduceEqDiff,Nat.reduceAdd,↓reduceIte,reduceCtorEq]
 refine af (aa9 hS g cc cp l hf hH) ?_
 rintro r G ⟨⟨n,rfl⟩,hG⟩
 simp +contextual only [sZ,↓reduceIte,reduceCtorEq]
 exact zP hS hH hG
structure Fw (q q2:Nat) (H0 H:List aa):Prop where
 len:H.length=H0.length
 cnt:∃ n,H[q]?=some (.cells [.int .i64 n])
 fn:H[q2]?=some (.cells [.fn (.func 71) [] [.ptr q 0,.ptr q2 0]])
 get:∀ j,j≠q→H[j]?=H0[j]?
theorem Fw.tf (q q2:Nat) (H0:List aa):Go.aK.tf (Fw q q2 H0):=fun H H' h h'=>h'.len.trans h.len.symm
theorem Fw.set {q q2:Nat} {H0 H:List aa} (h:Fw q q2 H0 H) (hn:q≠q2) (n:Int):Fw q q2 H0 (H.set q (.cells [.int .i64 n])):=by
 obtain ⟨m,hm⟩:=h.cnt
 exact ⟨by simp [h.len],⟨n,yS (aR hm)⟩,by rw [yQ hn];exact h.fn,fun j hj=>by rw [yQ (Ne.symm hj)];exact h.get j hj⟩
theorem c71 {q q2:Nat} (hn:q≠q2) {H0:List aa}:∀ (N:Nat) (t:T),wt t≤N→∀ (d:Int) (H:List aa),Fw q q2 H0 H→ax Tryz.prog 71 [t.av,.int .i64 d,.ptr q 0,.ptr q2 0] H (KH (Fw q q2 H0)):=by
 intro N
 induction N with
 | zero=>intro t h;have:=dH t;omega
 | succ N ih=>
   intro t hw d H hH
   refine k71.2.calls rfl ?_
   simp only [k71,aG]
   have hwe:=xZ t
   obtain ⟨m,hm⟩:=hH.cnt
   have gr:∀ o,(H.set q o)[q]?=some o:=fun o=>yS (aR hm)
   simp +contextual only [hm,gr,sZ,Nat.reduceEqDiff,Nat.reduceAdd,Nat.reduceLT,↓reduceIte,reduceCtorEq]
   have c72:∀ x∈t.l,∀ H,Fw q q2 H0 H→ax Tryz.prog 72 ([x.av]++[.ptr q2 0,.ai (.int .i64 d)]) H (KH (Fw q q2 H0)):=by
    intro x hx H hH
    refine k72.2.calls rfl ?_
    simp only [k72,aG,List.cons_append,List.nil_append]
    have hfn:=hH.fn
    simp +contextual only [hfn,sZ,Nat.reduceEqDiff,Nat.reduceAdd,Nat.reduceLT,↓reduceIte,reduceCtorEq]
    refine af (ih x (by have:=cR hx;omega) _ H hH) ?_
    rintro r G ⟨⟨b,rfl⟩,hG⟩
    simp +contextual only [sZ,↓reduceIte,reduceCtorEq]
    exact zP (Fw.tf q q2 H0) hH hG
   refine ⟨fun _=>⟨fun _=>af (aba (Fw.tf q q2 H0) 72 [.ptr q2 0,.ai (.int .i64 d)] rfl t.l c72 (hH.set hn _)) ?_,fun _=>zP (Fw.tf q q2 H0) hH (hH.set hn _)⟩,fun _=>zP (Fw.tf q q2 H0) hH (hH.set hn _)⟩
   rintro r G ⟨⟨b,rfl⟩,hG⟩
   simp +contextual only [sZ,Nat.reduceEqDiff,↓reduceIte,reduceCtorEq]
   exact zP (Fw.tf q q2 H0) hH hG
theorem c19 (n:Int) (l:List T) (H:List aa):ax Tryz.prog 19 [.int .i64 n,.al 0 (cJ l)] H fun r H'=>(∃ b,r=.bool b)∧H'=H:=by
 refine k19.2.calls rfl ?_
 simp only [k19,aG]
 have sp1:∀ (x y:AV),ah [x] 0 [y]=[y]:=fun _ _=>rfl
 simp +contextual only [sZ,Nat.reduceEqDiff,Nat.reduceAdd,↓reduceIte,reduceCtorEq]
 obtain ⟨H0,eH0⟩:∃ H0,H0=H++[aa.cells [AV.int .i64 n],.cells [.fn (.func 71) [] [.ptr H.length 0,.ptr (H.length + 1) 0]]]:=⟨_,rfl⟩
 have hF:Fw H.length (H.length + 1) H0 H0:=⟨rfl,⟨n,by rw [eH0];simp⟩,by rw [eH0];simp,fun _ _=>rfl⟩
 rw [← eH0]
 have Dd:H0.length=H.length + 2:=by rw [eH0];simp
 have XE:H0.take H.length=H:=by rw [eH0];simp
 have c73:∀ x∈l,∀ G,Fw H.length (H.length + 1) H0 G→ax Tryz.prog 73 ([x.av]++[.ptr (H.length + 1) 0]) G (KH (Fw H.length (H.length + 1) H0)):=by
  intro x hx G hG
  refine k73.2.calls rfl ?_
  simp only [k73,aG,List.cons_append,List.nil_append]
  have hfn:=hG.fn
  simp +contextual only [hfn,sZ,Nat.reduceEqDiff,Nat.reduceAdd,Nat.reduceLT,↓reduceIte,reduceCtorEq]
  refine af (c71 (by omega) _ x (rC _) _ G hG) ?_
  rintro r G' ⟨⟨b,rfl⟩,eR⟩
  simp +contextual only [sZ,↓reduceIte,reduceCtorEq]
  exact zP (Fw.tf _ _ H0) hG eR
 refine ⟨by simp;omega,af (aba (Fw.tf _ _ H0) 73 [.ptr (H.length + 1) 0] rfl l c73 hF) ?_⟩
 rintro r G ⟨⟨b,rfl⟩,hG⟩
 simp +contextual only [sZ,↓reduceIte,reduceCtorEq]
 refine aX H.length (rC _) (by rw [aA,if_pos rfl];rfl) ?_
 rw [aA,if_pos rfl]
 refine ⟨⟨!b,rfl⟩,?_⟩
 refine Eq.trans ?_ XE
 apply abU
 intro j
 rw [aax,aax]
 by_cases hj:j < H.length
 ·rw [if_pos hj,if_pos hj];exact hG.get j (by omega)
 ·rw [if_neg hj,if_neg hj]
end Go.aK
end
