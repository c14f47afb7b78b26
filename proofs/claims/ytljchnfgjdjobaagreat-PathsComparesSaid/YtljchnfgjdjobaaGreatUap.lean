/- Part 16 of 19 of the proof. -/
import Derived.Test.YtljchnfgjdjobaaGreatUam
import Derived.Test.YtljchnfgjdjobaaGreatUao
import Derived.Test.YtljchnfgjdjobaaGreatUag
import Derived.KernelRfl
import Derived.Test.YtljchnfgjdjobaaGreatUai
import Derived.Test.YtljchnfgjdjobaaGreatUah
import Derived.Test.YtljchnfgjdjobaaGreatUak
set_option linter.unusedVariables false
set_option linter.unusedSimpArgs false
set_option linter.defProp false
set_option linter.unusedSectionVars false
section
set_option maxRecDepth 100000
namespace Go.aI
open Go Go.Proofs Go.eJ
def uH (z:AV) (kp:Nat→Prop) (v:AV) (xs:List AV) (G:List aa):Prop:=
 (xs=[]∧v=.ag)∨∃ id cap,¬ kp id∧v=.aW id 0 xs.length cap∧G[id]?=some (bw z xs cap)∧xs.length≤cap∧xs≠[]
section
variable {z:AV} {kp:Nat→Prop} {v:AV} {xs:List AV} {G:List aa}
theorem uH.one (h:uH z kp v xs G):v.one=true∧v.val=true∧v.ab=v∧v.cells=[v]:=by
 rcases h with ⟨_,rfl⟩ | ⟨id,cap,_,rfl,_⟩ <;> exact ⟨rfl,rfl,rfl,rfl⟩
theorem uH.a9 (h:uH z kp v xs G) {n:Nat} (hn:G.length≤n):v.a9 n=true:=by
 rcases h with ⟨_,rfl⟩ | ⟨id,cap,_,rfl,c,_⟩
 ·rfl
 ·have:=(aaz.1 c).1
  rw [ft];simp;omega
theorem uH.len (h:uH z kp v xs G) {H:List aa} (φ:AV→Prop):eU v H φ=φ (.int .i64 xs.length):=by
 rcases h with ⟨rfl,rfl⟩ | ⟨id,cap,_,rfl,_⟩ <;> rfl
theorem uH.aL (h:uH z kp v xs G):aL 1 v=True:=by
 rcases h with ⟨_,rfl⟩ | ⟨id,cap,_,rfl,_⟩ <;> rfl
theorem uH.set (h:uH z kp v xs G) {j:Nat} (hj:∀ l c,v≠.aW j 0 l c) (o:aa):uH z kp v xs (G.set j o):=by
 rcases h with h | ⟨id,cap,a,b,c,d⟩
 ·exact .inl h
 ·exact .inr ⟨id,cap,a,b,by rw [tL (fun e=>hj _ _ (by rw [e];exact b))];exact c,d⟩
end
theorem Ag {esz bytes:Nat} {z:AV} (hz:jF esz (bP z)) {kp:Nat→Prop} {v:AV} {xs:List AV} {G:List aa} (h:uH z kp v xs G) (fS:∀ x∈xs,jF esz x) (o:Nat) (ys:List AV) (hy:ys≠[]) (qR:∀ x∈ys,jF esz x)
 (hb:(xs.length + ys.length) * bytes≤140737488355328) (hG:∀ j,kp j→j < G.length) {K:AV→List aa→Prop}
 (hK:∀ v' G',uH z kp v' (xs++ys) G'→(∀ j,kp j→G'[j]?=G[j]?)→G.length≤G'.length→K v' G'):cS esz bytes z v (.ap o ys) G K:=by
 have nC:¬ kp G.length:=fun h=>aca _ (hG _ h)
 have jt:qP esz ys:=fun y hy=>⟨(qR y hy).len,(qR y hy).one⟩
 obtain ⟨f1,f2,f3,f4⟩:=jF.flat qR
 obtain ⟨g1,g2,g3,g4⟩:=jF.flat fS
 have vi:=rP hz
 have lB:∀ n m,aj n (cP z m)=true:=fun n m=>(jF.flat (kA hz m)).2.2.1 n
 unfold cS
 simp only [dn]
 refine ⟨jt,?_⟩
 rcases h with ⟨rfl,rfl⟩ | ⟨id,cap,bm,rfl,hg,hle,_⟩
 ·refine ⟨by simpa using hb,fun e=>absurd e hy,fun _ cap hc _=>⟨?_,hK _ _ (.inr ⟨G.length,cap,nC,by simp,?_,by simpa using hc,by simpa using hy⟩) ?_ (by simp)⟩⟩
  ·rw [f2,bI];exact ⟨f3 _,lB _ _⟩
  ·rw [f2];simp [bw]
  ·intro j hj;have:=hG j hj;rw [tK (by omega)]
 ·have vt:=(aaz.1 hg).1
  simp only [hg,bw,aap,g1,vi,aaQ,List.drop_zero]
  refine ⟨hb,hle,by rw [← aaU];exact Nat.le_of_eq (by congr 1;omega),fun hroom=>⟨by rw [f2];exact f3 _,?_⟩,fun jN dC hc _=>⟨?_,?_⟩⟩
  ·rw [f2]
   refine hK _ _ (.inr ⟨id,cap,bm,by simp,?_,by simpa using hroom,by simp [hy]⟩) ?_ (by simp)
   ·rw [tO vt,bw]
    congr 2
    unfold ah
    rw [f1,aaA (by rw [g1];exact oN _),aaw (by rw [g1];exact oN _),adw,aaF (by rw [g1];omega),g1,
     show xs.length * esz + ys.length * esz - xs.length * esz=ys.length * esz by omega,zF hz _ _ (by omega),ox,List.nil_append,aap]
    rw [show cap - xs.length - ys.length=cap - (xs.length + ys.length) by omega,aaD]
   ·intro j hj;rw [tL (fun e=>bm (by rw [e];exact hj))]
  ·rw [aaA (by rw [g1];exact oN _),aaw (by rw [g1];exact oN _),g2,f2,bI,bI];exact ⟨⟨g3 _,f3 _⟩,lB _ _⟩
  ·rw [aaA (by rw [g1];exact oN _),aaw (by rw [g1];exact oN _),g2,f2,← ox]
   refine hK _ _ (.inr ⟨G.length,dC,nC,by simp,?_,by simpa using hc,by simp [hy]⟩) ?_ (by simp)
   ·simp [bw]
   ·intro j hj;have:=hG j hj;rw [tK (by omega)]
def Vu (kp:Nat→Prop) (H:List aa) (xs:List AV) (r:AV) (H':List aa):Prop:=uH zN kp r xs H'∧(∀ j,kp j→H'[j]?=H[j]?)∧H.length≤H'.length
theorem ZK:∀ (N:Nat) (t:T),wt t≤N→∀ (kp:Nat→Prop) (v:AV) (xs:List AV) (H:List aa),uH zN kp v xs H→(∀ x∈xs,jF 4 x)→(∀ j,kp j→j < H.length)→(xs.length + wt t) * 64≤140737488355328→
 aw Tryz.prog 132 [t.av,v] H (Vu kp H (xs++eW (xl t xs.length))):=by
 intro N
 induction N with
 | zero=>intro t ht;have:=dx t;omega
 | succ N ih=>
 intro t ht kp v xs H hR fS hbase hb
 have hw:=xm t
 have YK:=gh t.l
 refine Hz.2.calls rfl ?_
 simp only [Hz,aJ]
 obtain ⟨o1,o2,o3,o4⟩:=hR.one
 simp +contextual only [o3,hR.len,hR.aL,bdN,YI,sZ,Nat.reduceEqDiff,Nat.reduceAdd,↓reduceIte,reduceCtorEq]
 refine Ag By hR fS 0 [m8 t] (by simp) (by simp [rV]) (by simp;omega) hbase fun v1 G1 UR US uV=>?_
 obtain ⟨o1',o2',o3',o4'⟩:=UR.one
 simp +contextual only [sZ]
 intro _
 have gC:∀ i,(xs++m8 t::eW (de (t.l.take i) (xs.length + 1))).length=xs.length + 1 + fw (t.l.take i):=by intro i;simp [rX,iE];omega
 have jt:∀ i,∀ x∈xs++m8 t::eW (de (t.l.take i) (xs.length + 1)),jF 4 x:=by
  intro i x hx
  rcases aaO.1 hx with hx | hx
  ·exact fS x hx
  ·rcases aan.1 hx with rfl | hx
   ·exact rV t
   ·exact kB _ x hx
 refine aM t.l.length (fun i (p:AV×List aa)=>uH zN kp p.1 (xs++m8 t::eW (de (t.l.take i) (xs.length + 1))) p.2∧(∀ j,kp j→p.2[j]?=H[j]?)∧H.length≤p.2.length)
  (fun i p=>[(1,p.1),(5,.int .i64 xs.length),(6,iK (aZ (t.l.take i) (xs.length + 1))),(17,.ap 0 (cQ t.l)),(18,.int .i64 t.l.length),(19,.int .i64 i)])
  (fun i p=>p.2) (v1,G1) ⟨⟨UR,US,uV⟩,aB _ _ _⟩ fun i p hi hI=>?_
 obtain ⟨v,G⟩:=p
 obtain ⟨hR,hG,hl⟩:=hI
 simp only at hR hG hl
 obtain ⟨o1,o2,o3,o4⟩:=hR.one
 have hle:=cN t.l i
 have E2:=cI (t.l.take i) (xs.length + 1)
 have Qf:(t.l.take i).length≤t.l.length:=by simp;omega
 simp +contextual only [o3,hR.len,hR.aL,gC,oB,(eG _).2.1,gO,sZ,Nat.reduceEqDiff,Nat.reduceAdd,↓reduceIte,reduceCtorEq]
 refine ⟨fun aX=>⟨b9 aX,by omega,?_⟩,fun jV=>?_⟩
 ·have aX:=b9 aX
  have hwt:=lZ aX
  have hnext:=cN t.l (i + 1)
  have e2:t.l.take (i + 1)=t.l.take i++[t.l.getD i default]:=by rw [aaY aX];simp [aX]
  refine af (ih (t.l.getD i default) (by have:=cH (iB aX);omega) kp v _ G hR (jt i) (fun j hj=>by have:=hbase j hj;omega) (by rw [gC];omega)) ?_
  rintro r G' ⟨yE,eH,wA⟩
  obtain ⟨o1',o2',o3',o4'⟩:=yE.one
  simp +contextual only [o3',sZ,Nat.reduceEqDiff,↓reduceIte]
  refine ⟨i + 1,(r,G'),⟨aX,?_,fun j hj=>(eH j hj).trans (hG j hj),aa1 hl wA⟩,by omega,aD ?_ rfl⟩
  ·rw [gC] at yE
   rw [e2,lY,rW,← List.cons_append,← aaD]
   exact yE
  ·rw [e2,jk,au i (by omega)]
 ·have lM:i=t.l.length:=by have:=dl jV;omega
  subst lM
  rw [aaC] at hR
  have uY:=gC t.l.length
  have F6:=jt t.l.length
  rw [aaC] at uY F6
  have gT:(xs++m8 t::eW (de t.l (xs.length + 1))).set xs.length (F5 (t,aZ t.l (xs.length + 1)))=xs++eW (xl t xs.length):=by
   rw [ac1 _ _ (oN _),ado,aey,pj];rfl
  have j5:(xs++m8 t::eW (de t.l (xs.length + 1))).getD xs.length .any=m8 t:=by simp
  generalize xs++m8 t::eW (de t.l (xs.length + 1))=ys at hR uY F6 gT j5
  rcases hR with ⟨rfl,_⟩ | ⟨id,cap,bm,rfl,hg,cE,_⟩
  ·simp at uY
   omega
  have vt:=(aaz.1 hg).1
  obtain ⟨k1,k2,k3,k4,k5⟩:=aG (aZ t.l (xs.length + 1))
  simp +contextual only [hg,lC,aaC,sZ,Nat.reduceEqDiff,↓reduceIte,reduceCtorEq]
  refine ⟨by omega,?_⟩
  refine Bt F6 (by omega) (by decide) (y:=F5 (t,aZ t.l (xs.length + 1))) k1 k4 (by rw [k2];exact k3 _) (by rw [j5,k2];rfl) ?_
  simp +contextual only [sZ,Nat.reduceEqDiff,↓reduceIte,reduceCtorEq]
  rw [gT]
  refine ba (G.length) (by omega) (by rw [aA,if_pos rfl,ft];simpa using vt) ?_
  rw [aA,if_pos rfl,aaw (by simp)]
  refine ⟨.inr ⟨id,cap,bm,?_,?_,?_,?_⟩,?_,by simpa using hl⟩
  ·rw [← gT];simp
  ·rw [tO vt]
  ·rw [← gT];simpa using cE
  ·rw [pj];simp [eW]
  ·intro j hj;rw [tL (fun e=>bm (by rw [e];exact hj))];exact hG j hj
end Go.aI
end
section
set_option maxRecDepth 100000
namespace Go.aI
open Go Go.Proofs Go.eJ
def xL (n0 id:Nat) (G:List aa):List aa:=G.mapIdx fun j o=>if j < n0 + 3∨j=id then o else .dead
theorem tC {n0 id j:Nat} {G:List aa}:(xL n0 id G)[j]?=(G[j]?).map fun o=>if j < n0 + 3∨j=id then o else .dead:=by simp [xL]
theorem Ah {n0 id:Nat} {G:List aa}:(xL n0 id G).length=G.length:=by simp [xL]
theorem Gv {n0 id:Nat} {G:List aa}:(xL n0 id G).take (n0 + 3)=G.take (n0 + 3):=by
 apply aaZ
 intro j
 rw [aax,aax]
 split
 ·rename_i hj
  rw [tC]
  cases G[j]? with
  | none=>rfl
  | some o=>simp [hj]
 ·rfl
theorem Ei {n0 id:Nat} {G:List aa} (h3:∀ (j:Nat) (o:aa),n0≤j→j < n0 + 3→G[j]?=some o→o.a9 (j + 1)=true) (bm:∀ o,G[id]?=some o→o.a9 (id + 1)=true):nu n0 G G.length (xL n0 id G):=by
 refine ⟨by rw [Ah,Nat.min_self],fun j o ho=>?_⟩
 rw [tC] at ho
 cases hg:G[j]? with
 | none=>rw [hg] at ho;cases ho
 | some o'=>
   rw [hg] at ho
   simp only [Option.map_some,Option.some.injEq] at ho
   split at ho
   ·rename_i hc
    subst ho
    refine .inr ⟨rfl,fun h=>?_⟩
    rcases hc with hc | hc
    ·exact h3 j _ h hc hg
    ·subst hc;exact bm _ hg
   ·exact .inl ho.symm
def MN (H:List aa) (ps ss:List Int) (ts:List T) (r:AV) (G:List aa):Prop:=
 ∃ va,r=.tuple [.ptr (H.length + 2) 0,va]∧G.take (H.length + 3)=H++[.map [],.map [],kC ps ss (de ts 0) H.length (H.length + 1)]∧H.length + 3≤G.length∧RO zI (H.length + 3) va (ints (aZ ts 0)) G
theorem uH.ZL {z:AV} {kp kp':Nat→Prop} {v:AV} {xs:List AV} {G G':List aa} (h:uH z kp v xs G) (hk:∀ id l c,v=.aW id 0 l c→¬ kp' id∧G'[id]?=G[id]?):uH z kp' v xs G':=by
 rcases h with h | ⟨id,cap,a,b,c,d⟩
 ·exact .inl h
 ·obtain ⟨h1,h2⟩:=hk _ _ _ b
  exact .inr ⟨id,cap,h1,b,by rw [h2];exact c,d⟩
theorem uH.ne {z:AV} {kp:Nat→Prop} {v:AV} {xs:List AV} {G:List aa} (h:uH z kp v xs G) {id l c:Nat} (e:v=.aW id 0 l c):¬ kp id:=by
 rcases h with ⟨_,rfl⟩ | ⟨id',cap,a,rfl,_⟩
 ·cases e
 ·cases e;exact a
theorem adq (ps ss:List Int) (ts:List T) (H:List aa) (hb:fw ts * 64≤140737488355328):aw Tryz.prog 75 [eD ps ss,.ap 0 (cQ ts)] H (MN H ps ss ts):=by
 refine ZJ.2.w8 rfl ?_
 simp only [ZJ,aJ,eD]
 have YK:=gh ts
 simp +contextual only [bdD,Qg,sZ,Nat.reduceEqDiff,Nat.reduceAdd,↓reduceIte,reduceCtorEq]
 refine ⟨by simp;omega,fun _=>?_⟩
 have e0:∀ (l:List aa) (x:aa),(H++x::l)[H.length]?=some x:=by simp
 refine iz ts.length (fun i (p:AV×AV×List aa)=>uH zN (fun j=>j < H.length + 3∨∃ l c,p.2.1=.aW j 0 l c) p.1 (eW (de (ts.take i) 0)) p.2.2∧uH zI (fun j=>j < H.length + 3∨∃ l c,p.1=.aW j 0 l c) p.2.1 (ints (aZ (ts.take i) 0)) p.2.2∧H.length + 3≤p.2.2.length∧
  p.2.2.take (H.length + 3)=H++[.map [],.map [],.cells [.ap 0 (ints ps),.ap 0 (ints ss),p.1,.map H.length,.map (H.length + 1)]])
  (fun i p=>[(6,.ptr (H.length + 2) 0),(7,p.2.1),(15,.ap 0 (cQ ts)),(16,.int .i64 ts.length),(17,.int .i64 i)])
  (fun i p=>p.2.2) (.ag,.ag,_) ⟨⟨.inl ⟨rfl,rfl⟩,.inl ⟨rfl,rfl⟩,by simp,?_⟩,jW _ _ _⟩ fun i p hi hI=>?_
 ·rw [aaw (by simp)]
 obtain ⟨v,va,G⟩:=p
 obtain ⟨hR,hA,hl,hG⟩:=hI
 simp only at hR hA hl hG
 obtain ⟨o1,o2,o3,o4⟩:=hR.one
 obtain ⟨p1,p2,p3,p4⟩:=hA.one
 have gget:∀ j,j < H.length + 3→G[j]?=(H++[.map [],.map [],.cells [.ap 0 (ints ps),.ap 0 (ints ss),v,.map H.length,.map (H.length + 1)]])[j]?:=by
  intro j hj;rw [← hG,aax,if_pos hj]
 have g2:G[H.length + 2]?=some (.cells [.ap 0 (ints ps),.ap 0 (ints ss),v,.map H.length,.map (H.length + 1)]):=by rw [gget _ (by omega)];simp
 have hle:=cN ts i
 have E2:=cI (ts.take i) 0
 have Qf:(ts.take i).length≤ts.length:=by simp;omega
 by_cases aX:i < ts.length
 ·have nH:((i:Int) < ts.length)=True:=eq_true (by omega)
  simp +contextual only [o3,p3,g2,hR.len,hR.aL,jX,nH,decide_true,sZ,Nat.reduceEqDiff,Nat.reduceAdd,Nat.reduceLT,↓reduceIte]
  have hwt:=lZ aX
  have hnext:=cN ts (i + 1)
  have e2:ts.take (i + 1)=ts.take i++[ts.getD i default]:=by rw [aaY aX];simp [aX]
  have arrlt:∀ {z:AV} {kp:Nat→Prop} {u:AV} {xs:List AV} {G:List aa} {j l c:Nat},uH z kp u xs G→u=.aW j 0 l c→j < G.length:=by
   intro z kp u xs G j l c h e
   rcases h with ⟨_,rfl⟩ | ⟨id',cap,_,rfl,h2,_⟩
   ·cases e
   ·cases e;exact aO h2
  refine ⟨aX,Ag Bz hA (oD _) 0 [.int .i64 (fw (ts.take i):Nat)] (by simp) (oD [_]) (by rw [ay];simp;omega) (fun j hj=>?_) fun va' G1 SN RT uV=>?_⟩
  ·rcases hj with hj | ⟨l,c,e⟩
   ·omega
   ·exact arrlt hR e
  obtain ⟨p1',p2',p3',p4'⟩:=SN.one
  have g21:G1[H.length + 2]?=some (.cells [.ap 0 (ints ps),.ap 0 (ints ss),v,.map H.length,.map (H.length + 1)]):=by rw [RT _ (.inl (by omega)),g2]
  have UR:uH zN (fun j=>j < H.length + 3∨∃ l c,va'=.aW j 0 l c) v (eW (de (ts.take i) 0)) G1:=hR.ZL fun id l c e=>by
   refine ⟨fun h=>?_,RT id (.inr ⟨l,c,e⟩)⟩
   rcases h with h | ⟨l',c',e'⟩
   ·exact hR.ne e (.inl h)
   ·exact SN.ne e' (.inr ⟨l,c,e⟩)
  simp +contextual only [o3,p3',g21,sZ,Nat.reduceEqDiff,Nat.reduceAdd,Nat.reduceLT,↓reduceIte,reduceCtorEq]
  have hc:=ZK (wt (ts.getD i default)) (ts.getD i default) (oN _) (fun j=>j < H.length + 3∨∃ l c,va'=.aW j 0 l c) v _ G1 UR (kB _) (fun j hj=>by
   rcases hj with hj | ⟨l,c,e⟩
   ·omega
   ·exact arrlt SN e) (by rw [jX];omega)
  refine af hc ?_
  rintro r G' ⟨yE,ul,wA⟩
  obtain ⟨o1',o2',o3',o4'⟩:=yE.one
  have g2':G'[H.length + 2]?=some (.cells [.ap 0 (ints ps),.ap 0 (ints ss),v,.map H.length,.map (H.length + 1)]):=by rw [ul _ (.inl (by omega)),g21]
  have dU:=yE.a9 (oN _)
  have Fj:uH zI (fun j=>j < H.length + 3∨∃ l c,r=.aW j 0 l c) va' (ints (aZ (ts.take i) 0)++[.int .i64 (fw (ts.take i):Nat)]) G':=SN.ZL fun id l c e=>by
   refine ⟨fun h=>?_,ul id (.inr ⟨l,c,e⟩)⟩
   rcases h with h | ⟨l',c',e'⟩
   ·exact SN.ne e (.inl h)
   ·exact yE.ne e' (.inr ⟨l,c,e⟩)
  have gt':G'.take (H.length + 3)=G.take (H.length + 3):=by
   apply aaZ
   intro j
   rw [aax,aax]
   split
   ·rename_i hj;rw [ul j (.inl hj),RT j (.inl hj)]
   ·rfl
  simp +contextual only [kz,o1',o2',o3',o4',g2',dU,sZ,Nat.reduceEqDiff,Nat.reduceAdd,Nat.reduceLeDiff,↓reduceIte]
  refine ⟨by omega,i + 1,(r,va',_),⟨aX,?_,?_,by simp;omega,?_⟩,by omega,rO ?_ rfl⟩
  ·have h1:=yE.set (j:=H.length + 2) (fun l c e=>yE.ne e (.inl (by omega))) (.cells (ah [.ap 0 (ints ps),.ap 0 (ints ss),v,.map H.length,.map (H.length + 1)] 2 [r]))
   rw [jX] at h1
   rw [e2,lY,rW,aaQ]
   exact h1
  ·have h1:=Fj.set (j:=H.length + 2) (fun l c e=>Fj.ne e (.inl (by omega))) (.cells (ah [.ap 0 (ints ps),.ap 0 (ints ss),v,.map H.length,.map (H.length + 1)] 2 [r]))
   have ek:ints (aZ (ts.take i++[ts.getD i default]) 0)=ints (aZ (ts.take i) 0)++[.int .i64 (fw (ts.take i):Nat)]:=by rw [jk,aaQ];simp [ints]
   rw [e2,ek]
   exact h1
  ·rw [aep,gt',hG]
   simp [ah]
  ·rw [au i (by omega)]
 ·have lM:i=ts.length:=by omega
  subst lM
  have nH:((ts.length:Int) < ts.length)=False:=eq_false (by omega)
  simp +contextual only [nH,decide_false,sZ,Nat.reduceEqDiff,↓reduceIte]
  rw [aaC] at hR hA
  have bz:∀ (l:List Int) (cap n:Nat),(bw zI (ints l) cap).a9 n=true:=fun l cap n=>by
   rw [BA]
   simp only [aa.a9,bI]
   exact ⟨bb _ _,(jF.flat (kA Bz _)).2.2.1 n⟩
  have fin:∀ (G':List aa),H.length + 3≤G'.length→(∀ id l c,va=.aW id 0 l c→G'[id]?=G[id]?)→G'.take (H.length + 3)=H++[.map [],.map [],kC ps ss (de ts 0) H.length (H.length + 1)]→ji (nu H.length) H.length [.t 4,.t 5] [(4,.ptr (H.length + 2) 0),(5,va)] G' (MN H ps ss ts):=by
   intro G' wA bm eH
   have get3:∀ (j:Nat) (o:aa),H.length≤j→j < H.length + 3→G'[j]?=some o→o.a9 (j + 1)=true:=by
    intro j o h1 h2 ho
    have h3:(G'.take (H.length + 3))[j]?=some o:=by rw [aax,if_pos h2];exact ho
    rw [eH,aaE h1] at h3
    have:j=H.length∨j=H.length + 1∨j=H.length + 2:=by omega
    rcases this with rfl | rfl | rfl
    ·simp at h3;subst h3;rfl
    ·simp at h3;subst h3;rfl
    ·simp at h3;subst h3;exact zW ps ss _ _
   have uX:∀ id,RO zI (H.length + 3) va (ints (aZ ts 0)) (xL H.length id G')→(∀ o,G'[id]?=some o→o.a9 (id + 1)=true)→va.a9 G'.length=true→ji (nu H.length) H.length [.t 4,.t 5] [(4,.ptr (H.length + 2) 0),(5,va)] G' (MN H ps ss ts):=by
    intro id xZ dU hva
    refine L5 (m:=G'.length) (by omega) (Ei get3 dU) (x:=.ptr (H.length + 2) 0) (y:=va) rfl (by simp [aA,p3]) (by rw [qo];exact decide_eq_true (by omega)) hva ⟨va,rfl,by rw [Gv,eH],by rw [Ah];exact wA,xZ⟩
   rcases hA with ⟨e1,rfl⟩ | ⟨id,cap,hk,rfl,hg,hc,dG⟩
   ·exact uX G'.length (.inl ⟨e1,rfl⟩) (fun o ho=>by rw [aaS (oN _)] at ho;cases ho) rfl
   ·have Qy:=bm _ _ _ rfl
    rw [hg] at Qy
    refine uX id (.inr ⟨id,cap,by have:=fun h=>hk (.inl h);omega,rfl,by rw [tC,Qy];simp,hc,dG⟩) (fun o ho=>?_) ?_
    ·rw [Qy] at ho;cases ho;exact bz _ _ _
    ·rw [ft];exact decide_eq_true (aO Qy)
  rw [DO]
  unfold AG
  rw [g2]
  rcases hR with ⟨e1,rfl⟩ | ⟨id,cap,bm,rfl,hg,cE,dG⟩
  ·simp +contextual only [List.getElem?_cons_succ,List.getElem?_cons_zero,p3,sZ,Nat.reduceEqDiff,↓reduceIte,reduceCtorEq]
   refine fin G hl (fun _ _ _ _=>rfl) ?_
   rw [hG,kC,oC,if_pos (DP e1)]
  ·simp +contextual only [List.getElem?_cons_succ,List.getElem?_cons_zero,p3,sZ,Nat.reduceEqDiff,↓reduceIte,reduceCtorEq]
   have WI:H.length + 3≤id:=by have:=fun h=>bm (.inl h);omega
   refine xe (by decide) By (kB _) (fun x hx=>?_) hg cE ⟨?_,?_,?_⟩
   ·obtain ⟨q,_,rfl⟩:=aaq.1 hx;rfl
   ·rw [tL (by omega)];exact g2
   ·rw [cc];exact xn _ _
   ·refine fin _ (by simp;omega) (fun id' l c e=>?_) ?_
    ·have h1:id'≠id:=fun e'=>hA.ne e (.inr ⟨_,_,by rw [e']⟩)
     have h2:id'≠H.length + 2:=fun e'=>hA.ne e (.inl (by omega))
     rw [tL (Ne.symm h2),tL (Ne.symm h1)]
    ·rw [aep,aep,hG]
     have e1:∀ X:List aa,X.length≤id→X.set id .dead=X:=fun X h=>List.set_eq_of_length_le h
     rw [e1 _ (by simp;omega),kC,oC,if_neg (fun e=>dG (by rw [e];rfl))]
     simp
end Go.aI
end
section
set_option maxRecDepth 100000
set_option maxHeartbeats 0
namespace Go.aI
open Go Go.Proofs
noncomputable def Sc:=aJ Tryz.call105 Tryz.func105 Tryz.ntmps105 [(5,6,2)] [(0,[0,1,2]),(1,[0,1,2]),(2,[0,1,2,16]),(3,[6]),(4,[0,1,2,7]),(5,[0,7]),(6,[0]),(7,[6])] [(5,(.take 0 true (.take 1 true (.take 2 true (.take 3 true (.take 4 true (.take 5 true (.br 6 (.take 7 true .done) .nil))))))))]
end Go.aI
end
section
set_option maxRecDepth 100000
namespace Go.aI
open Go Go.Proofs Go.eJ
theorem spI (A B:List Int) (k:Nat):ah (ints A) k (ints B)=ints (A.take k++B++A.drop (k + B.length)):=by
 unfold ah
 rw [l8,td,l9,ay,l9]
 rw [aaD]
theorem sl3 {id i n cap:Nat} (h:i < n) (hc:n≤cap) (φ:AV→Prop):bA 1 (.aW id 0 n cap) (some (.int .i64 (i:Int))) (some (.int .i64 ((i:Int) + 1))) (some (.int .i64 (n:Int))) φ=φ (.aW id (if n=i then 0 else 0 + i * 1) ((i + 1) - i) (n - i)):=by
 have e1:((i:Int) + 1).toNat=i + 1:=by omega
 simp only [bA,oS,dR,tN,Option.isSome_some,true_and,e1,eq_iff_iff]
 constructor
 ·rintro ⟨_,_,_,h⟩;exact h.2.2.2
 ·exact fun k=>⟨by omega,by omega,by omega,by omega,by omega,by omega,k⟩
theorem adr {id i n cap:Nat} (hc:i≤cap) (φ:AV→Prop):bA 1 (.aW id 0 n cap) none (some (.int .i64 (i:Int))) none φ=φ (.aW id 0 i cap):=by
 have e:(if cap=0 then 0 else 0 + 0 * 1)=0:=by split <;> simp
 simp only [bA,ic,dR,tN,e,aeM,eq_iff_iff]
 constructor
 ·rintro ⟨_,h⟩;exact h.2.2
 ·exact fun k=>⟨by omega,by omega,hc,k⟩
theorem ads {id i n cap:Nat} (h:i + 1≤n) (hc:n≤cap) (φ:AV→Prop):bA 1 (.aW id 0 n cap) (some (.int .i64 ((i:Int) + 1))) none none φ=φ (.aW id (if cap=i + 1 then 0 else 0 + (i + 1) * 1) (n - (i + 1)) (cap - (i + 1))):=by
 have e1:((i:Int) + 1).toNat=i + 1:=by omega
 simp only [bA,ic,dR,e1,eq_iff_iff]
 constructor
 ·rintro ⟨_,h⟩;exact h.2.2
 ·exact fun k=>⟨by omega,h,hc,k⟩
theorem adu {id l h n cap:Nat} (hl:l < h) (hc:h≤cap) (φ:AV→Prop):bA 1 (.aW id 0 n cap) (some (.int .i64 (l:Int))) (some (.int .i64 (h:Int))) none φ=φ (.aW id l (h - l) (cap - l)):=by
 have e:(if cap=l then 0 else 0 + l * 1)=l:=by rw [if_neg (by omega)];omega
 simp only [bA,ic,dR,tN,e,eq_iff_iff]
 constructor
 ·rintro ⟨_,_,h⟩;exact h.2.2
 ·exact fun k=>⟨by omega,by omega,by omega,hc,k⟩
theorem adv (P S pad:List Int) (a:Int) (hb:(P++a::S).length≤1000000000) (id cap:Nat) (cE:cap=(P++a::S++pad).length) {H:List aa} (hg:H[id]?=some (.cells (ints (P++a::S++pad)))) :
 aw Tryz.prog 105 [.aW id 0 (P.length + 1 + S.length) cap,.int .i64 P.length,.int .i64 ((P.length:Int) + 1)] H fun r H'=>r=.aW id 0 (P.length + S.length) cap∧H'=H.set id (.cells (ints (P++S++0::pad))):=by
 refine Sc.2.calls rfl ?_
 simp only [Sc,aJ]
 have jr:cap=P.length + 1 + S.length + pad.length:=by rw [cE];simp;omega
 rw [cE] at jr
 have ne:((P.length:Int)=(P.length:Int) + 1)=False:=eq_false (by omega)
 have qV:=aO hg
 have s1:=fun φ=>sl3 (id:=id) (i:=P.length) (n:=P.length + 1 + S.length) (cap:=cap) (by omega) (by omega) φ
 have s2:=fun φ=>adr (id:=id) (i:=P.length) (n:=P.length + 1 + S.length) (cap:=cap) (by omega) φ
 have s3':=fun φ=>ads (id:=id) (i:=P.length) (n:=P.length + 1 + S.length) (cap:=cap) (by omega) (by omega) φ
 have un:∀ a b c d,(AV.aW a b c d).ab=.aW a b c d:=fun _ _ _ _=>rfl
 have ox1:∀ (env:Env) (i:IX),gE env (some i)=some (aq env i):=fun _ _=>rfl
 have ox2:∀ (env:Env),gE env none=none:=fun _=>rfl
 have s4:=fun φ=>adu (id:=id) (l:=P.length + S.length) (h:=P.length + 1 + S.length) (n:=P.length + S.length) (cap:=cap) (by omega) (by omega) φ
 simp +contextual only [Option.map_some,Option.map_none,ox1,s1,s2,s3',ne,decide_false,un,sZ,Nat.reduceEqDiff,Nat.reduceAdd,↓reduceIte,reduceCtorEq]
 have hnone:∀ a b c d,dn (AV.aW a b c d)=none:=fun _ _ _ _=>rfl
 have e0:P.length + 1 + S.length - (P.length + 1)=S.length:=by omega
 have eA:P++a::S++pad=(P++[a])++(S++pad):=by simp
 unfold cS
 simp only [hnone,v9,hg,ay,e0]
 have pB:(if cap=P.length + 1 then 0 else 0 + (P.length + 1) * 1) + S.length * 1≤(P++a::S++pad).length:=by simp only [aap,List.length_cons];split <;> omega
 have htake:(List.take (S.length * 1) (List.drop (if cap=P.length + 1 then 0 else 0 + (P.length + 1) * 1) (ints (P++a::S++pad))))=ints S:=by
  rw [td,l8,aaW]
  congr 1
  by_cases hc:cap=P.length + 1
  ·have:S=[]:=aaK.1 (by omega)
   subst this;simp
  ·rw [if_neg hc,eA,List.drop_left' (by simp),adn]
 rw [if_pos pB]
 simp only [hg,htake,vH,ma,bb]
 refine ⟨?_,trivial,by omega,by rw [ay,← cE];omega,trivial,?_⟩
 ·rw [ael,ay];simp only [aap,List.length_cons] at pB ⊢;omega
 obtain ⟨x,X,hxX,hXl⟩:∃ x X,(a::S).drop S.length=x::X∧X.length=0:=by
  have hl:((a::S).drop S.length).length=1:=by simp
  cases hd:(a::S).drop S.length with
  | nil=>rw [hd] at hl;simp at hl
  | cons x X=>rw [hd] at hl;exact ⟨x,X,rfl,by simpa using hl⟩
 have Qz:X=[]:=aaK.1 hXl
 subst Qz
 have e1:ah (ints (P++a::S++pad)) (0 + P.length * 1) (ints S)=ints (P++S++x::pad):=by
  rw [spI]
  congr 1
  have h1:(P++a::S++pad).take (0 + P.length * 1)=P:=by rw [aaD,aaQ,aaW,adn]
  have h2:(P++a::S++pad).drop (0 + P.length * 1 + S.length)=x::pad:=by
   rw [aaD,aaQ,aaW,← List.drop_drop,aeS,acJ (by simp),hxX];rfl
  rw [h1,h2]
 rw [e1]
 have gs:∀ o,(H.set id o)[id]?=some o:=fun o=>tO qV
 have e2:P.length + 1 + S.length - (P.length + S.length)=1:=by omega
 have e3:((P.length + S.length:Nat):Int)=((P.length + S.length:Nat):Int):=rfl
 simp +contextual only [ox1,ox2,s4,un,e2,Jh,sZ,Nat.reduceEqDiff,↓reduceIte,reduceCtorEq]
 unfold jb
 have ap1:cP (.int .i64 0) 1=ints [0]:=rfl
 simp only [gs,ap1,vH,ma,bb,ay,spI,ad5]
 refine ⟨by simp;omega,trivial,trivial,?_⟩
 have e4:(P++S++x::pad).take (P.length + S.length)++[0]++(P++S++x::pad).drop (P.length + S.length + [(0:Int)].length)=P++S++0::pad:=by
  have hl:(P++S).length=P.length + S.length:=by simp
  rw [← hl,adn,← List.drop_drop,aeS];simp
 rw [e4]
 simp +contextual only [un,sZ,↓reduceIte,reduceCtorEq]
 exact UE (by simp) (by rw [ft];exact decide_eq_true qV) rfl rfl
end Go.aI
end
section
set_option maxRecDepth 100000
namespace Go.aI
open Go Go.Proofs Go.eJ
theorem Sd {S:List aa→Prop} (hS:zZ S) {Q:Int→Prop} {a:List Int} {id cap:Nat} (hg:∀ G,S G→G[id]?=some (bw zI (ints a) cap)) (hc:a.length≤cap) (la:a.length≤1000000000) (g:Nat) (pre cK:List AV) (cE:cK.map AV.ab=cK) (mr:pre.map AV.ab=pre)
 (hf:∀ x∈a,∀ H,S H→aw Tryz.prog g (pre++[.int .i64 x]++cK) H (SB S (Q x))) {H:List aa} (hH:S H) :
 aw Tryz.prog 100 [.aW id 0 a.length cap,.fn (.func g) pre cK] H (SI S Q a):=by
 refine C5.2.calls rfl ?_
 simp only [C5,aJ]
 simp +contextual only [sZ,Nat.reduceEqDiff,Nat.reduceAdd,↓reduceIte,reduceCtorEq]
 have fin:∀ (n:Int) (G:List aa),S G→((n=-1∧∀ x∈a,¬ Q x)∨∃ m:Nat,n=m∧m < a.length∧Q (a.getD m 0)∧∀ j,j < m→¬ Q (a.getD j 0))→b8 H.length [.t 4] [(4,.int .i64 n)] G (SI S Q a):=by
  intro n G hG hn
  refine ba H.length (oN _) (by rw [aA,if_pos rfl];rfl) ?_
  rw [aA,if_pos rfl,aaw (by rw [hS H G hH hG];exact oN _)]
  refine ⟨hG,?_⟩
  rcases hn with ⟨rfl,h⟩ | ⟨m,rfl,h⟩
  ·exact .inl ⟨rfl,h⟩
  ·exact .inr ⟨m,rfl,h⟩
 refine aM a.length (fun i (G:List aa)=>S G∧∀ j,j < i→¬ Q (a.getD j 0))
  (fun i G=>[(0,.aW id 0 a.length cap),(1,.fn (.func g) pre cK),(7,.int .i64 a.length),(8,.int .i64 i)]) (fun i G=>G) H ⟨⟨hH,fun j hj=>by omega⟩,aB _ _ _⟩ fun i G hi hI=>?_
 obtain ⟨hG,hq⟩:=hI
 by_cases aX:i < a.length
 ·have nH:((i:Int) < a.length)=True:=eq_true (by omega)
  simp +contextual only [nH,decide_true,lC,hg G hG,HG aX,cE,mr,sZ,Nat.reduceEqDiff,Nat.reduceAdd,↓reduceIte,reduceCtorEq]
  refine ⟨by omega,af (hf _ (aP (by omega)) G hG) ?_⟩
  rintro r G' ⟨x,rfl,hx,eH⟩
  cases x with
  | false=>
    simp +contextual only [sZ,Nat.reduceEqDiff,↓reduceIte,reduceCtorEq]
    refine ⟨i + 1,G',⟨by omega,eH,fun j hj=>?_⟩,by omega,aD (by rw [au i (by omega)]) rfl⟩
    by_cases h:j=i
    ·subst h;exact fun h=>absurd (hx.2 h) (by simp)
    ·exact hq j (by omega)
  | true=>
    simp +contextual only [sZ,Nat.reduceEqDiff,↓reduceIte,reduceCtorEq]
    exact fin _ _ eH (.inr ⟨i,rfl,by omega,hx.1 rfl,hq⟩)
 ·have nH:((i:Int) < a.length)=False:=eq_false (by omega)
  simp +contextual only [nH,decide_false,sZ,Nat.reduceEqDiff,↓reduceIte,reduceCtorEq]
  refine fin _ _ hG (.inl ⟨rfl,fun x hx=>?_⟩)
  obtain ⟨j,hj,rfl⟩:=abW hx
  have:=hq j (by omega)
  simpa [hj] using this
theorem ZM {S:List aa→Prop} (hS:zZ S) {Q:Int→Prop} {a:List Int} {id cap:Nat} (hg:∀ G,S G→G[id]?=some (bw zI (ints a) cap)) (hc:a.length≤cap) (la:a.length≤1000000000) (g:Nat) (pre cK:List AV) (cE:cK.map AV.ab=cK) (mr:pre.map AV.ab=pre)
 (hf:∀ x∈a,∀ H,S H→aw Tryz.prog g (pre++[.int .i64 x]++cK) H (SB S (Q x))) {H:List aa} (hH:S H) :
 aw Tryz.prog 102 [.aW id 0 a.length cap,.fn (.func g) pre cK] H (SB S (∃ x∈a,Q x)):=by
 refine C6.2.calls rfl ?_
 simp only [C6,aJ]
 simp +contextual only [sZ,Nat.reduceEqDiff,Nat.reduceAdd,↓reduceIte,reduceCtorEq]
 refine af (Sd hS hg hc la g pre cK cE mr hf hH) ?_
 rintro r G ⟨hG,⟨rfl,h⟩ | ⟨n,rfl,h1,h2,_⟩⟩
 ·simp +contextual only [sZ,↓reduceIte,reduceCtorEq]
  exact BB hS (b:=false) (by simp) ⟨fun h=>by simp at h,fun ⟨x,hx,h'⟩=>absurd h' (h x hx)⟩ hH hG
 ·simp +contextual only [sZ,↓reduceIte,reduceCtorEq]
  exact BB hS (b:=true) (by simp) ⟨fun _=>⟨_,aP h1,h2⟩,fun _=>rfl⟩ hH hG
def SG (c:Cx) (G H:List aa):Prop:=Du c H∧Up c G H
theorem SG.len (c:Cx) (G:List aa):zZ (SG c G):=fun H H' h h'=>h'.2.len.trans h.2.len.symm
theorem adx {c:Cx} (hc:c.Ok) {i x:Int} (hi:c.dS i) (hx:c.dS x) {t9:Nat} {G:List aa} (h9:G[t9]?=some (.cells [.ptr c.d 0])) (n1:t9≠c.e) (n2:t9≠c.g) (H:List aa) (hH:SG c G H) :
 aw Tryz.prog 103 ([]++[.int .i64 x]++[.ptr t9 0,.ai (.int .i64 i)]) H (SB (SG c G) (R c.O (c.tm i) (c.tm x))):=by
 refine WS.2.calls rfl ?_
 simp only [WS,aJ,List.nil_append,List.cons_append]
 have h9':H[t9]?=some (.cells [.ptr c.d 0]):=by rw [hH.2.get t9 n1 n2,h9]
 simp +contextual only [h9',sZ,Nat.reduceEqDiff,Nat.reduceAdd,Nat.reduceLT,↓reduceIte,reduceCtorEq]
 refine af (kF hc hi hx H hH.1) ?_
 rintro r G' ⟨b,rfl,hb,hU,hD⟩
 simp +contextual only [sZ,↓reduceIte,reduceCtorEq]
 exact BB (SG.len c G) rfl hb hH ⟨hD,hH.2.trans hU⟩
theorem ady {c:Cx} (hc:c.Ok) {i:Int} (hi:c.dS i) {t9 t10 id cap:Nat} {l:List Int} {G:List aa} (hl:∀ x∈l,c.dS x) (Av:l.length≤cap) (IB:l.length≤1000000000)
 (h9:G[t9]?=some (.cells [.ptr c.d 0])) (n1:t9≠c.e) (n2:t9≠c.g)
 (h10:G[t10]?=some (.cells [.aW id 0 l.length cap])) (m1:t10≠c.e) (m2:t10≠c.g)
 (hg:G[id]?=some (bw zI (ints l) cap)) (k1:id≠c.e) (k2:id≠c.g) (H:List aa) (hH:SG c G H) :
 aw Tryz.prog 101 ([]++[.int .i64 i]++[.ptr t10 0,.ptr t9 0]) H (SB (SG c G) (¬ ∃ x∈l,R c.O (c.tm i) (c.tm x))):=by
 refine WR.2.calls rfl ?_
 simp only [WR,aJ,List.nil_append,List.cons_append]
 have adz:H[t10]?=some (.cells [.aW id 0 l.length cap]):=by rw [hH.2.get t10 m1 m2,h10]
 simp +contextual only [adz,sZ,Nat.reduceEqDiff,Nat.reduceAdd,Nat.reduceLT,↓reduceIte,reduceCtorEq]
 refine af (ZM (SG.len c G) (fun G' eH=>by rw [eH.2.get id k1 k2,hg]) Av IB 103 [] [.ptr t9 0,.ai (.int .i64 i)] rfl rfl (fun x hx H' hH'=>adx hc hi (hl x hx) h9 n1 n2 H' hH') hH) ?_
 rintro r G' ⟨b,rfl,hb,hG⟩
 simp +contextual only [sZ,↓reduceIte,reduceCtorEq]
 refine BB (SG.len c G) (b:=!b) (by simp) ?_ hH hG
 rw [← hb];cases b <;> simp
end Go.aI
end
section
set_option maxRecDepth 100000
set_option maxHeartbeats 0
namespace Go.aI
open Go Go.Proofs
noncomputable def ZN:=aJ Tryz.call37 Tryz.func37 Tryz.ntmps37 [(0,0,1),(0,1,1),(9,2,2000),(10,0,1),(10,12,2000),(10,15,1),(11,4,2000)] [(0,[2,3,4]),(1,[2,4,8]),(2,[2,4,8,18]),(3,[6,7]),(4,[2,4,22]),(5,[6,7]),(6,[9,10]),(7,[9,10,11]),(8,[9,10,11,31]),(9,[9,10,11,12]),(10,[9,10,11,12]),(11,[9,10,11]),(12,[6,7])] [(10,(.take 1 true (.take 2 true (.take 3 true (.take 4 true (.take 5 true (.take 6 true (.take 7 true (.take 8 true (.take 9 true (.take 10 true (.take 11 true (.br 0 (.br 12 (.take 13 true (.br 14 (.br 15 .done .nil) .nil)) .nil) (.br 12 (.take 13 true (.br 0 (.br 14 (.br 15 .done .nil) .nil) .nil)) .nil))))))))))))))]
noncomputable def Se:=aJ Tryz.call104 Tryz.func104 Tryz.ntmps104 [(1,4,2),(5,4,2000),(7,0,3003)] [(0,[1,2]),(1,[1,2]),(2,[1,2,10,11,12]),(3,[1,2,10,11,12,13]),(4,[1,2,3,4,10,11,12]),(5,[1,2,10,11,12]),(6,[1,2,10,11,12]),(7,[2])] [(5,(.take 3 true (.take 0 false (.take 2 false (.br 1 (.br 4 (.take 5 true (.br 6 .done .nil)) .nil) (.br 4 (.take 1 true (.take 5 true (.br 6 .done .nil))) .nil))))))]
end Go.aI
end
section
set_option maxRecDepth 100000
namespace Go.aI
open Go Go.Proofs Go.eJ
def zT:AV:=.agg [.int .i64 0,.int .i64 0,.ag]
theorem MO:jF 3 (bP zT):=⟨rfl,rfl,rfl,rfl⟩
theorem uA (t:T):t.av=.agg [.int .i64 t.k,.int .i64 t.n,.ap 0 (cQ t.l)]:=by cases t;rfl
theorem xM (t:T):jF 3 t.av:=by
 rw [uA]
 exact ⟨rfl,rfl,by simp [AV.cells,dT,bM,cZ,jD,cc],rfl⟩
theorem HS {l:List T} {x:AV} (h:x∈cQ l):∃ t∈l,x=t.av:=by
 induction l with
 | nil=>cases h
 | cons y r ih=>
   rcases aan.1 h with rfl | h
   ·exact ⟨y,aaB,rfl⟩
   ·obtain ⟨t,ht,e⟩:=ih h;exact ⟨t,aay _ ht,e⟩
theorem pr (l:List T):∀ x∈cQ l,jF 3 x:=by
 intro x hx;obtain ⟨t,_,rfl⟩:=HS hx;exact xM t
theorem HT {l:List T} {i:Nat} (h:i < l.length):(cQ l).getD i .any=(l.getD i default).av:=by
 induction l generalizing i with
 | nil=>simp at h
 | cons x r ih=>
   cases i with
   | zero=>rfl
   | succ i=>simpa [cQ] using ih (i:=i) (by simpa using h)
theorem jo (l:List T):(cQ l).length=l.length:=by induction l with | nil=>rfl | cons x r ih=>simp [cQ,ih]
def CT (base:Nat) (v:AV) (l:List T) (G:List aa):Prop:=
 (l=[]∧v=.ag)∨∃ id cap,base≤id∧v=.aW id 0 l.length cap∧G[id]?=some (bw zT (cQ l) cap)∧l.length≤cap
theorem CT.one {base:Nat} {v:AV} {l:List T} {G:List aa} (h:CT base v l G):v.one=true∧v.val=true∧v.ab=v∧v.cells=[v]:=by
 rcases h with ⟨_,rfl⟩ | ⟨id,cap,_,rfl,_⟩ <;> exact ⟨rfl,rfl,rfl,rfl⟩
theorem CT.a9 {base:Nat} {v:AV} {l:List T} {G:List aa} (h:CT base v l G) {n:Nat} (hn:G.length≤n):v.a9 n=true:=by
 rcases h with ⟨_,rfl⟩ | ⟨id,cap,_,rfl,c,_⟩
 ·rfl
 ·have:=(aaz.1 c).1
  rw [ft];simp;omega
theorem CT.len {base:Nat} {v:AV} {l:List T} {G:List aa} (h:CT base v l G) {H:List aa} (φ:AV→Prop):eU v H φ=φ (.int .i64 l.length):=by
 rcases h with ⟨rfl,rfl⟩ | ⟨id,cap,_,rfl,_⟩ <;> rfl
theorem CT.aL {base:Nat} {v:AV} {l:List T} {G:List aa} (h:CT base v l G):aL 1 v=True:=by
 rcases h with ⟨rfl,rfl⟩ | ⟨id,cap,_,rfl,_⟩ <;> rfl
theorem MP (o:Nat) (φ:AV→Prop):dk 0 false (.ap o []) φ=(φ (.bool true)∧φ (.bool false)):=by simp [dk,isNil]
theorem MQ (o:Nat) (x:AV) (r:List AV) (φ:AV→Prop):dk 0 false (.ap o (x::r)) φ=φ (.bool false):=by simp [dk,isNil]
theorem MR {esz bytes:Nat} {z:AV} {id o:Nat} {G:List aa} (bm:G[id]?=some (.cells [])) {K:AV→List aa→Prop} (hK:K (.aW id 0 0 0) G):cS esz bytes z (.aW id 0 0 0) (.ap o []) G K:=by
 unfold cS
 simp only [dn,bm]
 refine ⟨fun y h=>by simp at h,by simp,oN _,by simp,fun _=>⟨by simp [flat,aj],?_⟩,fun h=>absurd h (by simp)⟩
 have e:ah ([]:List AV) ((0 + 0) * esz) (List.map AV.ab (flat []))=[]:=by simp [ah,flat]
 simp only [flat,ah,aeE,List.map_nil,List.length_nil,aaV,List.take_nil,List.drop_nil]
 rw [F8 bm]
 exact hK
theorem adB (l:List T) (H:List aa) (hb:l.length * 40≤140737488355328):aw Tryz.prog 58 [.ap 0 (cQ l)] H fun r H'=>CT H.length r l H'∧H'.take H.length=H∧H.length≤H'.length:=by
 refine Yv.2.calls rfl ?_
 simp only [Yv,aJ]
 cases l with
 | nil=>
   simp +contextual only [cQ,MP,vF,tZ,sZ,Nat.reduceEqDiff,Nat.reduceAdd,↓reduceIte,reduceCtorEq]
   refine ⟨ba H.length (oN _) (by rw [aA,if_pos rfl];rfl) ⟨.inl ⟨rfl,by rw [aA,if_pos rfl]⟩,by simp,by simp⟩,?_⟩
   refine ⟨rfl,MR (by simp [flat]) ?_⟩
   simp +contextual only [sZ,↓reduceIte,reduceCtorEq]
   refine ba (H.length + 1) (by omega) (by rw [aA,if_pos rfl,ft];exact decide_eq_true (by omega)) ?_
   rw [aA,if_pos rfl,aaw (by simp)]
   exact ⟨.inr ⟨H.length,0,oN _,rfl,by simp [bw,cQ,flat,cP],oN _⟩,by simp,by simp⟩
 | cons v r=>
   simp +contextual only [cQ,MQ,vF,tZ,sZ,Nat.reduceEqDiff,Nat.reduceAdd,↓reduceIte,reduceCtorEq]
   refine ⟨rfl,HF MO (by simp [flat]) (cQ (v::r)) (by simp [cQ]) (pr _) (by rw [jo];exact hb) (base:=H.length) (by simp) fun v' G' hR hG hl=>?_⟩
   obtain ⟨o1,o2,o3,o4⟩:=hR.one
   simp +contextual only [o3,sZ,↓reduceIte,reduceCtorEq]
   have wA:H.length≤G'.length:=by simp at hl;omega
   refine ba G'.length wA (by rw [aA,if_pos rfl];exact hR.a9 (oN _)) ?_
   rw [aA,if_pos rfl,aaC]
   refine ⟨?_,by rw [hG];simp,wA⟩
   rcases hR with ⟨h,_⟩ | ⟨id,cap,a,b,c,d,_⟩
   ·cases h
   ·rw [jo] at b d;exact .inr ⟨id,cap,a,b,c,d⟩
theorem loadT {l:List T} {cap i:Nat} (h:i < l.length) (φ:AV→Prop):cV (some (bw zT (cQ l) cap)) (some 3) (i * 3) φ=φ (l.getD i default).av:=by
 obtain ⟨g1,_⟩:=jF.flat (pr l)
 rw [jo] at g1
 have h1:=qt (pr l) i (by rw [jo];exact h)
 rw [HT h] at h1
 have qT:(l.getD i default).av.cells.length=3:=(xM _).len
 have e:((flat (cQ l)++cP zT (cap - (cQ l).length)).drop (i * 3)).take 3=(l.getD i default).av.cells:=by
  rw [acJ (by omega),h1,aaD,aaA (by omega),aaw (by omega)]
 simp only [bw,cV,e,eq_iff_iff,aap]
 have e2:AV.agg ((l.getD i default).av.cells.map AV.drop)=(l.getD i default).av:=by rw [uA];rfl
 rw [e2]
 constructor
 ·exact fun h=>h.2
 ·exact fun h2=>⟨by omega,h2⟩
theorem storeT {l:List T} {cap i id:Nat} (h:i < l.length) {H:List aa} (hg:H[id]?=some (bw zT (cQ l) cap)) {K:List aa→Prop} (hK:K H):iw (some (bw zT (cQ l) cap)) 3 id (i * 3) (l.getD i default).av H K:=by
 obtain ⟨g1,_⟩:=jF.flat (pr l)
 rw [jo] at g1
 have h1:=qt (pr l) i (by rw [jo];exact h)
 rw [HT h] at h1
 have ho:=xM (l.getD i default)
 have qT:=ho.len
 have hs:ah (flat (cQ l)++cP zT (cap - (cQ l).length)) (i * 3) ((l.getD i default).av.cells.map AV.ab)=flat (cQ l)++cP zT (cap - (cQ l).length):=by
  rw [ho.un]
  unfold ah
  have e1:(flat (cQ l)++cP zT (cap - (cQ l).length)).drop (i * 3)=(l.getD i default).av.cells++(flat ((cQ l).drop (i + 1))++cP zT (cap - (cQ l).length)):=by
   rw [acJ (by omega),h1,aaD]
  have e2:(flat (cQ l)++cP zT (cap - (cQ l).length)).drop (i * 3 + (l.getD i default).av.cells.length)=flat ((cQ l).drop (i + 1))++cP zT (cap - (cQ l).length):=by
   rw [← List.drop_drop,e1,aeS]
  rw [e2,← e1,ad1]
 have hv:(l.getD i default).av.val=true:=by rw [uA];rfl
 simp only [bw,iw]
 refine ⟨hv,qT,by rw [aap];omega,ho.one,by rw [ho.un];exact bD (ab0 _) _ ho.bl,?_⟩
 rw [hs,show (aa.cells (flat (cQ l)++cP zT (cap - (cQ l).length)))=bw zT (cQ l) cap from rfl,F8 hg]
 exact hK
theorem CT.set {base:Nat} {v:AV} {l:List T} {G:List aa} (h:CT base v l G) {j:Nat} (hj:j < base) (o:aa):CT base v l (G.set j o):=by
 rcases h with h | ⟨id,cap,a,b,c,d⟩
 ·exact .inl h
 ·exact .inr ⟨id,cap,a,b,by rw [tL (by omega)];exact c,d⟩
theorem CT.ta {base:Nat} {v:AV} {l:List T} {G:List aa} (h:CT base v l G) (X:List aa):CT base v l (G++X):=by
 rcases h with h | ⟨id,cap,a,b,c,d⟩
 ·exact .inl h
 ·exact .inr ⟨id,cap,a,b,by rw [tK (aO c)];exact c,d⟩
theorem CT.get {base:Nat} {v:AV} {l:List T} {G:List aa} (h:CT base v l G) {i:Nat} (hi:i < l.length):∃ id cap,base≤id∧v=.aW id 0 l.length cap∧G[id]?=some (bw zT (cQ l) cap)∧l.length≤cap:=by
 rcases h with ⟨rfl,_⟩ | h
 ·simp at hi
 ·exact h
theorem adC:∀ (n:Nat) (t:T),wt t≤n→wt t≤1000000000→Pure Tryz.prog 104 [t.av] t.av:=by
 intro n
 induction n with
 | zero=>intro t h;have:=dx t;omega
 | succ n ih=>
   intro t hn hb H
   refine Se.2.w8 rfl ?_
   simp only [Se,aJ]
   have hw:=xm t
   have YK:=gh t.l
   rw [uA]
   simp +contextual only [sZ,Nat.reduceEqDiff,Nat.reduceAdd,Nat.reduceLT,↓reduceIte]
   have vt:(H++[aa.cells [.int .i64 t.k,.int .i64 t.n,.ap 0 (cQ t.l)],.cells [.int .i64 0,.int .i64 0,.ag]]).length=H.length + 2:=by simp
   refine af (adB t.l _ (by omega)) ?_
   rintro v G ⟨hC,hG,hl⟩
   rw [vt] at hC hG hl
   obtain ⟨o1,o2,o3,o4⟩:=hC.one
   have g0:G[H.length]?=some (.cells [.int .i64 t.k,.int .i64 t.n,.ap 0 (cQ t.l)]):=by
    have:(G.take (H.length + 2))[H.length]?=G[H.length]?:=by rw [aax,if_pos (by omega)]
    rw [← this,hG];simp
   have g1:G[H.length + 1]?=some (.cells [.int .i64 0,.int .i64 0,.ag]):=by
    have:(G.take (H.length + 2))[H.length + 1]?=G[H.length + 1]?:=by rw [aax,if_pos (by omega)]
    rw [← this,hG];simp
   have eH:G.take H.length=H:=by
    have:G.take H.length=(G.take (H.length + 2)).take H.length:=by rw [List.take_take];congr 1;omega
    rw [this,hG];simp
   have ZO:=hC.a9 (oN _)
   have Co:H.length < G.length:=by omega
   have gT:∀ o,(G.set H.length o)[H.length]?=some o:=fun o=>tO Co
   simp +contextual only [kz,o1,o2,o3,o4,g0,ZO,gT,hC.aL,hC.len,sZ,Nat.reduceEqDiff,Nat.reduceAdd,Nat.reduceLT,↓reduceIte]
   refine iz t.l.length (fun i (G:List aa)=>CT (H.length + 2) v t.l G∧G[H.length]?=some (.cells [.int .i64 t.k,.int .i64 t.n,v])∧G[H.length + 1]?=some (.cells [.int .i64 0,.int .i64 0,.ag])∧G.take H.length=H)
    (fun i G=>[(1,.ptr H.length 0),(2,.ptr (H.length + 1) 0),(10,v),(11,.int .i64 t.l.length),(12,.int .i64 i)]) (fun i G=>G) (G.set H.length (.cells [.int .i64 t.k,.int .i64 t.n,v]))
    ⟨⟨hC.set (by omega) _,gT _,by rw [tL (by omega)];exact g1,by rw [aaM (by omega)];exact eH⟩,jW _ _ _⟩ fun i G hi hI=>?_
   clear hG g0 g1 eH ZO Co gT hl hC
   obtain ⟨hC,g0,g1,hG⟩:=hI
   by_cases aX:i < t.l.length
   ·have nH:((i:Int) < t.l.length)=True:=eq_true (by omega)
    obtain ⟨id,cap,bm,rfl,hg,cE⟩:=hC.get aX
    have vt:=aO hg
    have Qy:∀ X,(G++X)[id]?=some (bw zT (cQ t.l) cap):=fun X=>by rw [tK vt];exact hg
    have g0':∀ X,(G++X)[H.length]?=some (.cells [.int .i64 t.k,.int .i64 t.n,.aW id 0 t.l.length cap]):=fun X=>by rw [tK (aO g0)];exact g0
    have hx:=uA (t.l.getD i default)
    have hL:∀ φ,cV (some (bw zT (cQ t.l) cap)) (some 3) (i * 3) φ=φ (.agg [.int .i64 (t.l.getD i default).k,.int .i64 (t.l.getD i default).n,.ap 0 (cQ (t.l.getD i default).l)]):=fun φ=>by rw [← hx];exact loadT aX φ
    have hwx:wt (t.l.getD i default)≤fw t.l:=by
     have:=lZ aX;have:=cN t.l (i + 1);omega
    have hcall:=ih (t.l.getD i default) (by omega) (by omega)
    rw [hx] at hcall
    have hS:=fun {H':List aa} (hg:H'[id]?=some (bw zT (cQ t.l) cap)) {K:List aa→Prop} (hK:K H')=>storeT (id:=id) aX hg hK
    rw [hx] at hS
    simp +contextual only [nH,decide_true,lC,hg,hL,g0',sZ,Nat.reduceEqDiff,Nat.reduceAdd,Nat.reduceLT,↓reduceIte,reduceCtorEq]
    refine ⟨aX,ae hcall ?_,ae hcall ?_⟩
    all_goals
     simp +contextual only [lC,g0',Qy,sZ,Nat.reduceEqDiff,Nat.reduceAdd,Nat.reduceLT,↓reduceIte,reduceCtorEq]
     refine ⟨aX,hS (Qy _) ?_⟩
     simp +contextual only [sZ,Nat.reduceEqDiff,↓reduceIte]
     refine ⟨i + 1,_,⟨aX,hC.ta _,g0' _,by rw [tK (aO g1)];exact g1,by rw [aaA (by have:=aO g1;omega)];exact hG⟩,by omega,rO (by rw [au i (by omega)]) rfl⟩
   ·have lM:i=t.l.length:=by omega
    have nH:((i:Int) < t.l.length)=False:=eq_false (by omega)
    simp +contextual only [kz,nH,decide_false,g0,sZ,Nat.reduceEqDiff,↓reduceIte]
    have fin:∀ (G':List aa),G'[H.length + 1]?=some (.cells [.int .i64 t.k,.int .i64 t.n,.ap 0 (cQ t.l)])→G'.take H.length=H→cV G'[H.length + 1]? (some 3) 0 fun v=>xd (nu H.length) H.length v G' fun r H'=>r=AV.agg [AV.int IntKind.i64 t.k,AV.int IntKind.i64 t.n,AV.ap 0 (cQ t.l)]∧H'=H:=by
     intro G' h1 h2
     rw [h1,Hu]
     exact ⟨H.length,H,oN _,sX h2 rfl,_,le_refl _,by simp [AV.drop,wY,bM,cZ,jD,cc,dT],rfl,rfl⟩
    have ls:∀ (l:List AV) (G':List aa),(∀ o,(G'.set (H.length + 1) o).take H.length=G'.take H.length):=fun l G' o=>aaM (by omega)
    have uV:=aO g1
    rcases hC with ⟨e,rfl⟩ | ⟨id,cap,bm,rfl,hg,cE⟩
    ·rw [e] at fin ⊢
     have e1:∀ (K:AV→List aa→Prop),dN 3 AV.ag.drop G K=K (.ap 0 []) G:=fun K=>rfl
     rw [e1]
     simp +contextual only [kz,g1,sZ,Nat.reduceEqDiff,Nat.reduceAdd,↓reduceIte,reduceCtorEq]
     exact fin _ (tO uV) (by rw [aaM (by omega)];exact hG)
    ·have e1:∀ l c,(AV.aW id 0 l c).drop=.aW id 0 l c:=fun _ _=>rfl
     rw [e1]
     have ef:=fun K hK=>xe (esz:=3) (by decide) MO (pr t.l) (fun x hx=>by obtain ⟨y,_,rfl⟩:=HS hx;rw [uA];rfl) hg (by rw [jo];exact cE) (K:=K) hK
     rw [jo] at ef
     refine ef _ ?_
     have g1':(G.set id .dead)[H.length + 1]?=some (.cells [.int .i64 0,.int .i64 0,.ag]):=by rw [tL (by omega)];exact g1
     simp +contextual only [kz,g1',sZ,Nat.reduceEqDiff,Nat.reduceAdd,↓reduceIte,reduceCtorEq]
     exact fin _ (tO (by simpa using uV)) (by rw [aaM (by omega),aaM (by omega)];exact hG)
end Go.aI
end
section
set_option maxRecDepth 100000
namespace Go.aI
open Go Go.Proofs Go.eJ
def MS (r:T→T→Bool) (l:List T):Nat:=l.findIdx fun a=>l.all fun x=>!r a x
def yC (r:T→T→Bool):Nat→List T→List T
 | 0,_=>[]
 | n + 1,l=>l.getD (MS r l) default::yC r n (l.eraseIdx (MS r l))
theorem Sf {r:T→T→Prop} (hi:∀ a,¬ r a a) (ht:∀ a b c,r a b→r b c→r a c):∀ l:List T,l≠[]→∃ a∈l,∀ x∈l,¬ r a x
 | [],h=>absurd rfl h
 | [a],_=>⟨a,aaB,fun x hx=>by rcases aan.1 hx with rfl | hx;exact hi _;cases hx⟩
 | a::b::l,_=>by
   obtain ⟨m,hm,hl⟩:=Sf hi ht (b::l) (by simp)
   by_cases h:r m a
   ·refine ⟨a,aaB,fun x hx=>?_⟩
    rcases aan.1 hx with rfl | hx
    ·exact hi _
    ·exact fun h'=>hl x hx (ht _ _ _ h h')
   ·refine ⟨m,aay _ hm,fun x hx=>?_⟩
    rcases aan.1 hx with rfl | hx
    ·exact h
    ·exact hl x hx
noncomputable def yN (s:Sg) (ps ss:List Int) (ts:List T):List T×Int:=
 if eN s ps ss ts=0 then if 1000 < ts.length then ([],2) else (yC (Gk ps ss) ts.length ts,0) else ([],eN s ps ss ts)
theorem QA (n:Nat):cP zI n=ints (List.replicate n 0):=by
 induction n with
 | zero=>rfl
 | succ n ih=>
   have e:cP zI (n + 1)=.int .i64 0::cP zI n:=rfl
   rw [e,ih];rfl
theorem Ej (l:List Int) (cap:Nat):bw zI (ints l) cap=.cells (ints (l++List.replicate (cap - l.length) 0)):=by
 rw [BA,QA,l9]
theorem ZP {L:List Int} {n id cap:Nat} (hn:n < L.length) (hc:L.length≤cap) (hb:L.length≤1000000000) {H:List aa} (hg:H[id]?=some (bw zI (ints L) cap)) :
 aw Tryz.prog 105 [.aW id 0 L.length cap,.int .i64 (n:Int),.int .i64 ((n:Int) + 1)] H fun r H'=>r=.aW id 0 (L.eraseIdx n).length cap∧H'=H.set id (bw zI (ints (L.eraseIdx n)) cap):=by
 have e1:L=L.take n++L.getD n 0::L.drop (n + 1):=by
  have:L.getD n 0=L[n]:=by simp [hn]
  rw [this,← aaG hn,ad1]
 have e2:L.eraseIdx n=L.take n++L.drop (n + 1):=acq ..
 have l1:(L.take n).length=n:=by simp;omega
 have l2:(L.drop (n + 1)).length=L.length - (n + 1):=by simp
 have hp:(L.take n++L.getD n 0::L.drop (n + 1)++List.replicate (cap - L.length) 0).length=cap:=by rw [← e1];simp;omega
 have Qy:H[id]?=some (.cells (ints (L.take n++L.getD n 0::L.drop (n + 1)++List.replicate (cap - L.length) 0))):=by rw [← e1,← Ej];exact hg
 have h:=adv (L.take n) (L.drop (n + 1)) (List.replicate (cap - L.length) 0) (L.getD n 0) (by rw [← e1];exact hb) id cap hp.symm Qy
 have el:L.take n++L.drop (n + 1)++0::List.replicate (cap - L.length) 0=L.eraseIdx n++List.replicate (cap - (L.eraseIdx n).length) 0:=by
  rw [e2]
  congr 1
  rw [aap,l1,l2,show cap - (n + (L.length - (n + 1)))=(cap - L.length) + 1 by omega]
  rfl
 have ll:(L.eraseIdx n).length=(L.take n).length + (L.drop (n + 1)).length:=by rw [e2,aap]
 rw [el,l1,l2,show n + 1 + (L.length - (n + 1))=L.length by omega] at h
 rw [Ej,ll,l1,l2]
 rw [ll,l1,l2] at h
 exact h
theorem MT {r:T→T→Bool} {l:List T} {n:Nat} (hn:n < l.length) (h1:∀ x∈l,r (l.getD n default) x=false) (h2:∀ j,j < n→∃ x∈l,r (l.getD j default) x=true):MS r l=n:=by
 unfold MS
 rw [List.findIdx_eq hn]
 refine ⟨?_,fun j hj=>?_⟩
 ·have e:l[n]=l.getD n default:=by simp [hn]
  rw [e,aaJ]
  intro x hx;rw [h1 x hx];rfl
 ·obtain ⟨x,hx,h⟩:=h2 j hj
  have qO:j < l.length:=by omega
  have e:l[j]=l.getD j default:=by simp [qO]
  rw [e,List.all_eq_false]
  exact ⟨x,hx,by rw [h];simp⟩
theorem xN {c:Cx} {L:List Int} {n:Nat} (h:n < L.length):(L.map c.tm).getD n default=c.tm (L.getD n 0):=by simp [h]
theorem HU {Hs G:List aa} {n0:Nat} {l:List T} {e:Int} {u:AV} (hu:u.ab.le (.ap 0 (cQ l))) (hH:Hs.take n0=G):b8 n0 [.t 6,.t 7] [(6,u),(7,.int .i64 e)] Hs (fun r H'=>r=.tuple [.ap 0 (cQ l),.int .i64 e]∧H'=G):=by
 subst hH
 refine ⟨n0,oN _,[.ap 0 (cQ l),.int .i64 e],?_,by simp [aj,cc,dT,jD],rfl,rfl⟩
 exact ⟨hu,le_refl _,trivial⟩
theorem nl (vs:List T):(F0 vs).ab.le (.ap 0 (cQ vs)):=by
 cases vs with
 | nil=>exact .inr (.inr (.inr (.inl ⟨rfl,0,rfl⟩)))
 | cons v r=>exact le_refl _
theorem Du.Vv {c:Cx} {H:List aa} {n:Nat} (h:Du c (H.take n)) (hn:True):Du c H:=by
 have hg:∀ {j:Nat} {o:aa},(H.take n)[j]?=some o→H[j]?=some o:=by
  intro j o h
  rw [aax] at h
  split at h
  ·exact h
  ·cases h
 exact ⟨hg h.d,by obtain ⟨m,h1,h2⟩:=h.e;exact ⟨m,hg h1,h2⟩,by obtain ⟨m,h1,h2⟩:=h.g;exact ⟨m,hg h1,h2⟩⟩
theorem c37 (s:Sg) (ps ss:List Int) (ts:List T) (hlen:ts.length < 9223372036854775808):Pure Tryz.prog 37 [s.av,eD ps ss,.ap 0 (cQ ts)] (.tuple [.ap 0 (cQ (yN s ps ss ts).1),.int .i64 (yN s ps ss ts).2]):=by
 refine fun H=>ZN.2.calls rfl ?_
 simp only [ZN,aJ]
 obtain ⟨q1,q2,q3,q4,q5,q6⟩:=aS ps ss
 simp +contextual only [aF,q1,q4,bX,sZ,Nat.reduceEqDiff,Nat.reduceAdd,↓reduceIte,reduceCtorEq]
 refine ae (Zb s ps ss ts) ?_
 by_cases h0:eN s ps ss ts=0
 ·by_cases NY:1000 < ts.length
  ·have e:yN s ps ss ts=([],2):=by unfold yN;rw [if_pos h0,if_pos NY]
   have dU:((1000:Int) < ts.length)=True:=eq_true (by omega)
   rw [e]
   simp +contextual only [h0,dU,decide_true,hlen,sZ,Nat.reduceEqDiff,↓reduceIte,reduceCtorEq]
   exact HU (nl []) aaC
  ·have e:yN s ps ss ts=(yC (Gk ps ss) ts.length ts,0):=by unfold yN;rw [if_pos h0,if_neg NY]
   have dU:((1000:Int) < ts.length)=False:=eq_false (by omega)
   rw [e]
   have hr:=pn h0
   have hw:=kX hr.tree
   simp +contextual only [q4,bX,h0,dU,decide_false,hlen,sZ,Nat.reduceEqDiff,Nat.reduceAdd,↓reduceIte]
   refine af (adq ps ss ts H (by omega)) ?_
   rintro r G ⟨va,rfl,hG,V9,hR⟩
   obtain ⟨o1,o2,o3,o4⟩:=hR.one
   have ZO:∀ n,G.length≤n→va.a9 n=true:=fun n hn=>hR.a9 hn
   have oQ:=ZO (G.length + 2) (by omega)
   have pI:∀ o o',va.a9 (G++[o,o']:List aa).length=true:=fun o o'=>ZO _ (by simp)
   have hp1:(AV.ptr (H.length + 2) 0).a9 (G.length + 1)=true:=by rw [qo];exact decide_eq_true (by omega)
   simp +contextual only [o1,o2,o3,o4,oQ,hp1,sZ,Nat.reduceEqDiff,Nat.reduceAdd,Nat.reduceLT,↓reduceIte]
   refine ⟨rfl,by decide,?_⟩
   have hG0:G.take H.length=H:=by
    have:G.take H.length=(G.take (H.length + 3)).take H.length:=by rw [List.take_take];congr 1;omega
    rw [this,hG];simp
   rcases hR with ⟨e1,rfl⟩ | ⟨id,cap,bm,rfl,hg,cE,dG⟩
   ·have e2:ts=[]:=by
     have:=cI ts 0
     have h3:aZ ts 0=[]:=abL.1 e1
     rw [h3] at this
     exact aaK.1 this.symm
    subst e2
    refine aM 0 (fun _ _=>True) (fun i (p:Unit)=>[(9,.ptr G.length 0),(10,.ptr (G.length + 1) 0),(11,.ag)]) (fun i p=>G++[.cells [.ptr (H.length + 2) 0],.cells [.ag]]) () ⟨trivial,aD rfl ?_⟩ fun i p hi hI=>?_
    ·rfl
    ·simp +contextual only [sZ,Nat.reduceEqDiff,Nat.reduceAdd,Nat.reduceLT,↓reduceIte,reduceCtorEq,Int.reduceLT]
     exact HU (nl []) (by rw [aaA (by omega)];exact hG0)
   ·have SC:ts≠[]:=fun e=>dG (by rw [e];rfl)
    have adD:id < G.length:=aO hg
    obtain ⟨c,ec⟩:∃ c,c=gU ps ss ts H.length:=⟨_,rfl⟩
    have hc:c.Ok:=by rw [ec];exact hr.cx SC (by omega) H.length
    have cO:c.O=iW ps ss:=by rw [ec];rfl
    have cd:c.d=H.length + 2:=by rw [ec];rfl
    have ce:c.e=H.length:=by rw [ec];rfl
    have cg:c.g=H.length + 1:=by rw [ec];rfl
    have hD0:Du c (G++[.cells [.ptr (H.length + 2) 0],.cells [.aW id 0 (aZ ts 0).length cap]]):=by
     have h1:=z3 ps ss SC H
     rw [← ec,← hG] at h1
     exact Du.ta (h1.Vv trivial) _
    obtain ⟨k1,k2⟩:=(Qk ts).kids
    have ZQ:(aZ ts 0).map c.tm=ts:=by rw [ec];exact k1
    have adE:∀ x∈aZ ts 0,c.dS x:=by rw [ec];exact k2
    rw [ay] at *
    have E2:=cI ts 0
    refine aM ts.length (fun j (p:List Int×List T×List aa)=>j + p.1.length=ts.length∧(∀ x∈p.1,c.dS x)∧yC (Gk ps ss) ts.length ts=p.2.1++yC (Gk ps ss) p.1.length (p.1.map c.tm)∧p.2.1.length=j∧Du c p.2.2∧
     p.2.2[G.length]?=some (.cells [.ptr c.d 0])∧p.2.2[G.length + 1]?=some (.cells [.aW id 0 p.1.length cap])∧p.2.2[id]?=some (bw zI (ints p.1) cap)∧p.2.2.take H.length=H∧p.1.length≤cap∧∀ x∈p.1,c.tm x∈ts)
     (fun i p=>[(9,.ptr G.length 0),(10,.ptr (G.length + 1) 0),(11,F0 p.2.1)]) (fun i p=>p.2.2) (aZ ts 0,[],G++[.cells [.ptr (H.length + 2) 0],.cells [.aW id 0 (aZ ts 0).length cap]])
     ⟨⟨by simp [E2],adE,by rw [ZQ,E2];rfl,rfl,hD0,by rw [cd];simp,by simp,by rw [tK adD];exact hg,by rw [aaA (by omega)];exact hG0,cE,fun x hx=>by rw [← ZQ];exact aeR hx⟩,aD rfl rfl⟩ fun j p hj hI=>?_
    obtain ⟨L,out,F⟩:=p
    obtain ⟨i1,i2,i3,i4,i5,i6,i7,i8,i9,i10,i11⟩:=hI
    simp only at i1 i2 i3 i4 i5 i6 i7 i8 i9 i10 i11
    have IB:L.length≤1000:=by omega
    by_cases hL:L=[]
    ·have hz:((0:Int) < (L.length:Int))=False:=eq_false (by rw [hL];simp)
     have hun:(F0 out).ab.ab=(F0 out).ab:=by cases out <;> rfl
     simp +contextual only [i7,hz,decide_false,hun,sZ,Nat.reduceEqDiff,Nat.reduceAdd,Nat.reduceLT,↓reduceIte,reduceCtorEq]
     have e2:yC (Gk ps ss) ts.length ts=out:=by rw [i3,hL];simp [yC]
     rw [e2]
     exact HU (by rw [hun];exact nl out) i9
    ·have nE:=aeQ.2 hL
     have hz:((0:Int) < (L.length:Int))=True:=eq_true (by omega)
     simp +contextual only [i7,hz,decide_true,sZ,Nat.reduceEqDiff,Nat.reduceAdd,Nat.reduceLT,↓reduceIte,reduceCtorEq]
     refine af (Sd (Q:=fun i=>¬ ∃ x∈L,R c.O (c.tm i) (c.tm x)) (SG.len c F) (fun G' eH=>by rw [eH.2.get id (by omega) (by omega),i8]) i10 (by omega) 101 [] [.ptr (G.length + 1) 0,.ptr G.length 0] rfl rfl
      (fun x hx H' hH'=>ady hc (i2 x hx) i2 i10 (by omega) i6 (by omega) (by omega) i7 (by omega) (by omega) i8 (by omega) (by omega) H' hH') ⟨i5,Up.refl c F⟩) ?_
     rintro r F1 ⟨⟨nJ,hU1⟩,hq⟩
     have SA:∃ n:Nat,r=.int .i64 n∧n < L.length∧(¬ ∃ x∈L,R c.O (c.tm (L.getD n 0)) (c.tm x))∧∀ j,j < n→∃ x∈L,R c.O (c.tm (L.getD j 0)) (c.tm x):=by
      rcases hq with ⟨_,hq⟩ | ⟨n,h1,h2,h3,h4⟩
      ·exfalso
       obtain ⟨m,hm,h1⟩:=Sf (r:=fun a b=>R c.O a b) (fun a=>YG rfl) (fun a b d h h'=>Qd h h') (L.map c.tm) (by simpa using hL)
       obtain ⟨x,hx,rfl⟩:=aaq.1 hm
       refine hq x hx fun ⟨y,hy,h⟩=>h1 _ (aeR hy) h
      ·exact ⟨n,h1,h2,h3,fun j hj=>Classical.not_not.1 (h4 j hj)⟩
     obtain ⟨n,rfl,hn,h1,h2⟩:=SA
     have j7:F1[G.length + 1]?=some (.cells [.aW id 0 L.length cap]):=by rw [hU1.get _ (by omega) (by omega),i7]
     have j6:F1[G.length]?=some (.cells [.ptr c.d 0]):=by rw [hU1.get _ (by omega) (by omega),i6]
     have j8:F1[id]?=some (bw zI (ints L) cap):=by rw [hU1.get _ (by omega) (by omega),i8]
     have j9:F1.take H.length=H:=by
      refine Eq.trans ?_ i9
      apply aaZ
      intro k
      rw [aax,aax]
      by_cases hk:k < H.length
      ·rw [if_pos hk,if_pos hk];exact hU1.get _ (by omega) (by omega)
      ·rw [if_neg hk,if_neg hk]
     have JW:MS (Gk ps ss) (L.map c.tm)=n:=by
      refine MT (by simpa using hn) (fun x hx=>?_) fun j hj=>?_
      ·obtain ⟨y,hy,rfl⟩:=aaq.1 hx
       rw [xN hn]
       cases hb:Gk ps ss (c.tm (L.getD n 0)) (c.tm y) with
       | false=>rfl
       | true=>exact absurd ⟨y,hy,by rw [cO];exact sd.1 hb⟩ h1
      ·obtain ⟨y,hy,h⟩:=h2 j hj
       rw [xN (by omega)]
       exact ⟨_,aeR hy,sd.2 (by rw [← cO];exact h)⟩
     have hxN:=i2 _ (aP hn)
     have jr:c.nd.length≤2000000:=by
      have:c.nd=de ts 0:=by rw [ec];rfl
      rw [this,iE];omega
     simp +contextual only [j7,j6,j8,nJ.d,nc,fN0,cJ,lC,HG hn,sZ,Nat.reduceEqDiff,Nat.reduceAdd,Nat.reduceLT,↓reduceIte,reduceCtorEq]
     have htree:=hr.tree _ (i11 _ (aP hn))
     have hwx:wt (c.tm (L.getD n 0))≤2000:=by
      have:=((T.iD _).1 htree).1;have:=Mm (c.tm (L.getD n 0));omega
     have ZR:Pure Tryz.prog 104 [(c.nd.getD (L.getD n 0).toNat default).fst.av] (c.tm (L.getD n 0)).av:=adC _ (c.tm (L.getD n 0)) (oN _) (by omega)
     have Ml:=ZP hn i10 (by omega) j8
     have jV:(L.eraseIdx n).length=L.length - 1:=List.length_eraseIdx_of_lt hn
     refine ⟨hn,hxN,ae ZR ?_,ae ZR ?_⟩
     all_goals
      simp +contextual only [P7,Jw,j7,sZ,Nat.reduceEqDiff,Nat.reduceAdd,Nat.reduceLT,↓reduceIte,reduceCtorEq]
      refine ⟨by omega,?_⟩
      rw [cR _ (by omega)]
      refine af Ml ?_
      rintro r F2 ⟨rfl,rfl⟩
      have m7:(F1.set id (bw zI (ints (L.eraseIdx n)) cap))[G.length + 1]?=some (.cells [.aW id 0 L.length cap]):=by rw [tL (by omega)];exact j7
      have mj:(AV.aW id 0 (L.eraseIdx n).length cap).a9 (G.length + 1 + 1)=true:=by rw [ft];exact decide_eq_true (by omega)
      have r1:∀ l,(AV.aW id 0 l cap).one=true∧(AV.aW id 0 l cap).val=true∧(AV.aW id 0 l cap).ab=.aW id 0 l cap∧(AV.aW id 0 l cap).cells=[.aW id 0 l cap]:=fun _=>⟨rfl,rfl,rfl,rfl⟩
      obtain ⟨u1,u2,u3,u4⟩:=r1 (L.eraseIdx n).length
      simp +contextual only [m7,mj,u1,u2,u3,u4,sZ,Nat.reduceEqDiff,Nat.reduceAdd,↓reduceIte]
      refine ⟨j + 1,(L.eraseIdx n,out++[c.tm (L.getD n 0)],_),⟨by omega,by show j + 1 + (L.eraseIdx n).length=_;omega,fun x hx=>i2 x (acs hx),?_,by simp [i4],?_,?_,?_,?_,?_,by show (L.eraseIdx n).length≤cap;omega,fun x hx=>i11 x (acs hx)⟩,by omega,aD rfl rfl⟩
      ·have hs:L.length=(L.eraseIdx n).length + 1:=by omega
       rw [i3,hs,yC,JW,xN hn,aaD]
       have em:(L.map c.tm).eraseIdx n=(L.eraseIdx n).map c.tm:=by rw [acq,acq,abf,List.map_take,List.map_drop]
       rw [em];rfl
      ·exact (nJ.set (by omega) (by omega) (by omega)).set (by omega) (by omega) (by omega)
      ·rw [tL (by omega),tL (by omega)];exact j6
      ·rw [tO (by have:=aO j7;simp;omega)]
      ·rw [tL (by omega),tO (aO j8)]
      ·rw [aaM (by omega),aaM (by omega)];exact j9
 ·have e:yN s ps ss ts=([],eN s ps ss ts):=by unfold yN;rw [if_neg h0]
  rw [e]
  simp +contextual only [h0,sZ,Nat.reduceEqDiff,↓reduceIte,reduceCtorEq]
  exact HU (nl []) aaC
end Go.aI
end
section
set_option maxRecDepth 1000000
namespace Go.aI
open Go Go.Proofs Go.eJ
def vT (n:Int):T:=.mk 1 n []
def oT (n:Int) (l:List T):T:=.mk 2 n l
def gb:Sg:=⟨[⟨#[78]⟩],[⟨⟨#[122]⟩,[],0⟩,⟨⟨#[115]⟩,[0],0⟩,⟨⟨#[97,100,100]⟩,[0,0],0⟩]⟩
def ZS:nM:=⟨[0],[],oT 2 [vT 0,oT 0 []],vT 0⟩
def cA:nM:=⟨[0,0],[],oT 2 [vT 0,oT 1 [vT 1]],oT 1 [oT 2 [vT 0,vT 1]]⟩
def c8:Ty:=⟨gb,[ZS,cA]⟩
theorem QB:pQ Tryz.prog S6 (dA Tryz.prog S6 100000) false 64 [] []=some (c8.av,[]):=by kernel_rfl
theorem BX:pQ Tryz.prog S6 (dA Tryz.prog S6 100000) false 62 [c8.av] []=some (.int .i64 0,[]):=by kernel_rfl
theorem Gw:pQ Tryz.prog S6 (dA Tryz.prog S6 100000) false 92 [c8.av] []=some (.ap 0 (ints [0,1,2]),[]):=by kernel_rfl
theorem c64:Pure Tryz.prog 64 [] c8.av:=Pure.mk rfl ((vC sU (Bd sU 100000)).1 _ _ _ _ _ QB)
theorem BY:Pure Tryz.prog 62 [c8.av] (.int .i64 0):=Pure.mk rfl ((vC sU (Bd sU 100000)).1 _ _ _ _ _ BX)
theorem Vw:Pure Tryz.prog 92 [c8.av] (.ap 0 (ints [0,1,2])):=Pure.mk rfl ((vC sU (Bd sU 100000)).1 _ _ _ _ _ Gw)
end Go.aI
end
section
set_option maxRecDepth 100000
namespace Go.aI
open Go Go.Proofs Go.eJ
theorem c66 {a b:List Int} {va vb:AV} (ha:IL va a) (hb:IL vb b) (la:a.length≤1000000000) (lb:b.length≤1000000000):Pure Tryz.prog 66 [va,vb] (.bool (decide (a=b))):=by
 refine fun H=>k66.2.calls rfl ?_
 simp only [k66,aJ]
 obtain ⟨a1,a2,a3,a4⟩:=ha.one
 obtain ⟨b1,b2,b3,b4⟩:=hb.one
 simp +contextual only [a2,b2,ha.aL,hb.aL,ha.len (by omega),hb.len (by omega),sZ,Nat.reduceEqDiff,Nat.reduceAdd,↓reduceIte,reduceCtorEq]
 refine ⟨fun dG=>bc rfl (by rw [decide_eq_false (fun e=>dG (by rw [e]))]),fun heq=>?_⟩
 refine aC a.length (fun i=>∀ j,j < i→a.getD j 0=b.getD j 0)
  (fun i=>[(0,va),(1,vb),(12,.int .i64 b.length),(13,.int .i64 i)]) (fun i=>H) ⟨fun j hj=>by omega,aB _ _ _⟩ fun i hi hI=>?_
 simp +contextual only [a2,b2,ha.lens,hb.lens,ha.idx,hb.idx,tN,sZ,Nat.reduceEqDiff,↓reduceIte,reduceCtorEq]
 refine ⟨fun aX=>⟨by omega,by omega,fun dG=>?_,fun he=>?_⟩,fun jV=>?_⟩
 ·refine bc rfl (by rw [decide_eq_false (fun e=>dG (by rw [e]))])
 ·refine ⟨i + 1,⟨by omega,fun j hj=>?_⟩,by omega,aD (by rw [au i (by omega)]) rfl⟩
  by_cases h:j=i
  ·subst h;exact he
  ·exact hI j (by omega)
 ·refine bc rfl (by rw [decide_eq_true (zX (by omega) fun j hj=>hI j (by omega))])
noncomputable def qI (e:Int) (t:Ty) (ps ss:List Int):Int×Bool×Int:=
 if e≠0 then (0,false,e) else if jl t.s ps ss≠0 then (0,false,jl t.s ps ss) else (max (sj t ps ss) 0,decide (0≤sj t ps ss),0)
def Gx (p:Int×Bool×Int):AV:=.tuple [.int .i64 p.1,.bool p.2.1,.int .i64 p.2.2]
theorem c31 {t:Ty} {e:Int} (ZT:Pure Tryz.prog 62 [t.av] (.int .i64 e)) (ht:e=0→BW t) (ps ss:List Int):Pure Tryz.prog 31 [t.av,eD ps ss] (Gx (qI e t ps ss)):=by
 refine fun H=>k31.2.calls rfl ?_
 simp only [k31,aJ]
 obtain ⟨q1,q2,q3,q4,q5,q6⟩:=aS ps ss
 obtain ⟨e1,e2,e3,e4,e5,e6⟩:=Ty.facts t
 simp +contextual only [q1,e1,e4,nA,sZ,Nat.reduceEqDiff,Nat.reduceAdd,↓reduceIte,reduceCtorEq]
 refine ae ZT ?_
 by_cases h0:e=0
 ·subst h0
  simp +contextual only [aF,q4,bX,MF,sZ,Nat.reduceEqDiff,Nat.reduceAdd,↓reduceIte]
  refine ae (c24 t.s ps ss) ?_
  by_cases h1:jl t.s ps ss=0
  ·have hv:=(xy.1 h1).2
   simp +contextual only [h1,q4,e4,bX,nA,sZ,Nat.reduceEqDiff,Nat.reduceAdd,↓reduceIte]
   refine ae (c89 t ps ss hv.va fun q hq=>(ht rfl).eq q hq ps hv.1) ?_
   simp +contextual only [sZ,Nat.reduceEqDiff,↓reduceIte,reduceCtorEq]
   have e0:qI 0 t ps ss=(max (sj t ps ss) 0,decide (0≤sj t ps ss),0):=by unfold qI;rw [if_neg (by simp),if_neg (by simp [h1])]
   rw [e0]
   exact zY (by decide) aaC ⟨rfl,rfl,rfl⟩ rfl rfl rfl ⟨rfl,rfl⟩
  ·have e0:qI 0 t ps ss=(0,false,jl t.s ps ss):=by unfold qI;rw [if_neg (by simp),if_pos h1]
   rw [e0]
   simp +contextual only [h1,sZ,Nat.reduceEqDiff,↓reduceIte,reduceCtorEq]
   exact zY (by decide) aaC ⟨rfl,rfl,rfl⟩ rfl rfl rfl ⟨rfl,rfl⟩
 ·have e0:qI e t ps ss=(0,false,e):=by unfold qI;rw [if_pos h0]
  rw [e0]
  simp +contextual only [h0,sZ,Nat.reduceEqDiff,↓reduceIte,reduceCtorEq]
  exact zY (by decide) aaC ⟨rfl,rfl,rfl⟩ rfl rfl rfl ⟨rfl,rfl⟩
noncomputable def QC (e:Int) (t:Ty) (ps ss:List Int):Int:=if (qI e t ps ss).2.2=0∧(qI e t ps ss).2.1=true then 60 else (qI e t ps ss).2.2
theorem Gy (p:Int×Bool×Int) (φ:AV→Prop):bK (Gx p) 0 φ=φ (.int .i64 p.1)∧bK (Gx p) 1 φ=φ (.bool p.2.1)∧bK (Gx p) 2 φ=φ (.int .i64 p.2.2):=by simp [Gx,bK,ow,pd]
theorem HV (p:Int×Bool×Int):(Gx p).ab=Gx p:=rfl
theorem c33 {t:Ty} {e:Int} (ZT:Pure Tryz.prog 62 [t.av] (.int .i64 e)) (ht:e=0→BW t) (ps ss:List Int):Pure Tryz.prog 33 [t.av,eD ps ss] (.int .i64 (QC e t ps ss)):=by
 refine fun H=>k33.2.calls rfl ?_
 simp only [k33,aJ]
 obtain ⟨q1,q2,q3,q4,q5,q6⟩:=aS ps ss
 obtain ⟨e1,e2,e3,e4,e5,e6⟩:=Ty.facts t
 simp +contextual only [q1,q4,e1,e4,bX,nA,sZ,Nat.reduceEqDiff,Nat.reduceAdd,↓reduceIte,reduceCtorEq]
 refine ae (c31 ZT ht ps ss) ?_
 unfold QC
 generalize qI e t ps ss=p
 have x1:=fun φ=>(Gy p φ).1
 have x2:=fun φ=>(Gy p φ).2.1
 have x3:=fun φ=>(Gy p φ).2.2
 obtain ⟨n,b,m⟩:=p
 simp only at x1 x2 x3
 by_cases h0:m=0
 ·subst h0
  cases b <;>
  simp +contextual only [x1,x2,x3,HV,sZ,Nat.reduceEqDiff,↓reduceIte,reduceCtorEq] <;>
  exact bc rfl rfl
 ·have hm:(m=0)=False:=eq_false h0
  simp +contextual only [x1,x2,x3,HV,hm,decide_false,sZ,Nat.reduceEqDiff,↓reduceIte,reduceCtorEq]
  exact bc rfl (by simp [h0])
theorem MU {H e:List aa} {u v w x y z:AV} (hb:x.a9 H.length=true∧y.a9 H.length=true∧z.a9 H.length=true) (hx:u.ab=x) (hy:v.ab=y) (hz:w.ab=z):uz H.length [u,v,w] (H++e) fun r H'=>r=.tuple [x,y,z]∧H'=H:=by
 subst hx;subst hy;subst hz
 exact ⟨H.length,oN _,_,bW _,by show aj _ [u.ab,v.ab,w.ab]=true;rw [bM,bM,bM,cZ,hb.1,hb.2.1,hb.2.2];rfl,rfl,by simp⟩
theorem JN (f:Fo):∃ P S,foA f=eD P S:=by
 cases f with
 | none=>exact ⟨_,_,rfl⟩
 | some p=>exact ⟨_,_,rfl⟩
noncomputable def MV (e:Int) (t:Ty) (ops:List Int):Fo×Int:=if e≠0 then (none,e) else if 4 < ops.length then (none,2) else (yL t ops,0)
theorem c35 {t:Ty} {e:Int} {ops:List Int} (ZT:Pure Tryz.prog 62 [t.av] (.int .i64 e)) (h92:e=0→Pure Tryz.prog 92 [t.av] (.ap 0 (ints ops))) (ht:e=0→BW t) (hr:e=0→∀ i∈ops,0≤i∧i < t.s.ops.length) (hl:ops.length≤1000000) :
 Pure Tryz.prog 35 [t.av] (.tuple [foA (MV e t ops).1,.bool (MV e t ops).1.isSome,.int .i64 (MV e t ops).2]):=by
 refine fun H=>k35.2.calls rfl ?_
 simp only [k35,aJ]
 obtain ⟨e1,e2,e3,e4,e5,e6⟩:=Ty.facts t
 have zf2:List.map AV.ab [AV.ag,.ag]=[.ag,.ag]:=rfl
 have zb2:∀ n,aj n [AV.ag,.ag]=true:=fun _=>rfl
 simp +contextual only [e1,e4,nA,zf2,zb2,sZ,Nat.reduceEqDiff,Nat.reduceAdd,↓reduceIte]
 refine ae ZT ?_
 have gz:(H++[aa.cells [AV.ag,.ag]])[H.length]?=some (.cells [.ag,.ag]):=by simp
 by_cases h0:e=0
 ·subst h0
  simp +contextual only [e4,nA,sZ,Nat.reduceEqDiff,Nat.reduceAdd,↓reduceIte]
  refine ae (h92 rfl) ?_
  by_cases h4:4 < ops.length
  ·have h4':((4:Int) < ops.length)=True:=eq_true (by omega)
   have e0:MV 0 t ops=(none,2):=by unfold MV;rw [if_neg (by simp),if_pos h4]
   rw [e0]
   have sp2:∀ (a b x y:AV),ah [a,b] 0 [x,y]=[x,y]:=fun _ _ _ _=>rfl
   simp +contextual only [zf2,zb2,ay,h4',decide_true,gz,mh,sp2,sZ,Nat.reduceEqDiff,Nat.reduceAdd,↓reduceIte,reduceCtorEq]
   exact fun _=>MU ⟨rfl,rfl,rfl⟩ rfl rfl rfl
  ·have h4':((4:Int) < ops.length)=False:=eq_false (by omega)
   have e0:MV 0 t ops=(yL t ops,0):=by unfold MV;rw [if_neg (by simp),if_neg h4]
   rw [e0]
   simp +contextual only [e4,nA,ay,h4',decide_false,sZ,Nat.reduceEqDiff,Nat.reduceAdd,↓reduceIte]
   intro hl9
   refine ae (c93 (ht rfl) (.inr rfl) (hr rfl) hl) ?_
   generalize yL t ops=f
   obtain ⟨P,S,ef⟩:=JN f
   obtain ⟨q1,q2,q3,q4,q5,q6⟩:=aS P S
   rw [ef]
   have zo:(eD P S).cells=[.ap 0 (ints P),.ap 0 (ints S)]:=rfl
   have sp2:∀ (a b x y:AV),ah [a,b] 0 [x,y]=[x,y]:=fun _ _ _ _=>rfl
   simp +contextual only [gz,q1,q4,mh,zo,sp2,bX,bb,sZ,Nat.reduceEqDiff,Nat.reduceAdd,Nat.reduceLT,↓reduceIte,reduceCtorEq]
   exact MU ⟨q6 _,rfl,rfl⟩ rfl rfl rfl
 ·have hm:(e=0)=False:=eq_false h0
  have e0:MV e t ops=(none,e):=by unfold MV;rw [if_pos h0]
  rw [e0]
  have sp2:∀ (a b x y:AV),ah [a,b] 0 [x,y]=[x,y]:=fun _ _ _ _=>rfl
  simp +contextual only [zf2,zb2,hm,gz,mh,sp2,sZ,Nat.reduceEqDiff,Nat.reduceAdd,↓reduceIte,reduceCtorEq]
  exact MU ⟨rfl,rfl,rfl⟩ rfl rfl rfl
end Go.aI
end
section
namespace Go.aI
open Go Go.Proofs Go.eJ
end Go.aI
end
section
namespace Go.eJ
open Go.aI
def Si {G:T→T→Prop} [h:∀ x y,Decidable (G x y)]:∀ l m,Decidable (Lx G l m)
 | [],_=>isFalse (fun h=>h)
 | _::_,[]=>isTrue trivial
 | x::l,y::m=>@instDecidableOr _ _ (@instDecidableAnd _ _ inferInstance (Si l m)) (h x y)
def ZU {G:T→T→Prop} [h:∀ x y,Decidable (G x y)] (l m:List T):Decidable (Mu G l m):=by unfold Mu;exact inferInstance
def ZV {sp:Int→Int} {G:T→T→Prop} [h:∀ x y,Decidable (G x y)] (a b:T):Decidable (Fm sp G a b):=by
 unfold Fm
 have:=@Si G h
 have:=@ZU G h
 exact inferInstance
def MW (sp:Int→Int):∀ (f:Nat) (a b:T),Decidable (NI sp f a b)
 | 0,_,_=>isFalse (fun h=>h)
 | f + 1,a,b=>@ZV sp (NI sp f) (MW sp f) a b
instance ZW (sp:Int→Int) (a b:T):Decidable (Gt sp a b):=MW sp (wt a + wt b) a b
instance ZX (O:Od) (a b:T):Decidable (R O a b):=ZW O.sp (norm O a) (norm O b)
instance ZY (O:Od) (a b:T):Decidable (E O a b):=inferInstanceAs (Decidable (norm O a=norm O b))
end Go.eJ
end
section
namespace Go.aI
open Go Go.Proofs Go.eJ
mutual
def Ek (n:Nat):T→Bool
 | .mk k m l=>(!decide (k=2) || (decide (0≤m) && decide (m < n))) && BZ n l
def BZ (n:Nat):List T→Bool
 | []=>true
 | x::r=>Ek n x && BZ n r
end
mutual
theorem HW {n:Nat}:∀ {t:T},Ek n t=true→yD (fun m=>0≤m∧m < n) t
 | .mk k m l,h=>by
   simp only [Ek,Sr,abm,aaN,decide_eq_false_iff_not,decide_eq_true_eq] at h
   exact .mk k m l (fun hk=>h.1.resolve_left fun hn=>hn hk) (El h.2)
theorem El {n:Nat}:∀ {l:List T},BZ n l=true→∀ x∈l,yD (fun m=>0≤m∧m < n) x
 | [],_=>fun x hx=>by cases hx
 | y::r,h=>by
   simp only [BZ,Sr] at h
   have h1:=HW h.1
   have h2:=El h.2
   intro x hx
   rcases aan.1 hx with rfl | hx
   ·exact h1
   ·exact h2 x hx
end
def Em (ps ss:List Int) (a b:T):Bool:=match ZX (iW ps ss) a b with | .isTrue _=>true | .isFalse _=>false
theorem B0 {ps ss:List Int} {a b:T}:Em ps ss a b=true↔R (iW ps ss) a b:=by
 unfold Em
 cases ZX (iW ps ss) a b with
 | isTrue h=>simp [h]
 | isFalse h=>simp [h]
end Go.aI
end
section
set_option maxRecDepth 1000000
namespace Go.aI
open Go Go.Proofs Go.eJ
theorem B1 (ps ss:List Int) (a b:T):Gk ps ss a b=Em ps ss a b:=by rw [abn,sd,B0]
def HX (ps ss:List Int) (a b:T):Bool:=match ZY (iW ps ss) a b with | .isTrue _=>true | .isFalse _=>false
theorem HY (ps ss:List Int) (a b:T):Vd ps ss a b=HX ps ss a b:=by
 rw [abn,BI]
 unfold HX
 cases ZY (iW ps ss) a b with
 | isTrue h=>simp [h]
 | isFalse h=>simp [h]
def Vx (s:Sg) (ps ss:List Int):Bool:=decide (ps.length=s.ops.length) && (decide (ss.length=s.ops.length) && ((List.range ps.length).all (fun j=>decide (0≤ps.getD j 0∧ps.getD j 0≤255∧1≤ss.getD j 0∧ss.getD j 0≤3)) && (List.range ps.length).all fun j=>(List.range ps.length).all fun k=>!decide (ps.getD j 0=ps.getD k 0) || decide (ss.getD j 0=ss.getD k 0)))
theorem MX {s:Sg} {ps ss:List Int}:Vx s ps ss=true↔gS s ps ss:=by
 simp only [Vx,Sr,decide_eq_true_eq,aaJ,aaP,abm,aaN,decide_eq_false_iff_not]
 constructor
 ·rintro ⟨h1,h2,h3,h4⟩
  exact ⟨h1,h2,h3,fun j k hj hk he=>(h4 j hj k hk).resolve_left fun hn=>hn he⟩
 ·rintro ⟨h1,h2,h3,h4⟩
  refine ⟨h1,h2,h3,fun j hj k hk=>?_⟩
  by_cases h:ps.getD j 0=ps.getD k 0
  ·exact .inr (h4 j k hj hk h)
  ·exact .inl h
def xO (s:Sg) (ps ss:List Int):Int:=if mc s=true then (if Vx s ps ss=true then 0 else 60) else 40
theorem sk (s:Sg) (ps ss:List Int):jl s ps ss=xO s ps ss:=by
 unfold jl xO
 by_cases h:gS s ps ss
 ·rw [if_pos h,if_pos (MX.2 h)]
 ·rw [if_neg h,if_neg (fun k=>h (MX.1 k))]
def xP (s:Sg) (ps ss:List Int) (l:List T):Int:=if xO s ps ss=0 then (if (l.all fun t=>t.tree && qC s t)=true then 0 else 4) else xO s ps ss
theorem jq (s:Sg) (ps ss:List Int) (l:List T):eN s ps ss l=xP s ps ss l:=by unfold eN xP;rw [sk]
def MY (ps ss:List Int) (e:nM):Bool:=e.rest.all fun y=>Em ps ss e.a y
theorem MZ (ps ss:List Int) (e:nM):yK ps ss e=MY ps ss e:=by
 rw [abn]
 simp only [yK,Qo,MY,aaJ,B0]
 exact @decide_eq_true_iff _ (Classical.propDecidable _)
def xQ (t:Ty) (ps ss:List Int):Int:=qG (fun e=>!MY ps ss e) t.es 0
theorem tD (t:Ty) (ps ss:List Int):sj t ps ss=xQ t ps ss:=by
 unfold sj xQ
 congr 1
 funext e
 rw [MZ]
def Gz (t:Ty) (ops pl st:List Int):Bool:=decide (xO t.s (qH t.s.ops.length ops pl) (tB t.s.ops.length ops st)=0) && decide (xQ t (qH t.s.ops.length ops pl) (tB t.s.ops.length ops st) < 0)
theorem JO (t:Ty) (ops pl st:List Int):xI t ops pl st=Gz t ops pl st:=by
 unfold xI Gz
 rw [sk,tD,abn]
 simp
def GA (t:Ty) (ops pl:List Int) (s:Fo) (st:List Int):Fo×Bool:=if Gz t ops pl st=true then (some (qH t.s.ops.length ops pl,tB t.s.ops.length ops st),false) else (s,true)
def GB (t:Ty) (ops:List Int) (s:Fo) (pl:List Int):Fo×Bool:=if oK pl=true then fc (GA t ops pl) (iZ (dq 1 3) ops.length) s else (s,true)
def M4 (t:Ty) (ops:List Int):Fo:=(fc (GB t ops) (iZ (dq 0 ops.length) ops.length) none).1
theorem M5 (t:Ty) (ops:List Int):yL t ops=M4 t ops:=by
 have h1:dB t ops=GA t ops:=by funext pl s st;unfold dB GA;rw [JO]
 have h2:fx t ops=GB t ops:=by funext s pl;unfold fx GB;rw [h1]
 unfold yL M4;rw [h2]
def gf:List Int:=[0,0,1]
def nK:List Int:=[1,1,1]
def stM:List Int:=[1,1,3]
def En:List Int:=[0,0,0]
theorem Vy:xP gb gf nK [cA.a,cA.b]=0:=by kernel_rfl
theorem ZZ:xP gb gf nK [cA.b,cA.a]=0:=by kernel_rfl
theorem gr1:Em gf nK cA.a cA.b=true:=by kernel_rfl
theorem gr2:Em gf nK cA.b cA.a=false:=by kernel_rfl
theorem adG:xP gb gf stM [oT 2 [vT 0,vT 1],oT 2 [vT 1,vT 0]]=0:=by kernel_rfl
theorem adH:xP gb gf nK [oT 2 [vT 0,vT 1],oT 2 [vT 1,vT 0]]=0:=by kernel_rfl
theorem eq1:HX gf stM (oT 2 [vT 0,vT 1]) (oT 2 [vT 1,vT 0])=true:=by kernel_rfl
theorem eq2:HX gf nK (oT 2 [vT 0,vT 1]) (oT 2 [vT 1,vT 0])=false:=by kernel_rfl
theorem adI:xO gb gf nK=0:=by kernel_rfl
theorem adJ:xO gb En nK=0:=by kernel_rfl
theorem Z0:xQ c8 gf nK=-1:=by kernel_rfl
theorem Z1:xQ c8 En nK=1:=by kernel_rfl
theorem adK:M4 c8 [0,1,2]=some (gf,nK):=by kernel_rfl
def Ai:List T:=[oT 1 [oT 0 []],vT 0,oT 0 [],oT 2 [oT 0 [],oT 0 []]]
theorem adL:xP gb gf nK Ai=0:=by kernel_rfl
theorem adM:yC (Em gf nK) 4 Ai=[vT 0,oT 0 [],oT 1 [oT 0 []],oT 2 [oT 0 [],oT 0 []]]:=by kernel_rfl
theorem sl:BW c8:=by
 refine ⟨by decide,fun e he ps hp=>?_⟩
 have hp3:ps.length=3:=hp
 have key:∀ e∈c8.es,e.cs.length≤1000∧(∀ t∈e.a::e.rest,t.tree=true)∧∀ t∈e.a::e.rest,Ek 3 t=true:=by
  intro e he
  have h:(c8.es.all fun e=>decide (e.cs.length≤1000) && ((e.a::e.rest).all (fun t=>t.tree) && (e.a::e.rest).all fun t=>Ek 3 t))=true:=by kernel_rfl
  have:=aaJ.1 h e he
  simp only [Sr,decide_eq_true_eq,aaJ] at this
  exact this
 obtain ⟨k1,k2,k3⟩:=key e he
 exact ⟨k1,k2,fun t ht=>by rw [hp3];exact HW (k3 t ht)⟩
end Go.aI
end
section
set_option maxRecDepth 100000
namespace Go.aI
open Go Go.Proofs Go.eJ
theorem adN (n:Int) (o:Nat) (xs:List AV) (φ:AV→Prop):cw [.int .i64 0,.int .i64 0,.ag] [(0,1,.int .i64 2),(1,1,.int .i64 n),(2,1,.ap o xs)] φ=φ (.agg [.int .i64 2,.int .i64 n,.ap 0 xs]):=by
 simp only [cw,gZ,eq_iff_iff]
 exact ⟨fun h=>h.2.2.2.2.2.2.2.2.2,fun h=>⟨rfl,rfl,by simp,rfl,rfl,by simp [ah,AV.cells],rfl,rfl,by simp [ah,AV.cells],h⟩⟩
theorem Z2 (n:Int) (φ:AV→Prop):cw [.int .i64 0,.int .i64 0,.ag] [(0,1,.int .i64 2),(1,1,.int .i64 n),(2,1,.ag)] φ=φ (.agg [.int .i64 2,.int .i64 n,.ag]):=by
 simp only [cw,gZ,eq_iff_iff]
 exact ⟨fun h=>h.2.2.2.2.2.2.2.2.2,fun h=>⟨rfl,rfl,by simp,rfl,rfl,by simp [ah,AV.cells],rfl,rfl,by simp [ah,AV.cells],h⟩⟩
theorem adO (a b c d e f:Int) (o o':Nat) (φ:AV→Prop):cw [.ag,.ag] [(0,1,.ap o [.int .i64 a,.int .i64 b,.int .i64 c]),(1,1,.ap o' [.int .i64 d,.int .i64 e,.int .i64 f])] φ=φ (eD [a,b,c] [d,e,f]):=by
 simp only [cw,gZ,eq_iff_iff]
 exact ⟨fun h=>h.2.2.2.2.2.2,fun h=>⟨rfl,rfl,by simp,rfl,rfl,by simp [ah,AV.cells],h⟩⟩
theorem M6 (t:T):aV t.av=t.av:=by cases t;rfl
theorem bs4 (a b c d:T) (φ:List AV→Prop):bu (List.replicate 4 (aV (.agg [.int .i64 0,.int .i64 0,.ag]))) 3 [(0,a.av),(1,b.av),(2,c.av),(3,d.av)] φ=φ [a.av,b.av,c.av,d.av]:=by
 have hv:∀ t:T,t.av.val=true:=fun t=>by cases t;rfl
 have hl:∀ t:T,t.av.cells.length=3:=fun t=>(xM t).len
 simp only [bu,M6,hv,hl,List.replicate,List.set,List.length_cons,List.length_nil,eq_iff_iff]
 constructor
 ·intro h;simpa using h
 ·intro h;simpa using h
theorem QD (n:Int):Pure Tryz.prog 59 [.int .i64 n] (vT n).av:=by
 refine fun H=>k59.2.calls rfl ?_
 simp only [k59,aJ]
 simp +contextual only [sZ,Nat.reduceEqDiff,Nat.reduceAdd,↓reduceIte,reduceCtorEq]
 exact Hw rfl rfl
theorem c65 (n:Int) (l:List T):Pure Tryz.prog 65 [.int .i64 n,.ap 0 (cQ l)] (oT n l).av:=by
 refine fun H=>VW.2.calls rfl ?_
 simp only [VW,aJ]
 simp +contextual only [adN,sZ,Nat.reduceEqDiff,Nat.reduceAdd,↓reduceIte,reduceCtorEq]
 exact Hw (by simp [wY,bM,cZ,jD,cc,dT]) rfl
theorem QE (n:Int):Pure Tryz.prog 65 [.int .i64 n,.ag] (oT n []).av:=by
 refine fun H=>VW.2.calls rfl ?_
 simp only [VW,aJ]
 simp +contextual only [Z2,sZ,Nat.reduceEqDiff,Nat.reduceAdd,↓reduceIte,reduceCtorEq]
 exact Hw rfl rfl
theorem M7 (t:T) (φ:AV→Prop):al 1 none (.ai t.av) φ=φ (.ai (.int .i64 t.n)):=by cases t;simp [al,T.av,apart,AV.cells,AV.one,T.n]
theorem Z3 (o:Nat) (a b c d:T):(∀ (own:Nat) (xs:List AV),AV.ap o [a.av,b.av,c.av,d.av]=AV.ap own xs→∀ z∈xs,z.cells.length=3)=True:=by
 simp only [eq_iff_iff,iff_true]
 intro own xs e z hz
 cases e
 have:z=a.av∨z=b.av∨z=c.av∨z=d.av:=by simpa using hz
 rcases this with rfl | rfl | rfl | rfl <;> exact (xM _).len
theorem ix4 (o:Nat) (a b c d:AV) (φ:AV→Prop):ax 3 (.ap o [a,b,c,d]) (.int .i64 0) φ=φ (.ai a)∧ax 3 (.ap o [a,b,c,d]) (.int .i64 1) φ=φ (.ai b)∧ax 3 (.ap o [a,b,c,d]) (.int .i64 2) φ=φ (.ai c)∧ax 3 (.ap o [a,b,c,d]) (.int .i64 3) φ=φ (.ai d):=by
 simp [ax]
theorem sg1:Pure Tryz.prog 20 [c8.s.av,eD [0,0,1] [1,1,1],cA.a.av,cA.b.av] (.tuple [.bool true,.int .i64 0]):=by
 have:=c20 gb gf nK cA.a cA.b
 rw [jq,Vy,if_pos rfl,B1,gr1] at this
 exact this
theorem sg2:Pure Tryz.prog 20 [c8.s.av,eD [0,0,1] [1,1,1],cA.b.av,cA.a.av] (.tuple [.bool false,.int .i64 0]):=by
 have:=c20 gb gf nK cA.b cA.a
 rw [jq,ZZ,if_pos rfl,B1,gr2] at this
 exact this
theorem p1 (H:List aa):aw Tryz.prog 27 [c8.s.av,eD [0,0,1] [1,1,1],cA.a.av,cA.b.av] H fun r H'=>(∃ p,Sh (iW gf nK) p cA.a cA.b∧r=.tuple [eC p,.bool true,.int .i64 0])∧H'=H:=by
 refine (c27 gb gf nK cA.a cA.b H).mono ?_
 rintro r H' ⟨h,rfl⟩
 refine ⟨?_,rfl⟩
 rcases h with ⟨h,_⟩ | ⟨_,h,_⟩ | ⟨_,h⟩
 ·rw [jq,Vy] at h;exact absurd rfl h
 ·exact absurd (B0.1 gr1) h
 ·exact h
theorem v1 {p:PP} (hp:Sh (iW gf nK) p cA.a cA.b):Pure Tryz.prog 28 [c8.s.av,eD [0,0,1] [1,1,1],cA.a.av,cA.b.av,eC p] (.int .i64 0):=by
 have:=c28 gb gf nK cA.a cA.b p
 have e:Ea gb gf nK cA.a cA.b p=0:=by unfold Ea;rw [if_pos (by rw [jq,Vy]),if_pos hp]
 rw [e] at this
 exact this
theorem v2 (p:PP):Pure Tryz.prog 28 [c8.s.av,eD [0,0,1] [1,1,1],cA.b.av,cA.a.av,eC p] (.int .i64 61):=by
 have:=c28 gb gf nK cA.b cA.a p
 have hn:¬ Sh (iW gf nK) p cA.b cA.a:=fun h=>by
  have:=B0.2 h.gt
  rw [gr2] at this;cases this
 have e:Ea gb gf nK cA.b cA.a p=61:=by unfold Ea;rw [if_pos (by rw [jq,ZZ]),if_neg hn]
 rw [e] at this
 exact this
theorem q1:Pure Tryz.prog 22 [c8.s.av,eD [0,0,1] [1,1,3],(oT 2 [vT 0,vT 1]).av,(oT 2 [vT 1,vT 0]).av] (.tuple [.bool true,.int .i64 0]):=by
 have:=c22 gb gf stM (oT 2 [vT 0,vT 1]) (oT 2 [vT 1,vT 0])
 rw [jq,adG,if_pos rfl,HY,eq1] at this
 exact this
theorem q2:Pure Tryz.prog 22 [c8.s.av,eD [0,0,1] [1,1,1],(oT 2 [vT 0,vT 1]).av,(oT 2 [vT 1,vT 0]).av] (.tuple [.bool false,.int .i64 0]):=by
 have:=c22 gb gf nK (oT 2 [vT 0,vT 1]) (oT 2 [vT 1,vT 0])
 rw [jq,adH,if_pos rfl,HY,eq2] at this
 exact this
theorem adP:qI 0 c8 gf nK=(0,false,0):=by
 unfold qI
 rw [if_neg (by simp),sk,if_neg (by rw [show c8.s=gb from rfl,adI];simp),tD,Z0];rfl
theorem Z4:qI 0 c8 En nK=(1,true,0):=by
 unfold qI
 rw [if_neg (by simp),sk,if_neg (by rw [show c8.s=gb from rfl,adJ];simp),tD,Z1];rfl
theorem k1:Pure Tryz.prog 33 [c8.av,eD [0,0,1] [1,1,1]] (.int .i64 0):=by
 have:=c33 BY (fun _=>sl) gf nK
 rw [QC,adP] at this
 exact this
theorem k2:Pure Tryz.prog 33 [c8.av,eD [0,0,0] [1,1,1]] (.int .i64 60):=by
 have:=c33 BY (fun _=>sl) En nK
 rw [QC,Z4] at this
 exact this
theorem bl1:Pure Tryz.prog 31 [c8.av,eD [0,0,0] [1,1,1]] (.tuple [.int .i64 1,.bool true,.int .i64 0]):=by
 have:=c31 BY (fun _=>sl) En nK
 rw [Z4] at this
 exact this
theorem fi1:Pure Tryz.prog 35 [c8.av] (.tuple [eD [0,0,1] [1,1,1],.bool true,.int .i64 0]):=by
 have:=c35 (ops:=[0,1,2]) BY (fun _=>Vw) (fun _=>sl) (fun _ i hi=>by
  have h:i=0∨i=1∨i=2:=by simpa using hi
  have e:c8.s.ops.length=3:=rfl
  rw [e];omega) (by decide)
 have e:MV 0 c8 [0,1,2]=(some (gf,nK),0):=by
  unfold MV
  rw [if_neg (by simp),if_neg (by decide),M5,adK]
 rw [e] at this
 exact this
def Z5:List T:=[vT 0,oT 0 [],oT 1 [oT 0 []],oT 2 [oT 0 [],oT 0 []]]
theorem so1:Pure Tryz.prog 37 [c8.s.av,eD [0,0,1] [1,1,1],.ap 0 (cQ Ai)] (.tuple [.ap 0 (cQ Z5),.int .i64 0]):=by
 have:=c37 gb gf nK Ai (by decide)
 have hg:Gk gf nK=Em gf nK:=by funext a b;exact B1 _ _ _ _
 have e:yN gb gf nK Ai=(Z5,0):=by
  unfold yN
  rw [if_pos (by rw [jq,adL]),if_neg (by decide),hg,show Ai.length=4 from rfl,adM]
  rfl
 rw [e] at this
 exact this
theorem c17:Pure Tryz.prog 17 [] (.bool true):=by
 refine fun H=>k17.2.calls rfl ?_
 simp only [k17,aJ]
 simp +contextual only [sZ]
 refine ae c64 ?_
 have o01:Pure Tryz.prog 65 [.int .i64 2,.ap 0 [(vT 0).av,(vT 1).av]] (oT 2 [vT 0,vT 1]).av:=c65 2 [vT 0,vT 1]
 have o10:Pure Tryz.prog 65 [.int .i64 2,.ap 0 [(vT 1).av,(vT 0).av]] (oT 2 [vT 1,vT 0]).av:=c65 2 [vT 1,vT 0]
 have o00:Pure Tryz.prog 65 [.int .i64 2,.ap 0 [(oT 0 []).av,(oT 0 []).av]] (oT 2 [oT 0 [],oT 0 []]).av:=c65 2 [oT 0 [],oT 0 []]
 have o1:Pure Tryz.prog 65 [.int .i64 1,.ap 0 [(oT 0 []).av]] (oT 1 [oT 0 []]).av:=c65 1 [oT 0 []]
 have so2:Pure Tryz.prog 37 [c8.s.av,eD [0,0,1] [1,1,1],.ap 0 [(oT 1 [oT 0 []]).av,(vT 0).av,(oT 0 []).av,(oT 2 [oT 0 [],oT 0 []]).av]] (.tuple [.ap 0 [(vT 0).av,(oT 0 []).av,(oT 1 [oT 0 []]).av,(oT 2 [oT 0 [],oT 0 []]).av],.int .i64 0]):=so1
 have adQ:Pure Tryz.prog 66 [.ap 0 (ints [0,0,1]),.ap 0 (ints [0,0,1])] (.bool true):=c66 (a:=[0,0,1]) (b:=[0,0,1]) (.inr rfl) (.inr rfl) (by decide) (by decide)
 have adR:Pure Tryz.prog 66 [.ap 0 (ints [1,1,1]),.ap 0 (ints [1,1,1])] (.bool true):=c66 (a:=[1,1,1]) (b:=[1,1,1]) (.inr rfl) (.inr rfl) (by decide) (by decide)
 have i40:=fun o a b c d φ=>(ix4 o a b c d φ).1
 have i41:=fun o a b c d φ=>(ix4 o a b c d φ).2.1
 have i42:=fun o a b c d φ=>(ix4 o a b c d φ).2.2.1
 have i43:=fun o a b c d φ=>(ix4 o a b c d φ).2.2.2
 have n1:((vT 0).k=1)=True:=eq_true rfl
 have n2:((oT 0 []).n=0)=True:=eq_true rfl
 have n3:((oT 1 [oT 0 []]).n=1)=True:=eq_true rfl
 have n4:((oT 2 [oT 0 [],oT 0 []]).n=2)=True:=eq_true rfl
 have f44:(((4:Nat):Int)=4)=True:=eq_true rfl
 obtain ⟨e1,e2,e3,e4,e5,e6⟩:=Ty.facts c8
 obtain ⟨a1,a2,a3,a4,a5,a6⟩:=aS [0,0,1] [1,1,1]
 obtain ⟨b1,b2,b3,b4,b5,b6⟩:=aS [0,0,1] [1,1,3]
 obtain ⟨c1,c2,c3,c4,c5,c6⟩:=aS [0,0,0] [1,1,1]
 have ix:∀ φ,ax 8 (.ap 0 (vh c8.es)) (.int .i64 1) φ=φ (.ai cA.av):=by
  intro φ
  have:=idx_eq 8 0 c8.es .i64 1 φ
  rw [show ((1:Nat):Int)=1 from rfl] at this
  rw [this]
  exact propext ⟨fun h=>h.2,fun h=>⟨by decide,h⟩⟩
 have su:c8.s.av.ab=c8.s.av:=rfl
 simp +contextual only [e1,e2,e3,adO,a1,a2,a3,a4,b1,b2,b3,c1,c2,c3,bX,MF,fY2,ix,feA,feB,rZ,HO,su,sZ,Nat.reduceEqDiff,Nat.reduceAdd,↓reduceIte]
 refine ⟨ae sg1 ?_,ae sg1 ?_⟩
 all_goals
  simp +contextual only [a4,bX,MF,rZ,su,sZ,Nat.reduceEqDiff,Nat.reduceAdd,Nat.reduceLT,↓reduceIte]
  refine ae sg2 ?_
  simp +contextual only [a4,bX,MF,rZ,su,sZ,Nat.reduceEqDiff,Nat.reduceAdd,Nat.reduceLT,↓reduceIte]
  refine af (p1 _) ?_
  rintro r H' ⟨⟨p,hp,rfl⟩,rfl⟩
  obtain ⟨r1,r2,r3,r4,r5,r6,r7,r8,r9⟩:=bf p
  simp +contextual only [a4,bX,MF,rZ,su,r1,r2,r3,r4,sg,sZ,Nat.reduceEqDiff,Nat.reduceAdd,Nat.reduceLT,↓reduceIte]
  refine ae (v1 hp) ?_
  simp +contextual only [a4,bX,MF,rZ,su,r4,sg,sZ,Nat.reduceEqDiff,Nat.reduceAdd,↓reduceIte]
  refine ae (v2 p) ?_
  simp +contextual only [sZ,Nat.reduceEqDiff,↓reduceIte]
  refine aE (QD 0) ?_
  simp +contextual only [sZ]
  refine aE (QD 1) ?_
  simp +contextual only [sZ,Nat.reduceEqDiff,↓reduceIte]
  refine aE (o01) ?_
  simp +contextual only [sZ]
  refine aE (QD 1) ?_
  simp +contextual only [sZ]
  refine aE (QD 0) ?_
  simp +contextual only [sZ,Nat.reduceEqDiff,↓reduceIte]
  refine aE (o10) ?_
  simp +contextual only [b4,bX,MF,rZ,su,sZ,Nat.reduceEqDiff,↓reduceIte]
  refine aE (q1) ?_
  simp +contextual only [sZ,Nat.reduceEqDiff,Nat.reduceAdd,Nat.reduceLT,↓reduceIte]
  refine aE (QD 0) ?_
  simp +contextual only [sZ]
  refine aE (QD 1) ?_
  simp +contextual only [sZ,Nat.reduceEqDiff,↓reduceIte]
  refine aE (o01) ?_
  simp +contextual only [sZ]
  refine aE (QD 1) ?_
  simp +contextual only [sZ]
  refine aE (QD 0) ?_
  simp +contextual only [sZ,Nat.reduceEqDiff,↓reduceIte]
  refine aE (o10) ?_
  simp +contextual only [a4,bX,MF,rZ,su,sZ,Nat.reduceEqDiff,↓reduceIte]
  refine aE (q2) ?_
  simp +contextual only [e4,nA,a4,bX,sZ,Nat.reduceEqDiff,Nat.reduceAdd,Nat.reduceLT,↓reduceIte]
  refine ae (k1) ?_
  simp +contextual only [e4,nA,c4,bX,sZ,Nat.reduceEqDiff,Nat.reduceAdd,↓reduceIte]
  refine ae (k2) ?_
  simp +contextual only [e4,nA,c4,bX,sZ,Nat.reduceEqDiff,Nat.reduceAdd,↓reduceIte]
  refine ae (bl1) ?_
  simp +contextual only [e4,nA,sZ,Nat.reduceEqDiff,Nat.reduceAdd,Nat.reduceLT,↓reduceIte]
  refine ae (fi1) ?_
  simp +contextual only [a1,a2,a3,a4,u0,sZ,Nat.reduceEqDiff,Nat.reduceAdd,Nat.reduceLT,↓reduceIte]
  refine ae (adQ) ?_
  simp +contextual only [xx,sZ,Nat.reduceEqDiff,Nat.reduceAdd,↓reduceIte]
  refine ae (adR) ?_
  simp +contextual only [sZ,Nat.reduceEqDiff,↓reduceIte]
  refine aE (QE 0) ?_
  simp +contextual only [sZ,↓reduceIte]
  refine aE (o1) ?_
  simp +contextual only [sZ]
  refine aE (QD 0) ?_
  simp +contextual only [sZ]
  refine aE (QE 0) ?_
  simp +contextual only [sZ]
  refine aE (QE 0) ?_
  simp +contextual only [sZ]
  refine aE (QE 0) ?_
  simp +contextual only [sZ,Nat.reduceEqDiff,↓reduceIte]
  refine aE (o00) ?_
  simp +contextual only [a4,bX,MF,rZ,su,bs4,sZ,Nat.reduceEqDiff,↓reduceIte]
  refine aE (so2) ?_
  simp +contextual only [HH,M7,Z3,i40,i41,i42,i43,f44,n1,n2,n3,n4,decide_true,sZ,Nat.reduceEqDiff,Nat.reduceAdd,Nat.reduceLT,↓reduceIte,reduceCtorEq]
  exact ba H.length (oN _) rfl ⟨rfl,by simp⟩
end Go.aI
end
section
set_option maxRecDepth 100000
namespace Go.aI
open Go Go.Proofs Go.eJ
def Vz (S:List aa→Prop) (r:AV) (H':List aa):Prop:=(∃ b,r=.bool b)∧S H'
theorem JP {S:List aa→Prop} (hl:zZ S) {s:Nat} {b:Bool} {H H':List aa} (hS:S H) (YP:S H'):b8 H.length [.t s] [(s,.bool b)] H' (Vz S):=by
 refine ba H.length (oN _) (by rw [aA,if_pos rfl];rfl) ?_
 rw [aA,if_pos rfl,aaw (by rw [hl H H' hS YP];exact oN _)]
 exact ⟨⟨b,rfl⟩,YP⟩
theorem Z6 {S:List aa→Prop} (hS:zZ S) (g:Nat) (cK:List AV) (cE:cK.map AV.ab=cK) (l:List T) (hf:∀ x∈l,∀ H,S H→aw Tryz.prog g ([x.av]++cK) H (Vz S)) {H:List aa} (hH:S H) :
 aw Tryz.prog 114 [.ap 0 (cQ l),.fn (.func g) [] cK] H fun r H'=>(∃ n,r=.int .i64 n)∧S H':=by
 refine C7.2.calls rfl ?_
 simp only [C7,aJ]
 simp +contextual only [sZ,Nat.reduceEqDiff,Nat.reduceAdd,↓reduceIte,reduceCtorEq]
 intro hl
 have fin:∀ (n:Int) (G:List aa),S G→b8 H.length [.t 4] [(4,.int .i64 n)] G fun r H'=>(∃ n,r=.int .i64 n)∧S H':=by
  intro n G hG
  refine ba H.length (oN _) (by rw [aA,if_pos rfl];rfl) ?_
  rw [aA,if_pos rfl,aaw (by rw [hS H G hH hG];exact oN _)]
  exact ⟨⟨n,rfl⟩,hG⟩
 refine aM l.length (fun i (G:List aa)=>S G) (fun i G=>[(0,.ap 0 (cQ l)),(1,.fn (.func g) [] cK),(7,.int .i64 l.length),(8,.int .i64 i)]) (fun i G=>G) H ⟨hH,aB _ _ _⟩ fun i G hi hG=>?_
 simp +contextual only [cE,sZ,Nat.reduceEqDiff,Nat.reduceAdd,↓reduceIte,reduceCtorEq]
 refine ⟨fun aX=>?_,fun jV=>?_⟩
 ·have aX:=b9 aX
  refine ⟨aX,af (hf _ (iB aX) G hG) ?_⟩
  rintro r G' ⟨⟨b,rfl⟩,eH⟩
  cases b with
  | true=>simp +contextual only [sZ,Nat.reduceEqDiff,↓reduceIte,reduceCtorEq];exact fin _ _ eH
  | false=>simp +contextual only [sZ,Nat.reduceEqDiff,↓reduceIte,reduceCtorEq];exact ⟨i + 1,G',⟨aX,eH⟩,by omega,aD (by rw [au i (by omega)]) rfl⟩
 ·exact fin _ _ hG
theorem Z7 {S:List aa→Prop} (hS:zZ S) (g:Nat) (cK:List AV) (cE:cK.map AV.ab=cK) (l:List T) (hf:∀ x∈l,∀ H,S H→aw Tryz.prog g ([x.av]++cK) H (Vz S)) {H:List aa} (hH:S H) :
 aw Tryz.prog 53 [.ap 0 (cQ l),.fn (.func g) [] cK] H (Vz S):=by
 refine Rb.2.calls rfl ?_
 simp only [Rb,aJ]
 simp +contextual only [sZ,Nat.reduceEqDiff,Nat.reduceAdd,↓reduceIte,reduceCtorEq]
 refine af (Z6 hS g cK cE l hf hH) ?_
 rintro r G ⟨⟨n,rfl⟩,hG⟩
 simp +contextual only [sZ,↓reduceIte,reduceCtorEq]
 exact JP hS hH hG
structure Fw (q q2:Nat) (H0 H:List aa):Prop where
 len:H.length=H0.length
 cnt:∃ n,H[q]?=some (.cells [.int .i64 n])
 fn:H[q2]?=some (.cells [.fn (.func 71) [] [.ptr q 0,.ptr q2 0]])
 get:∀ j,j≠q→H[j]?=H0[j]?
theorem Fw.zZ (q q2:Nat) (H0:List aa):Go.aI.zZ (Fw q q2 H0):=fun H H' h h'=>h'.len.trans h.len.symm
theorem Fw.set {q q2:Nat} {H0 H:List aa} (h:Fw q q2 H0 H) (hn:q≠q2) (n:Int):Fw q q2 H0 (H.set q (.cells [.int .i64 n])):=by
 obtain ⟨m,hm⟩:=h.cnt
 exact ⟨by simp [h.len],⟨n,tO (aO hm)⟩,by rw [tL hn];exact h.fn,fun j hj=>by rw [tL (Ne.symm hj)];exact h.get j hj⟩
theorem c71 {q q2:Nat} (hn:q≠q2) {H0:List aa}:∀ (N:Nat) (t:T),wt t≤N→∀ (d:Int) (H:List aa),Fw q q2 H0 H→aw Tryz.prog 71 [t.av,.int .i64 d,.ptr q 0,.ptr q2 0] H (Vz (Fw q q2 H0)):=by
 intro N
 induction N with
 | zero=>intro t h;have:=dx t;omega
 | succ N ih=>
   intro t hw d H hH
   refine k71.2.calls rfl ?_
   simp only [k71,aJ]
   have hwe:=xm t
   obtain ⟨m,hm⟩:=hH.cnt
   have gT:∀ o,(H.set q o)[q]?=some o:=fun o=>tO (aO hm)
   simp +contextual only [hm,gT,sZ,Nat.reduceEqDiff,Nat.reduceAdd,Nat.reduceLT,↓reduceIte,reduceCtorEq]
   have c72:∀ x∈t.l,∀ H,Fw q q2 H0 H→aw Tryz.prog 72 ([x.av]++[.ptr q2 0,.ai (.int .i64 d)]) H (Vz (Fw q q2 H0)):=by
    intro x hx H hH
    refine k72.2.calls rfl ?_
    simp only [k72,aJ,List.cons_append,List.nil_append]
    have hfn:=hH.fn
    simp +contextual only [hfn,sZ,Nat.reduceEqDiff,Nat.reduceAdd,Nat.reduceLT,↓reduceIte,reduceCtorEq]
    refine af (ih x (by have:=cH hx;omega) _ H hH) ?_
    rintro r G ⟨⟨b,rfl⟩,hG⟩
    simp +contextual only [sZ,↓reduceIte,reduceCtorEq]
    exact JP (Fw.zZ q q2 H0) hH hG
   refine ⟨fun _=>⟨fun _=>af (Z7 (Fw.zZ q q2 H0) 72 [.ptr q2 0,.ai (.int .i64 d)] rfl t.l c72 (hH.set hn _)) ?_,fun _=>JP (Fw.zZ q q2 H0) hH (hH.set hn _)⟩,fun _=>JP (Fw.zZ q q2 H0) hH (hH.set hn _)⟩
   rintro r G ⟨⟨b,rfl⟩,hG⟩
   simp +contextual only [sZ,Nat.reduceEqDiff,↓reduceIte,reduceCtorEq]
   exact JP (Fw.zZ q q2 H0) hH hG
theorem c19 (n:Int) (l:List T) (H:List aa):aw Tryz.prog 19 [.int .i64 n,.ap 0 (cQ l)] H fun r H'=>(∃ b,r=.bool b)∧H'=H:=by
 refine k19.2.calls rfl ?_
 simp only [k19,aJ]
 have sp1:∀ (x y:AV),ah [x] 0 [y]=[y]:=fun _ _=>rfl
 simp +contextual only [sZ,Nat.reduceEqDiff,Nat.reduceAdd,↓reduceIte,reduceCtorEq]
 obtain ⟨H0,eH0⟩:∃ H0,H0=H++[aa.cells [AV.int .i64 n],.cells [.fn (.func 71) [] [.ptr H.length 0,.ptr (H.length + 1) 0]]]:=⟨_,rfl⟩
 have hF:Fw H.length (H.length + 1) H0 H0:=⟨rfl,⟨n,by rw [eH0];simp⟩,by rw [eH0];simp,fun _ _=>rfl⟩
 rw [← eH0]
 have Co:H0.length=H.length + 2:=by rw [eH0];simp
 have WH:H0.take H.length=H:=by rw [eH0];simp
 have c73:∀ x∈l,∀ G,Fw H.length (H.length + 1) H0 G→aw Tryz.prog 73 ([x.av]++[.ptr (H.length + 1) 0]) G (Vz (Fw H.length (H.length + 1) H0)):=by
  intro x hx G hG
  refine k73.2.calls rfl ?_
  simp only [k73,aJ,List.cons_append,List.nil_append]
  have hfn:=hG.fn
  simp +contextual only [hfn,sZ,Nat.reduceEqDiff,Nat.reduceAdd,Nat.reduceLT,↓reduceIte,reduceCtorEq]
  refine af (c71 (by omega) _ x (oN _) _ G hG) ?_
  rintro r G' ⟨⟨b,rfl⟩,eH⟩
  simp +contextual only [sZ,↓reduceIte,reduceCtorEq]
  exact JP (Fw.zZ _ _ H0) hG eH
 refine ⟨by simp;omega,af (Z7 (Fw.zZ _ _ H0) 73 [.ptr (H.length + 1) 0] rfl l c73 hF) ?_⟩
 rintro r G ⟨⟨b,rfl⟩,hG⟩
 simp +contextual only [sZ,↓reduceIte,reduceCtorEq]
 refine ba H.length (oN _) (by rw [aA,if_pos rfl];rfl) ?_
 rw [aA,if_pos rfl]
 refine ⟨⟨!b,rfl⟩,?_⟩
 refine Eq.trans ?_ WH
 apply aaZ
 intro j
 rw [aax,aax]
 by_cases hj:j < H.length
 ·rw [if_pos hj,if_pos hj];exact hG.get j (by omega)
 ·rw [if_neg hj,if_neg hj]
end Go.aI
end
