/- Part 12 of 20 of the proof. -/
import Derived.Test.YtljchnfgjdjobaaGreatXak
import Derived.Test.YtljchnfgjdjobaaGreatXai
import Derived.KernelRfl
import Derived.Test.YtljchnfgjdjobaaGreatXaj
set_option linter.unusedVariables false
set_option linter.unusedSimpArgs false
set_option linter.defProp false
set_option linter.unusedSectionVars false
section
set_option maxRecDepth 100000
namespace Go.aI
open Go Go.Proofs Go.dD
def EmT (nd:List Nd) (t:T) (i:Nat):Prop:=∀ j,j < wt t→nd[i + j]?=(xP t i)[j]?
def MM (nd:List Nd) (l:List T) (i:Nat):Prop:=∀ j,j < ft l→nd[i + j]?=(dk l i)[j]?
theorem EmT.head {nd:List Nd} {t:T} {i:Nat} (h:EmT nd t i):nd[i]?=some (t,ba t.l (i + 1))∧MM nd t.l (i + 1):=by
 have hw:=vn t
 constructor
 ·have:=h 0 (dt t)
  rw [pY] at this
  simpa using this
 ·intro j hj
  have:=h (j + 1) (by omega)
  rw [pY,List.getElem?_cons_succ] at this
  rw [← this];congr 1;omega
theorem MM.cons {nd:List Nd} {x:T} {r:List T} {i:Nat} (h:MM nd (x::r) i):EmT nd x i∧MM nd r (i + wt x):=by
 constructor
 ·intro j hj
  have:=h j (by rw [ft];omega)
  rw [dk,zz (by rw [sM];exact hj)] at this
  exact this
 ·intro j hj
  have:=h (wt x + j) (by rw [ft];omega)
  rw [dk,abx (by rw [sM];omega),sM] at this
  rw [show wt x + j - wt x=j by omega] at this
  rw [← this];congr 1;omega
theorem MM.kids {nd:List Nd}:∀ {l:List T} {i:Nat},MM nd l i→(ba l i).map (fun k=>(nd.getD k.toNat default).1)=l∧∀ k∈ba l i,0≤k∧k < nd.length
 | [],i,_=>⟨rfl,fun k h=>by simp [ba] at h⟩
 | x::r,i,h=>by
   obtain ⟨h1,h2⟩:=h.cons
   obtain ⟨h3,h4⟩:=MM.kids h2
   have h5:=h1.head.1
   have h6:=(aa2.1 h5).1
   refine ⟨?_,?_⟩
   ·rw [ba,List.map_cons,h3]
    congr 1
    rw [th,zB,h5];rfl
   ·intro k hk
    rw [ba] at hk
    rcases aak.1 hk with rfl | hk
    ·omega
    ·exact h4 k hk
def Gd (nd:List Nd) (p:Int→Prop) (i:Nat):Prop:=∃ t,nd[i]?=some (t,ba t.l (i + 1))∧MM nd t.l (i + 1)∧vO p t
mutual
theorem gdT {nd:List Nd} {p:Int→Prop}:∀ (t:T) (i:Nat),EmT nd t i→vO p t→∀ j,j < wt t→Gd nd p (i + j)
 | .mk k n l,i,h,ha,j,hj=>by
   obtain ⟨h1,h2⟩:=h.head
   cases j with
   | zero=>exact ⟨_,h1,h2,ha⟩
   | succ j=>
     have:=gdL l (i + 1) h2 (fun x hx=>ha.mem hx) j (by rw [wt] at hj;omega)
     rw [show i + (j + 1)=i + 1 + j by omega];exact this
theorem gdL {nd:List Nd} {p:Int→Prop}:∀ (l:List T) (i:Nat),MM nd l i→(∀ x∈l,vO p x)→∀ j,j < ft l→Gd nd p (i + j)
 | [],i,h,ha,j,hj=>by simp [ft] at hj
 | x::r,i,h,ha,j,hj=>by
   obtain ⟨h1,h2⟩:=h.cons
   by_cases hx:j < wt x
   ·exact gdT x i h1 (ha x abD) j hx
   ·have:=gdL r (i + wt x) h2 (fun y hy=>ha y (aaA _ hy)) (j - wt x) (by rw [ft] at hj;omega)
    rw [show i + j=i + wt x + (j - wt x) by omega];exact this
end
def iK (ps ss:List Int) (ts:List T) (n:Nat):Cx:=⟨ps,ss,dk ts 0,n + 2,n,n + 1⟩
theorem Qs (ts:List T):MM (dk ts 0) ts 0:=fun j _=>by rw [abK]
theorem R5 {ps ss:List Int} (hv:Va ps ss) {ts:List T} (dP:ts≠[]) (hw:ft ts≤100000000) (ha:∀ t∈ts,vO (fun n=>0≤n∧n < ps.length) t) (n:Nat):(iK ps ss ts n).Ok:=by
 have hl:(dk ts 0).length=ft ts:=je ts 0
 have gd:∀ i,(iK ps ss ts n).eJ i→∃ t,(dk ts 0).getD i.toNat default=(t,ba t.l (i.toNat + 1))∧MM (dk ts 0) t.l (i.toNat + 1)∧vO (fun n=>0≤n∧n < ps.length) t:=by
  intro i hi
  have lW:i.toNat < ft ts:=by have:=hi.1;have:=hi.2;simp only [iK] at *;omega
  obtain ⟨t,h1,h2,h3⟩:=gdL ts 0 (Qs ts) ha i.toNat lW
  rw [abK] at h1 h2
  exact ⟨t,by rw [th,h1];rfl,h2,h3⟩
 refine ⟨hv,?_,by simp [iK],by simp [iK],by simp [iK],fun i hi=>?_,fun i hi=>?_,fun i hi hk=>?_⟩
 ·intro e
  have e:dk ts 0=[]:=e
  rw [e] at hl
  have:=fW ts
  have h0:ts.length=0:=by simp at hl;omega
  exact dP (abE.1 h0)
 ·obtain ⟨t,h1,h2,h3⟩:=gd i hi
  show ((dk ts 0).getD i.toNat default).2.length≤_
  rw [h1,cJ]
  by_cases h0:t.l=[]
  ·rw [h0];simp
  ·have:ft t.l≤(dk ts 0).length:=by
    have hp:0 < ft t.l:=by
     have:=fW t.l
     have:=agk.2 h0
     omega
    have:=h2 (ft t.l - 1) (by omega)
    have h4:(dk t.l (i.toNat + 1))[ft t.l - 1]?≠none:=by rw [Hj (by rw [je];omega)];simp
    rw [← this] at h4
    have h5:i.toNat + 1 + (ft t.l - 1) < (dk ts 0).length:=by
     apply Decidable.byContradiction
     intro hc
     exact h4 (abL (by omega))
    omega
   have:=fW t.l
   omega
 ·obtain ⟨t,h1,h2,h3⟩:=gd i hi
  have hk:=h2.kids
  have e1:(iK ps ss ts n).kd i=ba t.l (i.toNat + 1):=by show ((dk ts 0).getD i.toNat default).2=_;rw [h1]
  have e2:(iK ps ss ts n).tm i=t:=by show ((dk ts 0).getD i.toNat default).1=_;rw [h1]
  rw [e1,e2]
  exact hk
 ·obtain ⟨t,h1,h2,h3⟩:=gd i hi
  have e2:(iK ps ss ts n).tm i=t:=by show ((dk ts 0).getD i.toNat default).1=_;rw [h1]
  rw [e2] at hk ⊢
  exact h3.op hk
theorem Ay (ps ss:List Int) {ts:List T} (dP:ts≠[]) (H:List aa):Du (iK ps ss ts H.length) (H++[.map [],.map [],k9 ps ss (dk ts 0) H.length (H.length + 1)]):=by
 have hn:dk ts 0≠[]:=by
  intro e
  have hl:(dk ts 0).length=ft ts:=je ts 0
  have:=fW ts
  rw [e] at hl
  have h0:ts.length=0:=by simp at hl;omega
  exact dP (abE.1 h0)
 refine ⟨?_,⟨[],?_,fun p hp=>by simp at hp⟩,⟨[],?_,fun p hp=>by simp at hp⟩⟩
 ·show (H++[aa.map [],.map [],k9 ps ss (dk ts 0) H.length (H.length + 1)])[H.length + 2]?=_
  rw [k9,pr,if_neg hn]
  simp [iK]
 ·show (H++[aa.map [],.map [],k9 ps ss (dk ts 0) H.length (H.length + 1)])[H.length]?=_
  simp [n7]
 ·show (H++[aa.map [],.map [],k9 ps ss (dk ts 0) H.length (H.length + 1)])[H.length + 1]?=_
  simp [n7]
theorem vr {ps ss:List Int} {ts:List T} {n j:Nat} (hj:j < ts.length):(iK ps ss ts n).eJ ((ba ts 0).getD j 0)∧(iK ps ss ts n).tm ((ba ts 0).getD j 0)=ts.getD j default:=by
 obtain ⟨h1,h2⟩:=(Qs ts).kids
 have hl:=cJ ts 0
 refine ⟨h2 _ (aV (by omega)),?_⟩
 have:=congrArg (fun l=>l[j]?) h1
 have tx:j < (ba ts 0).length:=by omega
 simp only [abZ,Hj tx,Hj hj,Option.map_some,Option.some.injEq] at this
 have e1:(ba ts 0).getD j 0=(ba ts 0)[j]:=by simp [tx]
 have e2:ts.getD j default=ts[j]:=by simp [hj]
 rw [e1,e2]
 exact this
end Go.aI
end
section
set_option maxRecDepth 100000
set_option maxHeartbeats 0
namespace Go.aI
open Go Go.Proofs
noncomputable def ZI:=aH Tryz.call75 Tryz.func75 Tryz.ntmps75 [(0,0,1),(5,2,1000),(6,0,1),(6,7,2),(6,8,1),(7,6,2),(7,9,2),(9,0,6004)] [(0,[1,2]),(1,[1,6]),(2,[1,6,7]),(3,[6,7,15,16,17]),(4,[6,7,15,16,17,18]),(5,[6,7,9,15,16,17]),(6,[6,7,9,15,16,17]),(7,[6,7,15,16,17]),(8,[6,7,15,16,17]),(9,[4,5])] [(7,(tkq 1 5 (.take 0 false (.br 6 (.take 7 true (.take 8 true (.br 9 .done .nil))) .nil))))]
end Go.aI
end
section
set_option maxRecDepth 100000
namespace Go.aI
open Go Go.Proofs Go.dD
def vu (z:AV) (kp:Nat→Prop) (v:AV) (xs:List AV) (G:List aa):Prop:=
 (xs=[]∧v=.ag)∨∃ id cap,¬ kp id∧v=.aZ id 0 xs.length cap∧G[id]?=some (aX z xs cap)∧xs.length≤cap∧xs≠[]
section
variable {z:AV} {kp:Nat→Prop} {v:AV} {xs:List AV} {G:List aa}
theorem vu.one (h:vu z kp v xs G):v.one=true∧v.val=true∧v.ab=v∧v.cells=[v]:=by
 rcases h with ⟨_,rfl⟩ | ⟨id,cap,_,rfl,_⟩ <;> exact ⟨rfl,rfl,rfl,rfl⟩
theorem vu.bc (h:vu z kp v xs G) {n:Nat} (hn:G.length≤n):v.bc n=true:=by
 rcases h with ⟨_,rfl⟩ | ⟨id,cap,_,rfl,c,_⟩
 ·rfl
 ·have:=(aa2.1 c).1
  rw [eL];simp;omega
theorem vu.len (h:vu z kp v xs G) {H:List aa} (φ:AV→Prop):fR v H φ=φ (.int .i64 xs.length):=by
 rcases h with ⟨rfl,rfl⟩ | ⟨id,cap,_,rfl,_⟩ <;> rfl
theorem vu.aO (h:vu z kp v xs G):aO 1 v=True:=by
 rcases h with ⟨_,rfl⟩ | ⟨id,cap,_,rfl,_⟩ <;> rfl
theorem vu.set (h:vu z kp v xs G) {j:Nat} (hj:∀ l c,v≠.aZ j 0 l c) (o:aa):vu z kp v xs (G.set j o):=by
 rcases h with h | ⟨id,cap,a,b,c,d⟩
 ·exact .inl h
 ·exact .inr ⟨id,cap,a,b,by rw [zA (fun e=>hj _ _ (by rw [e];exact b))];exact c,d⟩
end
theorem Az {esz bytes:Nat} {z:AV} (hz:ko esz (bU z)) {kp:Nat→Prop} {v:AV} {xs:List AV} {G:List aa} (h:vu z kp v xs G) (fe:∀ x∈xs,ko esz x) (o:Nat) (ys:List AV) (hy:ys≠[]) (tu:∀ x∈ys,ko esz x)
 (hb:(xs.length + ys.length) * bytes≤140737488355328) (hG:∀ j,kp j→j < G.length) {K:AV→List aa→Prop}
 (hK:∀ v' G',vu z kp v' (xs++ys) G'→(∀ j,kp j→G'[j]?=G[j]?)→G.length≤G'.length→K v' G'):b9 esz bytes z v (.al o ys) G K:=by
 have oE:¬ kp G.length:=fun h=>adj _ (hG _ h)
 have kw:qR esz ys:=fun y hy=>⟨(tu y hy).len,(tu y hy).one⟩
 obtain ⟨f1,f2,f3,f4⟩:=ko.flat tu
 obtain ⟨g1,g2,g3,g4⟩:=ko.flat fe
 have vU:=sD hz
 have mg:∀ n m,aw n (cz z m)=true:=fun n m=>(ko.flat (kY hz m)).2.2.1 n
 unfold b9
 simp only [dK]
 refine ⟨kw,?_⟩
 rcases h with ⟨rfl,rfl⟩ | ⟨id,cap,bF,rfl,hg,hle,_⟩
 ·refine ⟨by simpa using hb,fun e=>absurd e hy,fun _ cap hc _=>⟨?_,hK _ _ (.inr ⟨G.length,cap,oE,by simp,?_,by simpa using hc,by simpa using hy⟩) ?_ (by simp)⟩⟩
  ·rw [f2,bw];exact ⟨f3 _,mg _ _⟩
  ·rw [f2];simp [aX]
  ·intro j hj;have:=hG j hj;rw [zz (by omega)]
 ·have v7:=(aa2.1 hg).1
  simp only [hg,aX,aaj,g1,vU,abK,List.drop_zero]
  refine ⟨hb,hle,by rw [← abO];exact Nat.le_of_eq (by congr 1;omega),fun hroom=>⟨by rw [f2];exact f3 _,?_⟩,fun jZ c8 hc _=>⟨?_,?_⟩⟩
  ·rw [f2]
   refine hK _ _ (.inr ⟨id,cap,bF,by simp,?_,by simpa using hroom,by simp [hy]⟩) ?_ (by simp)
   ·rw [Sx v7,aX]
    congr 2
    unfold ai
    rw [f1,abd (by rw [g1];exact zy _),aax (by rw [g1];exact zy _),aek,aap (by rw [g1];omega),g1,
     show xs.length * esz + ys.length * esz - xs.length * esz=ys.length * esz by omega,Ac hz _ _ (by omega),po,List.nil_append,aaj]
    rw [show cap - xs.length - ys.length=cap - (xs.length + ys.length) by omega,abe]
   ·intro j hj;rw [zA (fun e=>bF (by rw [e];exact hj))]
  ·rw [abd (by rw [g1];exact zy _),aax (by rw [g1];exact zy _),g2,f2,bw,bw];exact ⟨⟨g3 _,f3 _⟩,mg _ _⟩
  ·rw [abd (by rw [g1];exact zy _),aax (by rw [g1];exact zy _),g2,f2,← po]
   refine hK _ _ (.inr ⟨G.length,c8,oE,by simp,?_,by simpa using hc,by simp [hy]⟩) ?_ (by simp)
   ·simp [aX]
   ·intro j hj;have:=hG j hj;rw [zz (by omega)]
def UX (kp:Nat→Prop) (H:List aa) (xs:List AV) (r:AV) (H':List aa):Prop:=vu zN kp r xs H'∧(∀ j,kp j→H'[j]?=H[j]?)∧H.length≤H'.length
theorem ZJ:∀ (N:Nat) (t:T),wt t≤N→∀ (kp:Nat→Prop) (v:AV) (xs:List AV) (H:List aa),vu zN kp v xs H→(∀ x∈xs,ko 4 x)→(∀ j,kp j→j < H.length)→(xs.length + wt t) * 64≤140737488355328→
 aA Tryz.prog 132 [t.av,v] H (UX kp H (xs++fw (xP t xs.length))):=by
 intro N
 induction N with
 | zero=>intro t ht;have:=dt t;omega
 | succ N ih=>
 intro t ht kp v xs H hR fe hbase hb
 have hw:=vn t
 have V8:=fW t.l
 refine HQ.2.calls rfl ?_
 simp only [HQ,aH]
 obtain ⟨o1,o2,o3,o4⟩:=hR.one
 simp +contextual only [o3,hR.len,hR.aO,bdN,Zo,sZ,Nat.reduceEqDiff,Nat.reduceAdd,↓reduceIte,reduceCtorEq]
 refine Az BU hR fe 0 [nZ t] (by simp) (by simp [sN]) (by simp;omega) hbase fun v1 G1 UL UM tO=>?_
 obtain ⟨o1',o2',o3',o4'⟩:=UL.one
 simp +contextual only [sZ]
 intro _
 have gW:∀ i,(xs++nZ t::fw (dk (t.l.take i) (xs.length + 1))).length=xs.length + 1 + ft (t.l.take i):=by intro i;simp [sP,je];omega
 have kw:∀ i,∀ x∈xs++nZ t::fw (dk (t.l.take i) (xs.length + 1)),ko 4 x:=by
  intro i x hx
  rcases abF.1 hx with hx | hx
  ·exact fe x hx
  ·rcases aak.1 hx with rfl | hx
   ·exact sN t
   ·exact k8 _ x hx
 refine aF t.l.length (fun i (p:AV×List aa)=>vu zN kp p.1 (xs++nZ t::fw (dk (t.l.take i) (xs.length + 1))) p.2∧(∀ j,kp j→p.2[j]?=H[j]?)∧H.length≤p.2.length)
  (fun i p=>[(1,p.1),(5,.int .i64 xs.length),(6,cC (ba (t.l.take i) (xs.length + 1))),(17,.al 0 (bN t.l)),(18,.int .i64 t.l.length),(19,.int .i64 i)])
  (fun i p=>p.2) (v1,G1) ⟨⟨UL,UM,tO⟩,ax _ _ _⟩ fun i p hi hI=>?_
 obtain ⟨v,G⟩:=p
 obtain ⟨hR,hG,hl⟩:=hI
 simp only at hR hG hl
 obtain ⟨o1,o2,o3,o4⟩:=hR.one
 have hle:=cT t.l i
 have sg:=cJ (t.l.take i) (xs.length + 1)
 have Qn:(t.l.take i).length≤t.l.length:=by simp;omega
 simp +contextual only [o3,hR.len,hR.aO,gW,kq,(eZ _).2.1,dZ,sZ,Nat.reduceEqDiff,Nat.reduceAdd,↓reduceIte,reduceCtorEq]
 refine ⟨fun aM=>⟨bp aM,by omega,?_⟩,fun fV=>?_⟩
 ·have aM:=bp aM
  have hwt:=mQ aM
  have hnext:=cT t.l (i + 1)
  have e2:t.l.take (i + 1)=t.l.take i++[t.l.getD i default]:=by rw [abN aM];simp [aM]
  refine af (ih (t.l.getD i default) (by have:=ch (dM aM);omega) kp v _ G hR (kw i) (fun j hj=>by have:=hbase j hj;omega) (by rw [gW];omega)) ?_
  rintro r G' ⟨zj,fa,xf⟩
  obtain ⟨o1',o2',o3',o4'⟩:=zj.one
  simp +contextual only [o3',sZ,Nat.reduceEqDiff,↓reduceIte]
  refine ⟨i + 1,(r,G'),⟨aM,?_,fun j hj=>(fa j hj).trans (hG j hj),abW hl xf⟩,by omega,ay ?_ rfl⟩
  ·rw [gW] at zj
   rw [e2,mP,sO,← List.cons_append,← abe]
   exact zj
  ·rw [e2,jS,aj i (by omega)]
 ·have lW:i=t.l.length:=by have:=bZ fV;omega
  subst lW
  rw [aby] at hR
  have vP:=gW t.l.length
  have Gx:=kw t.l.length
  rw [aby] at vP Gx
  have iJ:(xs++nZ t::fw (dk t.l (xs.length + 1))).set xs.length (Gw (t,ba t.l (xs.length + 1)))=xs++fw (xP t xs.length):=by
   rw [acF _ _ (zy _),acG,aeJ,pY];rfl
  have kM:(xs++nZ t::fw (dk t.l (xs.length + 1))).getD xs.length .any=nZ t:=by simp
  generalize xs++nZ t::fw (dk t.l (xs.length + 1))=ys at hR vP Gx iJ kM
  rcases hR with ⟨rfl,_⟩ | ⟨id,cap,bF,rfl,hg,bY,_⟩
  ·simp at vP
   omega
  have v7:=(aa2.1 hg).1
  obtain ⟨k1,k2,k3,k4,k5⟩:=aL (ba t.l (xs.length + 1))
  simp +contextual only [hg,jb,aby,sZ,Nat.reduceEqDiff,↓reduceIte,reduceCtorEq]
  refine ⟨by omega,?_⟩
  refine BK Gx (by omega) (by decide) (y:=Gw (t,ba t.l (xs.length + 1))) k1 k4 (by rw [k2];exact k3 _) (by rw [kM,k2];rfl) ?_
  simp +contextual only [sZ,Nat.reduceEqDiff,↓reduceIte,reduceCtorEq]
  rw [iJ]
  refine aT (G.length) (by omega) (by rw [aD,if_pos rfl,eL];simpa using v7) ?_
  rw [aD,if_pos rfl,aax (by simp)]
  refine ⟨.inr ⟨id,cap,bF,?_,?_,?_,?_⟩,?_,by simpa using hl⟩
  ·rw [← iJ];simp
  ·rw [Sx v7]
  ·rw [← iJ];simpa using bY
  ·rw [pY];simp [fw]
  ·intro j hj;rw [zA (fun e=>bF (by rw [e];exact hj))];exact hG j hj
end Go.aI
end
section
set_option maxRecDepth 100000
namespace Go.aI
open Go Go.Proofs Go.dD
def xW (n0 id:Nat) (G:List aa):List aa:=G.mapIdx fun j o=>if j < n0 + 3∨j=id then o else .dead
theorem uv {n0 id j:Nat} {G:List aa}:(xW n0 id G)[j]?=(G[j]?).map fun o=>if j < n0 + 3∨j=id then o else .dead:=by simp [xW]
theorem AA {n0 id:Nat} {G:List aa}:(xW n0 id G).length=G.length:=by simp [xW]
theorem GF {n0 id:Nat} {G:List aa}:(xW n0 id G).take (n0 + 3)=G.take (n0 + 3):=by
 apply abT
 intro j
 rw [aaG,aaG]
 split
 ·rename_i hj
  rw [uv]
  cases G[j]? with
  | none=>rfl
  | some o=>simp [hj]
 ·rfl
theorem Ei {n0 id:Nat} {G:List aa} (h3:∀ (j:Nat) (o:aa),n0≤j→j < n0 + 3→G[j]?=some o→o.bc (j + 1)=true) (bF:∀ o,G[id]?=some o→o.bc (id + 1)=true):ox n0 G G.length (xW n0 id G):=by
 refine ⟨by rw [AA,Nat.min_self],fun j o ho=>?_⟩
 rw [uv] at ho
 cases hg:G[j]? with
 | none=>rw [hg] at ho;cases ho
 | some o'=>
   rw [hg] at ho
   simp only [Option.map_some,Option.some.injEq] at ho
   split at ho
   ·rename_i hc
    subst ho
    refine .inr ⟨rfl,fun h=>?_⟩
    rcases hc with hc | hc
    ·exact h3 j _ h hc hg
    ·subst hc;exact bF _ hg
   ·exact .inl ho.symm
def MN (H:List aa) (ps ss:List Int) (ts:List T) (r:AV) (G:List aa):Prop:=
 ∃ va,r=.tuple [.ptr (H.length + 2) 0,va]∧G.take (H.length + 3)=H++[.map [],.map [],k9 ps ss (dk ts 0) H.length (H.length + 1)]∧H.length + 3≤G.length∧RO zI (H.length + 3) va (ints (ba ts 0)) G
theorem vu.ZK {z:AV} {kp kp':Nat→Prop} {v:AV} {xs:List AV} {G G':List aa} (h:vu z kp v xs G) (hk:∀ id l c,v=.aZ id 0 l c→¬ kp' id∧G'[id]?=G[id]?):vu z kp' v xs G':=by
 rcases h with h | ⟨id,cap,a,b,c,d⟩
 ·exact .inl h
 ·obtain ⟨h1,h2⟩:=hk _ _ _ b
  exact .inr ⟨id,cap,h1,b,by rw [h2];exact c,d⟩
theorem vu.ne {z:AV} {kp:Nat→Prop} {v:AV} {xs:List AV} {G:List aa} (h:vu z kp v xs G) {id l c:Nat} (e:v=.aZ id 0 l c):¬ kp id:=by
 rcases h with ⟨_,rfl⟩ | ⟨id',cap,a,rfl,_⟩
 ·cases e
 ·cases e;exact a
theorem adD (ps ss:List Int) (ts:List T) (H:List aa) (hb:ft ts * 64≤140737488355328):aA Tryz.prog 75 [dE ps ss,.al 0 (bN ts)] H (MN H ps ss ts):=by
 refine ZI.2.xx rfl ?_
 simp only [ZI,aH,dE]
 have V8:=fW ts
 simp +contextual only [bdD,Qo,sZ,Nat.reduceEqDiff,Nat.reduceAdd,↓reduceIte,reduceCtorEq]
 refine ⟨by simp;omega,fun _=>?_⟩
 have e0:∀ (l:List aa) (x:aa),(H++x::l)[H.length]?=some x:=by simp
 refine eY ts.length (fun i (p:AV×AV×List aa)=>vu zN (fun j=>j < H.length + 3∨∃ l c,p.2.1=.aZ j 0 l c) p.1 (fw (dk (ts.take i) 0)) p.2.2∧vu zI (fun j=>j < H.length + 3∨∃ l c,p.1=.aZ j 0 l c) p.2.1 (ints (ba (ts.take i) 0)) p.2.2∧H.length + 3≤p.2.2.length∧
  p.2.2.take (H.length + 3)=H++[.map [],.map [],.cells [.al 0 (ints ps),.al 0 (ints ss),p.1,.map H.length,.map (H.length + 1)]])
  (fun i p=>[(6,.ptr (H.length + 2) 0),(7,p.2.1),(15,.al 0 (bN ts)),(16,.int .i64 ts.length),(17,.int .i64 i)])
  (fun i p=>p.2.2) (.ag,.ag,_) ⟨⟨.inl ⟨rfl,rfl⟩,.inl ⟨rfl,rfl⟩,by simp,?_⟩,iD _ _ _⟩ fun i p hi hI=>?_
 ·rw [aax (by simp)]
 obtain ⟨v,va,G⟩:=p
 obtain ⟨hR,hA,hl,hG⟩:=hI
 simp only at hR hA hl hG
 obtain ⟨o1,o2,o3,o4⟩:=hR.one
 obtain ⟨p1,p2,p3,p4⟩:=hA.one
 have gget:∀ j,j < H.length + 3→G[j]?=(H++[.map [],.map [],.cells [.al 0 (ints ps),.al 0 (ints ss),v,.map H.length,.map (H.length + 1)]])[j]?:=by
  intro j hj;rw [← hG,aaG,if_pos hj]
 have g2:G[H.length + 2]?=some (.cells [.al 0 (ints ps),.al 0 (ints ss),v,.map H.length,.map (H.length + 1)]):=by rw [gget _ (by omega)];simp
 have hle:=cT ts i
 have sg:=cJ (ts.take i) 0
 have Qn:(ts.take i).length≤ts.length:=by simp;omega
 by_cases aM:i < ts.length
 ·have oH:((i:Int) < ts.length)=True:=eq_true (by omega)
  simp +contextual only [o3,p3,g2,hR.len,hR.aO,kH,oH,decide_true,sZ,Nat.reduceEqDiff,Nat.reduceAdd,Nat.reduceLT,↓reduceIte]
  have hwt:=mQ aM
  have hnext:=cT ts (i + 1)
  have e2:ts.take (i + 1)=ts.take i++[ts.getD i default]:=by rw [abN aM];simp [aM]
  have arrlt:∀ {z:AV} {kp:Nat→Prop} {u:AV} {xs:List AV} {G:List aa} {j l c:Nat},vu z kp u xs G→u=.aZ j 0 l c→j < G.length:=by
   intro z kp u xs G j l c h e
   rcases h with ⟨_,rfl⟩ | ⟨id',cap,_,rfl,h2,_⟩
   ·cases e
   ·cases e;exact aS h2
  refine ⟨aM,Az BV hA (pv _) 0 [.int .i64 (ft (ts.take i):Nat)] (by simp) (pv [_]) (by rw [ap];simp;omega) (fun j hj=>?_) fun va' G1 SR MC tO=>?_⟩
  ·rcases hj with hj | ⟨l,c,e⟩
   ·omega
   ·exact arrlt hR e
  obtain ⟨p1',p2',p3',p4'⟩:=SR.one
  have g21:G1[H.length + 2]?=some (.cells [.al 0 (ints ps),.al 0 (ints ss),v,.map H.length,.map (H.length + 1)]):=by rw [MC _ (.inl (by omega)),g2]
  have UL:vu zN (fun j=>j < H.length + 3∨∃ l c,va'=.aZ j 0 l c) v (fw (dk (ts.take i) 0)) G1:=hR.ZK fun id l c e=>by
   refine ⟨fun h=>?_,MC id (.inr ⟨l,c,e⟩)⟩
   rcases h with h | ⟨l',c',e'⟩
   ·exact hR.ne e (.inl h)
   ·exact SR.ne e' (.inr ⟨l,c,e⟩)
  simp +contextual only [o3,p3',g21,sZ,Nat.reduceEqDiff,Nat.reduceAdd,Nat.reduceLT,↓reduceIte,reduceCtorEq]
  have hc:=ZJ (wt (ts.getD i default)) (ts.getD i default) (zy _) (fun j=>j < H.length + 3∨∃ l c,va'=.aZ j 0 l c) v _ G1 UL (k8 _) (fun j hj=>by
   rcases hj with hj | ⟨l,c,e⟩
   ·omega
   ·exact arrlt SR e) (by rw [kH];omega)
  refine af hc ?_
  rintro r G' ⟨zj,uY,xf⟩
  obtain ⟨o1',o2',o3',o4'⟩:=zj.one
  have g2':G'[H.length + 2]?=some (.cells [.al 0 (ints ps),.al 0 (ints ss),v,.map H.length,.map (H.length + 1)]):=by rw [uY _ (.inl (by omega)),g21]
  have ew:=zj.bc (zy _)
  have FQ:vu zI (fun j=>j < H.length + 3∨∃ l c,r=.aZ j 0 l c) va' (ints (ba (ts.take i) 0)++[.int .i64 (ft (ts.take i):Nat)]) G':=SR.ZK fun id l c e=>by
   refine ⟨fun h=>?_,uY id (.inr ⟨l,c,e⟩)⟩
   rcases h with h | ⟨l',c',e'⟩
   ·exact SR.ne e (.inl h)
   ·exact zj.ne e' (.inr ⟨l,c,e⟩)
  have gt':G'.take (H.length + 3)=G.take (H.length + 3):=by
   apply abT
   intro j
   rw [aaG,aaG]
   split
   ·rename_i hj;rw [uY j (.inl hj),MC j (.inl hj)]
   ·rfl
  simp +contextual only [km,o1',o2',o3',o4',g2',ew,sZ,Nat.reduceEqDiff,Nat.reduceAdd,Nat.reduceLeDiff,↓reduceIte]
  refine ⟨by omega,i + 1,(r,va',_),⟨aM,?_,?_,by simp;omega,?_⟩,by omega,nV ?_ rfl⟩
  ·have h1:=zj.set (j:=H.length + 2) (fun l c e=>zj.ne e (.inl (by omega))) (.cells (ai [.al 0 (ints ps),.al 0 (ints ss),v,.map H.length,.map (H.length + 1)] 2 [r]))
   rw [kH] at h1
   rw [e2,mP,sO,abK]
   exact h1
  ·have h1:=FQ.set (j:=H.length + 2) (fun l c e=>FQ.ne e (.inl (by omega))) (.cells (ai [.al 0 (ints ps),.al 0 (ints ss),v,.map H.length,.map (H.length + 1)] 2 [r]))
   have ek:ints (ba (ts.take i++[ts.getD i default]) 0)=ints (ba (ts.take i) 0)++[.int .i64 (ft (ts.take i):Nat)]:=by rw [jS,abK];simp [ints]
   rw [e2,ek]
   exact h1
  ·rw [afU,gt',hG]
   simp [ai]
  ·rw [aj i (by omega)]
 ·have lW:i=ts.length:=by omega
  subst lW
  have oH:((ts.length:Int) < ts.length)=False:=eq_false (by omega)
  simp +contextual only [oH,decide_false,sZ,Nat.reduceEqDiff,↓reduceIte]
  rw [aby] at hR hA
  have bz:∀ (l:List Int) (cap n:Nat),(aX zI (ints l) cap).bc n=true:=fun l cap n=>by
   rw [BW]
   simp only [aa.bc,bw]
   exact ⟨aJ _ _,(ko.flat (kY BV _)).2.2.1 n⟩
  have fin:∀ (G':List aa),H.length + 3≤G'.length→(∀ id l c,va=.aZ id 0 l c→G'[id]?=G[id]?)→G'.take (H.length + 3)=H++[.map [],.map [],k9 ps ss (dk ts 0) H.length (H.length + 1)]→jP (ox H.length) H.length [.t 4,.t 5] [(4,.ptr (H.length + 2) 0),(5,va)] G' (MN H ps ss ts):=by
   intro G' xf bF fa
   have get3:∀ (j:Nat) (o:aa),H.length≤j→j < H.length + 3→G'[j]?=some o→o.bc (j + 1)=true:=by
    intro j o h1 h2 ho
    have h3:(G'.take (H.length + 3))[j]?=some o:=by rw [aaG,if_pos h2];exact ho
    rw [fa,abx h1] at h3
    have:j=H.length∨j=H.length + 1∨j=H.length + 2:=by omega
    rcases this with rfl | rfl | rfl
    ·simp at h3;subst h3;rfl
    ·simp at h3;subst h3;rfl
    ·simp at h3;subst h3;exact Au ps ss _ _
   have vM:∀ id,RO zI (H.length + 3) va (ints (ba ts 0)) (xW H.length id G')→(∀ o,G'[id]?=some o→o.bc (id + 1)=true)→va.bc G'.length=true→jP (ox H.length) H.length [.t 4,.t 5] [(4,.ptr (H.length + 2) 0),(5,va)] G' (MN H ps ss ts):=by
    intro id yH ew hva
    refine My (m:=G'.length) (by omega) (Ei get3 ew) (x:=.ptr (H.length + 2) 0) (y:=va) rfl (by simp [aD,p3]) (by rw [ra];exact decide_eq_true (by omega)) hva ⟨va,rfl,by rw [GF,fa],by rw [AA];exact xf,yH⟩
   rcases hA with ⟨e1,rfl⟩ | ⟨id,cap,hk,rfl,hg,hc,dP⟩
   ·exact vM G'.length (.inl ⟨e1,rfl⟩) (fun o ho=>by rw [abL (zy _)] at ho;cases ho) rfl
   ·have Qt:=bF _ _ _ rfl
    rw [hg] at Qt
    refine vM id (.inr ⟨id,cap,by have:=fun h=>hk (.inl h);omega,rfl,by rw [uv,Qt];simp,hc,dP⟩) (fun o ho=>?_) ?_
    ·rw [Qt] at ho;cases ho;exact bz _ _ _
    ·rw [eL];exact decide_eq_true (aS Qt)
  rw [D8]
  unfold Bg
  rw [g2]
  rcases hR with ⟨e1,rfl⟩ | ⟨id,cap,bF,rfl,hg,bY,dP⟩
  ·simp +contextual only [List.getElem?_cons_succ,List.getElem?_cons_zero,p3,sZ,Nat.reduceEqDiff,↓reduceIte,reduceCtorEq]
   refine fin G hl (fun _ _ _ _=>rfl) ?_
   rw [hG,k9,pr,if_pos (D9 e1)]
  ·simp +contextual only [List.getElem?_cons_succ,List.getElem?_cons_zero,p3,sZ,Nat.reduceEqDiff,↓reduceIte,reduceCtorEq]
   have WO:H.length + 3≤id:=by have:=fun h=>bF (.inl h);omega
   refine xD (by decide) BU (k8 _) (fun x hx=>?_) hg bY ⟨?_,?_,?_⟩
   ·obtain ⟨q,_,rfl⟩:=aaw.1 hx;rfl
   ·rw [zA (by omega)];exact g2
   ·rw [bA];exact xQ _ _
   ·refine fin _ (by simp;omega) (fun id' l c e=>?_) ?_
    ·have h1:id'≠id:=fun e'=>hA.ne e (.inr ⟨_,_,by rw [e']⟩)
     have h2:id'≠H.length + 2:=fun e'=>hA.ne e (.inl (by omega))
     rw [zA (Ne.symm h2),zA (Ne.symm h1)]
    ·rw [afU,afU,hG]
     have e1:∀ X:List aa,X.length≤id→X.set id .dead=X:=fun X h=>List.set_eq_of_length_le h
     rw [e1 _ (by simp;omega),k9,pr,if_neg (fun e=>dP (by rw [e];rfl))]
     simp
end Go.aI
end
section
set_option maxRecDepth 100000
set_option maxHeartbeats 0
namespace Go.aI
open Go Go.Proofs
noncomputable def R6:=aH Tryz.call105 Tryz.func105 Tryz.ntmps105 [(5,6,2)] [(0,[0,1,2]),(1,[0,1,2]),(2,[0,1,2,16]),(3,[6]),(4,[0,1,2,7]),(5,[0,7]),(6,[0]),(7,[6])] [(5,(tkq 0 6 (.br 6 (.take 7 true .done) .nil)))]
end Go.aI
end
section
set_option maxRecDepth 100000
namespace Go.aI
open Go Go.Proofs Go.dD
theorem spI (A B:List Int) (k:Nat):ai (ints A) k (ints B)=ints (A.take k++B++A.drop (k + B.length)):=by
 unfold ai
 rw [mS,uk,mT,ap,mT]
 rw [abe]
theorem sl3 {id i n cap:Nat} (h:i < n) (hc:n≤cap) (φ:AV→Prop):bH 1 (.aZ id 0 n cap) (some (.int .i64 (i:Int))) (some (.int .i64 ((i:Int) + 1))) (some (.int .i64 (n:Int))) φ=φ (.aZ id (if n=i then 0 else 0 + i * 1) ((i + 1) - i) (n - i)):=by
 have e1:((i:Int) + 1).toNat=i + 1:=by omega
 simp only [bH,pM,eS,zB,ad7,true_and,e1,eq_iff_iff]
 constructor
 ·rintro ⟨_,_,_,h⟩;exact h.2.2.2
 ·exact fun k=>⟨by omega,by omega,by omega,by omega,by omega,by omega,k⟩
theorem adF {id i n cap:Nat} (hc:i≤cap) (φ:AV→Prop):bH 1 (.aZ id 0 n cap) none (some (.int .i64 (i:Int))) none φ=φ (.aZ id 0 i cap):=by
 have e:(if cap=0 then 0 else 0 + 0 * 1)=0:=by split <;> simp
 simp only [bH,jF,eS,zB,e,agh,eq_iff_iff]
 constructor
 ·rintro ⟨_,h⟩;exact h.2.2
 ·exact fun k=>⟨by omega,by omega,hc,k⟩
theorem adG {id i n cap:Nat} (h:i + 1≤n) (hc:n≤cap) (φ:AV→Prop):bH 1 (.aZ id 0 n cap) (some (.int .i64 ((i:Int) + 1))) none none φ=φ (.aZ id (if cap=i + 1 then 0 else 0 + (i + 1) * 1) (n - (i + 1)) (cap - (i + 1))):=by
 have e1:((i:Int) + 1).toNat=i + 1:=by omega
 simp only [bH,jF,eS,e1,eq_iff_iff]
 constructor
 ·rintro ⟨_,h⟩;exact h.2.2
 ·exact fun k=>⟨by omega,h,hc,k⟩
theorem adH {id l h n cap:Nat} (hl:l < h) (hc:h≤cap) (φ:AV→Prop):bH 1 (.aZ id 0 n cap) (some (.int .i64 (l:Int))) (some (.int .i64 (h:Int))) none φ=φ (.aZ id l (h - l) (cap - l)):=by
 have e:(if cap=l then 0 else 0 + l * 1)=l:=by rw [if_neg (by omega)];omega
 simp only [bH,jF,eS,zB,e,eq_iff_iff]
 constructor
 ·rintro ⟨_,_,h⟩;exact h.2.2
 ·exact fun k=>⟨by omega,by omega,by omega,hc,k⟩
theorem adI (P S pad:List Int) (a:Int) (hb:(P++a::S).length≤1000000000) (id cap:Nat) (bY:cap=(P++a::S++pad).length) {H:List aa} (hg:H[id]?=some (.cells (ints (P++a::S++pad)))) :
 aA Tryz.prog 105 [.aZ id 0 (P.length + 1 + S.length) cap,.int .i64 P.length,.int .i64 ((P.length:Int) + 1)] H fun r H'=>r=.aZ id 0 (P.length + S.length) cap∧H'=H.set id (.cells (ints (P++S++0::pad))):=by
 refine R6.2.calls rfl ?_
 simp only [R6,aH]
 have jY:cap=P.length + 1 + S.length + pad.length:=by rw [bY];simp;omega
 rw [bY] at jY
 have ne:((P.length:Int)=(P.length:Int) + 1)=False:=eq_false (by omega)
 have rS:=aS hg
 have s1:=fun φ=>sl3 (id:=id) (i:=P.length) (n:=P.length + 1 + S.length) (cap:=cap) (by omega) (by omega) φ
 have s2:=fun φ=>adF (id:=id) (i:=P.length) (n:=P.length + 1 + S.length) (cap:=cap) (by omega) φ
 have s3':=fun φ=>adG (id:=id) (i:=P.length) (n:=P.length + 1 + S.length) (cap:=cap) (by omega) (by omega) φ
 have un:∀ a b c d,(AV.aZ a b c d).ab=.aZ a b c d:=fun _ _ _ _=>rfl
 have ox1:∀ (env:Env) (i:IX),jO env (some i)=some (aE env i):=fun _ _=>rfl
 have ox2:∀ (env:Env),jO env none=none:=fun _=>rfl
 have s4:=fun φ=>adH (id:=id) (l:=P.length + S.length) (h:=P.length + 1 + S.length) (n:=P.length + S.length) (cap:=cap) (by omega) (by omega) φ
 simp +contextual only [Option.map_some,Option.map_none,ox1,s1,s2,s3',ne,decide_false,un,sZ,Nat.reduceEqDiff,Nat.reduceAdd,↓reduceIte,reduceCtorEq]
 have hnone:∀ a b c d,dK (AV.aZ a b c d)=none:=fun _ _ _ _=>rfl
 have e0:P.length + 1 + S.length - (P.length + 1)=S.length:=by omega
 have eA:P++a::S++pad=(P++[a])++(S++pad):=by simp
 unfold b9
 simp only [hnone,yT,hg,ap,e0]
 have qn:(if cap=P.length + 1 then 0 else 0 + (P.length + 1) * 1) + S.length * 1≤(P++a::S++pad).length:=by simp only [aaj,List.length_cons];split <;> omega
 have htake:(List.take (S.length * 1) (List.drop (if cap=P.length + 1 then 0 else 0 + (P.length + 1) * 1) (ints (P++a::S++pad))))=ints S:=by
  rw [uk,mS,abP]
  congr 1
  by_cases hc:cap=P.length + 1
  ·have:S=[]:=abE.1 (by omega)
   subst this;simp
  ·rw [if_neg hc,eA,List.drop_left' (by simp),aeg]
 rw [if_pos qn]
 simp only [hg,htake,we,mU,aJ]
 refine ⟨?_,trivial,by omega,by rw [ap,← bY];omega,trivial,?_⟩
 ·rw [afD,ap];simp only [aaj,List.length_cons] at qn ⊢;omega
 obtain ⟨x,X,hxX,hXl⟩:∃ x X,(a::S).drop S.length=x::X∧X.length=0:=by
  have hl:((a::S).drop S.length).length=1:=by simp
  cases hd:(a::S).drop S.length with
  | nil=>rw [hd] at hl;simp at hl
  | cons x X=>rw [hd] at hl;exact ⟨x,X,rfl,by simpa using hl⟩
 have Qu:X=[]:=abE.1 hXl
 subst Qu
 have e1:ai (ints (P++a::S++pad)) (0 + P.length * 1) (ints S)=ints (P++S++x::pad):=by
  rw [spI]
  congr 1
  have h1:(P++a::S++pad).take (0 + P.length * 1)=P:=by rw [abe,abK,abP,aeg]
  have h2:(P++a::S++pad).drop (0 + P.length * 1 + S.length)=x::pad:=by
   rw [abe,abK,abP,← agn,agm,adN (by simp),hxX];rfl
  rw [h1,h2]
 rw [e1]
 have gs:∀ o,(H.set id o)[id]?=some o:=fun o=>Sx rS
 have e2:P.length + 1 + S.length - (P.length + S.length)=1:=by omega
 have e3:((P.length + S.length:Nat):Int)=((P.length + S.length:Nat):Int):=rfl
 simp +contextual only [ox1,ox2,s4,un,e2,JJ,sZ,Nat.reduceEqDiff,↓reduceIte,reduceCtorEq]
 unfold jG
 have ap1:cz (.int .i64 0) 1=ints [0]:=rfl
 simp only [gs,ap1,we,mU,aJ,ap,spI,afl]
 refine ⟨by simp;omega,trivial,trivial,?_⟩
 have e4:(P++S++x::pad).take (P.length + S.length)++[0]++(P++S++x::pad).drop (P.length + S.length + [(0:Int)].length)=P++S++0::pad:=by
  have hl:(P++S).length=P.length + S.length:=by simp
  rw [← hl,aeg,← agn,agm];simp
 rw [e4]
 simp +contextual only [un,sZ,↓reduceIte,reduceCtorEq]
 exact Uw (by simp) (by rw [eL];exact decide_eq_true rS) rfl rfl
end Go.aI
end
section
set_option maxRecDepth 100000
namespace Go.aI
open Go Go.Proofs Go.dD
theorem R7 {S:List aa→Prop} (hS:Ax S) {Q:Int→Prop} {a:List Int} {id cap:Nat} (hg:∀ G,S G→G[id]?=some (aX zI (ints a) cap)) (hc:a.length≤cap) (la:a.length≤1000000000) (g:Nat) (pre cP:List AV) (bY:cP.map AV.ab=cP) (ns:pre.map AV.ab=pre)
 (hf:∀ x∈a,∀ H,S H→aA Tryz.prog g (pre++[.int .i64 x]++cP) H (SB S (Q x))) {H:List aa} (hH:S H) :
 aA Tryz.prog 100 [.aZ id 0 a.length cap,.fn (.func g) pre cP] H (SI S Q a):=by
 refine JV.2.calls rfl ?_
 simp only [JV,aH]
 simp +contextual only [sZ,Nat.reduceEqDiff,Nat.reduceAdd,↓reduceIte,reduceCtorEq]
 have fin:∀ (n:Int) (G:List aa),S G→((n=-1∧∀ x∈a,¬ Q x)∨∃ m:Nat,n=m∧m < a.length∧Q (a.getD m 0)∧∀ j,j < m→¬ Q (a.getD j 0))→bP H.length [.t 4] [(4,.int .i64 n)] G (SI S Q a):=by
  intro n G hG hn
  refine aT H.length (zy _) (by rw [aD,if_pos rfl];rfl) ?_
  rw [aD,if_pos rfl,aax (by rw [hS H G hH hG];exact zy _)]
  refine ⟨hG,?_⟩
  rcases hn with ⟨rfl,h⟩ | ⟨m,rfl,h⟩
  ·exact .inl ⟨rfl,h⟩
  ·exact .inr ⟨m,rfl,h⟩
 refine aF a.length (fun i (G:List aa)=>S G∧∀ j,j < i→¬ Q (a.getD j 0))
  (fun i G=>[(0,.aZ id 0 a.length cap),(1,.fn (.func g) pre cP),(7,.int .i64 a.length),(8,.int .i64 i)]) (fun i G=>G) H ⟨⟨hH,fun j hj=>by omega⟩,ax _ _ _⟩ fun i G hi hI=>?_
 obtain ⟨hG,hq⟩:=hI
 by_cases aM:i < a.length
 ·have oH:((i:Int) < a.length)=True:=eq_true (by omega)
  simp +contextual only [oH,decide_true,jb,hg G hG,H6 aM,bY,ns,sZ,Nat.reduceEqDiff,Nat.reduceAdd,↓reduceIte,reduceCtorEq]
  refine ⟨by omega,af (hf _ (aV (by omega)) G hG) ?_⟩
  rintro r G' ⟨x,rfl,hx,fa⟩
  cases x with
  | false=>
    simp +contextual only [sZ,Nat.reduceEqDiff,↓reduceIte,reduceCtorEq]
    refine ⟨i + 1,G',⟨by omega,fa,fun j hj=>?_⟩,by omega,ay (by rw [aj i (by omega)]) rfl⟩
    by_cases h:j=i
    ·subst h;exact fun h=>absurd (hx.2 h) (by simp)
    ·exact hq j (by omega)
  | true=>
    simp +contextual only [sZ,Nat.reduceEqDiff,↓reduceIte,reduceCtorEq]
    exact fin _ _ fa (.inr ⟨i,rfl,by omega,hx.1 rfl,hq⟩)
 ·have oH:((i:Int) < a.length)=False:=eq_false (by omega)
  simp +contextual only [oH,decide_false,sZ,Nat.reduceEqDiff,↓reduceIte,reduceCtorEq]
  refine fin _ _ hG (.inl ⟨rfl,fun x hx=>?_⟩)
  obtain ⟨j,hj,rfl⟩:=acg hx
  have:=hq j (by omega)
  simpa [hj] using this
theorem ZL {S:List aa→Prop} (hS:Ax S) {Q:Int→Prop} {a:List Int} {id cap:Nat} (hg:∀ G,S G→G[id]?=some (aX zI (ints a) cap)) (hc:a.length≤cap) (la:a.length≤1000000000) (g:Nat) (pre cP:List AV) (bY:cP.map AV.ab=cP) (ns:pre.map AV.ab=pre)
 (hf:∀ x∈a,∀ H,S H→aA Tryz.prog g (pre++[.int .i64 x]++cP) H (SB S (Q x))) {H:List aa} (hH:S H) :
 aA Tryz.prog 102 [.aZ id 0 a.length cap,.fn (.func g) pre cP] H (SB S (∃ x∈a,Q x)):=by
 refine JW.2.calls rfl ?_
 simp only [JW,aH]
 simp +contextual only [sZ,Nat.reduceEqDiff,Nat.reduceAdd,↓reduceIte,reduceCtorEq]
 refine af (R7 hS hg hc la g pre cP bY ns hf hH) ?_
 rintro r G ⟨hG,⟨rfl,h⟩ | ⟨n,rfl,h1,h2,_⟩⟩
 ·simp +contextual only [sZ,↓reduceIte,reduceCtorEq]
  exact BY hS (b:=false) (by simp) ⟨fun h=>by simp at h,fun ⟨x,hx,h'⟩=>absurd h' (h x hx)⟩ hH hG
 ·simp +contextual only [sZ,↓reduceIte,reduceCtorEq]
  exact BY hS (b:=true) (by simp) ⟨fun _=>⟨_,aV h1,h2⟩,fun _=>rfl⟩ hH hG
def SG (c:Cx) (G H:List aa):Prop:=Du c H∧Up c G H
theorem SG.len (c:Cx) (G:List aa):Ax (SG c G):=fun H H' h h'=>h'.2.len.trans h.2.len.symm
theorem adK {c:Cx} (hc:c.Ok) {i x:Int} (hi:c.eJ i) (hx:c.eJ x) {t9:Nat} {G:List aa} (h9:G[t9]?=some (.cells [.ptr c.d 0])) (n1:t9≠c.e) (n2:t9≠c.g) (H:List aa) (hH:SG c G H) :
 aA Tryz.prog 103 ([]++[.int .i64 x]++[.ptr t9 0,.ah (.int .i64 i)]) H (SB (SG c G) (R c.O (c.tm i) (c.tm x))):=by
 refine Xn.2.calls rfl ?_
 simp only [Xn,aH,List.nil_append,List.cons_append]
 have h9':H[t9]?=some (.cells [.ptr c.d 0]):=by rw [hH.2.get t9 n1 n2,h9]
 simp +contextual only [h9',sZ,Nat.reduceEqDiff,Nat.reduceAdd,Nat.reduceLT,↓reduceIte,reduceCtorEq]
 refine af (lg hc hi hx H hH.1) ?_
 rintro r G' ⟨b,rfl,hb,hU,hD⟩
 simp +contextual only [sZ,↓reduceIte,reduceCtorEq]
 exact BY (SG.len c G) rfl hb hH ⟨hD,hH.2.trans hU⟩
theorem adL {c:Cx} (hc:c.Ok) {i:Int} (hi:c.eJ i) {t9 t10 id cap:Nat} {l:List Int} {G:List aa} (hl:∀ x∈l,c.eJ x) (zK:l.length≤cap) (Je:l.length≤1000000000)
 (h9:G[t9]?=some (.cells [.ptr c.d 0])) (n1:t9≠c.e) (n2:t9≠c.g)
 (h10:G[t10]?=some (.cells [.aZ id 0 l.length cap])) (m1:t10≠c.e) (m2:t10≠c.g)
 (hg:G[id]?=some (aX zI (ints l) cap)) (k1:id≠c.e) (k2:id≠c.g) (H:List aa) (hH:SG c G H) :
 aA Tryz.prog 101 ([]++[.int .i64 i]++[.ptr t10 0,.ptr t9 0]) H (SB (SG c G) (¬ ∃ x∈l,R c.O (c.tm i) (c.tm x))):=by
 refine Xm.2.calls rfl ?_
 simp only [Xm,aH,List.nil_append,List.cons_append]
 have adM:H[t10]?=some (.cells [.aZ id 0 l.length cap]):=by rw [hH.2.get t10 m1 m2,h10]
 simp +contextual only [adM,sZ,Nat.reduceEqDiff,Nat.reduceAdd,Nat.reduceLT,↓reduceIte,reduceCtorEq]
 refine af (ZL (SG.len c G) (fun G' fa=>by rw [fa.2.get id k1 k2,hg]) zK Je 103 [] [.ptr t9 0,.ah (.int .i64 i)] rfl rfl (fun x hx H' hH'=>adK hc hi (hl x hx) h9 n1 n2 H' hH') hH) ?_
 rintro r G' ⟨b,rfl,hb,hG⟩
 simp +contextual only [sZ,↓reduceIte,reduceCtorEq]
 refine BY (SG.len c G) (b:=!b) (by simp) ?_ hH hG
 rw [← hb];cases b <;> simp
end Go.aI
end
section
set_option maxRecDepth 100000
set_option maxHeartbeats 0
namespace Go.aI
open Go Go.Proofs
noncomputable def ZM:=aH Tryz.call37 Tryz.func37 Tryz.ntmps37 [(0,0,1),(0,1,1),(9,2,2000),(10,0,1),(10,12,2000),(10,15,1),(11,4,2000)] [(0,[2,3,4]),(1,[2,4,8]),(2,[2,4,8,18]),(3,[6,7]),(4,[2,4,22]),(5,[6,7]),(6,[9,10]),(7,[9,10,11]),(8,[9,10,11,31]),(9,[9,10,11,12]),(10,[9,10,11,12]),(11,[9,10,11]),(12,[6,7])] [(10,(tkq 1 11 (.br 0 (.br 12 (.take 13 true (.br 14 (.br 15 .done .nil) .nil)) .nil) (.br 12 (.take 13 true (.br 0 (.br 14 (.br 15 .done .nil) .nil) .nil)) .nil))))]
noncomputable def R8:=aH Tryz.call104 Tryz.func104 Tryz.ntmps104 [(1,4,2),(5,4,2000),(7,0,3003)] [(0,[1,2]),(1,[1,2]),(2,[1,2,10,11,12]),(3,[1,2,10,11,12,13]),(4,[1,2,3,4,10,11,12]),(5,[1,2,10,11,12]),(6,[1,2,10,11,12]),(7,[2])] [(5,(.take 3 true (.take 0 false (.take 2 false (.br 1 (.br 4 (.take 5 true (.br 6 .done .nil)) .nil) (.br 4 (.take 1 true (.take 5 true (.br 6 .done .nil))) .nil))))))]
end Go.aI
end
section
set_option maxRecDepth 100000
namespace Go.aI
open Go Go.Proofs Go.dD
def zT:AV:=.agg [.int .i64 0,.int .i64 0,.ag]
theorem MO:ko 3 (bU zT):=⟨rfl,rfl,rfl,rfl⟩
theorem sE (t:T):t.av=.agg [.int .i64 t.k,.int .i64 t.n,.al 0 (bN t.l)]:=by cases t;rfl
theorem xX (t:T):ko 3 t.av:=by
 rw [sE]
 exact ⟨rfl,rfl,by simp [AV.cells,ee,bL,cV,ja,bA],rfl⟩
theorem H9 {l:List T} {x:AV} (h:x∈bN l):∃ t∈l,x=t.av:=by
 induction l with
 | nil=>cases h
 | cons y r ih=>
   rcases aak.1 h with rfl | h
   ·exact ⟨y,abD,rfl⟩
   ·obtain ⟨t,ht,e⟩:=ih h;exact ⟨t,aaA _ ht,e⟩
theorem pZ (l:List T):∀ x∈bN l,ko 3 x:=by
 intro x hx;obtain ⟨t,_,rfl⟩:=H9 hx;exact xX t
theorem Ia {l:List T} {i:Nat} (h:i < l.length):(bN l).getD i .any=(l.getD i default).av:=by
 induction l generalizing i with
 | nil=>simp at h
 | cons x r ih=>
   cases i with
   | zero=>rfl
   | succ i=>simpa [bN] using ih (i:=i) (by simpa using h)
theorem jT (l:List T):(bN l).length=l.length:=by induction l with | nil=>rfl | cons x r ih=>simp [bN,ih]
def CT (base:Nat) (v:AV) (l:List T) (G:List aa):Prop:=
 (l=[]∧v=.ag)∨∃ id cap,base≤id∧v=.aZ id 0 l.length cap∧G[id]?=some (aX zT (bN l) cap)∧l.length≤cap
theorem CT.one {base:Nat} {v:AV} {l:List T} {G:List aa} (h:CT base v l G):v.one=true∧v.val=true∧v.ab=v∧v.cells=[v]:=by
 rcases h with ⟨_,rfl⟩ | ⟨id,cap,_,rfl,_⟩ <;> exact ⟨rfl,rfl,rfl,rfl⟩
theorem CT.bc {base:Nat} {v:AV} {l:List T} {G:List aa} (h:CT base v l G) {n:Nat} (hn:G.length≤n):v.bc n=true:=by
 rcases h with ⟨_,rfl⟩ | ⟨id,cap,_,rfl,c,_⟩
 ·rfl
 ·have:=(aa2.1 c).1
  rw [eL];simp;omega
theorem CT.len {base:Nat} {v:AV} {l:List T} {G:List aa} (h:CT base v l G) {H:List aa} (φ:AV→Prop):fR v H φ=φ (.int .i64 l.length):=by
 rcases h with ⟨rfl,rfl⟩ | ⟨id,cap,_,rfl,_⟩ <;> rfl
theorem CT.aO {base:Nat} {v:AV} {l:List T} {G:List aa} (h:CT base v l G):aO 1 v=True:=by
 rcases h with ⟨rfl,rfl⟩ | ⟨id,cap,_,rfl,_⟩ <;> rfl
theorem MP (o:Nat) (φ:AV→Prop):dR 0 false (.al o []) φ=(φ (.bool true)∧φ (.bool false)):=by simp [dR,isNil]
theorem MQ (o:Nat) (x:AV) (r:List AV) (φ:AV→Prop):dR 0 false (.al o (x::r)) φ=φ (.bool false):=by simp [dR,isNil]
theorem MR {esz bytes:Nat} {z:AV} {id o:Nat} {G:List aa} (bF:G[id]?=some (.cells [])) {K:AV→List aa→Prop} (hK:K (.aZ id 0 0 0) G):b9 esz bytes z (.aZ id 0 0 0) (.al o []) G K:=by
 unfold b9
 simp only [dK,bF]
 refine ⟨fun y h=>by simp at h,by simp,zy _,by simp,fun _=>⟨by simp [flat,aw],?_⟩,fun h=>absurd h (by simp)⟩
 have e:ai ([]:List AV) ((0 + 0) * esz) (List.map AV.ab (flat []))=[]:=by simp [ai,flat]
 simp only [flat,ai,aga,List.map_nil,List.length_nil,abJ,List.take_nil,List.drop_nil]
 rw [Gz bF]
 exact hK
theorem adO (l:List T) (H:List aa) (hb:l.length * 40≤140737488355328):aA Tryz.prog 58 [.al 0 (bN l)] H fun r H'=>CT H.length r l H'∧H'.take H.length=H∧H.length≤H'.length:=by
 refine Y7.2.calls rfl ?_
 simp only [Y7,aH]
 cases l with
 | nil=>
   simp +contextual only [bN,MP,v9,qC,sZ,Nat.reduceEqDiff,Nat.reduceAdd,↓reduceIte,reduceCtorEq]
   refine ⟨aT H.length (zy _) (by rw [aD,if_pos rfl];rfl) ⟨.inl ⟨rfl,by rw [aD,if_pos rfl]⟩,by simp,by simp⟩,?_⟩
   refine ⟨rfl,MR (by simp [flat]) ?_⟩
   simp +contextual only [sZ,↓reduceIte,reduceCtorEq]
   refine aT (H.length + 1) (by omega) (by rw [aD,if_pos rfl,eL];exact decide_eq_true (by omega)) ?_
   rw [aD,if_pos rfl,aax (by simp)]
   exact ⟨.inr ⟨H.length,0,zy _,rfl,by simp [aX,bN,flat,cz],zy _⟩,by simp,by simp⟩
 | cons v r=>
   simp +contextual only [bN,MQ,v9,qC,sZ,Nat.reduceEqDiff,Nat.reduceAdd,↓reduceIte,reduceCtorEq]
   refine ⟨rfl,H5 MO (by simp [flat]) (bN (v::r)) (by simp [bN]) (pZ _) (by rw [jT];exact hb) (base:=H.length) (by simp) fun v' G' hR hG hl=>?_⟩
   obtain ⟨o1,o2,o3,o4⟩:=hR.one
   simp +contextual only [o3,sZ,↓reduceIte,reduceCtorEq]
   have xf:H.length≤G'.length:=by simp at hl;omega
   refine aT G'.length xf (by rw [aD,if_pos rfl];exact hR.bc (zy _)) ?_
   rw [aD,if_pos rfl,aby]
   refine ⟨?_,by rw [hG];simp,xf⟩
   rcases hR with ⟨h,_⟩ | ⟨id,cap,a,b,c,d,_⟩
   ·cases h
   ·rw [jT] at b d;exact .inr ⟨id,cap,a,b,c,d⟩
theorem loadT {l:List T} {cap i:Nat} (h:i < l.length) (φ:AV→Prop):cS (some (aX zT (bN l) cap)) (some 3) (i * 3) φ=φ (l.getD i default).av:=by
 obtain ⟨g1,_⟩:=ko.flat (pZ l)
 rw [jT] at g1
 have h1:=rc (pZ l) i (by rw [jT];exact h)
 rw [Ia h] at h1
 have qM:(l.getD i default).av.cells.length=3:=(xX _).len
 have e:((flat (bN l)++cz zT (cap - (bN l).length)).drop (i * 3)).take 3=(l.getD i default).av.cells:=by
  rw [adN (by omega),h1,abe,abd (by omega),aax (by omega)]
 simp only [aX,cS,e,eq_iff_iff,aaj]
 have e2:AV.agg ((l.getD i default).av.cells.map AV.drop)=(l.getD i default).av:=by rw [sE];rfl
 rw [e2]
 constructor
 ·exact fun h=>h.2
 ·exact fun h2=>⟨by omega,h2⟩
theorem storeT {l:List T} {cap i id:Nat} (h:i < l.length) {H:List aa} (hg:H[id]?=some (aX zT (bN l) cap)) {K:List aa→Prop} (hK:K H):hZ (some (aX zT (bN l) cap)) 3 id (i * 3) (l.getD i default).av H K:=by
 obtain ⟨g1,_⟩:=ko.flat (pZ l)
 rw [jT] at g1
 have h1:=rc (pZ l) i (by rw [jT];exact h)
 rw [Ia h] at h1
 have ho:=xX (l.getD i default)
 have qM:=ho.len
 have hs:ai (flat (bN l)++cz zT (cap - (bN l).length)) (i * 3) ((l.getD i default).av.cells.map AV.ab)=flat (bN l)++cz zT (cap - (bN l).length):=by
  rw [ho.un]
  unfold ai
  have e1:(flat (bN l)++cz zT (cap - (bN l).length)).drop (i * 3)=(l.getD i default).av.cells++(flat ((bN l).drop (i + 1))++cz zT (cap - (bN l).length)):=by
   rw [adN (by omega),h1,abe]
  have e2:(flat (bN l)++cz zT (cap - (bN l).length)).drop (i * 3 + (l.getD i default).av.cells.length)=flat ((bN l).drop (i + 1))++cz zT (cap - (bN l).length):=by
   rw [← agn,e1,agm]
  rw [e2,← e1,aff]
 have hv:(l.getD i default).av.val=true:=by rw [sE];rfl
 simp only [aX,hZ]
 refine ⟨hv,qM,by rw [aaj];omega,ho.one,by rw [ho.un];exact bI (ac6 _) _ ho.bl,?_⟩
 rw [hs,show (aa.cells (flat (bN l)++cz zT (cap - (bN l).length)))=aX zT (bN l) cap from rfl,Gz hg]
 exact hK
theorem CT.set {base:Nat} {v:AV} {l:List T} {G:List aa} (h:CT base v l G) {j:Nat} (hj:j < base) (o:aa):CT base v l (G.set j o):=by
 rcases h with h | ⟨id,cap,a,b,c,d⟩
 ·exact .inl h
 ·exact .inr ⟨id,cap,a,b,by rw [zA (by omega)];exact c,d⟩
theorem CT.ui {base:Nat} {v:AV} {l:List T} {G:List aa} (h:CT base v l G) (X:List aa):CT base v l (G++X):=by
 rcases h with h | ⟨id,cap,a,b,c,d⟩
 ·exact .inl h
 ·exact .inr ⟨id,cap,a,b,by rw [zz (aS c)];exact c,d⟩
theorem CT.get {base:Nat} {v:AV} {l:List T} {G:List aa} (h:CT base v l G) {i:Nat} (hi:i < l.length):∃ id cap,base≤id∧v=.aZ id 0 l.length cap∧G[id]?=some (aX zT (bN l) cap)∧l.length≤cap:=by
 rcases h with ⟨rfl,_⟩ | h
 ·simp at hi
 ·exact h
theorem adP:∀ (n:Nat) (t:T),wt t≤n→wt t≤1000000000→Pure Tryz.prog 104 [t.av] t.av:=by
 intro n
 induction n with
 | zero=>intro t h;have:=dt t;omega
 | succ n ih=>
   intro t hn hb H
   refine R8.2.xx rfl ?_
   simp only [R8,aH]
   have hw:=vn t
   have V8:=fW t.l
   rw [sE]
   simp +contextual only [sZ,Nat.reduceEqDiff,Nat.reduceAdd,Nat.reduceLT,↓reduceIte]
   have v7:(H++[aa.cells [.int .i64 t.k,.int .i64 t.n,.al 0 (bN t.l)],.cells [.int .i64 0,.int .i64 0,.ag]]).length=H.length + 2:=by simp
   refine af (adO t.l _ (by omega)) ?_
   rintro v G ⟨hC,hG,hl⟩
   rw [v7] at hC hG hl
   obtain ⟨o1,o2,o3,o4⟩:=hC.one
   have g0:G[H.length]?=some (.cells [.int .i64 t.k,.int .i64 t.n,.al 0 (bN t.l)]):=by
    have:(G.take (H.length + 2))[H.length]?=G[H.length]?:=by rw [aaG,if_pos (by omega)]
    rw [← this,hG];simp
   have g1:G[H.length + 1]?=some (.cells [.int .i64 0,.int .i64 0,.ag]):=by
    have:(G.take (H.length + 2))[H.length + 1]?=G[H.length + 1]?:=by rw [aaG,if_pos (by omega)]
    rw [← this,hG];simp
   have fa:G.take H.length=H:=by
    have:G.take H.length=(G.take (H.length + 2)).take H.length:=by rw [List.take_take];congr 1;omega
    rw [this,hG];simp
   have ZN:=hC.bc (zy _)
   have A6:H.length < G.length:=by omega
   have iJ:∀ o,(G.set H.length o)[H.length]?=some o:=fun o=>Sx A6
   simp +contextual only [km,o1,o2,o3,o4,g0,ZN,iJ,hC.aO,hC.len,sZ,Nat.reduceEqDiff,Nat.reduceAdd,Nat.reduceLT,↓reduceIte]
   refine eY t.l.length (fun i (G:List aa)=>CT (H.length + 2) v t.l G∧G[H.length]?=some (.cells [.int .i64 t.k,.int .i64 t.n,v])∧G[H.length + 1]?=some (.cells [.int .i64 0,.int .i64 0,.ag])∧G.take H.length=H)
    (fun i G=>[(1,.ptr H.length 0),(2,.ptr (H.length + 1) 0),(10,v),(11,.int .i64 t.l.length),(12,.int .i64 i)]) (fun i G=>G) (G.set H.length (.cells [.int .i64 t.k,.int .i64 t.n,v]))
    ⟨⟨hC.set (by omega) _,iJ _,by rw [zA (by omega)];exact g1,by rw [abz (by omega)];exact fa⟩,iD _ _ _⟩ fun i G hi hI=>?_
   clear hG g0 g1 fa ZN A6 iJ hl hC
   obtain ⟨hC,g0,g1,hG⟩:=hI
   by_cases aM:i < t.l.length
   ·have oH:((i:Int) < t.l.length)=True:=eq_true (by omega)
    obtain ⟨id,cap,bF,rfl,hg,bY⟩:=hC.get aM
    have v7:=aS hg
    have Qt:∀ X,(G++X)[id]?=some (aX zT (bN t.l) cap):=fun X=>by rw [zz v7];exact hg
    have g0':∀ X,(G++X)[H.length]?=some (.cells [.int .i64 t.k,.int .i64 t.n,.aZ id 0 t.l.length cap]):=fun X=>by rw [zz (aS g0)];exact g0
    have hx:=sE (t.l.getD i default)
    have hL:∀ φ,cS (some (aX zT (bN t.l) cap)) (some 3) (i * 3) φ=φ (.agg [.int .i64 (t.l.getD i default).k,.int .i64 (t.l.getD i default).n,.al 0 (bN (t.l.getD i default).l)]):=fun φ=>by rw [← hx];exact loadT aM φ
    have hwx:wt (t.l.getD i default)≤ft t.l:=by
     have:=mQ aM;have:=cT t.l (i + 1);omega
    have hcall:=ih (t.l.getD i default) (by omega) (by omega)
    rw [hx] at hcall
    have hS:=fun {H':List aa} (hg:H'[id]?=some (aX zT (bN t.l) cap)) {K:List aa→Prop} (hK:K H')=>storeT (id:=id) aM hg hK
    rw [hx] at hS
    simp +contextual only [oH,decide_true,jb,hg,hL,g0',sZ,Nat.reduceEqDiff,Nat.reduceAdd,Nat.reduceLT,↓reduceIte,reduceCtorEq]
    refine ⟨aM,ae hcall ?_,ae hcall ?_⟩
    all_goals
     simp +contextual only [jb,g0',Qt,sZ,Nat.reduceEqDiff,Nat.reduceAdd,Nat.reduceLT,↓reduceIte,reduceCtorEq]
     refine ⟨aM,hS (Qt _) ?_⟩
     simp +contextual only [sZ,Nat.reduceEqDiff,↓reduceIte]
     refine ⟨i + 1,_,⟨aM,hC.ui _,g0' _,by rw [zz (aS g1)];exact g1,by rw [abd (by have:=aS g1;omega)];exact hG⟩,by omega,nV (by rw [aj i (by omega)]) rfl⟩
   ·have lW:i=t.l.length:=by omega
    have oH:((i:Int) < t.l.length)=False:=eq_false (by omega)
    simp +contextual only [km,oH,decide_false,g0,sZ,Nat.reduceEqDiff,↓reduceIte]
    have fin:∀ (G':List aa),G'[H.length + 1]?=some (.cells [.int .i64 t.k,.int .i64 t.n,.al 0 (bN t.l)])→G'.take H.length=H→cS G'[H.length + 1]? (some 3) 0 fun v=>xC (ox H.length) H.length v G' fun r H'=>r=AV.agg [AV.int IntKind.i64 t.k,AV.int IntKind.i64 t.n,AV.al 0 (bN t.l)]∧H'=H:=by
     intro G' h1 h2
     rw [h1,HJ]
     exact ⟨H.length,H,zy _,tW h2 rfl,_,le_refl _,by simp [AV.drop,xq,bL,cV,ja,bA,ee],rfl,rfl⟩
    have ls:∀ (l:List AV) (G':List aa),(∀ o,(G'.set (H.length + 1) o).take H.length=G'.take H.length):=fun l G' o=>abz (by omega)
    have tO:=aS g1
    rcases hC with ⟨e,rfl⟩ | ⟨id,cap,bF,rfl,hg,bY⟩
    ·rw [e] at fin ⊢
     have e1:∀ (K:AV→List aa→Prop),eK 3 AV.ag.drop G K=K (.al 0 []) G:=fun K=>rfl
     rw [e1]
     simp +contextual only [km,g1,sZ,Nat.reduceEqDiff,Nat.reduceAdd,↓reduceIte,reduceCtorEq]
     exact fin _ (Sx tO) (by rw [abz (by omega)];exact hG)
    ·have e1:∀ l c,(AV.aZ id 0 l c).drop=.aZ id 0 l c:=fun _ _=>rfl
     rw [e1]
     have ef:=fun K hK=>xD (esz:=3) (by decide) MO (pZ t.l) (fun x hx=>by obtain ⟨y,_,rfl⟩:=H9 hx;rw [sE];rfl) hg (by rw [jT];exact bY) (K:=K) hK
     rw [jT] at ef
     refine ef _ ?_
     have g1':(G.set id .dead)[H.length + 1]?=some (.cells [.int .i64 0,.int .i64 0,.ag]):=by rw [zA (by omega)];exact g1
     simp +contextual only [km,g1',sZ,Nat.reduceEqDiff,Nat.reduceAdd,↓reduceIte,reduceCtorEq]
     exact fin _ (Sx (by simpa using tO)) (by rw [abz (by omega),abz (by omega)];exact hG)
end Go.aI
end
section
set_option maxRecDepth 100000
namespace Go.aI
open Go Go.Proofs
theorem adQ:Dp Tryz.prog 238 (.Jo qZ):=By Tryz.func238 (by kernel_rfl) (by kernel_rfl) (by kernel_rfl) (by kernel_rfl)
theorem adR:Dp Tryz.prog 231 (.Jo countP):=Lg Tryz.func231 (by kernel_rfl) (by kernel_rfl) (by kernel_rfl) (by kernel_rfl)
end Go.aI
end
section
set_option maxRecDepth 100000
namespace Go.aI
open Go Go.Proofs
theorem ixs (s:ByteArray) (k:IntKind) (i:Nat) (φ:AV→Prop):bX (.str s) (.int k (i:Int)) φ=(i < s.size∧φ (.int .u8 (s.data.toList.getD i 0).toNat)):=by
 simp only [bX,zB,eq_iff_iff]
 exact ⟨fun h=>h.2,fun h=>⟨by omega,h⟩⟩
theorem ru (a b:ByteArray) (φ:AV→Prop):dw .eql (.str a) (.str b) φ=φ (.bool (decide (a=b))):=by
 simp [dw]
theorem Ib {g:Nat} {f:List AV→Option AV} (h:Dp Tryz.prog g (.Jo f)) {xs:List AV} {r:AV} (hr:f xs=some r):Pure Tryz.prog g xs r:=fun H=>h xs r H hr
theorem adT (s:ByteArray) (c:Int):Pure Tryz.prog 238 [.str s,.int .u8 c] (.int .i64 (firstIdx s c.toNat.toUInt8)):=Ib adQ rfl
def oI (s:ByteArray) (c:Int):Int:=s.foldl (fun (n:Int) x=>if x == c.toNat.toUInt8 then n + 1 else n) ((0:Nat):Int)
theorem adU (s:ByteArray) (c:Int):Pure Tryz.prog 231 [.str s,.int .u8 c] (.int .i64 (oI s c)):=Ib adR (by simp only [countP,oI])
theorem ZO (s:ByteArray) (c:Int):Pure Tryz.prog 228 [.str s,.int .u8 c] (.int .i64 (firstIdx s c.toNat.toUInt8)):=by
 refine fun H=>YQ.2.calls rfl ?_
 simp only [YQ,aH]
 simp +contextual only [Bz,sZ,Nat.reduceEqDiff,Nat.reduceAdd,↓reduceIte,reduceCtorEq]
 refine ae (adT s c) ?_
 simp +contextual only [sZ,↓reduceIte,reduceCtorEq]
 exact aK rfl rfl
theorem adV (s:ByteArray) (c:Int):Pure Tryz.prog 190 [.str s,.int .u8 c] (.int .i64 (firstIdx s c.toNat.toUInt8)):=by
 refine fun H=>Yj.2.calls rfl ?_
 simp only [Yj,aH]
 simp +contextual only [Bz,sZ,Nat.reduceEqDiff,Nat.reduceAdd,↓reduceIte,reduceCtorEq]
 refine ae (ZO s c) ?_
 simp +contextual only [sZ,↓reduceIte,reduceCtorEq]
 exact aK rfl rfl
def us:ByteArray:=⟨#[95]⟩
theorem ix0 (k:IntKind) (φ:AV→Prop):bX (.str us) (.int k 0) φ=φ (.int .u8 95):=by
 simp only [bX,eq_iff_iff]
 exact ⟨fun h=>h.2.2,fun h=>⟨by omega,by decide,h⟩⟩
def MS (s:ByteArray):Int:=if s=us then 0 else firstIdx s 95
theorem adW (s:ByteArray):Pure Tryz.prog 229 [.str s,.str us] (.int .i64 (MS s)):=by
 refine fun H=>YR.2.calls rfl ?_
 simp only [YR,aH]
 unfold MS
 have dd:((us.size:Nat):Int)=1:=rfl
 by_cases hs:s=us
 ·rw [if_pos hs]
  simp +contextual only [ru,dd,hs,Int.reduceEq,sZ,Nat.reduceEqDiff,Nat.reduceAdd,↓reduceIte,reduceCtorEq,Int.reduceEq]
  exact aK rfl rfl
 ·rw [if_neg hs]
  have SL:¬ us=s:=fun e=>hs e.symm
  simp +contextual only [ru,dd,SL,ix0,Int.reduceEq,sZ,Nat.reduceEqDiff,Nat.reduceAdd,↓reduceIte,reduceCtorEq,Int.reduceEq]
  refine ae (ZO s 95) ?_
  simp +contextual only [sZ,↓reduceIte,reduceCtorEq]
  exact aK rfl rfl
theorem adX (s:ByteArray):Pure Tryz.prog 191 [.str s,.str us] (.int .i64 (MS s)):=by
 refine fun H=>Yk.2.calls rfl ?_
 simp only [Yk,aH]
 simp +contextual only [sZ,Nat.reduceEqDiff,Nat.reduceAdd,↓reduceIte,reduceCtorEq]
 refine ae (adW s) ?_
 simp +contextual only [sZ,↓reduceIte,reduceCtorEq]
 exact aK rfl rfl
theorem adY (s:ByteArray):Pure Tryz.prog 142 [.str s,.str us] (.bool (decide (0≤MS s))):=by
 refine fun H=>XI.2.calls rfl ?_
 simp only [XI,aH]
 simp +contextual only [sZ,Nat.reduceEqDiff,Nat.reduceAdd,↓reduceIte,reduceCtorEq]
 refine ae (adX s) ?_
 simp +contextual only [sZ,↓reduceIte,reduceCtorEq]
 exact aK rfl rfl
theorem adZ (s:ByteArray):Pure Tryz.prog 193 [.str s,.str us] (.int .i64 (oI s 95)):=by
 refine fun H=>Ym.2.calls rfl ?_
 simp only [Ym,aH]
 have dd:((us.size:Nat):Int)=1:=rfl
 simp +contextual only [dd,ix0,Int.reduceEq,sZ,Nat.reduceEqDiff,Nat.reduceAdd,↓reduceIte,reduceCtorEq,Int.reduceEq]
 refine ae (adU s 95) ?_
 simp +contextual only [sZ,↓reduceIte,reduceCtorEq]
 exact aK rfl rfl
def xY (c:UInt8):Bool:=decide (((c.toNat:Nat):Int) < 33) || decide ((126:Int) < ((c.toNat:Nat):Int)) || decide (0≤firstIdx ⟨#[40,41,44]⟩ ((c.toNat:Nat):Int).toNat.toUInt8)
def oA (s:ByteArray):Bool:=!decide (((s.size:Nat):Int) < 1) && !decide ((32:Int) < ((s.size:Nat):Int)) && s.data.toList.all fun c=>!xY c
theorem AB {p:UInt8→Bool} {l:List UInt8} {i:Nat} (h:i < l.length):(l.drop i).all p=(p (l.getD i 0) && (l.drop (i + 1)).all p):=by
 rw [aav h,List.all_cons]
 simp [h]
theorem ZP (s:ByteArray):Pure Tryz.prog 141 [.str s] (.bool (oA s)):=by
 refine fun H=>XH.calls rfl ?_
 simp only [RH,RG]
 have hl:s.data.toList.length=s.size:=rfl
 unfold oA
 simp +contextual only [sZ,Nat.reduceEqDiff,Nat.reduceAdd,↓reduceIte,reduceCtorEq]
 refine ⟨fun h1=>⟨fun h2=>?_,fun h2=>?_⟩,fun h1=>?_⟩
 ·exact aK rfl (by simp [h2])
 ·refine aq s.size (fun i=>((s.data.toList.drop i).all fun c=>!xY c)=(s.data.toList.all fun c=>!xY c))
   (fun i=>[(0,.str s),(13,.int .i64 s.size),(14,.int .i64 i)]) (fun i=>H) ⟨rfl,ax _ _ _⟩ fun i hi hI=>?_
  simp +contextual only [ixs,sZ,Nat.reduceEqDiff,Nat.reduceAdd,↓reduceIte,reduceCtorEq]
  have fin:∀ (aM:i < s.size),xY (s.data.toList.getD i 0)=true→(s.data.toList.all fun c=>!xY c)=false:=fun aM hb=>by
   rw [← hI,AB (by omega),hb];rfl
  refine ⟨fun aM=>?_,fun fV=>?_⟩
  ·have aM:=bp aM
   have fin:=fin aM
   rw [AB (by omega)] at hI
   have RZ:xY (s.data.toList.getD i 0)=(decide ((((s.data.toList.getD i 0).toNat:Nat):Int) < 33) || decide ((126:Int) < (((s.data.toList.getD i 0).toNat:Nat):Int)) || decide (0≤firstIdx ⟨#[40,41,44]⟩ (((s.data.toList.getD i 0).toNat:Nat):Int).toNat.toUInt8)):=rfl
   generalize s.data.toList.getD i 0=c at *
   refine ⟨aM,fun a=>⟨aM,fun b=>⟨aM,ae (adV _ _) ?_⟩,fun b=>?_⟩,fun a=>?_⟩
   ·simp +contextual only [sZ,Nat.reduceEqDiff,↓reduceIte,reduceCtorEq]
    refine ⟨fun d=>?_,fun d=>?_⟩
    ·exact aK rfl (by rw [fin (by rw [RZ];simp only [decide_eq_true d,Bool.or_true])];simp)
    ·refine ⟨i + 1,⟨aM,?_⟩,by omega,ay (by rw [aj i (by omega)]) rfl⟩
     rw [← hI]
     have:xY c=false:=by
      rw [RZ]
      simp only [abQ,decide_eq_false_iff_not]
      omega
     rw [this];simp
   ·exact aK rfl (by rw [fin (by rw [RZ];simp only [decide_eq_true b,Bool.or_true,Bool.true_or])];simp)
   ·exact aK rfl (by rw [fin (by rw [RZ];simp only [decide_eq_true a,Bool.true_or])];simp)
  ·rw [aap (by have:=bZ fV;omega)] at hI
   exact aK rfl (by rw [← hI];simp;omega)
 ·exact aK rfl (by simp [h1])
end Go.aI
end
section
set_option maxRecDepth 100000
namespace Go.aI
open Go Go.Proofs
structure jg where
 name:ByteArray
 args:List Int
 zm:Int
 deriving Inhabited
structure Sg where
 aU:List ByteArray
 ops:List jg
 deriving Inhabited
def jg.av (o:jg):AV:=.agg [.str o.name,.al 0 (ints o.args),.int .i64 o.zm]
def pw (l:List jg):List AV:=l.map jg.av
def strs (l:List ByteArray):List AV:=l.map AV.str
def Sg.av (s:Sg):AV:=.agg [.al 0 (strs s.aU),.al 0 (pw s.ops)]
theorem mX (l:List jg):(pw l).length=l.length:=by simp [pw]
theorem Ej (l:List ByteArray):(strs l).length=l.length:=by simp [strs]
theorem xZ (n:Nat) (l:List jg):aw n (pw l)=true:=by
 rw [bg];intro x hx;obtain ⟨y,_,rfl⟩:=aaw.1 hx
 simp [jg.av,AV.bc,aw,aJ]
theorem x7 (n:Nat) (l:List ByteArray):aw n (strs l)=true:=by
 rw [bg];intro x hx;obtain ⟨y,_,rfl⟩:=aaw.1 hx;rfl
theorem jg.mh (n:Nat) (o:jg):o.av.bc n=true:=by simp [jg.av,AV.bc,aw,aJ]
theorem jg.xE (o:jg):o.av.val=true:=rfl
theorem jg.rf (o:jg):o.av.cells.all AV.one=true:=rfl
theorem jg.pq (o:jg):o.av.ab=o.av:=rfl
theorem jg.sG (o:jg):o.av.drop=o.av:=rfl
theorem jg.jc (o:jg):o.av.cells.length=3:=rfl
theorem Sg.mh (n:Nat) (o:Sg):o.av.bc n=true:=by simp [Sg.av,AV.bc,aw,x7,xZ]
theorem Sg.xE (o:Sg):o.av.val=true:=rfl
theorem Sg.rf (o:Sg):o.av.cells.all AV.one=true:=rfl
theorem Sg.pq (o:Sg):o.av.ab=o.av:=rfl
theorem Sg.sG (o:Sg):o.av.drop=o.av:=rfl
theorem Sg.jc (o:Sg):o.av.cells.length=2:=rfl
theorem J7 (o:Nat) (l:List jg):(∀ (own:Nat) (xs:List AV),AV.al o (pw l)=AV.al own xs→∀ z∈xs,z.cells.length=3)=True:=by
 simp only [eq_iff_iff,iff_true]
 intro own xs e z hz
 cases e
 obtain ⟨y,_,rfl⟩:=aaw.1 hz
 rfl
theorem J8 (o:Nat) (l:List ByteArray):(∀ (own:Nat) (xs:List AV),AV.al o (strs l)=AV.al own xs→∀ z∈xs,z.cells.length=1)=True:=by
 simp only [eq_iff_iff,iff_true]
 intro own xs e z hz
 cases e
 obtain ⟨y,_,rfl⟩:=aaw.1 hz
 rfl
theorem MT (e o:Nat) (l:List jg) (k:IntKind) (i:Nat) (φ:AV→Prop):aG e (.al o (pw l)) (.int k (i:Int)) φ=(i < l.length∧φ (.ah (l.getD i default).av)):=by
 simp only [aG,mX,zB,eq_iff_iff]
 constructor
 ·rintro ⟨_,h,h2⟩;refine ⟨h,?_⟩;simpa [pw,h] using h2
 ·rintro ⟨h,h2⟩;refine ⟨by omega,h,?_⟩;simpa [pw,h] using h2
theorem MU (e o:Nat) (l:List ByteArray) (k:IntKind) (i:Nat) (φ:AV→Prop):aG e (.al o (strs l)) (.int k (i:Int)) φ=(i < l.length∧φ (.ah (.str (l.getD i default)))):=by
 simp only [aG,Ej,zB,eq_iff_iff]
 constructor
 ·rintro ⟨_,h,h2⟩;refine ⟨h,?_⟩;simpa [strs,h] using h2
 ·rintro ⟨h,h2⟩;refine ⟨by omega,h,?_⟩;simpa [strs,h] using h2
theorem ZQ (o:jg) (H:List aa) (φ:AV→Prop):a8 (some 3) (.ah o.av) H φ=φ o.av:=by simp [a8,jg.av,AV.cells]
theorem sR (o:Sg) (H:List aa) (φ:AV→Prop):a8 (some 2) (.ah o.av) H φ=φ o.av:=by simp [a8,Sg.av,AV.cells]
theorem fo0 (x:jg) (φ:AV→Prop):au 0 none (.ah x.av) φ=φ (.ah (.str x.name)):=by simp [au,apart,jg.av,AV.cells,AV.one]
theorem fo1 (x:jg) (φ:AV→Prop):au 1 none (.ah x.av) φ=φ (.ah (.al 0 (ints x.args))):=by simp [au,apart,jg.av,AV.cells,AV.one]
theorem fo2 (x:jg) (φ:AV→Prop):au 2 none (.ah x.av) φ=φ (.ah (.int .i64 x.zm)):=by simp [au,apart,jg.av,AV.cells,AV.one]
theorem fs0 (x:Sg) (φ:AV→Prop):au 0 none (.ah x.av) φ=φ (.ah (.al 0 (strs x.aU))):=by simp [au,apart,Sg.av,AV.cells,AV.one]
theorem fs1 (x:Sg) (φ:AV→Prop):au 1 none (.ah x.av) φ=φ (.ah (.al 0 (pw x.ops))):=by simp [au,apart,Sg.av,AV.cells,AV.one]
def aC:=(tg (tg (tg (tg @mX @Ej) (tg @xZ @x7)) (tg (tg @jg.mh @jg.xE) (tg (tg @jg.rf @jg.pq) (tg @jg.sG @jg.jc)))) (tg (tg (tg (tg @Sg.mh @Sg.xE) (tg (tg @Sg.rf @Sg.pq) (tg @Sg.sG @Sg.jc))) (tg (tg @J7 @J8) (tg @MT @MU))) (tg (tg @ZQ @sR) (tg (tg @fo0 @fo1) (tg @fo2 (tg @fs0 @fs1))))))
def zn (p:Int→Bool):List Int→Int→Int
 | [],_=>-1
 | x::r,k=>if p x=true then k else zn p r (k + 1)
theorem Ek (p:Int→Bool):∀ (l:List Int) (k:Int),0≤k→(decide (0≤zn p l k)=l.any p)
 | [],k,_=>by simp [zn]
 | x::r,k,h=>by
   simp only [zn,af8]
   split
   ·rename_i hp;simp [hp,h]
   ·rename_i hp;simp [hp,Ek p r (k + 1) (by omega)]
theorem J9 {p:Int→Bool} {l:List Int} {i:Nat} {k:Int} (h:i < l.length):zn p (l.drop i) k=if p (l.getD i 0)=true then k else zn p (l.drop (i + 1)) (k + 1):=by
 rw [aav h]
 simp [zn,h]
theorem ad0 (g:Nat) (cap:List AV) (bY:cap.map AV.ab=cap) (hb:aw 0 cap=true) (p:Int→Bool) (l:List Int) (hf:∀ x∈l,Pure Tryz.prog g ([.int .i64 x]++cap) (.bool (p x))) :
 Pure Tryz.prog 100 [.al 0 (ints l),.fn (.func g) [] cap] (.int .i64 (zn p l 0)):=by
 refine fun H=>JV.2.calls rfl ?_
 simp only [JV,aH]
 simp +contextual only [sZ,Nat.reduceEqDiff,Nat.reduceAdd,↓reduceIte,reduceCtorEq]
 intro hl
 refine aq l.length (fun i=>zn p (l.drop i) i=zn p l 0) (fun i=>[(0,.al 0 (ints l)),(1,.fn (.func g) [] cap),(7,.int .i64 l.length),(8,.int .i64 i)]) (fun _=>H) ⟨rfl,ax _ _ _⟩ fun i hi hI=>?_
 simp +contextual only [bY,sZ,Nat.reduceEqDiff,Nat.reduceAdd,↓reduceIte,reduceCtorEq]
 refine ⟨fun aM=>?_,fun fV=>?_⟩
 ·have aM:=bp aM
  rw [J9 aM] at hI
  refine ⟨aM,ae (hf _ ?_) ?_⟩
  ·simp [aM]
  simp +contextual only [sZ,Nat.reduceEqDiff,↓reduceIte,reduceCtorEq]
  refine nT (fun hb=>?_) (fun hb=>?_) <;> simp +contextual only [sZ,Nat.reduceEqDiff,↓reduceIte,reduceCtorEq]
  ·rw [if_pos hb] at hI
   exact aK rfl (by rw [← hI])
  ·rw [if_neg (by rw [hb];simp)] at hI
   exact ⟨i + 1,⟨aM,hI⟩,by omega,ay (by rw [aj i (by omega)]) rfl⟩
 ·rw [aap (bZ fV)] at hI
  exact aK rfl (by rw [← hI];rfl)
theorem ZR (g:Nat) (cap:List AV) (bY:cap.map AV.ab=cap) (hb:aw 0 cap=true) (p:Int→Bool) (l:List Int) (hf:∀ x∈l,Pure Tryz.prog g ([.int .i64 x]++cap) (.bool (p x))) :
 Pure Tryz.prog 102 [.al 0 (ints l),.fn (.func g) [] cap] (.bool (l.any p)):=by
 refine fun H=>JW.2.calls rfl ?_
 simp only [JW,aH]
 simp +contextual only [sZ,Nat.reduceEqDiff,Nat.reduceAdd,↓reduceIte,reduceCtorEq]
 refine ae (ad0 g cap bY hb p l hf) ?_
 simp +contextual only [sZ,↓reduceIte,reduceCtorEq]
 exact aK rfl (by rw [Ek p l 0 (by omega)])
end Go.aI
end
section
set_option maxRecDepth 100000
namespace Go.aI
open Go Go.Proofs
def GG (n a:Int):Bool:=decide (0≤a) && decide (a < n)
theorem ZS (n a:Int):Pure Tryz.prog 192 [.int .i64 a,.ah (.int .i64 n)] (.bool (GG n a)):=by
 refine fun H=>Yl.2.calls rfl ?_
 simp only [Yl,aH]
 unfold GG
 simp +contextual only [sZ,Nat.reduceEqDiff,Nat.reduceAdd,↓reduceIte,reduceCtorEq]
 refine ⟨fun h=>aK rfl (by simp [h]),fun h=>aK rfl (by simp;omega)⟩
theorem ad3 (n a:Int):Pure Tryz.prog 194 [.int .i64 a,.ah (.fn (.func 192) [] [.ah (.int .i64 n)])] (.bool (!GG n a)):=by
 refine fun H=>Yn.2.calls rfl ?_
 simp only [Yn,aH]
 simp +contextual only [sZ,Nat.reduceEqDiff,Nat.reduceAdd,↓reduceIte,reduceCtorEq]
 refine ae (ZS n a) ?_
 simp +contextual only [sZ,↓reduceIte,reduceCtorEq]
 exact aK rfl rfl
def px (o:jg) (n:Int):Bool:=
 oA o.name && (decide (oI o.name 95 < o.name.size) && ((decide (oI o.name 95=0) || decide (oI o.name 95=o.args.length)) && (decide ((o.args.length:Int)≤8) && (GG n o.zm && !o.args.any fun a=>!GG n a))))
theorem ad4 (o:jg) (n:Int):Pure Tryz.prog 143 [o.av,.int .i64 n] (.bool (px o n)):=by
 refine fun H=>XJ.calls rfl ?_
 simp only [RJ,RI]
 unfold px
 simp +contextual only [aC,sZ,Nat.reduceEqDiff,Nat.reduceAdd,↓reduceIte,reduceCtorEq]
 refine ae (adZ o.name) ?_
 simp +contextual only [aC,sZ,Nat.reduceEqDiff,Nat.reduceAdd,↓reduceIte]
 refine ae (ZP o.name) ?_
 cases hn:oA o.name with
 | false=>
   simp +contextual only [sZ,Nat.reduceEqDiff,↓reduceIte,reduceCtorEq]
   exact aK rfl rfl
 | true=>
   have h66:=ZR 194 [.ah (.fn (.func 192) [] [.ah (.int .i64 n)])] rfl rfl (fun a=>!GG n a) o.args (fun a _=>ad3 n a)
   have MV:=ZS n o.zm
   generalize GG n o.zm=q at MV ⊢
   generalize (o.args.any fun a=>!GG n a)=z at h66 ⊢
   by_cases h1:oI o.name 95 < o.name.size
   ·have e1:decide (oI o.name 95 < o.name.size)=true:=decide_eq_true h1
    simp +contextual only [aC,h1,sZ,Nat.reduceEqDiff,Nat.reduceAdd,↓reduceIte,reduceCtorEq]
    refine ⟨fun h20 _=>⟨fun h21=>?_,fun h21=>?_⟩,fun h20 _=>?_⟩
    ·have e2:(decide (oI o.name 95=0) || decide (oI o.name 95=(o.args.length:Int)))=true:=by simp [h21]
     refine ⟨fun h3=>ae MV ?_,fun h3=>?_⟩
     ·have e903:decide ((o.args.length:Int)≤8)=true:=decide_eq_true h3
      rw [e1,e2,e903]
      cases q with
      | false=>
        simp +contextual only [sZ,Nat.reduceEqDiff,↓reduceIte,reduceCtorEq]
        exact aK rfl (by simp)
      | true=>
        simp +contextual only [aC,sZ,Nat.reduceEqDiff,Nat.reduceAdd,↓reduceIte,reduceCtorEq]
        refine ae h66 ?_
        simp +contextual only [sZ,Nat.reduceEqDiff,↓reduceIte,reduceCtorEq]
        exact aK rfl (by simp)
     ·have e903:decide ((o.args.length:Int)≤8)=false:=decide_eq_false (by omega)
      exact aK rfl (by rw [e903];simp)
    ·have e2:(decide (oI o.name 95=0) || decide (oI o.name 95=(o.args.length:Int)))=false:=by simp [h20,h21]
     exact aK rfl (by rw [e2];simp)
    ·have e2:(decide (oI o.name 95=0) || decide (oI o.name 95=(o.args.length:Int)))=true:=by simp [h20]
     refine ⟨fun h3=>ae MV ?_,fun h3=>?_⟩
     ·have e903:decide ((o.args.length:Int)≤8)=true:=decide_eq_true h3
      rw [e1,e2,e903]
      cases q with
      | false=>
        simp +contextual only [sZ,Nat.reduceEqDiff,↓reduceIte,reduceCtorEq]
        exact aK rfl (by simp)
      | true=>
        simp +contextual only [aC,sZ,Nat.reduceEqDiff,Nat.reduceAdd,↓reduceIte,reduceCtorEq]
        refine ae h66 ?_
        simp +contextual only [sZ,Nat.reduceEqDiff,↓reduceIte,reduceCtorEq]
        exact aK rfl (by simp)
     ·have e903:decide ((o.args.length:Int)≤8)=false:=decide_eq_false (by omega)
      exact aK rfl (by rw [e903];simp)
   ·have e1:decide (oI o.name 95 < o.name.size)=false:=decide_eq_false h1
    rw [e1]
    simp +contextual only [aC,h1,sZ,Nat.reduceEqDiff,↓reduceIte,reduceCtorEq]
    exact aK rfl (by simp)
end Go.aI
end
section
set_option maxRecDepth 100000
namespace Go.aI
open Go Go.Proofs
theorem ZT (l:List Int) (hl:l.length * 8≤140737488355328):Pure Tryz.prog 118 [.al 0 (ints l)] (.al 1 (ints l)):=fun H=>
 DQ 0 (ints l) H (of_eq_true (jI l)) (by rw [ap];exact hl) (aJ _ _)
def Ka (a:Int):UInt8:=UInt8.ofNat (IntKind.u8.wrap a).toNat
theorem UY (a:Int):AV.int .u8 (IntKind.u8.wrap a)=.int .u8 (Ka a).toNat:=by
 have h:0≤IntKind.u8.wrap a∧IntKind.u8.wrap a < 256:=by
  simp only [IntKind.wrap]
  have h1:IntKind.u8.bits=8:=rfl
  have h2:IntKind.u8.signed=false:=rfl
  rw [h1,h2]
  simp
  omega
 congr 1
 unfold Ka
 rw [UInt8.toNat_ofNat']
 omega
def GH (o:jg):List UInt8:=(o.name++⟨#[40]⟩).data.toList++(o.args++[o.zm]).map Ka
def kr (o:jg):ByteArray:=⟨(GH o).toArray⟩
theorem GI (l:List UInt8) (a:Int):bD l++[.int .u8 (IntKind.u8.wrap a)]=bD (l++[Ka a]):=by
 rw [UY];simp [bD]
theorem Kb (l:List UInt8):(bD l).length=l.length:=by simp [bD]
theorem UZ (s:ByteArray) (φ:AV→Prop):iV 1 (.str s) φ=(s.size < 9223372036854775808∧φ (.al 1 (bD s.data.toList))):=agq
theorem U0 (o:Nat) (l:List UInt8) (φ:AV→Prop) (h:φ (.str ⟨l.toArray⟩)):nF (.al o (bD l)) φ:=⟨l,rfl,h⟩
theorem U1 (k k':IntKind) (n:Int) (φ:AV→Prop):dj k (.int k' n) φ=φ (.int k (k.wrap n)):=agq
theorem ZU (o:jg) (h1:o.name.size≤32) (h2:o.args.length≤8):Pure Tryz.prog 144 [o.av] (.str (kr o)):=by
 refine fun H=>XK.calls rfl ?_
 simp only [RM,RK]
 have dd:(⟨#[40]⟩:ByteArray).size=1:=rfl
 have hs2:(o.name++⟨#[40]⟩:ByteArray).size=o.name.size + 1:=by rw [ByteArray.size_append,dd]
 have hln:(o.name++⟨#[40]⟩:ByteArray).data.toList.length=o.name.size + 1:=hs2
 simp +contextual only [aC,UZ,dd,hs2,sZ,Nat.reduceEqDiff,Nat.reduceAdd,↓reduceIte]
 refine ⟨by omega,by omega,aB (ZT o.args (by omega)) ?_⟩
 simp +contextual only [aC,jv,ok_int,pV,sZ,Nat.reduceEqDiff,Nat.reduceAdd,↓reduceIte]
 refine ⟨by omega,?_⟩
 generalize hv:o.args++[o.zm]=vs
 have rO:vs.length≤9:=by rw [← hv];simp;omega
 have hk:kr o=⟨((o.name++⟨#[40]⟩:ByteArray).data.toList++vs.map Ka).toArray⟩:=by rw [kr,GH,hv]
 rw [hk]
 generalize (o.name++⟨#[40]⟩:ByteArray).data.toList=nm at *
 refine aq vs.length (fun _=>True)
  (fun i=>[(3,.al 1 (bD (nm++(vs.take i).map Ka))),(16,.al 1 (ints vs)),(17,.int .i64 vs.length),(18,.int .i64 i)]) (fun _=>H) ⟨trivial,ay (by simp) rfl⟩ fun i hi hI=>?_
 simp +contextual only [sZ,Nat.reduceEqDiff,↓reduceIte,reduceCtorEq]
 refine ⟨fun aM=>⟨bp aM,?_⟩,fun fV=>?_⟩
 ·have aM:=bp aM
  simp +contextual only [U1,jv,ok_int,GI,Kb,sZ,Nat.reduceEqDiff,Nat.reduceAdd,↓reduceIte]
  refine ⟨by simp;omega,i + 1,aM,by omega,ay ?_ rfl⟩
  rw [aj i (by omega),adC,ab8,← abe]
  simp [aM]
 ·rw [aax (bZ fV)]
  refine U0 0 _ _ ?_
  simp +contextual only [sZ]
  exact aK rfl rfl
instance:LawfulBEq ByteArray where
 rfl:=by intro a;rw [Bd];simp
 eq_of_beq:=by intro a b h;rw [Bd] at h;exact of_decide_eq_true h
def qN (vs:List ByteArray):List (AV×AV):=vs.map fun v=>(.str v,.bool true)
theorem py (n:ByteArray):∀ (vs:List ByteArray) (i:Nat),(n∈vs→∃ j,dL 1 (.str n) (qN vs) i=some (some (j,.bool true)))∧(n∉vs→dL 1 (.str n) (qN vs) i=some none)
 | [],i=>⟨fun h=>(by cases h),fun _=>rfl⟩
 | v::r,i=>by
   have ih:=py n r (i + 1)
   simp only [qN,List.map_cons,dL,de]
   by_cases hv:n=v
   ·subst hv
    simp
   ·simp only [aak,hv,false_or]
    exact ih
theorem sS (n:ByteArray) (vs:List ByteArray) (φ:AV→Prop):gM (some (.map (qN vs))) 1 (.bool false) (.str n) false φ=φ (.bool (decide (n∈vs))):=by
 have h:=py n vs 0
 unfold gM
 by_cases hn:n∈vs
 ·obtain ⟨j,hj⟩:=h.1 hn
  simp [hj,hn,nS]
 ·simp [h.2 hn,hn,de,a9,bi.a9,nS]
theorem El {n:ByteArray} {vs:List ByteArray} (hn:n∉vs) (id:Nat) (H:List aa) (K:List aa→Prop):fy (some (.map (qN vs))) 1 id (.str n) (.bool true) H K=K (H.set id (.map (qN (vs++[n])))):=by
 have h:=(py n vs 0).2 hn
 unfold fy
 simp only [h]
 simp [de,Lk,sw,v8,qN,a9,bi.a9,nS]
def mj:List ByteArray→List ByteArray→Bool
 | [],_=>true
 | s::r,seen=>if oA s=true∧¬ 0≤MS s∧s∉seen then mj r (seen++[s]) else false
def zp (n:Int):List jg→List ByteArray→Bool
 | [],_=>true
 | o::r,seen=>if px o n=true∧kr o∉seen then zp n r (seen++[kr o]) else false
def jw (s:Sg):Bool:=decide ((s.aU.length:Int)≤64) && decide ((s.ops.length:Int)≤256) && mj s.aU [] && zp s.aU.length s.ops []
theorem pA {l:List ByteArray} {i:Nat} (h:i < l.length) (seen:List ByteArray):mj (l.drop i) seen=if oA (l.getD i default)=true∧¬ 0≤MS (l.getD i default)∧l.getD i default∉seen then mj (l.drop (i + 1)) (seen++[l.getD i default]) else false:=by
 rw [aav h,mj]
 have e:l.getD i default=l[i]:=by simp [h]
 rw [e]
theorem uw {n:Int} {l:List jg} {i:Nat} (h:i < l.length) (seen:List ByteArray):zp n (l.drop i) seen=if px (l.getD i default) n=true∧kr (l.getD i default)∉seen then zp n (l.drop (i + 1)) (seen++[kr (l.getD i default)]) else false:=by
 rw [aav h,zp]
 have e:l.getD i default=l[i]:=by simp [h]
 rw [e]
theorem GJ {o:jg} {n:Int} (h:px o n=true):o.name.size≤32∧o.args.length≤8∧GG n o.zm=true∧∀ a∈o.args,GG n a=true:=by
 simp only [px,oA,zC,abC,decide_eq_false_iff_not,decide_eq_true_eq] at h
 obtain ⟨⟨⟨_,h1⟩,_⟩,_,_,h2,h3,h4⟩:=h
 refine ⟨by omega,by omega,h3,fun a ha=>?_⟩
 cases hx:GG n a with
 | true=>rfl
 | false=>
   rw [ab0] at h4
   exact absurd (afS.2 ⟨a,ha,by rw [hx];rfl⟩) h4
theorem c81 (s:Sg):Pure Tryz.prog 81 [s.av] (.int .i64 (if jw s=true then 0 else 40)):=by
 refine fun H=>acY.calls rfl ?_
 simp only [Xj,Xi]
 have bad:∀ {G:List aa} {e:Bool},e=false→G.take H.length=H→jw s=e→bP H.length [RX.t 2] [(2,AV.int IntKind.i64 40)] G fun r H'=>r=AV.int IntKind.i64 (if jw s=true then 0 else 40)∧H'=H:=by
  intro G e he hG hc
  rw [hc,he]
  exact P1 hG rfl rfl ⟨rfl,rfl⟩
 simp +contextual only [aC,sZ,Nat.reduceEqDiff,Nat.reduceAdd,↓reduceIte,reduceCtorEq]
 refine fun _=>⟨fun h1 _=>⟨fun h2=>?_,fun h2=>?_⟩,fun h1=>?_⟩
 ·have h2':¬ (s.ops.length:Int)≤256:=by omega
  exact bad rfl (by simp) (by rw [jw,decide_eq_false h2'];simp)
 ·refine aF s.aU.length (fun i (seen:List ByteArray)=>mj (s.aU.drop i) seen=mj s.aU [])
   (fun i seen=>[(1,.ah s.av),(3,.map H.length),(21,.al 0 (strs s.aU)),(22,.int .i64 s.aU.length),(23,.int .i64 i)]) (fun i seen=>H++[.map (qN seen)]) [] ⟨rfl,ax _ _ _⟩ fun i seen hi hI=>?_
  simp +contextual only [aC,sZ,Nat.reduceEqDiff,Nat.reduceAdd,↓reduceIte]
  refine ⟨fun aM=>⟨bp aM,?_⟩,fun fV=>?_⟩
  ·have aM:=bp aM
   rw [pA aM] at hI
   generalize s.aU.getD i default=x at *
   refine ae (ZP x) ?_
   cases hn:oA x with
   | false=>
     rw [hn,if_neg (by simp)] at hI
     simp +contextual only [sZ,Nat.reduceEqDiff,↓reduceIte,reduceCtorEq]
     exact bad rfl (by simp) (by simp [jw,← hI])
   | true=>
     rw [hn] at hI
     simp +contextual only [sZ,Nat.reduceEqDiff,Nat.reduceAdd,↓reduceIte]
     refine ae (adY x) ?_
     by_cases hu:0≤MS x
     ·rw [if_neg (fun h=>h.2.1 hu)] at hI
      simp +contextual only [hu,sZ,Nat.reduceEqDiff,↓reduceIte,reduceCtorEq]
      exact bad rfl (by simp) (by simp [jw,← hI])
     ·by_cases hm:x∈seen
      ·rw [if_neg (fun h=>h.2.2 hm)] at hI
       simp +contextual only [hu,sS,hm,sZ,Nat.reduceEqDiff,↓reduceIte,reduceCtorEq]
       exact bad rfl (by simp) (by simp [jw,← hI])
      ·rw [if_pos ⟨rfl,hu,hm⟩] at hI
       simp +contextual only [hu,sS,hm,El hm,sZ,Nat.reduceEqDiff,↓reduceIte]
       exact ⟨i + 1,seen++[x],⟨aM,hI⟩,by omega,ay (by rw [aj i (by omega)]) rfl⟩
  ·have hs:mj s.aU []=true:=by
    rw [← hI,aap (bZ fV)];rfl
   have hc:jw s=zp s.aU.length s.ops []:=by simp [jw,h1,h2,hs]
   clear hI
   simp +contextual only [sZ]
   refine fun _=>aF s.ops.length (fun i (seen2:List ByteArray)=>zp s.aU.length (s.ops.drop i) seen2=zp s.aU.length s.ops [])
    (fun i seen2=>[(1,.ah s.av),(6,.map (H.length + 1)),(44,.al 0 (pw s.ops)),(45,.int .i64 s.ops.length),(46,.int .i64 i)]) (fun i seen2=>H++[.map (qN seen),.map (qN seen2)]) [] ⟨rfl,ax _ _ _⟩ fun i seen2 hi hI=>?_
   simp +contextual only [aC,sZ,Nat.reduceEqDiff,Nat.reduceAdd,↓reduceIte,reduceCtorEq]
   refine ⟨fun aM=>⟨bp aM,?_⟩,fun fV=>?_⟩
   ·have aM:=bp aM
    rw [uw aM] at hI
    generalize s.ops.getD i default=x at *
    refine fun _=>ae (ad4 x _) ?_
    cases hg:px x s.aU.length with
    | false=>
      rw [hg,if_neg (by simp)] at hI
      simp +contextual only [sZ,Nat.reduceEqDiff,↓reduceIte,reduceCtorEq]
      exact bad rfl (by simp) (by rw [hc,← hI])
    | true=>
      rw [hg] at hI
      have hsm:=GJ hg
      simp +contextual only [aC,sZ,Nat.reduceEqDiff,Nat.reduceAdd,↓reduceIte]
      refine ae (ZU x hsm.1 hsm.2.1) ?_
      by_cases hm:kr x∈seen2
      ·rw [if_neg (fun h=>h.2 hm)] at hI
       simp +contextual only [sS,hm,sZ,Nat.reduceEqDiff,↓reduceIte,reduceCtorEq]
       exact bad rfl (by simp) (by rw [hc,← hI])
      ·rw [if_pos ⟨rfl,hm⟩] at hI
       simp +contextual only [aC,sS,hm,sZ,Nat.reduceEqDiff,Nat.reduceAdd,↓reduceIte]
       refine ae (ZU x hsm.1 hsm.2.1) ?_
       simp +contextual only [El hm,sZ,Nat.reduceEqDiff,↓reduceIte]
       exact ⟨i + 1,seen2++[kr x],⟨aM,hI⟩,by omega,ay (by rw [aj i (by omega)]) rfl⟩
   ·rw [aap (bZ fV)] at hI
    exact P1 (by simp) rfl rfl ⟨by rw [hc,← hI];rfl,rfl⟩
 ·have h1':¬ (s.aU.length:Int)≤64:=by omega
  exact bad rfl (by simp) (by rw [jw,decide_eq_false h1'];simp)
end Go.aI
end
section
set_option maxRecDepth 100000
namespace Go.aI
open Go Go.Proofs Go.dD
def jq (w:List (Int×Int)):List (AV×AV):=w.map fun p=>(.int .i64 p.1,.int .i64 p.2)
theorem GK (n:Int):∀ (w:List (Int×Int)) (i:Nat),(∃ j s,w[j]?=some (n,s)∧dL 0 (.int .i64 n) (jq w) i=some (some (i + j,.int .i64 s)))∨((∀ p∈w,p.1≠n)∧dL 0 (.int .i64 n) (jq w) i=some none)
 | [],i=>.inr ⟨(fun p h=>by cases h),rfl⟩
 | (a,b)::r,i=>by
   have ih:=GK n r (i + 1)
   simp only [jq,List.map_cons,dL,de,if_true]
   by_cases h:n=a
   ·subst h
    exact .inl ⟨0,b,rfl,by simp⟩
   ·simp only [decide_eq_false h]
    rcases ih with ⟨j,s,h1,h2⟩ | ⟨h1,h2⟩
    ·exact .inl ⟨j + 1,s,h1,by rw [show i + (j + 1)=i + 1 + j by omega];exact h2⟩
    ·refine .inr ⟨fun p hp=>?_,h2⟩
     rcases aak.1 hp with rfl | hp
     ·exact fun e=>h e.symm
     ·exact h1 p hp
theorem ZV {n:Int} {w:List (Int×Int)} {φ:AV→Prop} (h1:∀ s,(n,s)∈w→φ (.tuple [.int .i64 s,.bool true])) (h2:(∀ p∈w,p.1≠n)→φ (.tuple [.int .i64 0,.bool false])):gM (some (.map (jq w))) 0 (.int .i64 0) (.int .i64 n) true φ:=by
 unfold gM
 rcases GK n w 0 with ⟨j,s,h3,h4⟩ | ⟨h3,h4⟩
 ·simp only [h4];exact h1 s (abB h3)
 ·simp only [h4];exact ⟨by simp [de],h2 h3⟩
theorem msW {n s:Int} {w:List (Int×Int)} {id:Nat} {H:List aa} {K:List aa→Prop} (h:∀ w',(∀ p∈w',p∈w∨p=(n,s))→(∀ p∈w,∃ q∈w',q.1=p.1)→(n,s)∈w'→K (H.set id (.map (jq w')))):fy (some (.map (jq w))) 0 id (.int .i64 n) (.int .i64 s) H K:=by
 unfold fy
 refine ⟨rfl,rfl,rfl,?_⟩
 have ec:a9 (.int .i64 s)=.int .i64 s:=rfl
 rcases GK n w 0 with ⟨j,x,h3,h4⟩ | ⟨h3,h4⟩
 ·simp only [h4,ec,abK]
  have e:(jq w).set j (.int .i64 n,.int .i64 s)=jq (w.set j (n,s)):=by simp [jq,ad6]
  rw [e]
  have hj:=(aa2.1 h3).1
  refine h _ (fun p hp=>ab6 hp) (fun p hp=>?_) (afs.2 ⟨j,by rw [Sx hj]⟩)
  obtain ⟨m,hm⟩:=afs.1 hp
  by_cases e:j=m
  ·subst e
   rw [h3] at hm;cases hm
   exact ⟨(n,s),afs.2 ⟨j,by rw [Sx hj]⟩,rfl⟩
  ·exact ⟨p,afs.2 ⟨m,by rw [zA e];exact hm⟩,rfl⟩
 ·simp only [h4,ec]
  refine ⟨by simp [de],?_⟩
  have e:jq w++[(AV.int .i64 n,AV.int .i64 s)]=jq (w++[(n,s)]):=by simp [jq]
  rw [e]
  exact h _ (fun p hp=>by simpa using hp) (fun p hp=>⟨p,abF.2 (.inl hp),rfl⟩) (by simp)
structure Qv (ps ss:List Int) (i:Nat):Prop where
 Q9:∀ j,j < i→0≤ps.getD j 0∧ps.getD j 0≤255∧1≤ss.getD j 0∧ss.getD j 0≤3
 st:∀ j k,j < i→k < i→ps.getD j 0=ps.getD k 0→ss.getD j 0=ss.getD k 0
def dQ (s:Sg) (ps ss:List Int):Prop:=ps.length=s.ops.length∧ss.length=s.ops.length∧Qv ps ss ps.length
theorem dQ.va {s:Sg} {ps ss:List Int} (h:dQ s ps ss):Va ps ss:=⟨by rw [h.2.1,h.1],h.2.2.st⟩
open Classical in
noncomputable def jy (s:Sg) (ps ss:List Int):Int:=if jw s=true then (if dQ s ps ss then 0 else 60) else 40
theorem rv (ps ss:List Int) (φ:AV→Prop):au 0 none (.ah (dE ps ss)) φ=φ (.ah (.al 0 (ints ps))):=by simp [au,apart,dE,AV.cells,AV.one]
theorem sT (ps ss:List Int) (φ:AV→Prop):au 1 none (.ah (dE ps ss)) φ=φ (.ah (.al 0 (ints ss))):=by simp [au,apart,dE,AV.cells,AV.one]
theorem aR (ps ss:List Int):(dE ps ss).val=true∧(dE ps ss).cells.length=2∧(dE ps ss).cells.all AV.one=true∧(dE ps ss).ab=dE ps ss∧(dE ps ss).drop=dE ps ss∧∀ n,(dE ps ss).bc n=true:=
 ⟨rfl,rfl,rfl,rfl,rfl,fun n=>by simp [dE,xq,bL,cV,bA,aJ]⟩
theorem bQ (ps ss:List Int) (H:List aa) (φ:AV→Prop):a8 (some 2) (.ah (dE ps ss)) H φ=φ (dE ps ss):=Qo _ _ _ _
theorem c24 (s:Sg) (ps ss:List Int):Pure Tryz.prog 24 [s.av,dE ps ss] (.int .i64 (jy s ps ss)):=by
 refine fun H=>k24.2.calls rfl ?_
 simp only [k24,aH]
 obtain ⟨q1,q2,q3,q4,q5,q6⟩:=aR ps ss
 simp +contextual only [aC,q1,sZ,Nat.reduceEqDiff,Nat.reduceAdd,↓reduceIte,reduceCtorEq]
 refine ae (c81 s) ?_
 cases hs:jw s with
 | false=>
   have e:jy s ps ss=40:=by rw [jy,if_neg (by rw [hs];simp)]
   rw [e]
   simp +contextual only [abI,sZ,Nat.reduceEqDiff,↓reduceIte,reduceCtorEq,Int.reduceEq]
   exact aK rfl rfl
 | true=>
   simp +contextual only [aC,rv,sT,ap,sZ,Nat.reduceEqDiff,↓reduceIte,reduceCtorEq]
   have bad:¬ dQ s ps ss→jy s ps ss=60:=fun h=>by rw [jy,if_pos hs,if_neg h]
   have U2:dQ s ps ss→jy s ps ss=0:=fun h=>by rw [jy,if_pos hs,if_pos h]
   have ret60:∀ (X:List aa),¬ dQ s ps ss→bP H.length [.t 4] [(4,.int .i64 60)] (H++X) fun r H'=>r=.int .i64 (jy s ps ss)∧H'=H:=fun X h=>by rw [bad h];exact L9 rfl rfl
   have ret60':¬ dQ s ps ss→bP H.length [.t 4] [(4,.int .i64 60)] H fun r H'=>r=.int .i64 (jy s ps ss)∧H'=H:=fun h=>by rw [bad h];exact aK rfl rfl
   refine fun _ _=>⟨fun hl=>?_,fun hl=>?_⟩
   rotate_left
   ·first | exact ret60' fun h=>hl (by omega) | (refine ret60' fun h=>?_;have:=h.1;omega)
   refine fun _=>⟨fun lZ=>ret60' fun h=>lZ (by have:=h.2.1;omega),fun lZ=>?_⟩
   have g0:∀ w,(H++[aa.map (jq w)])[H.length]?=some (.map (jq w)):=fun w=>by simp
   have gs:∀ w w',(H++[aa.map (jq w)]).set H.length (.map (jq w'))=H++[.map (jq w')]:=fun w w'=>by simp
   refine aF ps.length (fun i (w:List (Int×Int))=>Qv ps ss i∧(∀ p∈w,∃ j,j < i∧ps.getD j 0=p.1∧ss.getD j 0=p.2)∧∀ j,j < i→∃ p∈w,p.1=ps.getD j 0)
    (fun i w=>[(3,.ah (dE ps ss)),(6,.map H.length),(35,.al 0 (ints ps)),(36,.int .i64 s.ops.length),(37,.int .i64 i)]) (fun i w=>H++[.map (jq w)]) []
    ⟨⟨⟨fun j h=>by omega,fun j k h=>by omega⟩,(fun p h=>by cases h),fun j h=>by omega⟩,ax _ _ _⟩ fun i w hi hI=>?_
   ·obtain ⟨hu,hw1,hw2⟩:=hI
    have nbad:∀ j,j < ps.length→¬ (0≤ps.getD j 0∧ps.getD j 0≤255∧1≤ss.getD j 0∧ss.getD j 0≤3)→¬ dQ s ps ss:=fun j hj h h'=>h (h'.2.2.Q9 j hj)
    by_cases Ol:(i:Int) < s.ops.length
    ·have U4:i < ps.length:=by omega
     simp +contextual only [sT,aN,zB,g0,Ol,decide_true,sZ,Nat.reduceEqDiff,↓reduceIte]
     generalize hp:ps.getD i 0=p
     generalize hq:ss.getD i 0=q
     refine ⟨by omega,⟨by omega,by omega⟩,?_⟩
     by_cases r1:p < 0
     ·refine ZV (fun o _=>?_) (fun _=>?_)
      all_goals
       simp +contextual only [r1,decide_true,sZ,Nat.reduceEqDiff,Nat.reduceAdd,Nat.reduceLT,↓reduceIte,reduceCtorEq]
       exact ret60 _ (nbad i U4 (by rw [hp];omega))
     ·by_cases r2:255 < p
      ·refine ZV (fun o _=>?_) (fun _=>?_)
       all_goals
        simp +contextual only [r1,r2,decide_true,decide_false,sZ,Nat.reduceEqDiff,Nat.reduceAdd,Nat.reduceLT,↓reduceIte,reduceCtorEq]
        exact ret60 _ (nbad i U4 (by rw [hp];omega))
      ·by_cases r3:q < 1
       ·refine ZV (fun o _=>?_) (fun _=>?_)
        all_goals
         simp +contextual only [r1,r2,r3,decide_true,decide_false,sZ,Nat.reduceEqDiff,Nat.reduceAdd,Nat.reduceLT,↓reduceIte,reduceCtorEq]
         exact ret60 _ (nbad i U4 (by rw [hq];omega))
       ·by_cases r4:3 < q
        ·refine ZV (fun o _=>?_) (fun _=>?_)
         all_goals
          simp +contextual only [r1,r2,r3,r4,decide_true,decide_false,sZ,Nat.reduceEqDiff,Nat.reduceAdd,Nat.reduceLT,↓reduceIte,reduceCtorEq]
          exact ret60 _ (nbad i U4 (by rw [hq];omega))
        ·have ad9:0≤p∧p≤255∧1≤q∧q≤3:=⟨by omega,by omega,by omega,by omega⟩
         have next:(∀ j,j < i→ps.getD j 0=p→ss.getD j 0=q)→∀ w':List (Int×Int),(∀ x∈w',x∈w∨x=(p,q))→(∀ x∈w,∃ y∈w',y.1=x.1)→(p,q)∈w'→Qv ps ss (i + 1)∧(∀ x∈w',∃ j,j < i + 1∧ps.getD j 0=x.1∧ss.getD j 0=x.2)∧∀ j,j < i + 1→∃ x∈w',x.1=ps.getD j 0:=by
          intro hsame w' m1 m2 m3
          refine ⟨⟨fun j hj=>?_,fun j k hj hk he=>?_⟩,fun x hx=>?_,fun j hj=>?_⟩
          ·by_cases e:j=i
           ·subst e;rw [hp,hq];exact ad9
           ·exact hu.Q9 j (by omega)
          ·by_cases e:j=i
           ·by_cases e':k=i
            ·rw [e,e']
            ·subst e;rw [hp] at he;rw [hq];exact (hsame k (by omega) he.symm).symm
           ·by_cases e':k=i
            ·subst e';rw [hp] at he;rw [hq];exact hsame j (by omega) he
            ·exact hu.st j k (by omega) (by omega) he
          ·rcases m1 x hx with h | rfl
           ·obtain ⟨j,h1,h2,h3⟩:=hw1 x h;exact ⟨j,by omega,h2,h3⟩
           ·exact ⟨i,by omega,hp,hq⟩
          ·by_cases e:j=i
           ·subst e;rw [hp];exact ⟨_,m3,rfl⟩
           ·obtain ⟨x,h1,h2⟩:=hw2 j (by omega)
            obtain ⟨y,h3,h4⟩:=m2 x h1
            exact ⟨y,h3,h4.trans h2⟩
         refine ZV (fun o ho=>?_) (fun jZ=>?_)
         ·obtain ⟨j0,hj1,hj2,hj3⟩:=hw1 _ ho
          simp only at hj2 hj3
          by_cases Ze:o=q
          ·subst Ze
           have d0:decide (¬ o=o)=false:=by simp
           simp +contextual only [r1,r2,r3,r4,decide_false,g0,sZ,Nat.reduceEqDiff,Nat.reduceAdd,Nat.reduceLT,↓reduceIte]
           refine msW fun w' m1 m2 m3=>?_
           simp +contextual only [gs,sZ,Nat.reduceEqDiff,↓reduceIte]
           refine ⟨i + 1,w',⟨U4,next (fun j hj he=>?_) w' m1 m2 m3⟩,by omega,ay (by rw [aj i (by omega)]) rfl⟩
           rw [hu.st j j0 hj hj1 (he.trans hj2.symm),hj3]
          ·have d0:decide (¬ o=q)=true:=by simp [Ze]
           simp +contextual only [r1,r2,r3,r4,decide_false,d0,sZ,Nat.reduceEqDiff,Nat.reduceAdd,Nat.reduceLT,↓reduceIte,reduceCtorEq]
           exact ret60 _ fun h=>Ze (by rw [← hj3,← hq];exact h.2.2.st j0 i (by omega) U4 (hj2.trans hp.symm))
         ·simp +contextual only [r1,r2,r3,r4,decide_false,g0,sZ,Nat.reduceEqDiff,Nat.reduceAdd,Nat.reduceLT,↓reduceIte]
          refine msW fun w' m1 m2 m3=>?_
          simp +contextual only [gs,sZ,Nat.reduceEqDiff,↓reduceIte]
          refine ⟨i + 1,w',⟨U4,next (fun j hj he=>?_) w' m1 m2 m3⟩,by omega,ay (by rw [aj i (by omega)]) rfl⟩
          obtain ⟨x,h1,h2⟩:=hw2 j hj
          exact absurd (h2.trans he) (jZ x h1)
    ·have hii:i=ps.length:=by omega
     subst hii
     rw [U2 ⟨by omega,by omega,hu⟩]
     simp +contextual only [Ol,decide_false,sZ,Nat.reduceEqDiff,↓reduceIte,reduceCtorEq]
     exact L9 rfl rfl
end Go.aI
end
section
set_option maxRecDepth 100000
namespace Go.aI
open Go Go.Proofs Go.dD
theorem ZW (g:Nat) (cP:List AV) (bY:cP.map AV.ab=cP) (p:T→Bool) (l:List T) (hf:∀ x∈l,Pure Tryz.prog g ([x.av]++cP) (.bool (p x))) :
 Pure Tryz.prog 114 [.al 0 (bN l),.fn (.func g) [] cP] (.int .i64 (ua p l 0)):=by
 refine fun H=>JX.2.calls rfl ?_
 simp only [JX,aH]
 simp +contextual only [sZ,Nat.reduceEqDiff,Nat.reduceAdd,↓reduceIte,reduceCtorEq]
 intro hl
 refine aq l.length (fun i=>ua p (l.drop i) i=ua p l 0) (fun i=>[(0,.al 0 (bN l)),(1,.fn (.func g) [] cP),(7,.int .i64 l.length),(8,.int .i64 i)]) (fun _=>H) ⟨rfl,ax _ _ _⟩ fun i hi hI=>?_
 simp +contextual only [bY,sZ,Nat.reduceEqDiff,Nat.reduceAdd,↓reduceIte,reduceCtorEq]
 refine ⟨fun aM=>?_,fun fV=>?_⟩
 ·have aM:=bp aM
  rw [Af aM] at hI
  refine ⟨aM,ae (hf _ (dM aM)) ?_⟩
  cases hb:p (l.getD i default) with
  | true=>
    rw [if_pos hb] at hI
    simp +contextual only [sZ,Nat.reduceEqDiff,↓reduceIte,reduceCtorEq]
    exact aK rfl (by rw [← hI])
  | false=>
    rw [if_neg (by rw [hb];simp)] at hI
    simp +contextual only [sZ,Nat.reduceEqDiff,↓reduceIte,reduceCtorEq]
    exact ⟨i + 1,⟨aM,hI⟩,by omega,ay (by rw [aj i (by omega)]) rfl⟩
 ·rw [aap (bZ fV)] at hI
  exact aK rfl (by rw [← hI];rfl)
theorem ZX (g:Nat) (cP:List AV) (bY:cP.map AV.ab=cP) (p:T→Bool) (l:List T) (hf:∀ x∈l,Pure Tryz.prog g ([x.av]++cP) (.bool (p x))) :
 Pure Tryz.prog 53 [.al 0 (bN l),.fn (.func g) [] cP] (.bool (l.any p)):=by
 refine fun H=>V7.2.calls rfl ?_
 simp only [V7,aH]
 simp +contextual only [sZ,Nat.reduceEqDiff,Nat.reduceAdd,↓reduceIte,reduceCtorEq]
 refine ae (ZW g cP bY p l hf) ?_
 simp +contextual only [sZ,↓reduceIte,reduceCtorEq]
 exact aK rfl (by rw [xI p l 0 (by omega)])
theorem U5 (x:T):Pure Tryz.prog 130 [x.av] (.int .i64 (if x.tree=true then 0 else 4)):=by
 refine fun H=>Xz.2.calls rfl ?_
 simp only [Xz,aH]
 simp +contextual only [sZ,Nat.reduceEqDiff,Nat.reduceAdd,↓reduceIte]
 refine ae (Zb x) ?_
 cases h:x.tree with
 | true=>simp +contextual only [Bool.not_true,sZ,↓reduceIte,reduceCtorEq];exact aK rfl rfl
 | false=>simp +contextual only [Bool.not_false,sZ,↓reduceIte,reduceCtorEq];exact aK rfl rfl
mutual
def ry (s:Sg):T→Bool
 | .mk k n l=>!(decide (k=2) && (decide ((s.ops.length:Int)≤n) || !decide ((l.length:Int)=((s.ops.getD n.toNat default).args.length:Nat)))) && ovL s l
def ovL (s:Sg):List T→Bool
 | []=>true
 | x::r=>ry s x && ovL s r
end
theorem wh (s:Sg):∀ l,ovL s l=!(l.any fun x=>!ry s x)
 | []=>rfl
 | x::r=>by rw [ovL,wh s r,af8];cases ry s x <;> simp
theorem aec (s:Sg):∀ t:T,t.shaped=true→Pure Tryz.prog 131 [s.av,t.av] (.bool (ry s t)):=by
 suffices h:∀ N t,wt t≤N→t.shaped=true→Pure Tryz.prog 131 [s.av,t.av] (.bool (ry s t)) from fun t ht=>h _ t (zy _) ht
 intro N
 induction N with
 | zero=>intro t h;have:=dt t;omega
 | succ N ih=>
 intro t hN hs H
 have hk:=fN hs
 have c182:∀ x∈t.l,Pure Tryz.prog 182 ([x.av]++[.ah s.av]) (.bool (!ry s x)):=by
  intro x hx H
  refine Yd.2.calls rfl ?_
  simp only [Yd,aH]
  simp +contextual only [aC,sZ,Nat.reduceEqDiff,Nat.reduceAdd,↓reduceIte,reduceCtorEq]
  refine ae (ih x (by have:=ch hx;omega) (hk.2 x hx)) ?_
  simp +contextual only [sZ,↓reduceIte,reduceCtorEq]
  exact aK rfl rfl
 have hn:0≤t.n:=by
  rw [T.dn] at hs
  simp only [zC,abC,abQ,decide_eq_false_iff_not] at hs
  have:=hs.1.1.1.1
  omega
 obtain ⟨m,hm⟩:=ab1 hn
 refine XA.2.calls rfl ?_
 simp only [XA,aH]
 have e:ry s t=(!(decide (t.k=2) && (decide ((s.ops.length:Int)≤t.n) || !decide ((t.l.length:Int)=((s.ops.getD t.n.toNat default).args.length:Nat)))) && !(t.l.any fun x=>!ry s x)):=by
  rw [← wh];cases t;rfl
 have fin:(!(decide (t.k=2) && (decide ((s.ops.length:Int)≤t.n) || !decide ((t.l.length:Int)=((s.ops.getD t.n.toNat default).args.length:Nat)))))=false→bP H.length [.t 4] [(4,.bool false)] H fun r H'=>r=.bool (ry s t)∧H'=H:=by
  intro h
  rw [e,h];exact aK rfl rfl
 by_cases h2:t.k=2
 ·by_cases h3:(s.ops.length:Int)≤t.n
  ·simp +contextual only [aC,h2,h3,decide_true,sZ,Nat.reduceEqDiff,Nat.reduceAdd,↓reduceIte,reduceCtorEq]
   exact fin (by simp [h2,h3])
  ·have Qw:m < s.ops.length:=by omega
   have VX:¬ (s.ops.length:Int)≤(m:Int):=by omega
   have em:t.n.toNat=m:=by omega
   by_cases h4:(t.l.length:Int)=((s.ops.getD m default).args.length:Nat)
   ·simp +contextual only [aC,h2,VX,h4,hm,Qw,ap,decide_true,decide_false,sZ,Nat.reduceEqDiff,Nat.reduceAdd,↓reduceIte,reduceCtorEq]
    refine ae (ZX 182 [.ah s.av] rfl _ t.l c182) ?_
    simp +contextual only [sZ,↓reduceIte,reduceCtorEq]
    refine aK rfl ?_
    rw [e,em,h4]
    simp [h2,h3]
   ·simp +contextual only [aC,h2,VX,h4,hm,Qw,ap,decide_true,decide_false,sZ,Nat.reduceEqDiff,Nat.reduceAdd,↓reduceIte,reduceCtorEq]
    exact fin (by rw [em,decide_eq_true h2,decide_eq_false h3,decide_eq_false h4];rfl)
 ·simp +contextual only [aC,h2,decide_false,sZ,Nat.reduceEqDiff,Nat.reduceAdd,↓reduceIte,reduceCtorEq]
  refine ae (ZX 182 [.ah s.av] rfl _ t.l c182) ?_
  simp +contextual only [sZ,↓reduceIte,reduceCtorEq]
  refine aK rfl ?_
  rw [e]
  simp [h2]
noncomputable def fF (s:Sg) (ps ss:List Int) (l:List T):Int:=if jy s ps ss=0 then (if (l.all fun t=>t.tree && ry s t)=true then 0 else 4) else jy s ps ss
theorem AD {p:T→Bool} {l:List T} {i:Nat} (h:i < l.length):(l.drop i).all p=(p (l.getD i default) && (l.drop (i + 1)).all p):=by
 have e:l.getD i default=l[i]:=by simp [h]
 rw [aav h,List.all_cons,e]
theorem ZY (s:Sg) (ps ss:List Int) (l:List T):Pure Tryz.prog 74 [s.av,dE ps ss,.al 0 (bN l)] (.int .i64 (fF s ps ss l)):=by
 refine fun H=>k74.2.calls rfl ?_
 simp only [k74,aH]
 obtain ⟨q1,q2,q3,q4,q5,q6⟩:=aR ps ss
 simp +contextual only [aC,q1,q4,bQ,sZ,Nat.reduceEqDiff,Nat.reduceAdd,↓reduceIte,reduceCtorEq]
 refine ae (c24 s ps ss) ?_
 by_cases h0:jy s ps ss=0
 ·simp +contextual only [h0,sZ,Nat.reduceEqDiff,↓reduceIte]
  intro _
  refine aq l.length (fun i=>l.all (fun t=>t.tree && ry s t)=(l.drop i).all fun t=>t.tree && ry s t) (fun i=>[(3,.ah s.av),(16,.al 0 (bN l)),(17,.int .i64 l.length),(18,.int .i64 i)]) (fun _=>H) ⟨rfl,ax _ _ _⟩ fun i hi hI=>?_
  by_cases vA:(i:Int) < l.length
  ·have aM:i < l.length:=by omega
   rw [AD aM] at hI
   simp +contextual only [vA,decide_true,sZ,Nat.reduceEqDiff,Nat.reduceAdd,↓reduceIte]
   refine ⟨aM,ae (U5 _) ?_⟩
   cases ht:(l.getD i default).tree with
   | false=>
     rw [ht,afA,afA] at hI
     simp +contextual only [sZ,Nat.reduceEqDiff,↓reduceIte,reduceCtorEq,Int.reduceEq]
     refine aK rfl ?_
     rw [fF,if_pos h0,hI,if_neg (by simp)]
   | true=>
     rw [ht,acB] at hI
     simp +contextual only [aC,sZ,Nat.reduceEqDiff,Nat.reduceAdd,↓reduceIte]
     refine ae (aec s _ ((T.cI _).1 ht).2.2) ?_
     cases ho:ry s (l.getD i default) with
     | false=>
       rw [ho,afA] at hI
       simp +contextual only [Bool.not_false,sZ,Nat.reduceEqDiff,↓reduceIte,reduceCtorEq]
       refine aK rfl ?_
       rw [fF,if_pos h0,hI,if_neg (by simp)]
     | true=>
       rw [ho,acB] at hI
       simp +contextual only [Bool.not_true,sZ,Nat.reduceEqDiff,↓reduceIte]
       exact ⟨i + 1,⟨aM,hI⟩,by omega,ay (by rw [aj i (by omega)]) rfl⟩
  ·simp +contextual only [vA,decide_false,sZ,Nat.reduceEqDiff,↓reduceIte,reduceCtorEq]
   rw [aap (by omega)] at hI
   refine aK rfl ?_
   rw [fF,if_pos h0,hI];rfl
 ·simp +contextual only [h0,sZ,Nat.reduceEqDiff,↓reduceIte,reduceCtorEq]
  refine aK rfl ?_
  rw [fF,if_neg h0]
theorem U6 {s:Sg}:∀ t:T,t.shaped=true→ry s t=true→vO (fun n=>0≤n∧n < s.ops.length) t:=by
 suffices h:∀ N t,wt t≤N→t.shaped=true→ry s t=true→vO (fun n=>0≤n∧n < s.ops.length) t from fun t=>h _ t (zy _)
 intro N
 induction N with
 | zero=>intro t h;have:=dt t;omega
 | succ N ih=>
 intro t hN hs ho
 have hn:0≤t.n:=by
  rw [T.dn] at hs
  simp only [zC,abC,abQ,decide_eq_false_iff_not] at hs
  have:=hs.1.1.1.1
  omega
 have hk:=(fN hs).2
 obtain ⟨k,n,l⟩:=t
 rw [ry,wh] at ho
 simp only [zC,abC,afj,abQ,decide_eq_false_iff_not,ac3,Bool.not_eq_false'] at ho
 refine vO.mk k n l (fun uY=>?_) fun x hx=>ih x (by have:=ch (a:=.mk k n l) hx;omega) (hk x hx) ?_
 ·rcases ho.1 with h | h
  ·exact absurd uY h
  ·exact ⟨hn,by omega⟩
 ·have:=ho.2 x hx
  simpa using this
end Go.aI
end
