/- Part 14 of 17 of the proof. -/
import Derived.Test.YtljchnfgjdjobaaGreatXam
import Derived.Test.YtljchnfgjdjobaaGreatXag
import Derived.KernelRfl
import Derived.Test.YtljchnfgjdjobaaGreatXak
import Derived.Test.YtljchnfgjdjobaaGreatXah
import Derived.Test.YtljchnfgjdjobaaGreatXaj
import Derived.Test.YtljchnfgjdjobaaGreatXaf
import Derived.Test.YtljchnfgjdjobaaGreatXai
set_option linter.unusedVariables false
set_option linter.unusedSimpArgs false
set_option linter.defProp false
set_option linter.unusedSectionVars false
section
set_option maxRecDepth 100000
namespace Go.aK
open Go Go.Proofs Go.fo
def yw (n0 id:Nat) (G:List aa):List aa:=G.mapIdx fun j o=>if j < n0 + 3∨j=id then o else .dead
theorem uo {n0 id j:Nat} {G:List aa}:(yw n0 id G)[j]?=(G[j]?).map fun o=>if j < n0 + 3∨j=id then o else .dead:=by simp [yw]
theorem A8 {n0 id:Nat} {G:List aa}:(yw n0 id G).length=G.length:=by simp [yw]
theorem HH {n0 id:Nat} {G:List aa}:(yw n0 id G).take (n0 + 3)=G.take (n0 + 3):=by
 apply acG
 intro j
 rw [aa7,aa7]
 split
 ·rename_i hj
  rw [uo]
  cases G[j]? with
  | none=>rfl
  | some o=>simp [hj]
 ·rfl
theorem Fk {n0 id:Nat} {G:List aa} (h3:∀ (j:Nat) (o:aa),n0≤j→j < n0 + 3→G[j]?=some o→o.aW (j + 1)=true) (bu:∀ o,G[id]?=some o→o.aW (id + 1)=true):lh n0 G G.length (yw n0 id G):=by
 refine ⟨by rw [A8,Nat.min_self],fun j o ho=>?_⟩
 rw [uo] at ho
 cases hg:G[j]? with
 | none=>rw [hg] at ho;cases ho
 | some o'=>
   rw [hg] at ho
   simp only [Option.map_some,Option.some.injEq] at ho
   split at ho
   ·rename_i hc
    subst ho
    refine .inr ⟨rfl,fun h=>?_⟩
    rcases hc with hc | hc
    ·exact h3 j _ h hc hg
    ·subst hc;exact bu _ hg
   ·exact .inl ho.symm
def Oj (H:List aa) (ps ss:List Int) (ts:List T) (r:AV) (G:List aa):Prop:=
 ∃ va,r=.tuple [.ptr (H.length + 2) 0,va]∧G.take (H.length + 3)=H++[.map [],.map [],kT ps ss (dg ts 0) H.length (H.length + 1)]∧H.length + 3≤G.length∧RO zI (H.length + 3) va (ints (aZ ts 0)) G
theorem vv.abG {z:AV} {kp kp':Nat→Prop} {v:AV} {xs:List AV} {G G':List aa} (h:vv z kp v xs G) (hk:∀ id l c,v=.ba id 0 l c→¬ kp' id∧G'[id]?=G[id]?):vv z kp' v xs G':=by
 rcases h with h | ⟨id,cap,a,b,c,d⟩
 ·exact .inl h
 ·obtain ⟨h1,h2⟩:=hk _ _ _ b
  exact .inr ⟨id,cap,h1,b,by rw [h2];exact c,d⟩
theorem vv.ne {z:AV} {kp:Nat→Prop} {v:AV} {xs:List AV} {G:List aa} (h:vv z kp v xs G) {id l c:Nat} (e:v=.ba id 0 l c):¬ kp id:=by
 rcases h with ⟨_,rfl⟩ | ⟨id',cap,a,rfl,_⟩
 ·cases e
 ·cases e;exact a
theorem afy (ps ss:List Int) (ts:List T) (H:List aa) (hb:iN ts * 64≤140737488355328):aw Tryz.prog 75 [eT ps ss,.ak 0 (bk ts)] H (Oj H ps ss ts):=by
 refine abE.2.xE rfl ?_
 simp only [abE,aH,eT]
 have hlw:=jk ts
 simp +contextual only [bdD,R4,sZ,Nat.reduceEqDiff,Nat.reduceAdd,↓reduceIte,reduceCtorEq]
 refine ⟨by simp;omega,fun _=>?_⟩
 have e0:∀ (l:List aa) (x:aa),(H++x::l)[H.length]?=some x:=by simp
 refine ke ts.length (fun i (p:AV×AV×List aa)=>vv zN (fun j=>j < H.length + 3∨∃ l c,p.2.1=.ba j 0 l c) p.1 (fp (dg (ts.take i) 0)) p.2.2∧vv zI (fun j=>j < H.length + 3∨∃ l c,p.1=.ba j 0 l c) p.2.1 (ints (aZ (ts.take i) 0)) p.2.2∧H.length + 3≤p.2.2.length∧
  p.2.2.take (H.length + 3)=H++[.map [],.map [],.cells [.ak 0 (ints ps),.ak 0 (ints ss),p.1,.map H.length,.map (H.length + 1)]])
  (fun i p=>[(6,.ptr (H.length + 2) 0),(7,p.2.1),(15,.ak 0 (bk ts)),(16,.int .i64 ts.length),(17,.int .i64 i)])
  (fun i p=>p.2.2) (.ag,.ag,_) ⟨⟨.inl ⟨rfl,rfl⟩,.inl ⟨rfl,rfl⟩,by simp,?_⟩,ms _ _ _⟩ fun i p hi hI=>?_
 ·rw [Ue (by simp)]
 obtain ⟨v,va,G⟩:=p
 obtain ⟨hR,hA,hl,hG⟩:=hI
 simp only at hR hA hl hG
 obtain ⟨o1,o2,o3,o4⟩:=hR.one
 obtain ⟨p1,p2,p3,p4⟩:=hA.one
 have gget:∀ j,j < H.length + 3→G[j]?=(H++[.map [],.map [],.cells [.ak 0 (ints ps),.ak 0 (ints ss),v,.map H.length,.map (H.length + 1)]])[j]?:=by
  intro j hj;rw [← hG,aa7,if_pos hj]
 have g2:G[H.length + 2]?=some (.cells [.ak 0 (ints ps),.ak 0 (ints ss),v,.map H.length,.map (H.length + 1)]):=by rw [gget _ (by omega)];simp
 have hle:=dB ts i
 have Dy:=cN (ts.take i) 0
 have WH:(ts.take i).length≤ts.length:=by simp;omega
 by_cases aG:i < ts.length
 ·have mg:((i:Int) < ts.length)=True:=eq_true (by omega)
  simp +contextual only [o3,p3,g2,hR.len,hR.aN,ko,mg,decide_true,sZ,Nat.reduceEqDiff,Nat.reduceAdd,Nat.reduceLT,↓reduceIte]
  have hwt:=pc aG
  have hnext:=dB ts (i + 1)
  have e2:ts.take (i + 1)=ts.take i++[ts.getD i default]:=by rw [acP aG];simp [aG]
  have arrlt:∀ {z:AV} {kp:Nat→Prop} {u:AV} {xs:List AV} {G:List aa} {j l c:Nat},vv z kp u xs G→u=.ba j 0 l c→j < G.length:=by
   intro z kp u xs G j l c h e
   rcases h with ⟨_,rfl⟩ | ⟨id',cap,_,rfl,h2,_⟩
   ·cases e
   ·cases e;exact aO h2
  refine ⟨aG,A7 Cs hA (pe _) 0 [.int .i64 (iN (ts.take i):Nat)] (by simp) (pe [_]) (by rw [au];simp;omega) (fun j hj=>?_) fun va' G1 Ux AB vG=>?_⟩
  ·rcases hj with hj | ⟨l,c,e⟩
   ·omega
   ·exact arrlt hR e
  obtain ⟨p1',p2',p3',p4'⟩:=Ux.one
  have g21:G1[H.length + 2]?=some (.cells [.ak 0 (ints ps),.ak 0 (ints ss),v,.map H.length,.map (H.length + 1)]):=by rw [AB _ (.inl (by omega)),g2]
  have WE:vv zN (fun j=>j < H.length + 3∨∃ l c,va'=.ba j 0 l c) v (fp (dg (ts.take i) 0)) G1:=hR.abG fun id l c e=>by
   refine ⟨fun h=>?_,AB id (.inr ⟨l,c,e⟩)⟩
   rcases h with h | ⟨l',c',e'⟩
   ·exact hR.ne e (.inl h)
   ·exact Ux.ne e' (.inr ⟨l,c,e⟩)
  simp +contextual only [o3,p3',g21,sZ,Nat.reduceEqDiff,Nat.reduceAdd,Nat.reduceLT,↓reduceIte,reduceCtorEq]
  have hc:=abF (wt (ts.getD i default)) (ts.getD i default) (sU _) (fun j=>j < H.length + 3∨∃ l c,va'=.ba j 0 l c) v _ G1 WE (kS _) (fun j hj=>by
   rcases hj with hj | ⟨l,c,e⟩
   ·omega
   ·exact arrlt Ux e) (by rw [ko];omega)
  refine af hc ?_
  rintro r G' ⟨qt,Gv,xb⟩
  obtain ⟨o1',o2',o3',o4'⟩:=qt.one
  have g2':G'[H.length + 2]?=some (.cells [.ak 0 (ints ps),.ak 0 (ints ss),v,.map H.length,.map (H.length + 1)]):=by rw [Gv _ (.inl (by omega)),g21]
  have dZ:=qt.aW (sU _)
  have Gx:vv zI (fun j=>j < H.length + 3∨∃ l c,r=.ba j 0 l c) va' (ints (aZ (ts.take i) 0)++[.int .i64 (iN (ts.take i):Nat)]) G':=Ux.abG fun id l c e=>by
   refine ⟨fun h=>?_,Gv id (.inr ⟨l,c,e⟩)⟩
   rcases h with h | ⟨l',c',e'⟩
   ·exact Ux.ne e (.inl h)
   ·exact qt.ne e' (.inr ⟨l,c,e⟩)
  have gt':G'.take (H.length + 3)=G.take (H.length + 3):=by
   apply acG
   intro j
   rw [aa7,aa7]
   split
   ·rename_i hj;rw [Gv j (.inl hj),AB j (.inl hj)]
   ·rfl
  simp +contextual only [kN,o1',o2',o3',o4',g2',dZ,sZ,Nat.reduceEqDiff,Nat.reduceAdd,Nat.reduceLeDiff,↓reduceIte]
  refine ⟨by omega,i + 1,(r,va',_),⟨aG,?_,?_,by simp;omega,?_⟩,by omega,sm ?_ rfl⟩
  ·have h1:=qt.set (j:=H.length + 2) (fun l c e=>qt.ne e (.inl (by omega))) (.cells (ai [.ak 0 (ints ps),.ak 0 (ints ss),v,.map H.length,.map (H.length + 1)] 2 [r]))
   rw [ko] at h1
   rw [e2,mA,sD,acC]
   exact h1
  ·have h1:=Gx.set (j:=H.length + 2) (fun l c e=>Gx.ne e (.inl (by omega))) (.cells (ai [.ak 0 (ints ps),.ak 0 (ints ss),v,.map H.length,.map (H.length + 1)] 2 [r]))
   have ek:ints (aZ (ts.take i++[ts.getD i default]) 0)=ints (aZ (ts.take i) 0)++[.int .i64 (iN (ts.take i):Nat)]:=by rw [jw,acC];simp [ints]
   rw [e2,ek]
   exact h1
  ·rw [aef,gt',hG]
   simp [ai]
  ·rw [aq i (by omega)]
 ·have mV:i=ts.length:=by omega
  subst mV
  have mg:((ts.length:Int) < ts.length)=False:=eq_false (by omega)
  simp +contextual only [mg,decide_false,sZ,Nat.reduceEqDiff,↓reduceIte]
  rw [aby] at hR hA
  have bz:∀ (l:List Int) (cap n:Nat),(bw zI (ints l) cap).aW n=true:=fun l cap n=>by
   rw [Ct]
   simp only [aa.aW,a8]
   exact ⟨aT _ _,(jT.flat (kR Cs _)).2.2.1 n⟩
  have fin:∀ (G':List aa),H.length + 3≤G'.length→(∀ id l c,va=.ba id 0 l c→G'[id]?=G[id]?)→G'.take (H.length + 3)=H++[.map [],.map [],kT ps ss (dg ts 0) H.length (H.length + 1)]→mj (lh H.length) H.length [.t 4,.t 5] [(4,.ptr (H.length + 2) 0),(5,va)] G' (Oj H ps ss ts):=by
   intro G' xb bu dS
   have get3:∀ (j:Nat) (o:aa),H.length≤j→j < H.length + 3→G'[j]?=some o→o.aW (j + 1)=true:=by
    intro j o h1 h2 ho
    have h3:(G'.take (H.length + 3))[j]?=some o:=by rw [aa7,if_pos h2];exact ho
    rw [dS,abu h1] at h3
    have:j=H.length∨j=H.length + 1∨j=H.length + 2:=by omega
    rcases this with rfl | rfl | rfl
    ·simp at h3;subst h3;rfl
    ·simp at h3;subst h3;rfl
    ·simp at h3;subst h3;exact AM ps ss _ _
   have vI:∀ id,RO zI (H.length + 3) va (ints (aZ ts 0)) (yw H.length id G')→(∀ o,G'[id]?=some o→o.aW (id + 1)=true)→va.aW G'.length=true→mj (lh H.length) H.length [.t 4,.t 5] [(4,.ptr (H.length + 2) 0),(5,va)] G' (Oj H ps ss ts):=by
    intro id yI dZ hva
    refine NC (m:=G'.length) (by omega) (Fk get3 dZ) (x:=.ptr (H.length + 2) 0) (y:=va) rfl (by simp [ay,p3]) (by rw [qP];exact decide_eq_true (by omega)) hva ⟨va,rfl,by rw [HH,dS],by rw [A8];exact xb,yI⟩
   rcases hA with ⟨e1,rfl⟩ | ⟨id,cap,hk,rfl,hg,hc,eS⟩
   ·exact vI G'.length (.inl ⟨e1,rfl⟩) (fun o ho=>by rw [acB (sU _)] at ho;cases ho) rfl
   ·have Sn:=bu _ _ _ rfl
    rw [hg] at Sn
    refine vI id (.inr ⟨id,cap,by have:=fun h=>hk (.inl h);omega,rfl,by rw [uo,Sn];simp,hc,eS⟩) (fun o ho=>?_) ?_
    ·rw [Sn] at ho;cases ho;exact bz _ _ _
    ·rw [fJ];exact decide_eq_true (aO Sn)
  rw [ER]
  unfold Bu
  rw [g2]
  rcases hR with ⟨e1,rfl⟩ | ⟨id,cap,bu,rfl,hg,cc,eS⟩
  ·simp +contextual only [List.getElem?_cons_succ,List.getElem?_cons_zero,p3,sZ,Nat.reduceEqDiff,↓reduceIte,reduceCtorEq]
   refine fin G hl (fun _ _ _ _=>rfl) ?_
   rw [hG,kT,pd,if_pos (ES e1)]
  ·simp +contextual only [List.getElem?_cons_succ,List.getElem?_cons_zero,p3,sZ,Nat.reduceEqDiff,↓reduceIte,reduceCtorEq]
   have Yw:H.length + 3≤id:=by have:=fun h=>bu (.inl h);omega
   refine xX (by decide) Cr (kS _) (fun x hx=>?_) hg cc ⟨?_,?_,?_⟩
   ·obtain ⟨q,_,rfl⟩:=aaR.1 hx;rfl
   ·rw [zC (by omega)];exact g2
   ·rw [bZ];exact x8 _ _
   ·refine fin _ (by simp;omega) (fun id' l c e=>?_) ?_
    ·have h1:id'≠id:=fun e'=>hA.ne e (.inr ⟨_,_,by rw [e']⟩)
     have h2:id'≠H.length + 2:=fun e'=>hA.ne e (.inl (by omega))
     rw [zC (Ne.symm h2),zC (Ne.symm h1)]
    ·rw [aef,aef,hG]
     have e1:∀ X:List aa,X.length≤id→X.set id .dead=X:=fun X h=>List.set_eq_of_length_le h
     rw [e1 _ (by simp;omega),kT,pd,if_neg (fun e=>eS (by rw [e];rfl))]
     simp
end Go.aK
end
section
set_option maxRecDepth 100000
set_option maxHeartbeats 0
namespace Go.aK
open Go Go.Proofs
noncomputable def T6:=aH Tryz.call105 Tryz.func105 Tryz.ntmps105 [(5,6,2)] [(0,[0,1,2]),(1,[0,1,2]),(2,[0,1,2,16]),(3,[6]),(4,[0,1,2,7]),(5,[0,7]),(6,[0]),(7,[6])] [(5,(.take 0 true (.take 1 true (.take 2 true (.take 3 true (.take 4 true (.take 5 true (.br 6 (.take 7 true .done) .nil))))))))]
end Go.aK
end
section
set_option maxRecDepth 100000
namespace Go.aK
open Go Go.Proofs Go.fo
theorem spI (A B:List Int) (k:Nat):ai (ints A) k (ints B)=ints (A.take k++B++A.drop (k + B.length)):=by
 unfold ai
 rw [mC,ua,mD,au,mD]
 rw [abb]
theorem sl3 {id i n cap:Nat} (h:i < n) (hc:n≤cap) (φ:AV→Prop):bo 1 (.ba id 0 n cap) (some (.int .i64 (i:Int))) (some (.int .i64 ((i:Int) + 1))) (some (.int .i64 (n:Int))) φ=φ (.ba id (if n=i then 0 else 0 + i * 1) ((i + 1) - i) (n - i)):=by
 have e1:((i:Int) + 1).toNat=i + 1:=by omega
 simp only [bo,px,dV,aad,agG,true_and,e1,eq_iff_iff]
 constructor
 ·rintro ⟨_,_,_,h⟩;exact h.2.2.2
 ·exact fun k=>⟨by omega,by omega,by omega,by omega,by omega,by omega,k⟩
theorem afz {id i n cap:Nat} (hc:i≤cap) (φ:AV→Prop):bo 1 (.ba id 0 n cap) none (some (.int .i64 (i:Int))) none φ=φ (.ba id 0 i cap):=by
 have e:(if cap=0 then 0 else 0 + 0 * 1)=0:=by split <;> simp
 simp only [bo,iw,dV,aad,e,agv,eq_iff_iff]
 constructor
 ·rintro ⟨_,h⟩;exact h.2.2
 ·exact fun k=>⟨by omega,by omega,hc,k⟩
theorem afA {id i n cap:Nat} (h:i + 1≤n) (hc:n≤cap) (φ:AV→Prop):bo 1 (.ba id 0 n cap) (some (.int .i64 ((i:Int) + 1))) none none φ=φ (.ba id (if cap=i + 1 then 0 else 0 + (i + 1) * 1) (n - (i + 1)) (cap - (i + 1))):=by
 have e1:((i:Int) + 1).toNat=i + 1:=by omega
 simp only [bo,iw,dV,e1,eq_iff_iff]
 constructor
 ·rintro ⟨_,h⟩;exact h.2.2
 ·exact fun k=>⟨by omega,h,hc,k⟩
theorem afB {id l h n cap:Nat} (hl:l < h) (hc:h≤cap) (φ:AV→Prop):bo 1 (.ba id 0 n cap) (some (.int .i64 (l:Int))) (some (.int .i64 (h:Int))) none φ=φ (.ba id l (h - l) (cap - l)):=by
 have e:(if cap=l then 0 else 0 + l * 1)=l:=by rw [if_neg (by omega)];omega
 simp only [bo,iw,dV,aad,e,eq_iff_iff]
 constructor
 ·rintro ⟨_,_,h⟩;exact h.2.2
 ·exact fun k=>⟨by omega,by omega,by omega,hc,k⟩
theorem afC (P S pad:List Int) (a:Int) (hb:(P++a::S).length≤1000000000) (id cap:Nat) (cc:cap=(P++a::S++pad).length) {H:List aa} (hg:H[id]?=some (.cells (ints (P++a::S++pad)))) :
 aw Tryz.prog 105 [.ba id 0 (P.length + 1 + S.length) cap,.int .i64 P.length,.int .i64 ((P.length:Int) + 1)] H fun r H'=>r=.ba id 0 (P.length + S.length) cap∧H'=H.set id (.cells (ints (P++S++0::pad))):=by
 refine T6.2.calls rfl ?_
 simp only [T6,aH]
 have jD:cap=P.length + 1 + S.length + pad.length:=by rw [cc];simp;omega
 rw [cc] at jD
 have ne:((P.length:Int)=(P.length:Int) + 1)=False:=eq_false (by omega)
 have rA:=aO hg
 have s1:=fun φ=>sl3 (id:=id) (i:=P.length) (n:=P.length + 1 + S.length) (cap:=cap) (by omega) (by omega) φ
 have s2:=fun φ=>afz (id:=id) (i:=P.length) (n:=P.length + 1 + S.length) (cap:=cap) (by omega) φ
 have s3':=fun φ=>afA (id:=id) (i:=P.length) (n:=P.length + 1 + S.length) (cap:=cap) (by omega) (by omega) φ
 have un:∀ a b c d,(AV.ba a b c d).ab=.ba a b c d:=fun _ _ _ _=>rfl
 have ox1:∀ (env:Env) (i:IX),iz env (some i)=some (ap env i):=fun _ _=>rfl
 have ox2:∀ (env:Env),iz env none=none:=fun _=>rfl
 have s4:=fun φ=>afB (id:=id) (l:=P.length + S.length) (h:=P.length + 1 + S.length) (n:=P.length + S.length) (cap:=cap) (by omega) (by omega) φ
 simp +contextual only [Option.map_some,Option.map_none,ox1,s1,s2,s3',ne,decide_false,un,sZ,Nat.reduceEqDiff,Nat.reduceAdd,↓reduceIte,reduceCtorEq]
 have hnone:∀ a b c d,dG (AV.ba a b c d)=none:=fun _ _ _ _=>rfl
 have e0:P.length + 1 + S.length - (P.length + 1)=S.length:=by omega
 have eA:P++a::S++pad=(P++[a])++(S++pad):=by simp
 unfold ch
 simp only [hnone,yV,hg,au,e0]
 have pY:(if cap=P.length + 1 then 0 else 0 + (P.length + 1) * 1) + S.length * 1≤(P++a::S++pad).length:=by simp only [aaz,List.length_cons];split <;> omega
 have htake:(List.take (S.length * 1) (List.drop (if cap=P.length + 1 then 0 else 0 + (P.length + 1) * 1) (ints (P++a::S++pad))))=ints S:=by
  rw [ua,mC,adG]
  congr 1
  by_cases hc:cap=P.length + 1
  ·have:S=[]:=acy.1 (by omega)
   subst this;simp
  ·rw [if_neg hc,eA,List.drop_left' (by simp),adI]
 rw [if_pos pY]
 simp only [hg,htake,wy,mE,aT]
 refine ⟨?_,trivial,by omega,by rw [au,← cc];omega,trivial,?_⟩
 ·rw [agl,au];simp only [aaz,List.length_cons] at pY ⊢;omega
 obtain ⟨x,X,hxX,hXl⟩:∃ x X,(a::S).drop S.length=x::X∧X.length=0:=by
  have hl:((a::S).drop S.length).length=1:=by simp
  cases hd:(a::S).drop S.length with
  | nil=>rw [hd] at hl;simp at hl
  | cons x X=>rw [hd] at hl;exact ⟨x,X,rfl,by simpa using hl⟩
 have hX0:X=[]:=acy.1 hXl
 subst hX0
 have e1:ai (ints (P++a::S++pad)) (0 + P.length * 1) (ints S)=ints (P++S++x::pad):=by
  rw [spI]
  congr 1
  have h1:(P++a::S++pad).take (0 + P.length * 1)=P:=by rw [abb,acC,adG,adI]
  have h2:(P++a::S++pad).drop (0 + P.length * 1 + S.length)=x::pad:=by
   rw [abb,acC,adG,← agB,aeG,adm (by simp),hxX];rfl
  rw [h1,h2]
 rw [e1]
 have gs:∀ o,(H.set id o)[id]?=some o:=fun o=>zD rA
 have e2:P.length + 1 + S.length - (P.length + S.length)=1:=by omega
 have e3:((P.length + S.length:Nat):Int)=((P.length + S.length:Nat):Int):=rfl
 simp +contextual only [ox1,ox2,s4,un,e2,Kd,sZ,Nat.reduceEqDiff,↓reduceIte,reduceCtorEq]
 unfold jh
 have ap1:dl (.int .i64 0) 1=ints [0]:=rfl
 simp only [gs,ap1,wy,mE,aT,au,spI,adL]
 refine ⟨by simp;omega,trivial,trivial,?_⟩
 have e4:(P++S++x::pad).take (P.length + S.length)++[0]++(P++S++x::pad).drop (P.length + S.length + [(0:Int)].length)=P++S++0::pad:=by
  have hl:(P++S).length=P.length + S.length:=by simp
  rw [← hl,adI,← agB,aeG];simp
 rw [e4]
 simp +contextual only [un,sZ,↓reduceIte,reduceCtorEq]
 exact Wb (by simp) (by rw [fJ];exact decide_eq_true rA) rfl rfl
end Go.aK
end
section
set_option maxRecDepth 100000
namespace Go.aK
open Go Go.Proofs Go.fo
theorem T7 {S:List aa→Prop} (hS:AP S) {Q:Int→Prop} {a:List Int} {id cap:Nat} (hg:∀ G,S G→G[id]?=some (bw zI (ints a) cap)) (hc:a.length≤cap) (la:a.length≤1000000000) (g:Nat) (pre cS:List AV) (cc:cS.map AV.ab=cS) (mQ:pre.map AV.ab=pre)
 (hf:∀ x∈a,∀ H,S H→aw Tryz.prog g (pre++[.int .i64 x]++cS) H (SB S (Q x))) {H:List aa} (hH:S H) :
 aw Tryz.prog 100 [.ba id 0 a.length cap,.fn (.func g) pre cS] H (SI S Q a):=by
 refine Em.2.calls rfl ?_
 simp only [Em,aH]
 simp +contextual only [sZ,Nat.reduceEqDiff,Nat.reduceAdd,↓reduceIte,reduceCtorEq]
 have fin:∀ (n:Int) (G:List aa),S G→((n=-1∧∀ x∈a,¬ Q x)∨∃ m:Nat,n=m∧m < a.length∧Q (a.getD m 0)∧∀ j,j < m→¬ Q (a.getD j 0))→bT H.length [.t 4] [(4,.int .i64 n)] G (SI S Q a):=by
  intro n G hG hn
  refine aP H.length (sU _) (by rw [ay,if_pos rfl];rfl) ?_
  rw [ay,if_pos rfl,Ue (by rw [hS H G hH hG];exact sU _)]
  refine ⟨hG,?_⟩
  rcases hn with ⟨rfl,h⟩ | ⟨m,rfl,h⟩
  ·exact .inl ⟨rfl,h⟩
  ·exact .inr ⟨m,rfl,h⟩
 refine aD a.length (fun i (G:List aa)=>S G∧∀ j,j < i→¬ Q (a.getD j 0))
  (fun i G=>[(0,.ba id 0 a.length cap),(1,.fn (.func g) pre cS),(7,.int .i64 a.length),(8,.int .i64 i)]) (fun i G=>G) H ⟨⟨hH,fun j hj=>by omega⟩,ax _ _ _⟩ fun i G hi hI=>?_
 obtain ⟨hG,hq⟩:=hI
 by_cases aG:i < a.length
 ·have mg:((i:Int) < a.length)=True:=eq_true (by omega)
  simp +contextual only [mg,decide_true,lW,hg G hG,IP aG,cc,mQ,sZ,Nat.reduceEqDiff,Nat.reduceAdd,↓reduceIte,reduceCtorEq]
  refine ⟨by omega,af (hf _ (aQ (by omega)) G hG) ?_⟩
  rintro r G' ⟨x,rfl,hx,dS⟩
  cases x with
  | false=>
    simp +contextual only [sZ,Nat.reduceEqDiff,↓reduceIte,reduceCtorEq]
    refine ⟨i + 1,G',⟨by omega,dS,fun j hj=>?_⟩,by omega,aE (by rw [aq i (by omega)]) rfl⟩
    by_cases h:j=i
    ·subst h;exact fun h=>absurd (hx.2 h) (by simp)
    ·exact hq j (by omega)
  | true=>
    simp +contextual only [sZ,Nat.reduceEqDiff,↓reduceIte,reduceCtorEq]
    exact fin _ _ dS (.inr ⟨i,rfl,by omega,hx.1 rfl,hq⟩)
 ·have mg:((i:Int) < a.length)=False:=eq_false (by omega)
  simp +contextual only [mg,decide_false,sZ,Nat.reduceEqDiff,↓reduceIte,reduceCtorEq]
  refine fin _ _ hG (.inl ⟨rfl,fun x hx=>?_⟩)
  obtain ⟨j,hj,rfl⟩:=acZ hx
  have:=hq j (by omega)
  simpa [hj] using this
theorem abH {S:List aa→Prop} (hS:AP S) {Q:Int→Prop} {a:List Int} {id cap:Nat} (hg:∀ G,S G→G[id]?=some (bw zI (ints a) cap)) (hc:a.length≤cap) (la:a.length≤1000000000) (g:Nat) (pre cS:List AV) (cc:cS.map AV.ab=cS) (mQ:pre.map AV.ab=pre)
 (hf:∀ x∈a,∀ H,S H→aw Tryz.prog g (pre++[.int .i64 x]++cS) H (SB S (Q x))) {H:List aa} (hH:S H) :
 aw Tryz.prog 102 [.ba id 0 a.length cap,.fn (.func g) pre cS] H (SB S (∃ x∈a,Q x)):=by
 refine En.2.calls rfl ?_
 simp only [En,aH]
 simp +contextual only [sZ,Nat.reduceEqDiff,Nat.reduceAdd,↓reduceIte,reduceCtorEq]
 refine af (T7 hS hg hc la g pre cS cc mQ hf hH) ?_
 rintro r G ⟨hG,⟨rfl,h⟩ | ⟨n,rfl,h1,h2,_⟩⟩
 ·simp +contextual only [sZ,↓reduceIte,reduceCtorEq]
  exact Cu hS (b:=false) (by simp) ⟨fun h=>by simp at h,fun ⟨x,hx,h'⟩=>absurd h' (h x hx)⟩ hH hG
 ·simp +contextual only [sZ,↓reduceIte,reduceCtorEq]
  exact Cu hS (b:=true) (by simp) ⟨fun _=>⟨_,aQ h1,h2⟩,fun _=>rfl⟩ hH hG
def SG (c:Cx) (G H:List aa):Prop:=Du c H∧Up c G H
theorem SG.len (c:Cx) (G:List aa):AP (SG c G):=fun H H' h h'=>h'.2.len.trans h.2.len.symm
theorem afD {c:Cx} (hc:c.Ok) {i x:Int} (hi:c.ee i) (hx:c.ee x) {t9:Nat} {G:List aa} (h9:G[t9]?=some (.cells [.ptr c.d 0])) (n1:t9≠c.e) (n2:t9≠c.g) (H:List aa) (hH:SG c G H) :
 aw Tryz.prog 103 ([]++[.int .i64 x]++[.ptr t9 0,.ah (.int .i64 i)]) H (SB (SG c G) (R c.O (c.tm i) (c.tm x))):=by
 refine Y3.2.calls rfl ?_
 simp only [Y3,aH,List.nil_append,List.cons_append]
 have h9':H[t9]?=some (.cells [.ptr c.d 0]):=by rw [hH.2.get t9 n1 n2,h9]
 simp +contextual only [h9',sZ,Nat.reduceEqDiff,Nat.reduceAdd,Nat.reduceLT,↓reduceIte,reduceCtorEq]
 refine af (kV hc hi hx H hH.1) ?_
 rintro r G' ⟨b,rfl,hb,hU,hD⟩
 simp +contextual only [sZ,↓reduceIte,reduceCtorEq]
 exact Cu (SG.len c G) rfl hb hH ⟨hD,hH.2.trans hU⟩
theorem afE {c:Cx} (hc:c.Ok) {i:Int} (hi:c.ee i) {t9 t10 id cap:Nat} {l:List Int} {G:List aa} (hl:∀ x∈l,c.ee x) (Bk:l.length≤cap) (K8:l.length≤1000000000)
 (h9:G[t9]?=some (.cells [.ptr c.d 0])) (n1:t9≠c.e) (n2:t9≠c.g)
 (h10:G[t10]?=some (.cells [.ba id 0 l.length cap])) (m1:t10≠c.e) (m2:t10≠c.g)
 (hg:G[id]?=some (bw zI (ints l) cap)) (k1:id≠c.e) (k2:id≠c.g) (H:List aa) (hH:SG c G H) :
 aw Tryz.prog 101 ([]++[.int .i64 i]++[.ptr t10 0,.ptr t9 0]) H (SB (SG c G) (¬ ∃ x∈l,R c.O (c.tm i) (c.tm x))):=by
 refine Y2.2.calls rfl ?_
 simp only [Y2,aH,List.nil_append,List.cons_append]
 have afF:H[t10]?=some (.cells [.ba id 0 l.length cap]):=by rw [hH.2.get t10 m1 m2,h10]
 simp +contextual only [afF,sZ,Nat.reduceEqDiff,Nat.reduceAdd,Nat.reduceLT,↓reduceIte,reduceCtorEq]
 refine af (abH (SG.len c G) (fun G' dS=>by rw [dS.2.get id k1 k2,hg]) Bk K8 103 [] [.ptr t9 0,.ah (.int .i64 i)] rfl rfl (fun x hx H' hH'=>afD hc hi (hl x hx) h9 n1 n2 H' hH') hH) ?_
 rintro r G' ⟨b,rfl,hb,hG⟩
 simp +contextual only [sZ,↓reduceIte,reduceCtorEq]
 refine Cu (SG.len c G) (b:=!b) (by simp) ?_ hH hG
 rw [← hb];cases b <;> simp
end Go.aK
end
section
set_option maxRecDepth 100000
set_option maxHeartbeats 0
namespace Go.aK
open Go Go.Proofs
noncomputable def abI:=aH Tryz.call37 Tryz.func37 Tryz.ntmps37 [(0,0,1),(0,1,1),(9,2,2000),(10,0,1),(10,12,2000),(10,15,1),(11,4,2000)] [(0,[2,3,4]),(1,[2,4,8]),(2,[2,4,8,18]),(3,[6,7]),(4,[2,4,22]),(5,[6,7]),(6,[9,10]),(7,[9,10,11]),(8,[9,10,11,31]),(9,[9,10,11,12]),(10,[9,10,11,12]),(11,[9,10,11]),(12,[6,7])] [(10,(.take 1 true (.take 2 true (.take 3 true (.take 4 true (.take 5 true (.take 6 true (.take 7 true (.take 8 true (.take 9 true (.take 10 true (.take 11 true (.br 0 (.br 12 (.take 13 true (.br 14 (.br 15 .done .nil) .nil)) .nil) (.br 12 (.take 13 true (.br 0 (.br 14 (.br 15 .done .nil) .nil) .nil)) .nil))))))))))))))]
noncomputable def T8:=aH Tryz.call104 Tryz.func104 Tryz.ntmps104 [(1,4,2),(5,4,2000),(7,0,3003)] [(0,[1,2]),(1,[1,2]),(2,[1,2,10,11,12]),(3,[1,2,10,11,12,13]),(4,[1,2,3,4,10,11,12]),(5,[1,2,10,11,12]),(6,[1,2,10,11,12]),(7,[2])] [(5,(.take 3 true (.take 0 false (.take 2 false (.br 1 (.br 4 (.take 5 true (.br 6 .done .nil)) .nil) (.br 4 (.take 1 true (.take 5 true (.br 6 .done .nil))) .nil))))))]
end Go.aK
end
section
set_option maxRecDepth 100000
namespace Go.aK
open Go Go.Proofs Go.fo
def zT:AV:=.agg [.int .i64 0,.int .i64 0,.ag]
theorem Ol:jT 3 (bV zT):=⟨rfl,rfl,rfl,rfl⟩
theorem ve (t:T):t.av=.agg [.int .i64 t.k,.int .i64 t.n,.ak 0 (bk t.l)]:=by cases t;rfl
theorem yx (t:T):jT 3 t.av:=by
 rw [ve]
 exact ⟨rfl,rfl,by simp [AV.cells,dy,bJ,cV,eE,bZ],rfl⟩
theorem I4 {l:List T} {x:AV} (h:x∈bk l):∃ t∈l,x=t.av:=by
 induction l with
 | nil=>cases h
 | cons y r ih=>
   rcases OU.1 h with rfl | h
   ·exact ⟨y,abn,rfl⟩
   ·obtain ⟨t,ht,e⟩:=ih h;exact ⟨t,aa6 _ ht,e⟩
theorem pV (l:List T):∀ x∈bk l,jT 3 x:=by
 intro x hx;obtain ⟨t,_,rfl⟩:=I4 hx;exact yx t
theorem I5 {l:List T} {i:Nat} (h:i < l.length):(bk l).getD i .any=(l.getD i default).av:=by
 induction l generalizing i with
 | nil=>simp at h
 | cons x r ih=>
   cases i with
   | zero=>rfl
   | succ i=>simpa [bk] using ih (i:=i) (by simpa using h)
theorem jB (l:List T):(bk l).length=l.length:=by induction l with | nil=>rfl | cons x r ih=>simp [bk,ih]
def CT (base:Nat) (v:AV) (l:List T) (G:List aa):Prop:=
 (l=[]∧v=.ag)∨∃ id cap,base≤id∧v=.ba id 0 l.length cap∧G[id]?=some (bw zT (bk l) cap)∧l.length≤cap
theorem CT.one {base:Nat} {v:AV} {l:List T} {G:List aa} (h:CT base v l G):v.one=true∧v.val=true∧v.ab=v∧v.cells=[v]:=by
 rcases h with ⟨_,rfl⟩ | ⟨id,cap,_,rfl,_⟩ <;> exact ⟨rfl,rfl,rfl,rfl⟩
theorem CT.aW {base:Nat} {v:AV} {l:List T} {G:List aa} (h:CT base v l G) {n:Nat} (hn:G.length≤n):v.aW n=true:=by
 rcases h with ⟨_,rfl⟩ | ⟨id,cap,_,rfl,c,_⟩
 ·rfl
 ·have:=(aaH.1 c).1
  rw [fJ];simp;omega
theorem CT.len {base:Nat} {v:AV} {l:List T} {G:List aa} (h:CT base v l G) {H:List aa} (φ:AV→Prop):fT v H φ=φ (.int .i64 l.length):=by
 rcases h with ⟨rfl,rfl⟩ | ⟨id,cap,_,rfl,_⟩ <;> rfl
theorem CT.aN {base:Nat} {v:AV} {l:List T} {G:List aa} (h:CT base v l G):aN 1 v=True:=by
 rcases h with ⟨rfl,rfl⟩ | ⟨id,cap,_,rfl,_⟩ <;> rfl
theorem Om (o:Nat) (φ:AV→Prop):dw 0 false (.ak o []) φ=(φ (.bool true)∧φ (.bool false)):=by simp [dw,isNil]
theorem On (o:Nat) (x:AV) (r:List AV) (φ:AV→Prop):dw 0 false (.ak o (x::r)) φ=φ (.bool false):=by simp [dw,isNil]
theorem Oo {esz bytes:Nat} {z:AV} {id o:Nat} {G:List aa} (bu:G[id]?=some (.cells [])) {K:AV→List aa→Prop} (hK:K (.ba id 0 0 0) G):ch esz bytes z (.ba id 0 0 0) (.ak o []) G K:=by
 unfold ch
 simp only [dG,bu]
 refine ⟨fun y h=>by simp at h,by simp,sU _,by simp,fun _=>⟨by simp [flat,aj],?_⟩,fun h=>absurd h (by simp)⟩
 have e:ai ([]:List AV) ((0 + 0) * esz) (List.map AV.ab (flat []))=[]:=by simp [ai,flat]
 simp only [flat,ai,ago,List.map_nil,List.length_nil,acA,List.take_nil,List.drop_nil]
 rw [Hp bu]
 exact hK
theorem afH (l:List T) (H:List aa) (hb:l.length * 40≤140737488355328):aw Tryz.prog 58 [.ak 0 (bk l)] H fun r H'=>CT H.length r l H'∧H'.take H.length=H∧H.length≤H'.length:=by
 refine aax.2.calls rfl ?_
 simp only [aax,aH]
 cases l with
 | nil=>
   simp +contextual only [bk,Om,wh,uF,sZ,Nat.reduceEqDiff,Nat.reduceAdd,↓reduceIte,reduceCtorEq]
   refine ⟨aP H.length (sU _) (by rw [ay,if_pos rfl];rfl) ⟨.inl ⟨rfl,by rw [ay,if_pos rfl]⟩,by simp,by simp⟩,?_⟩
   refine ⟨rfl,Oo (by simp [flat]) ?_⟩
   simp +contextual only [sZ,↓reduceIte,reduceCtorEq]
   refine aP (H.length + 1) (by omega) (by rw [ay,if_pos rfl,fJ];exact decide_eq_true (by omega)) ?_
   rw [ay,if_pos rfl,Ue (by simp)]
   exact ⟨.inr ⟨H.length,0,sU _,rfl,by simp [bw,bk,flat,dl],sU _⟩,by simp,by simp⟩
 | cons v r=>
   simp +contextual only [bk,On,wh,uF,sZ,Nat.reduceEqDiff,Nat.reduceAdd,↓reduceIte,reduceCtorEq]
   refine ⟨rfl,IN Ol (by simp [flat]) (bk (v::r)) (by simp [bk]) (pV _) (by rw [jB];exact hb) (base:=H.length) (by simp) fun v' G' hR hG hl=>?_⟩
   obtain ⟨o1,o2,o3,o4⟩:=hR.one
   simp +contextual only [o3,sZ,↓reduceIte,reduceCtorEq]
   have xb:H.length≤G'.length:=by simp at hl;omega
   refine aP G'.length xb (by rw [ay,if_pos rfl];exact hR.aW (sU _)) ?_
   rw [ay,if_pos rfl,aby]
   refine ⟨?_,by rw [hG];simp,xb⟩
   rcases hR with ⟨h,_⟩ | ⟨id,cap,a,b,c,d,_⟩
   ·cases h
   ·rw [jB] at b d;exact .inr ⟨id,cap,a,b,c,d⟩
theorem loadT {l:List T} {cap i:Nat} (h:i < l.length) (φ:AV→Prop):cw (some (bw zT (bk l) cap)) (some 3) (i * 3) φ=φ (l.getD i default).av:=by
 obtain ⟨g1,_⟩:=jT.flat (pV l)
 rw [jB] at g1
 have h1:=qW (pV l) i (by rw [jB];exact h)
 rw [I5 h] at h1
 have zr:(l.getD i default).av.cells.length=3:=(yx _).len
 have e:((flat (bk l)++dl zT (cap - (bk l).length)).drop (i * 3)).take 3=(l.getD i default).av.cells:=by
  rw [adm (by omega),h1,abb,abc (by omega),Ue (by omega)]
 simp only [bw,cw,e,eq_iff_iff,aaz]
 have e2:AV.agg ((l.getD i default).av.cells.map AV.drop)=(l.getD i default).av:=by rw [ve];rfl
 rw [e2]
 constructor
 ·exact fun h=>h.2
 ·exact fun h2=>⟨by omega,h2⟩
theorem storeT {l:List T} {cap i id:Nat} (h:i < l.length) {H:List aa} (hg:H[id]?=some (bw zT (bk l) cap)) {K:List aa→Prop} (hK:K H):gR (some (bw zT (bk l) cap)) 3 id (i * 3) (l.getD i default).av H K:=by
 obtain ⟨g1,_⟩:=jT.flat (pV l)
 rw [jB] at g1
 have h1:=qW (pV l) i (by rw [jB];exact h)
 rw [I5 h] at h1
 have ho:=yx (l.getD i default)
 have zr:=ho.len
 have hs:ai (flat (bk l)++dl zT (cap - (bk l).length)) (i * 3) ((l.getD i default).av.cells.map AV.ab)=flat (bk l)++dl zT (cap - (bk l).length):=by
  rw [ho.un]
  unfold ai
  have e1:(flat (bk l)++dl zT (cap - (bk l).length)).drop (i * 3)=(l.getD i default).av.cells++(flat ((bk l).drop (i + 1))++dl zT (cap - (bk l).length)):=by
   rw [adm (by omega),h1,abb]
  have e2:(flat (bk l)++dl zT (cap - (bk l).length)).drop (i * 3 + (l.getD i default).av.cells.length)=flat ((bk l).drop (i + 1))++dl zT (cap - (bk l).length):=by
   rw [← agB,e1,aeG]
  rw [e2,← e1,adE]
 have hv:(l.getD i default).av.val=true:=by rw [ve];rfl
 simp only [bw,gR]
 refine ⟨hv,zr,by rw [aaz];omega,ho.one,by rw [ho.un];exact bK (ac4 _) _ ho.bl,?_⟩
 rw [hs,show (aa.cells (flat (bk l)++dl zT (cap - (bk l).length)))=bw zT (bk l) cap from rfl,Hp hg]
 exact hK
theorem CT.set {base:Nat} {v:AV} {l:List T} {G:List aa} (h:CT base v l G) {j:Nat} (hj:j < base) (o:aa):CT base v l (G.set j o):=by
 rcases h with h | ⟨id,cap,a,b,c,d⟩
 ·exact .inl h
 ·exact .inr ⟨id,cap,a,b,by rw [zC (by omega)];exact c,d⟩
theorem CT.sl {base:Nat} {v:AV} {l:List T} {G:List aa} (h:CT base v l G) (X:List aa):CT base v l (G++X):=by
 rcases h with h | ⟨id,cap,a,b,c,d⟩
 ·exact .inl h
 ·exact .inr ⟨id,cap,a,b,by rw [zA (aO c)];exact c,d⟩
theorem CT.get {base:Nat} {v:AV} {l:List T} {G:List aa} (h:CT base v l G) {i:Nat} (hi:i < l.length):∃ id cap,base≤id∧v=.ba id 0 l.length cap∧G[id]?=some (bw zT (bk l) cap)∧l.length≤cap:=by
 rcases h with ⟨rfl,_⟩ | h
 ·simp at hi
 ·exact h
theorem afI:∀ (n:Nat) (t:T),wt t≤n→wt t≤1000000000→Pure Tryz.prog 104 [t.av] t.av:=by
 intro n
 induction n with
 | zero=>intro t h;have:=eF t;omega
 | succ n ih=>
   intro t hn hb H
   refine T8.2.xE rfl ?_
   simp only [T8,aH]
   have hw:=EQ t
   have hlw:=jk t.l
   rw [ve]
   simp +contextual only [sZ,Nat.reduceEqDiff,Nat.reduceAdd,Nat.reduceLT,↓reduceIte]
   have vS:(H++[aa.cells [.int .i64 t.k,.int .i64 t.n,.ak 0 (bk t.l)],.cells [.int .i64 0,.int .i64 0,.ag]]).length=H.length + 2:=by simp
   refine af (afH t.l _ (by omega)) ?_
   rintro v G ⟨hC,hG,hl⟩
   rw [vS] at hC hG hl
   obtain ⟨o1,o2,o3,o4⟩:=hC.one
   have g0:G[H.length]?=some (.cells [.int .i64 t.k,.int .i64 t.n,.ak 0 (bk t.l)]):=by
    have:(G.take (H.length + 2))[H.length]?=G[H.length]?:=by rw [aa7,if_pos (by omega)]
    rw [← this,hG];simp
   have g1:G[H.length + 1]?=some (.cells [.int .i64 0,.int .i64 0,.ag]):=by
    have:(G.take (H.length + 2))[H.length + 1]?=G[H.length + 1]?:=by rw [aa7,if_pos (by omega)]
    rw [← this,hG];simp
   have dS:G.take H.length=H:=by
    have:G.take H.length=(G.take (H.length + 2)).take H.length:=by rw [aeH];congr 1;omega
    rw [this,hG];simp
   have hbv:=hC.aW (sU _)
   have yQ:H.length < G.length:=by omega
   have g9:∀ o,(G.set H.length o)[H.length]?=some o:=fun o=>zD yQ
   simp +contextual only [kN,o1,o2,o3,o4,g0,hbv,g9,hC.aN,hC.len,sZ,Nat.reduceEqDiff,Nat.reduceAdd,Nat.reduceLT,↓reduceIte]
   refine ke t.l.length (fun i (G:List aa)=>CT (H.length + 2) v t.l G∧G[H.length]?=some (.cells [.int .i64 t.k,.int .i64 t.n,v])∧G[H.length + 1]?=some (.cells [.int .i64 0,.int .i64 0,.ag])∧G.take H.length=H)
    (fun i G=>[(1,.ptr H.length 0),(2,.ptr (H.length + 1) 0),(10,v),(11,.int .i64 t.l.length),(12,.int .i64 i)]) (fun i G=>G) (G.set H.length (.cells [.int .i64 t.k,.int .i64 t.n,v]))
    ⟨⟨hC.set (by omega) _,g9 _,by rw [zC (by omega)];exact g1,by rw [acu (by omega)];exact dS⟩,ms _ _ _⟩ fun i G hi hI=>?_
   clear hG g0 g1 dS hbv yQ g9 hl hC
   obtain ⟨hC,g0,g1,hG⟩:=hI
   by_cases aG:i < t.l.length
   ·have mg:((i:Int) < t.l.length)=True:=eq_true (by omega)
    obtain ⟨id,cap,bu,rfl,hg,cc⟩:=hC.get aG
    have vS:=aO hg
    have Sn:∀ X,(G++X)[id]?=some (bw zT (bk t.l) cap):=fun X=>by rw [zA vS];exact hg
    have g0':∀ X,(G++X)[H.length]?=some (.cells [.int .i64 t.k,.int .i64 t.n,.ba id 0 t.l.length cap]):=fun X=>by rw [zA (aO g0)];exact g0
    have hx:=ve (t.l.getD i default)
    have hL:∀ φ,cw (some (bw zT (bk t.l) cap)) (some 3) (i * 3) φ=φ (.agg [.int .i64 (t.l.getD i default).k,.int .i64 (t.l.getD i default).n,.ak 0 (bk (t.l.getD i default).l)]):=fun φ=>by rw [← hx];exact loadT aG φ
    have hwx:wt (t.l.getD i default)≤iN t.l:=by
     have:=pc aG;have:=dB t.l (i + 1);omega
    have hcall:=ih (t.l.getD i default) (by omega) (by omega)
    rw [hx] at hcall
    have hS:=fun {H':List aa} (hg:H'[id]?=some (bw zT (bk t.l) cap)) {K:List aa→Prop} (hK:K H')=>storeT (id:=id) aG hg hK
    rw [hx] at hS
    simp +contextual only [mg,decide_true,lW,hg,hL,g0',sZ,Nat.reduceEqDiff,Nat.reduceAdd,Nat.reduceLT,↓reduceIte,reduceCtorEq]
    refine ⟨aG,ae hcall ?_,ae hcall ?_⟩
    all_goals
     simp +contextual only [lW,g0',Sn,sZ,Nat.reduceEqDiff,Nat.reduceAdd,Nat.reduceLT,↓reduceIte,reduceCtorEq]
     refine ⟨aG,hS (Sn _) ?_⟩
     simp +contextual only [sZ,Nat.reduceEqDiff,↓reduceIte]
     refine ⟨i + 1,_,⟨aG,hC.sl _,g0' _,by rw [zA (aO g1)];exact g1,by rw [abc (by have:=aO g1;omega)];exact hG⟩,by omega,sm (by rw [aq i (by omega)]) rfl⟩
   ·have mV:i=t.l.length:=by omega
    have mg:((i:Int) < t.l.length)=False:=eq_false (by omega)
    simp +contextual only [kN,mg,decide_false,g0,sZ,Nat.reduceEqDiff,↓reduceIte]
    have fin:∀ (G':List aa),G'[H.length + 1]?=some (.cells [.int .i64 t.k,.int .i64 t.n,.ak 0 (bk t.l)])→G'.take H.length=H→cw G'[H.length + 1]? (some 3) 0 fun v=>tL (lh H.length) H.length v G' fun r H'=>r=AV.agg [AV.int IntKind.i64 t.k,AV.int IntKind.i64 t.n,AV.ak 0 (bk t.l)]∧H'=H:=by
     intro G' h1 h2
     rw [h1,Iw]
     exact ⟨H.length,H,sU _,An h2 rfl,_,le_refl _,by simp [AV.drop,o6,bJ,cV,eE,bZ,dy],rfl,rfl⟩
    have ls:∀ (l:List AV) (G':List aa),(∀ o,(G'.set (H.length + 1) o).take H.length=G'.take H.length):=fun l G' o=>acu (by omega)
    have vG:=aO g1
    rcases hC with ⟨e,rfl⟩ | ⟨id,cap,bu,rfl,hg,cc⟩
    ·rw [e] at fin ⊢
     have e1:∀ (K:AV→List aa→Prop),dx 3 AV.ag.drop G K=K (.ak 0 []) G:=fun K=>rfl
     rw [e1]
     simp +contextual only [kN,g1,sZ,Nat.reduceEqDiff,Nat.reduceAdd,↓reduceIte,reduceCtorEq]
     exact fin _ (zD vG) (by rw [acu (by omega)];exact hG)
    ·have e1:∀ l c,(AV.ba id 0 l c).drop=.ba id 0 l c:=fun _ _=>rfl
     rw [e1]
     have ef:=fun K hK=>xX (esz:=3) (by decide) Ol (pV t.l) (fun x hx=>by obtain ⟨y,_,rfl⟩:=I4 hx;rw [ve];rfl) hg (by rw [jB];exact cc) (K:=K) hK
     rw [jB] at ef
     refine ef _ ?_
     have g1':(G.set id .dead)[H.length + 1]?=some (.cells [.int .i64 0,.int .i64 0,.ag]):=by rw [zC (by omega)];exact g1
     simp +contextual only [kN,g1',sZ,Nat.reduceEqDiff,Nat.reduceAdd,↓reduceIte,reduceCtorEq]
     exact fin _ (zD (by simpa using vG)) (by rw [acu (by omega),acu (by omega)];exact hG)
end Go.aK
end
section
set_option maxRecDepth 100000
namespace Go.aK
open Go Go.Proofs Go.fo
def Oq (r:T→T→Bool) (l:List T):Nat:=l.findIdx fun a=>l.all fun x=>!r a x
def yJ (r:T→T→Bool):Nat→List T→List T
 | 0,_=>[]
 | n + 1,l=>l.getD (Oq r l) default::yJ r n (l.eraseIdx (Oq r l))
theorem T9 {r:T→T→Prop} (hi:∀ a,¬ r a a) (ht:∀ a b c,r a b→r b c→r a c):∀ l:List T,l≠[]→∃ a∈l,∀ x∈l,¬ r a x
 | [],h=>absurd rfl h
 | [a],_=>⟨a,abn,fun x hx=>by rcases OU.1 hx with rfl | hx;exact hi _;cases hx⟩
 | a::b::l,_=>by
   obtain ⟨m,hm,hl⟩:=T9 hi ht (b::l) (by simp)
   by_cases h:r m a
   ·refine ⟨a,abn,fun x hx=>?_⟩
    rcases OU.1 hx with rfl | hx
    ·exact hi _
    ·exact fun h'=>hl x hx (ht _ _ _ h h')
   ·refine ⟨m,aa6 _ hm,fun x hx=>?_⟩
    rcases OU.1 hx with rfl | hx
    ·exact h
    ·exact hl x hx
noncomputable def zy (s:Sg) (ps ss:List Int) (ts:List T):List T×Int:=
 if gV s ps ss ts=0 then if 1000 < ts.length then ([],2) else (yJ (IV ps ss) ts.length ts,0) else ([],gV s ps ss ts)
theorem So (n:Nat):dl zI n=ints (List.replicate n 0):=by
 induction n with
 | zero=>rfl
 | succ n ih=>
   have e:dl zI (n + 1)=.int .i64 0::dl zI n:=rfl
   rw [e,ih];rfl
theorem Fl (l:List Int) (cap:Nat):bw zI (ints l) cap=.cells (ints (l++List.replicate (cap - l.length) 0)):=by
 rw [Ct,So,mD]
theorem abK {L:List Int} {n id cap:Nat} (hn:n < L.length) (hc:L.length≤cap) (hb:L.length≤1000000000) {H:List aa} (hg:H[id]?=some (bw zI (ints L) cap)) :
 aw Tryz.prog 105 [.ba id 0 L.length cap,.int .i64 (n:Int),.int .i64 ((n:Int) + 1)] H fun r H'=>r=.ba id 0 (L.eraseIdx n).length cap∧H'=H.set id (bw zI (ints (L.eraseIdx n)) cap):=by
 have e1:L=L.take n++L.getD n 0::L.drop (n + 1):=by
  have:L.getD n 0=L[n]:=by simp [hn]
  rw [this,← aba hn,adE]
 have e2:L.eraseIdx n=L.take n++L.drop (n + 1):=ad7 ..
 have l1:(L.take n).length=n:=by simp;omega
 have l2:(L.drop (n + 1)).length=L.length - (n + 1):=by simp
 have hp:(L.take n++L.getD n 0::L.drop (n + 1)++List.replicate (cap - L.length) 0).length=cap:=by rw [← e1];simp;omega
 have Sn:H[id]?=some (.cells (ints (L.take n++L.getD n 0::L.drop (n + 1)++List.replicate (cap - L.length) 0))):=by rw [← e1,← Fl];exact hg
 have h:=afC (L.take n) (L.drop (n + 1)) (List.replicate (cap - L.length) 0) (L.getD n 0) (by rw [← e1];exact hb) id cap hp.symm Sn
 have el:L.take n++L.drop (n + 1)++0::List.replicate (cap - L.length) 0=L.eraseIdx n++List.replicate (cap - (L.eraseIdx n).length) 0:=by
  rw [e2]
  congr 1
  rw [aaz,l1,l2,show cap - (n + (L.length - (n + 1)))=(cap - L.length) + 1 by omega]
  rfl
 have ll:(L.eraseIdx n).length=(L.take n).length + (L.drop (n + 1)).length:=by rw [e2,aaz]
 rw [el,l1,l2,show n + 1 + (L.length - (n + 1))=L.length by omega] at h
 rw [Fl,ll,l1,l2]
 rw [ll,l1,l2] at h
 exact h
theorem Ot {r:T→T→Bool} {l:List T} {n:Nat} (hn:n < l.length) (h1:∀ x∈l,r (l.getD n default) x=false) (h2:∀ j,j < n→∃ x∈l,r (l.getD j default) x=true):Oq r l=n:=by
 unfold Oq
 rw [List.findIdx_eq hn]
 refine ⟨?_,fun j hj=>?_⟩
 ·have e:l[n]=l.getD n default:=by simp [hn]
  rw [e,abo]
  intro x hx;rw [h1 x hx];rfl
 ·obtain ⟨x,hx,h⟩:=h2 j hj
  have rp:j < l.length:=by omega
  have e:l[j]=l.getD j default:=by simp [rp]
  rw [e,aeq]
  exact ⟨x,hx,by rw [h];simp⟩
theorem yy {c:Cx} {L:List Int} {n:Nat} (h:n < L.length):(L.map c.tm).getD n default=c.tm (L.getD n 0):=by simp [h]
theorem I6 {Hs G:List aa} {n0:Nat} {l:List T} {e:Int} {u:AV} (hu:u.ab.le (.ak 0 (bk l))) (hH:Hs.take n0=G):bT n0 [.t 6,.t 7] [(6,u),(7,.int .i64 e)] Hs (fun r H'=>r=.tuple [.ak 0 (bk l),.int .i64 e]∧H'=G):=by
 subst hH
 refine ⟨n0,sU _,[.ak 0 (bk l),.int .i64 e],?_,by simp [aj,bZ,dy,eE],rfl,rfl⟩
 exact ⟨hu,le_refl _,trivial⟩
theorem nU (vs:List T):(nF vs).ab.le (.ak 0 (bk vs)):=by
 cases vs with
 | nil=>exact .inr (.inr (.inr (.inl ⟨rfl,0,rfl⟩)))
 | cons v r=>exact le_refl _
theorem Du.Xg {c:Cx} {H:List aa} {n:Nat} (h:Du c (H.take n)) (hn:True):Du c H:=by
 have hg:∀ {j:Nat} {o:aa},(H.take n)[j]?=some o→H[j]?=some o:=by
  intro j o h
  rw [aa7] at h
  split at h
  ·exact h
  ·cases h
 exact ⟨hg h.d,by obtain ⟨m,h1,h2⟩:=h.e;exact ⟨m,hg h1,h2⟩,by obtain ⟨m,h1,h2⟩:=h.g;exact ⟨m,hg h1,h2⟩⟩
theorem c37 (s:Sg) (ps ss:List Int) (ts:List T) (hlen:ts.length < 9223372036854775808):Pure Tryz.prog 37 [s.av,eT ps ss,.ak 0 (bk ts)] (.tuple [.ak 0 (bk (zy s ps ss ts).1),.int .i64 (zy s ps ss ts).2]):=by
 refine fun H=>abI.2.calls rfl ?_
 simp only [abI,aH]
 obtain ⟨q1,q2,q3,q4,q5,q6⟩:=bt ps ss
 simp +contextual only [aC,q1,q4,cQ,sZ,Nat.reduceEqDiff,Nat.reduceAdd,↓reduceIte,reduceCtorEq]
 refine ae (c74 s ps ss ts) ?_
 by_cases h0:gV s ps ss ts=0
 ·by_cases Py:1000 < ts.length
  ·have e:zy s ps ss ts=([],2):=by unfold zy;rw [if_pos h0,if_pos Py]
   have dZ:((1000:Int) < ts.length)=True:=eq_true (by omega)
   rw [e]
   simp +contextual only [h0,dZ,decide_true,hlen,sZ,Nat.reduceEqDiff,↓reduceIte,reduceCtorEq]
   exact I6 (nU []) aby
  ·have e:zy s ps ss ts=(yJ (IV ps ss) ts.length ts,0):=by unfold zy;rw [if_pos h0,if_neg Py]
   have dZ:((1000:Int) < ts.length)=False:=eq_false (by omega)
   rw [e]
   have hr:=sJ h0
   have hw:=nP hr.tree
   simp +contextual only [q4,cQ,h0,dZ,decide_false,hlen,sZ,Nat.reduceEqDiff,Nat.reduceAdd,↓reduceIte]
   refine af (afy ps ss ts H (by omega)) ?_
   rintro r G ⟨va,rfl,hG,hGl,hR⟩
   obtain ⟨o1,o2,o3,o4⟩:=hR.one
   have hbv:∀ n,G.length≤n→va.aW n=true:=fun n hn=>hR.aW hn
   have qD:=hbv (G.length + 2) (by omega)
   have rv:∀ o o',va.aW (G++[o,o']:List aa).length=true:=fun o o'=>hbv _ (by simp)
   have hp1:(AV.ptr (H.length + 2) 0).aW (G.length + 1)=true:=by rw [qP];exact decide_eq_true (by omega)
   simp +contextual only [o1,o2,o3,o4,qD,hp1,sZ,Nat.reduceEqDiff,Nat.reduceAdd,Nat.reduceLT,↓reduceIte]
   refine ⟨rfl,by decide,?_⟩
   have hG0:G.take H.length=H:=by
    have:G.take H.length=(G.take (H.length + 3)).take H.length:=by rw [aeH];congr 1;omega
    rw [this,hG];simp
   rcases hR with ⟨e1,rfl⟩ | ⟨id,cap,bu,rfl,hg,cc,eS⟩
   ·have e2:ts=[]:=by
     have:=cN ts 0
     have h3:aZ ts 0=[]:=adO.1 e1
     rw [h3] at this
     exact acy.1 this.symm
    subst e2
    refine aD 0 (fun _ _=>True) (fun i (p:Unit)=>[(9,.ptr G.length 0),(10,.ptr (G.length + 1) 0),(11,.ag)]) (fun i p=>G++[.cells [.ptr (H.length + 2) 0],.cells [.ag]]) () ⟨trivial,aE rfl ?_⟩ fun i p hi hI=>?_
    ·rfl
    ·simp +contextual only [sZ,Nat.reduceEqDiff,Nat.reduceAdd,Nat.reduceLT,↓reduceIte,reduceCtorEq,Int.reduceLT]
     exact I6 (nU []) (by rw [abc (by omega)];exact hG0)
   ·have Uq:ts≠[]:=fun e=>eS (by rw [e];rfl)
    have afJ:id < G.length:=aO hg
    obtain ⟨c,ec⟩:∃ c,c=ic ps ss ts H.length:=⟨_,rfl⟩
    have hc:c.Ok:=by rw [ec];exact hr.cx Uq (by omega) H.length
    have cO:c.O=jy ps ss:=by rw [ec];rfl
    have cd:c.d=H.length + 2:=by rw [ec];rfl
    have ce:c.e=H.length:=by rw [ec];rfl
    have cg:c.g=H.length + 1:=by rw [ec];rfl
    have hD0:Du c (G++[.cells [.ptr (H.length + 2) 0],.cells [.ba id 0 (aZ ts 0).length cap]]):=by
     have h1:=AQ ps ss Uq H
     rw [← ec,← hG] at h1
     exact Du.sl (h1.Xg trivial) _
    obtain ⟨k1,k2⟩:=(R8 ts).kids
    have abL:(aZ ts 0).map c.tm=ts:=by rw [ec];exact k1
    have afK:∀ x∈aZ ts 0,c.ee x:=by rw [ec];exact k2
    rw [au] at *
    have Dy:=cN ts 0
    refine aD ts.length (fun j (p:List Int×List T×List aa)=>j + p.1.length=ts.length∧(∀ x∈p.1,c.ee x)∧yJ (IV ps ss) ts.length ts=p.2.1++yJ (IV ps ss) p.1.length (p.1.map c.tm)∧p.2.1.length=j∧Du c p.2.2∧
     p.2.2[G.length]?=some (.cells [.ptr c.d 0])∧p.2.2[G.length + 1]?=some (.cells [.ba id 0 p.1.length cap])∧p.2.2[id]?=some (bw zI (ints p.1) cap)∧p.2.2.take H.length=H∧p.1.length≤cap∧∀ x∈p.1,c.tm x∈ts)
     (fun i p=>[(9,.ptr G.length 0),(10,.ptr (G.length + 1) 0),(11,nF p.2.1)]) (fun i p=>p.2.2) (aZ ts 0,[],G++[.cells [.ptr (H.length + 2) 0],.cells [.ba id 0 (aZ ts 0).length cap]])
     ⟨⟨by simp [Dy],afK,by rw [abL,Dy];rfl,rfl,hD0,by rw [cd];simp,by simp,by rw [zA afJ];exact hg,by rw [abc (by omega)];exact hG0,cc,fun x hx=>by rw [← abL];exact agz hx⟩,aE rfl rfl⟩ fun j p hj hI=>?_
    obtain ⟨L,out,F⟩:=p
    obtain ⟨i1,i2,i3,i4,i5,i6,i7,i8,i9,i10,i11⟩:=hI
    simp only at i1 i2 i3 i4 i5 i6 i7 i8 i9 i10 i11
    have K8:L.length≤1000:=by omega
    by_cases hL:L=[]
    ·have hz:((0:Int) < (L.length:Int))=False:=eq_false (by rw [hL];simp)
     have hun:(nF out).ab.ab=(nF out).ab:=by cases out <;> rfl
     simp +contextual only [i7,hz,decide_false,hun,sZ,Nat.reduceEqDiff,Nat.reduceAdd,Nat.reduceLT,↓reduceIte,reduceCtorEq]
     have e2:yJ (IV ps ss) ts.length ts=out:=by rw [i3,hL];simp [yJ]
     rw [e2]
     exact I6 (by rw [hun];exact nU out) i9
    ·have oh:=adS.2 hL
     have hz:((0:Int) < (L.length:Int))=True:=eq_true (by omega)
     simp +contextual only [i7,hz,decide_true,sZ,Nat.reduceEqDiff,Nat.reduceAdd,Nat.reduceLT,↓reduceIte,reduceCtorEq]
     refine af (T7 (Q:=fun i=>¬ ∃ x∈L,R c.O (c.tm i) (c.tm x)) (SG.len c F) (fun G' dS=>by rw [dS.2.get id (by omega) (by omega),i8]) i10 (by omega) 101 [] [.ptr (G.length + 1) 0,.ptr G.length 0] rfl rfl
      (fun x hx H' hH'=>afE hc (i2 x hx) i2 i10 (by omega) i6 (by omega) (by omega) i7 (by omega) (by omega) i8 (by omega) (by omega) H' hH') ⟨i5,Up.refl c F⟩) ?_
     rintro r F1 ⟨⟨oq,hU1⟩,hq⟩
     have Uo:∃ n:Nat,r=.int .i64 n∧n < L.length∧(¬ ∃ x∈L,R c.O (c.tm (L.getD n 0)) (c.tm x))∧∀ j,j < n→∃ x∈L,R c.O (c.tm (L.getD j 0)) (c.tm x):=by
      rcases hq with ⟨_,hq⟩ | ⟨n,h1,h2,h3,h4⟩
      ·exfalso
       obtain ⟨m,hm,h1⟩:=T9 (r:=fun a b=>R c.O a b) (fun a=>aaC rfl) (fun a b d h h'=>R2 h h') (L.map c.tm) (by simpa using hL)
       obtain ⟨x,hx,rfl⟩:=aaR.1 hm
       refine hq x hx fun ⟨y,hy,h⟩=>h1 _ (agz hy) h
      ·exact ⟨n,h1,h2,h3,fun j hj=>Classical.not_not.1 (h4 j hj)⟩
     obtain ⟨n,rfl,hn,h1,h2⟩:=Uo
     have j7:F1[G.length + 1]?=some (.cells [.ba id 0 L.length cap]):=by rw [hU1.get _ (by omega) (by omega),i7]
     have j6:F1[G.length]?=some (.cells [.ptr c.d 0]):=by rw [hU1.get _ (by omega) (by omega),i6]
     have j8:F1[id]?=some (bw zI (ints L) cap):=by rw [hU1.get _ (by omega) (by omega),i8]
     have j9:F1.take H.length=H:=by
      refine Eq.trans ?_ i9
      apply acG
      intro k
      rw [aa7,aa7]
      by_cases hk:k < H.length
      ·rw [if_pos hk,if_pos hk];exact hU1.get _ (by omega) (by omega)
      ·rw [if_neg hk,if_neg hk]
     have Lb:Oq (IV ps ss) (L.map c.tm)=n:=by
      refine Ot (by simpa using hn) (fun x hx=>?_) fun j hj=>?_
      ·obtain ⟨y,hy,rfl⟩:=aaR.1 hx
       rw [yy hn]
       cases hb:IV ps ss (c.tm (L.getD n 0)) (c.tm y) with
       | false=>rfl
       | true=>exact absurd ⟨y,hy,by rw [cO];exact sK.1 hb⟩ h1
      ·obtain ⟨y,hy,h⟩:=h2 j hj
       rw [yy (by omega)]
       exact ⟨_,agz hy,sK.2 (by rw [← cO];exact h)⟩
     have hxN:=i2 _ (aQ hn)
     have jD:c.nd.length≤2000000:=by
      have:c.nd=dg ts 0:=by rw [ec];rfl
      rw [this,iF];omega
     simp +contextual only [j7,j6,j8,oq.d,nM,fN0,cP,lW,IP hn,sZ,Nat.reduceEqDiff,Nat.reduceAdd,Nat.reduceLT,↓reduceIte,reduceCtorEq]
     have htree:=hr.tree _ (i11 _ (aQ hn))
     have hwx:wt (c.tm (L.getD n 0))≤2000:=by
      have:=((T.bg _).1 htree).1;have:=NS (c.tm (L.getD n 0));omega
     have abM:Pure Tryz.prog 104 [(c.nd.getD (L.getD n 0).toNat default).fst.av] (c.tm (L.getD n 0)).av:=afI _ (c.tm (L.getD n 0)) (sU _) (by omega)
     have NR:=abK hn i10 (by omega) j8
     have eW:(L.eraseIdx n).length=L.length - 1:=List.length_eraseIdx_of_lt hn
     refine ⟨hn,hxN,ae abM ?_,ae abM ?_⟩
     all_goals
      simp +contextual only [wm,pP,j7,sZ,Nat.reduceEqDiff,Nat.reduceAdd,Nat.reduceLT,↓reduceIte,reduceCtorEq]
      refine ⟨by omega,?_⟩
      rw [cZ _ (by omega)]
      refine af NR ?_
      rintro r F2 ⟨rfl,rfl⟩
      have m7:(F1.set id (bw zI (ints (L.eraseIdx n)) cap))[G.length + 1]?=some (.cells [.ba id 0 L.length cap]):=by rw [zC (by omega)];exact j7
      have pv:(AV.ba id 0 (L.eraseIdx n).length cap).aW (G.length + 1 + 1)=true:=by rw [fJ];exact decide_eq_true (by omega)
      have r1:∀ l,(AV.ba id 0 l cap).one=true∧(AV.ba id 0 l cap).val=true∧(AV.ba id 0 l cap).ab=.ba id 0 l cap∧(AV.ba id 0 l cap).cells=[.ba id 0 l cap]:=fun _=>⟨rfl,rfl,rfl,rfl⟩
      obtain ⟨u1,u2,u3,u4⟩:=r1 (L.eraseIdx n).length
      simp +contextual only [m7,pv,u1,u2,u3,u4,sZ,Nat.reduceEqDiff,Nat.reduceAdd,↓reduceIte]
      refine ⟨j + 1,(L.eraseIdx n,out++[c.tm (L.getD n 0)],_),⟨by omega,by show j + 1 + (L.eraseIdx n).length=_;omega,fun x hx=>i2 x (List.mem_of_mem_eraseIdx hx),?_,by simp [i4],?_,?_,?_,?_,?_,by show (L.eraseIdx n).length≤cap;omega,fun x hx=>i11 x (List.mem_of_mem_eraseIdx hx)⟩,by omega,aE rfl rfl⟩
      ·have hs:L.length=(L.eraseIdx n).length + 1:=by omega
       rw [i3,hs,yJ,Lb,yy hn,abb]
       have em:(L.map c.tm).eraseIdx n=(L.eraseIdx n).map c.tm:=by rw [ad7,ad7,acL,List.map_take,List.map_drop]
       rw [em];rfl
      ·exact (oq.set (by omega) (by omega) (by omega)).set (by omega) (by omega) (by omega)
      ·rw [zC (by omega),zC (by omega)];exact j6
      ·rw [zD (by have:=aO j7;simp;omega)]
      ·rw [zC (by omega),zD (aO j8)]
      ·rw [acu (by omega),acu (by omega)];exact j9
 ·have e:zy s ps ss ts=([],gV s ps ss ts):=by unfold zy;rw [if_neg h0]
  rw [e]
  simp +contextual only [h0,sZ,Nat.reduceEqDiff,↓reduceIte,reduceCtorEq]
  exact I6 (nU []) aby
end Go.aK
end
section
set_option maxRecDepth 1000000
namespace Go.aK
open Go Go.Proofs Go.fo
def vT (n:Int):T:=.mk 1 n []
def oT (n:Int) (l:List T):T:=.mk 2 n l
def gG:Sg:=⟨[⟨#[78]⟩],[⟨⟨#[122]⟩,[],0⟩,⟨⟨#[115]⟩,[0],0⟩,⟨⟨#[97,100,100]⟩,[0,0],0⟩]⟩
def abN:iW:=⟨[0],[],oT 2 [vT 0,oT 0 []],vT 0⟩
def cG:iW:=⟨[0,0],[],oT 2 [vT 0,oT 1 [vT 1]],oT 1 [oT 2 [vT 0,vT 1]]⟩
def dc:Ty:=⟨gG,[abN,cG]⟩
theorem Sp:qn Tryz.prog WA (dJ Tryz.prog WA 100000) false 64 [] []=some (dc.av,[]):=by kernel_rfl
theorem CV:qn Tryz.prog WA (dJ Tryz.prog WA 100000) false 62 [dc.av] []=some (.int .i64 0,[]):=by kernel_rfl
theorem HI:qn Tryz.prog WA (dJ Tryz.prog WA 100000) false 92 [dc.av] []=some (.ak 0 (ints [0,1,2]),[]):=by kernel_rfl
theorem c64:Pure Tryz.prog 64 [] dc.av:=Pure.mk rfl ((wb tX (BW tX 100000)).1 _ _ _ _ _ Sp)
theorem CW:Pure Tryz.prog 62 [dc.av] (.int .i64 0):=Pure.mk rfl ((wb tX (BW tX 100000)).1 _ _ _ _ _ CV)
theorem Xh:Pure Tryz.prog 92 [dc.av] (.ak 0 (ints [0,1,2])):=Pure.mk rfl ((wb tX (BW tX 100000)).1 _ _ _ _ _ HI)
end Go.aK
end
section
set_option maxRecDepth 100000
namespace Go.aK
open Go Go.Proofs Go.fo
theorem c66 {a b:List Int} {va vb:AV} (ha:IL va a) (hb:IL vb b) (la:a.length≤1000000000) (lb:b.length≤1000000000):Pure Tryz.prog 66 [va,vb] (.bool (decide (a=b))):=by
 refine fun H=>k66.2.calls rfl ?_
 simp only [k66,aH]
 obtain ⟨a1,a2,a3,a4⟩:=ha.one
 obtain ⟨b1,b2,b3,b4⟩:=hb.one
 simp +contextual only [a2,b2,ha.aN,hb.aN,ha.len (by omega),hb.len (by omega),sZ,Nat.reduceEqDiff,Nat.reduceAdd,↓reduceIte,reduceCtorEq]
 refine ⟨fun eS=>aS rfl (by rw [decide_eq_false (fun e=>eS (by rw [e]))]),fun XV=>?_⟩
 refine aB a.length (fun i=>∀ j,j < i→a.getD j 0=b.getD j 0)
  (fun i=>[(0,va),(1,vb),(12,.int .i64 b.length),(13,.int .i64 i)]) (fun i=>H) ⟨fun j hj=>by omega,ax _ _ _⟩ fun i hi hI=>?_
 simp +contextual only [a2,b2,ha.lens,hb.lens,ha.idx,hb.idx,aad,sZ,Nat.reduceEqDiff,↓reduceIte,reduceCtorEq]
 refine ⟨fun aG=>⟨by omega,by omega,fun eS=>?_,fun he=>?_⟩,fun eW=>?_⟩
 ·refine aS rfl (by rw [decide_eq_false (fun e=>eS (by rw [e]))])
 ·refine ⟨i + 1,⟨by omega,fun j hj=>?_⟩,by omega,aE (by rw [aq i (by omega)]) rfl⟩
  by_cases h:j=i
  ·subst h;exact he
  ·exact hI j (by omega)
 ·refine aS rfl (by rw [decide_eq_true (AN (by omega) fun j hj=>hI j (by omega))])
noncomputable def nV (e:Int) (t:Ty) (ps ss:List Int):Int×Bool×Int:=
 if e≠0 then (0,false,e) else if iO t.s ps ss≠0 then (0,false,iO t.s ps ss) else (max (mL t ps ss) 0,decide (0≤mL t ps ss),0)
def HJ (p:Int×Bool×Int):AV:=.tuple [.int .i64 p.1,.bool p.2.1,.int .i64 p.2.2]
theorem c31 {t:Ty} {e:Int} (h62:Pure Tryz.prog 62 [t.av] (.int .i64 e)) (ht:e=0→zw t) (ps ss:List Int):Pure Tryz.prog 31 [t.av,eT ps ss] (HJ (nV e t ps ss)):=by
 refine fun H=>k31.2.calls rfl ?_
 simp only [k31,aH]
 obtain ⟨q1,q2,q3,q4,q5,q6⟩:=bt ps ss
 obtain ⟨e1,e2,e3,e4,e5,e6⟩:=Ty.facts t
 simp +contextual only [q1,e1,e4,iI,sZ,Nat.reduceEqDiff,Nat.reduceAdd,↓reduceIte,reduceCtorEq]
 refine ae h62 ?_
 by_cases h0:e=0
 ·subst h0
  simp +contextual only [aC,q4,cQ,FR,sZ,Nat.reduceEqDiff,Nat.reduceAdd,↓reduceIte]
  refine ae (c24 t.s ps ss) ?_
  by_cases h1:iO t.s ps ss=0
  ·have hv:=(yh.1 h1).2
   simp +contextual only [h1,q4,e4,cQ,iI,sZ,Nat.reduceEqDiff,Nat.reduceAdd,↓reduceIte]
   refine ae (c89 t ps ss hv.va fun q hq=>(ht rfl).eq q hq ps hv.1) ?_
   simp +contextual only [sZ,Nat.reduceEqDiff,↓reduceIte,reduceCtorEq]
   have e0:nV 0 t ps ss=(max (mL t ps ss) 0,decide (0≤mL t ps ss),0):=by unfold nV;rw [if_neg (by simp),if_neg (by simp [h1])]
   rw [e0]
   exact AO (by decide) aby ⟨rfl,rfl,rfl⟩ rfl rfl rfl ⟨rfl,rfl⟩
  ·have e0:nV 0 t ps ss=(0,false,iO t.s ps ss):=by unfold nV;rw [if_neg (by simp),if_pos h1]
   rw [e0]
   simp +contextual only [h1,sZ,Nat.reduceEqDiff,↓reduceIte,reduceCtorEq]
   exact AO (by decide) aby ⟨rfl,rfl,rfl⟩ rfl rfl rfl ⟨rfl,rfl⟩
 ·have e0:nV e t ps ss=(0,false,e):=by unfold nV;rw [if_pos h0]
  rw [e0]
  simp +contextual only [h0,sZ,Nat.reduceEqDiff,↓reduceIte,reduceCtorEq]
  exact AO (by decide) aby ⟨rfl,rfl,rfl⟩ rfl rfl rfl ⟨rfl,rfl⟩
noncomputable def zz (e:Int) (t:Ty) (ps ss:List Int):Int:=if (nV e t ps ss).2.2=0∧(nV e t ps ss).2.1=true then 60 else (nV e t ps ss).2.2
theorem HK (p:Int×Bool×Int) (φ:AV→Prop):bH (HJ p) 0 φ=φ (.int .i64 p.1)∧bH (HJ p) 1 φ=φ (.bool p.2.1)∧bH (HJ p) 2 φ=φ (.int .i64 p.2.2):=by simp [HJ,bH,nw,pJ]
theorem I7 (p:Int×Bool×Int):(HJ p).ab=HJ p:=rfl
theorem c33 {t:Ty} {e:Int} (h62:Pure Tryz.prog 62 [t.av] (.int .i64 e)) (ht:e=0→zw t) (ps ss:List Int):Pure Tryz.prog 33 [t.av,eT ps ss] (.int .i64 (zz e t ps ss)):=by
 refine fun H=>k33.2.calls rfl ?_
 simp only [k33,aH]
 obtain ⟨q1,q2,q3,q4,q5,q6⟩:=bt ps ss
 obtain ⟨e1,e2,e3,e4,e5,e6⟩:=Ty.facts t
 simp +contextual only [q1,q4,e1,e4,cQ,iI,sZ,Nat.reduceEqDiff,Nat.reduceAdd,↓reduceIte,reduceCtorEq]
 refine ae (c31 h62 ht ps ss) ?_
 unfold zz
 generalize nV e t ps ss=p
 have x1:=fun φ=>(HK p φ).1
 have x2:=fun φ=>(HK p φ).2.1
 have x3:=fun φ=>(HK p φ).2.2
 obtain ⟨n,b,m⟩:=p
 simp only at x1 x2 x3
 by_cases h0:m=0
 ·subst h0
  cases b <;>
  simp +contextual only [x1,x2,x3,I7,sZ,Nat.reduceEqDiff,↓reduceIte,reduceCtorEq] <;>
  exact aS rfl rfl
 ·have hm:(m=0)=False:=eq_false h0
  simp +contextual only [x1,x2,x3,I7,hm,decide_false,sZ,Nat.reduceEqDiff,↓reduceIte,reduceCtorEq]
  exact aS rfl (by simp [h0])
theorem Ou {H e:List aa} {u v w x y z:AV} (hb:x.aW H.length=true∧y.aW H.length=true∧z.aW H.length=true) (hx:u.ab=x) (hy:v.ab=y) (hz:w.ab=z):sj H.length [u,v,w] (H++e) fun r H'=>r=.tuple [x,y,z]∧H'=H:=by
 subst hx;subst hy;subst hz
 exact ⟨H.length,sU _,_,cp _,by show aj _ [u.ab,v.ab,w.ab]=true;rw [bJ,bJ,bJ,cV,hb.1,hb.2.1,hb.2.2];rfl,rfl,by simp⟩
theorem KT (f:Fo):∃ P S,foA f=eT P S:=by
 cases f with
 | none=>exact ⟨_,_,rfl⟩
 | some p=>exact ⟨_,_,rfl⟩
noncomputable def Ov (e:Int) (t:Ty) (ops:List Int):Fo×Int:=if e≠0 then (none,e) else if 4 < ops.length then (none,2) else (zt t ops,0)
theorem c35 {t:Ty} {e:Int} {ops:List Int} (h62:Pure Tryz.prog 62 [t.av] (.int .i64 e)) (h92:e=0→Pure Tryz.prog 92 [t.av] (.ak 0 (ints ops))) (ht:e=0→zw t) (hr:e=0→∀ i∈ops,0≤i∧i < t.s.ops.length) (hl:ops.length≤1000000) :
 Pure Tryz.prog 35 [t.av] (.tuple [foA (Ov e t ops).1,.bool (Ov e t ops).1.isSome,.int .i64 (Ov e t ops).2]):=by
 refine fun H=>k35.2.calls rfl ?_
 simp only [k35,aH]
 obtain ⟨e1,e2,e3,e4,e5,e6⟩:=Ty.facts t
 have zf2:List.map AV.ab [AV.ag,.ag]=[.ag,.ag]:=rfl
 have zb2:∀ n,aj n [AV.ag,.ag]=true:=fun _=>rfl
 simp +contextual only [e1,e4,iI,zf2,zb2,sZ,Nat.reduceEqDiff,Nat.reduceAdd,↓reduceIte]
 refine ae h62 ?_
 have gz:(H++[aa.cells [AV.ag,.ag]])[H.length]?=some (.cells [.ag,.ag]):=by simp
 by_cases h0:e=0
 ·subst h0
  simp +contextual only [e4,iI,sZ,Nat.reduceEqDiff,Nat.reduceAdd,↓reduceIte]
  refine ae (h92 rfl) ?_
  by_cases h4:4 < ops.length
  ·have h4':((4:Int) < ops.length)=True:=eq_true (by omega)
   have e0:Ov 0 t ops=(none,2):=by unfold Ov;rw [if_neg (by simp),if_pos h4]
   rw [e0]
   have sp2:∀ (a b x y:AV),ai [a,b] 0 [x,y]=[x,y]:=fun _ _ _ _=>rfl
   simp +contextual only [zf2,zb2,au,h4',decide_true,gz,mK,sp2,sZ,Nat.reduceEqDiff,Nat.reduceAdd,↓reduceIte,reduceCtorEq]
   exact fun _=>Ou ⟨rfl,rfl,rfl⟩ rfl rfl rfl
  ·have h4':((4:Int) < ops.length)=False:=eq_false (by omega)
   have e0:Ov 0 t ops=(zt t ops,0):=by unfold Ov;rw [if_neg (by simp),if_neg h4]
   rw [e0]
   simp +contextual only [e4,iI,au,h4',decide_false,sZ,Nat.reduceEqDiff,Nat.reduceAdd,↓reduceIte]
   intro hl9
   refine ae (c93 (ht rfl) (.inr rfl) (hr rfl) hl) ?_
   generalize zt t ops=f
   obtain ⟨P,S,ef⟩:=KT f
   obtain ⟨q1,q2,q3,q4,q5,q6⟩:=bt P S
   rw [ef]
   have zo:(eT P S).cells=[.ak 0 (ints P),.ak 0 (ints S)]:=rfl
   have sp2:∀ (a b x y:AV),ai [a,b] 0 [x,y]=[x,y]:=fun _ _ _ _=>rfl
   simp +contextual only [gz,q1,q4,mK,zo,sp2,cQ,aT,sZ,Nat.reduceEqDiff,Nat.reduceAdd,Nat.reduceLT,↓reduceIte,reduceCtorEq]
   exact Ou ⟨q6 _,rfl,rfl⟩ rfl rfl rfl
 ·have hm:(e=0)=False:=eq_false h0
  have e0:Ov e t ops=(none,e):=by unfold Ov;rw [if_pos h0]
  rw [e0]
  have sp2:∀ (a b x y:AV),ai [a,b] 0 [x,y]=[x,y]:=fun _ _ _ _=>rfl
  simp +contextual only [zf2,zb2,hm,gz,mK,sp2,sZ,Nat.reduceEqDiff,Nat.reduceAdd,↓reduceIte,reduceCtorEq]
  exact Ou ⟨rfl,rfl,rfl⟩ rfl rfl rfl
end Go.aK
end
section
namespace Go.aK
open Go Go.Proofs Go.fo
end Go.aK
end
section
namespace Go.fo
open Go.aK
def Ua {G:T→T→Prop} [h:∀ x y,Decidable (G x y)]:∀ l m,Decidable (Lx G l m)
 | [],_=>isFalse (fun h=>h)
 | _::_,[]=>isTrue trivial
 | x::l,y::m=>@instDecidableOr _ _ (@instDecidableAnd _ _ inferInstance (Ua l m)) (h x y)
def abP {G:T→T→Prop} [h:∀ x y,Decidable (G x y)] (l m:List T):Decidable (Mu G l m):=by unfold Mu;exact inferInstance
def abQ {sp:Int→Int} {G:T→T→Prop} [h:∀ x y,Decidable (G x y)] (a b:T):Decidable (Fm sp G a b):=by
 unfold Fm
 have:=@Ua G h
 have:=@abP G h
 exact inferInstance
def Ow (sp:Int→Int):∀ (f:Nat) (a b:T),Decidable (Pf sp f a b)
 | 0,_,_=>isFalse (fun h=>h)
 | f + 1,a,b=>@abQ sp (Pf sp f) (Ow sp f) a b
instance abR (sp:Int→Int) (a b:T):Decidable (Gt sp a b):=Ow sp (wt a + wt b) a b
instance abS (O:Od) (a b:T):Decidable (R O a b):=abR O.sp (norm O a) (norm O b)
instance abT (O:Od) (a b:T):Decidable (E O a b):=inferInstanceAs (Decidable (norm O a=norm O b))
end Go.fo
end
section
namespace Go.aK
open Go Go.Proofs Go.fo
mutual
def Fp (n:Nat):T→Bool
 | .mk k m l=>(!decide (k=2) || (decide (0≤m) && decide (m < n))) && CX n l
def CX (n:Nat):List T→Bool
 | []=>true
 | x::r=>Fp n x && CX n r
end
mutual
theorem I8 {n:Nat}:∀ {t:T},Fp n t=true→wx (fun m=>0≤m∧m < n) t
 | .mk k m l,h=>by
   simp only [Fp,zB,acY,abp,decide_eq_false_iff_not,decide_eq_true_eq] at h
   exact .mk k m l (fun hk=>h.1.resolve_left fun hn=>hn hk) (Fq h.2)
theorem Fq {n:Nat}:∀ {l:List T},CX n l=true→∀ x∈l,wx (fun m=>0≤m∧m < n) x
 | [],_=>fun x hx=>by cases hx
 | y::r,h=>by
   simp only [CX,zB] at h
   have h1:=I8 h.1
   have h2:=Fq h.2
   intro x hx
   rcases OU.1 hx with rfl | hx
   ·exact h1
   ·exact h2 x hx
end
def Ft (ps ss:List Int) (a b:T):Bool:=match abS (jy ps ss) a b with | .isTrue _=>true | .isFalse _=>false
theorem CY {ps ss:List Int} {a b:T}:Ft ps ss a b=true↔R (jy ps ss) a b:=by
 unfold Ft
 cases abS (jy ps ss) a b with
 | isTrue h=>simp [h]
 | isFalse h=>simp [h]
end Go.aK
end
section
set_option maxRecDepth 1000000
namespace Go.aK
open Go Go.Proofs Go.fo
theorem CZ (ps ss:List Int) (a b:T):IV ps ss a b=Ft ps ss a b:=by rw [ac6,sK,CY]
def I9 (ps ss:List Int) (a b:T):Bool:=match abT (jy ps ss) a b with | .isTrue _=>true | .isFalse _=>false
theorem Ja (ps ss:List Int) (a b:T):eqB ps ss a b=I9 ps ss a b:=by
 rw [ac6,IW]
 unfold I9
 cases abT (jy ps ss) a b with
 | isTrue h=>simp [h]
 | isFalse h=>simp [h]
def Xi (s:Sg) (ps ss:List Int):Bool:=decide (ps.length=s.ops.length) && (decide (ss.length=s.ops.length) && ((List.range ps.length).all (fun j=>decide (0≤ps.getD j 0∧ps.getD j 0≤255∧1≤ss.getD j 0∧ss.getD j 0≤3)) && (List.range ps.length).all fun j=>(List.range ps.length).all fun k=>!decide (ps.getD j 0=ps.getD k 0) || decide (ss.getD j 0=ss.getD k 0)))
theorem Ox {s:Sg} {ps ss:List Int}:Xi s ps ss=true↔eY s ps ss:=by
 simp only [Xi,zB,decide_eq_true_eq,abo,acz,acY,abp,decide_eq_false_iff_not]
 constructor
 ·rintro ⟨h1,h2,h3,h4⟩
  exact ⟨h1,h2,h3,fun j k hj hk he=>(h4 j hj k hk).resolve_left fun hn=>hn he⟩
 ·rintro ⟨h1,h2,h3,h4⟩
  refine ⟨h1,h2,h3,fun j hj k hk=>?_⟩
  by_cases h:ps.getD j 0=ps.getD k 0
  ·exact .inr (h4 j k hj hk h)
  ·exact .inl h
def yz (s:Sg) (ps ss:List Int):Int:=if mG s=true then (if Xi s ps ss=true then 0 else 60) else 40
theorem sQ (s:Sg) (ps ss:List Int):iO s ps ss=yz s ps ss:=by
 unfold iO yz
 by_cases h:eY s ps ss
 ·rw [if_pos h,if_pos (Ox.2 h)]
 ·rw [if_neg h,if_neg (fun k=>h (Ox.1 k))]
def yA (s:Sg) (ps ss:List Int) (l:List T):Int:=if yz s ps ss=0 then (if (l.all fun t=>t.tree && iP s t)=true then 0 else 4) else yz s ps ss
theorem jC (s:Sg) (ps ss:List Int) (l:List T):gV s ps ss l=yA s ps ss l:=by unfold gV yA;rw [sQ]
def Oy (ps ss:List Int) (e:iW):Bool:=e.rest.all fun y=>Ft ps ss e.a y
theorem Oz (ps ss:List Int) (e:iW):uk ps ss e=Oy ps ss e:=by
 rw [ac6]
 simp only [uk,NV,Oy,abo,CY]
 exact @decide_eq_true_iff _ (Classical.propDecidable _)
def yB (t:Ty) (ps ss:List Int):Int:=oz (fun e=>!Oy ps ss e) t.es 0
theorem uq (t:Ty) (ps ss:List Int):mL t ps ss=yB t ps ss:=by
 unfold mL yB
 congr 1
 funext e
 rw [Oz]
def HL (t:Ty) (ops pl st:List Int):Bool:=decide (yz t.s (rf t.s.ops.length ops pl) (um t.s.ops.length ops st)=0) && decide (yB t (rf t.s.ops.length ops pl) (um t.s.ops.length ops st) < 0)
theorem KU (t:Ty) (ops pl st:List Int):yr t ops pl st=HL t ops pl st:=by
 unfold yr HL
 rw [sQ,uq,ac6]
 simp
def HM (t:Ty) (ops pl:List Int) (s:Fo) (st:List Int):Fo×Bool:=if HL t ops pl st=true then (some (rf t.s.ops.length ops pl,um t.s.ops.length ops st),false) else (s,true)
def HN (t:Ty) (ops:List Int) (s:Fo) (pl:List Int):Fo×Bool:=if pk pl=true then fB (HM t ops pl) (jg (dC 1 3) ops.length) s else (s,true)
def OA (t:Ty) (ops:List Int):Fo:=(fB (HN t ops) (jg (dC 0 ops.length) ops.length) none).1
theorem OB (t:Ty) (ops:List Int):zt t ops=OA t ops:=by
 have h1:dL t ops=HM t ops:=by funext pl s st;unfold dL HM;rw [KU]
 have h2:fP t ops=HN t ops:=by funext s pl;unfold fP HN;rw [h1]
 unfold zt OA;rw [h2]
def gH:List Int:=[0,0,1]
def ot:List Int:=[1,1,1]
def stM:List Int:=[1,1,3]
def Fu:List Int:=[0,0,0]
theorem Xj:yA gG gH ot [cG.a,cG.b]=0:=by kernel_rfl
theorem abU:yA gG gH ot [cG.b,cG.a]=0:=by kernel_rfl
theorem gr1:Ft gH ot cG.a cG.b=true:=by kernel_rfl
theorem gr2:Ft gH ot cG.b cG.a=false:=by kernel_rfl
theorem afN:yA gG gH stM [oT 2 [vT 0,vT 1],oT 2 [vT 1,vT 0]]=0:=by kernel_rfl
theorem afO:yA gG gH ot [oT 2 [vT 0,vT 1],oT 2 [vT 1,vT 0]]=0:=by kernel_rfl
theorem eq1:I9 gH stM (oT 2 [vT 0,vT 1]) (oT 2 [vT 1,vT 0])=true:=by kernel_rfl
theorem eq2:I9 gH ot (oT 2 [vT 0,vT 1]) (oT 2 [vT 1,vT 0])=false:=by kernel_rfl
theorem afP:yz gG gH ot=0:=by kernel_rfl
theorem afQ:yz gG Fu ot=0:=by kernel_rfl
theorem abV:yB dc gH ot=-1:=by kernel_rfl
theorem abW:yB dc Fu ot=1:=by kernel_rfl
theorem afR:OA dc [0,1,2]=some (gH,ot):=by kernel_rfl
def A9:List T:=[oT 1 [oT 0 []],vT 0,oT 0 [],oT 2 [oT 0 [],oT 0 []]]
theorem afS:yA gG gH ot A9=0:=by kernel_rfl
theorem afT:yJ (Ft gH ot) 4 A9=[vT 0,oT 0 [],oT 1 [oT 0 []],oT 2 [oT 0 [],oT 0 []]]:=by kernel_rfl
theorem sR:zw dc:=by
 refine ⟨by decide,fun e he ps hp=>?_⟩
 have hp3:ps.length=3:=hp
 have key:∀ e∈dc.es,e.cs.length≤1000∧(∀ t∈e.a::e.rest,t.tree=true)∧∀ t∈e.a::e.rest,Fp 3 t=true:=by
  intro e he
  have h:(dc.es.all fun e=>decide (e.cs.length≤1000) && ((e.a::e.rest).all (fun t=>t.tree) && (e.a::e.rest).all fun t=>Fp 3 t))=true:=by kernel_rfl
  have:=abo.1 h e he
  simp only [zB,decide_eq_true_eq,abo] at this
  exact this
 obtain ⟨k1,k2,k3⟩:=key e he
 exact ⟨k1,k2,fun t ht=>by rw [hp3];exact I8 (k3 t ht)⟩
end Go.aK
end
section
set_option maxRecDepth 100000
namespace Go.aK
open Go Go.Proofs Go.fo
theorem afU (n:Int) (o:Nat) (xs:List AV) (φ:AV→Prop):cE [.int .i64 0,.int .i64 0,.ag] [(0,1,.int .i64 2),(1,1,.int .i64 n),(2,1,.ak o xs)] φ=φ (.agg [.int .i64 2,.int .i64 n,.ak 0 xs]):=by
 simp only [cE,iu,eq_iff_iff]
 exact ⟨fun h=>h.2.2.2.2.2.2.2.2.2,fun h=>⟨rfl,rfl,by simp,rfl,rfl,by simp [ai,AV.cells],rfl,rfl,by simp [ai,AV.cells],h⟩⟩
theorem abX (n:Int) (φ:AV→Prop):cE [.int .i64 0,.int .i64 0,.ag] [(0,1,.int .i64 2),(1,1,.int .i64 n),(2,1,.ag)] φ=φ (.agg [.int .i64 2,.int .i64 n,.ag]):=by
 simp only [cE,iu,eq_iff_iff]
 exact ⟨fun h=>h.2.2.2.2.2.2.2.2.2,fun h=>⟨rfl,rfl,by simp,rfl,rfl,by simp [ai,AV.cells],rfl,rfl,by simp [ai,AV.cells],h⟩⟩
theorem afV (a b c d e f:Int) (o o':Nat) (φ:AV→Prop):cE [.ag,.ag] [(0,1,.ak o [.int .i64 a,.int .i64 b,.int .i64 c]),(1,1,.ak o' [.int .i64 d,.int .i64 e,.int .i64 f])] φ=φ (eT [a,b,c] [d,e,f]):=by
 simp only [cE,iu,eq_iff_iff]
 exact ⟨fun h=>h.2.2.2.2.2.2,fun h=>⟨rfl,rfl,by simp,rfl,rfl,by simp [ai,AV.cells],h⟩⟩
theorem OC (t:T):aR t.av=t.av:=by cases t;rfl
theorem bs4 (a b c d:T) (φ:List AV→Prop):bm (List.replicate 4 (aR (.agg [.int .i64 0,.int .i64 0,.ag]))) 3 [(0,a.av),(1,b.av),(2,c.av),(3,d.av)] φ=φ [a.av,b.av,c.av,d.av]:=by
 have hv:∀ t:T,t.av.val=true:=fun t=>by cases t;rfl
 have hl:∀ t:T,t.av.cells.length=3:=fun t=>(yx t).len
 simp only [bm,OC,hv,hl,List.replicate,List.set,List.length_cons,List.length_nil,eq_iff_iff]
 constructor
 ·intro h;simpa using h
 ·intro h;simpa using h
theorem Sq (n:Int):Pure Tryz.prog 59 [.int .i64 n] (vT n).av:=by
 refine fun H=>k59.2.calls rfl ?_
 simp only [k59,aH]
 simp +contextual only [sZ,Nat.reduceEqDiff,Nat.reduceAdd,↓reduceIte,reduceCtorEq]
 exact sk rfl rfl
theorem c65 (n:Int) (l:List T):Pure Tryz.prog 65 [.int .i64 n,.ak 0 (bk l)] (oT n l).av:=by
 refine fun H=>XS.2.calls rfl ?_
 simp only [XS,aH]
 simp +contextual only [afU,sZ,Nat.reduceEqDiff,Nat.reduceAdd,↓reduceIte,reduceCtorEq]
 exact sk (by simp [o6,bJ,cV,eE,bZ,dy]) rfl
theorem Sr (n:Int):Pure Tryz.prog 65 [.int .i64 n,.ag] (oT n []).av:=by
 refine fun H=>XS.2.calls rfl ?_
 simp only [XS,aH]
 simp +contextual only [abX,sZ,Nat.reduceEqDiff,Nat.reduceAdd,↓reduceIte,reduceCtorEq]
 exact sk rfl rfl
theorem OD (t:T) (φ:AV→Prop):al 1 none (.ah t.av) φ=φ (.ah (.int .i64 t.n)):=by cases t;simp [al,T.av,apart,AV.cells,AV.one,T.n]
theorem abY (o:Nat) (a b c d:T):(∀ (own:Nat) (xs:List AV),AV.ak o [a.av,b.av,c.av,d.av]=AV.ak own xs→∀ z∈xs,z.cells.length=3)=True:=by
 simp only [eq_iff_iff,iff_true]
 intro own xs e z hz
 cases e
 have:z=a.av∨z=b.av∨z=c.av∨z=d.av:=by simpa using hz
 rcases this with rfl | rfl | rfl | rfl <;> exact (yx _).len
theorem ix4 (o:Nat) (a b c d:AV) (φ:AV→Prop):aA 3 (.ak o [a,b,c,d]) (.int .i64 0) φ=φ (.ah a)∧aA 3 (.ak o [a,b,c,d]) (.int .i64 1) φ=φ (.ah b)∧aA 3 (.ak o [a,b,c,d]) (.int .i64 2) φ=φ (.ah c)∧aA 3 (.ak o [a,b,c,d]) (.int .i64 3) φ=φ (.ah d):=by
 simp [aA]
theorem sg1:Pure Tryz.prog 20 [dc.s.av,eT [0,0,1] [1,1,1],cG.a.av,cG.b.av] (.tuple [.bool true,.int .i64 0]):=by
 have:=c20 gG gH ot cG.a cG.b
 rw [jC,Xj,if_pos rfl,CZ,gr1] at this
 exact this
theorem sg2:Pure Tryz.prog 20 [dc.s.av,eT [0,0,1] [1,1,1],cG.b.av,cG.a.av] (.tuple [.bool false,.int .i64 0]):=by
 have:=c20 gG gH ot cG.b cG.a
 rw [jC,abU,if_pos rfl,CZ,gr2] at this
 exact this
theorem p1 (H:List aa):aw Tryz.prog 27 [dc.s.av,eT [0,0,1] [1,1,1],cG.a.av,cG.b.av] H fun r H'=>(∃ p,Sh (jy gH ot) p cG.a cG.b∧r=.tuple [eJ p,.bool true,.int .i64 0])∧H'=H:=by
 refine (c27 gG gH ot cG.a cG.b H).mono ?_
 rintro r H' ⟨h,rfl⟩
 refine ⟨?_,rfl⟩
 rcases h with ⟨h,_⟩ | ⟨_,h,_⟩ | ⟨_,h⟩
 ·rw [jC,Xj] at h;exact absurd rfl h
 ·exact absurd (CY.1 gr1) h
 ·exact h
theorem v1 {p:PP} (hp:Sh (jy gH ot) p cG.a cG.b):Pure Tryz.prog 28 [dc.s.av,eT [0,0,1] [1,1,1],cG.a.av,cG.b.av,eJ p] (.int .i64 0):=by
 have:=c28 gG gH ot cG.a cG.b p
 have e:Fc gG gH ot cG.a cG.b p=0:=by unfold Fc;rw [if_pos (by rw [jC,Xj]),if_pos hp]
 rw [e] at this
 exact this
theorem v2 (p:PP):Pure Tryz.prog 28 [dc.s.av,eT [0,0,1] [1,1,1],cG.b.av,cG.a.av,eJ p] (.int .i64 61):=by
 have:=c28 gG gH ot cG.b cG.a p
 have hn:¬ Sh (jy gH ot) p cG.b cG.a:=fun h=>by
  have:=CY.2 h.gt
  rw [gr2] at this;cases this
 have e:Fc gG gH ot cG.b cG.a p=61:=by unfold Fc;rw [if_pos (by rw [jC,abU]),if_neg hn]
 rw [e] at this
 exact this
theorem q1:Pure Tryz.prog 22 [dc.s.av,eT [0,0,1] [1,1,3],(oT 2 [vT 0,vT 1]).av,(oT 2 [vT 1,vT 0]).av] (.tuple [.bool true,.int .i64 0]):=by
 have:=c22 gG gH stM (oT 2 [vT 0,vT 1]) (oT 2 [vT 1,vT 0])
 rw [jC,afN,if_pos rfl,Ja,eq1] at this
 exact this
theorem q2:Pure Tryz.prog 22 [dc.s.av,eT [0,0,1] [1,1,1],(oT 2 [vT 0,vT 1]).av,(oT 2 [vT 1,vT 0]).av] (.tuple [.bool false,.int .i64 0]):=by
 have:=c22 gG gH ot (oT 2 [vT 0,vT 1]) (oT 2 [vT 1,vT 0])
 rw [jC,afO,if_pos rfl,Ja,eq2] at this
 exact this
theorem afW:nV 0 dc gH ot=(0,false,0):=by
 unfold nV
 rw [if_neg (by simp),sQ,if_neg (by rw [show dc.s=gG from rfl,afP];simp),uq,abV];rfl
theorem abZ:nV 0 dc Fu ot=(1,true,0):=by
 unfold nV
 rw [if_neg (by simp),sQ,if_neg (by rw [show dc.s=gG from rfl,afQ];simp),uq,abW];rfl
theorem k1:Pure Tryz.prog 33 [dc.av,eT [0,0,1] [1,1,1]] (.int .i64 0):=by
 have:=c33 CW (fun _=>sR) gH ot
 rw [zz,afW] at this
 exact this
theorem k2:Pure Tryz.prog 33 [dc.av,eT [0,0,0] [1,1,1]] (.int .i64 60):=by
 have:=c33 CW (fun _=>sR) Fu ot
 rw [zz,abZ] at this
 exact this
theorem bl1:Pure Tryz.prog 31 [dc.av,eT [0,0,0] [1,1,1]] (.tuple [.int .i64 1,.bool true,.int .i64 0]):=by
 have:=c31 CW (fun _=>sR) Fu ot
 rw [abZ] at this
 exact this
theorem fi1:Pure Tryz.prog 35 [dc.av] (.tuple [eT [0,0,1] [1,1,1],.bool true,.int .i64 0]):=by
 have:=c35 (ops:=[0,1,2]) CW (fun _=>Xh) (fun _=>sR) (fun _ i hi=>by
  have h:i=0∨i=1∨i=2:=by simpa using hi
  have e:dc.s.ops.length=3:=rfl
  rw [e];omega) (by decide)
 have e:Ov 0 dc [0,1,2]=(some (gH,ot),0):=by
  unfold Ov
  rw [if_neg (by simp),if_neg (by decide),OB,afR]
 rw [e] at this
 exact this
def ab0:List T:=[vT 0,oT 0 [],oT 1 [oT 0 []],oT 2 [oT 0 [],oT 0 []]]
theorem so1:Pure Tryz.prog 37 [dc.s.av,eT [0,0,1] [1,1,1],.ak 0 (bk A9)] (.tuple [.ak 0 (bk ab0),.int .i64 0]):=by
 have:=c37 gG gH ot A9 (by decide)
 have hg:IV gH ot=Ft gH ot:=by funext a b;exact CZ _ _ _ _
 have e:zy gG gH ot A9=(ab0,0):=by
  unfold zy
  rw [if_pos (by rw [jC,afS]),if_neg (by decide),hg,show A9.length=4 from rfl,afT]
  rfl
 rw [e] at this
 exact this
theorem c17:Pure Tryz.prog 17 [] (.bool true):=by
 refine fun H=>k17.2.calls rfl ?_
 simp only [k17,aH]
 simp +contextual only [sZ]
 refine ae c64 ?_
 have o01:Pure Tryz.prog 65 [.int .i64 2,.ak 0 [(vT 0).av,(vT 1).av]] (oT 2 [vT 0,vT 1]).av:=c65 2 [vT 0,vT 1]
 have o10:Pure Tryz.prog 65 [.int .i64 2,.ak 0 [(vT 1).av,(vT 0).av]] (oT 2 [vT 1,vT 0]).av:=c65 2 [vT 1,vT 0]
 have o00:Pure Tryz.prog 65 [.int .i64 2,.ak 0 [(oT 0 []).av,(oT 0 []).av]] (oT 2 [oT 0 [],oT 0 []]).av:=c65 2 [oT 0 [],oT 0 []]
 have o1:Pure Tryz.prog 65 [.int .i64 1,.ak 0 [(oT 0 []).av]] (oT 1 [oT 0 []]).av:=c65 1 [oT 0 []]
 have so2:Pure Tryz.prog 37 [dc.s.av,eT [0,0,1] [1,1,1],.ak 0 [(oT 1 [oT 0 []]).av,(vT 0).av,(oT 0 []).av,(oT 2 [oT 0 [],oT 0 []]).av]] (.tuple [.ak 0 [(vT 0).av,(oT 0 []).av,(oT 1 [oT 0 []]).av,(oT 2 [oT 0 [],oT 0 []]).av],.int .i64 0]):=so1
 have afX:Pure Tryz.prog 66 [.ak 0 (ints [0,0,1]),.ak 0 (ints [0,0,1])] (.bool true):=c66 (a:=[0,0,1]) (b:=[0,0,1]) (.inr rfl) (.inr rfl) (by decide) (by decide)
 have afY:Pure Tryz.prog 66 [.ak 0 (ints [1,1,1]),.ak 0 (ints [1,1,1])] (.bool true):=c66 (a:=[1,1,1]) (b:=[1,1,1]) (.inr rfl) (.inr rfl) (by decide) (by decide)
 have i40:=fun o a b c d φ=>(ix4 o a b c d φ).1
 have i41:=fun o a b c d φ=>(ix4 o a b c d φ).2.1
 have i42:=fun o a b c d φ=>(ix4 o a b c d φ).2.2.1
 have i43:=fun o a b c d φ=>(ix4 o a b c d φ).2.2.2
 have n1:((vT 0).k=1)=True:=eq_true rfl
 have n2:((oT 0 []).n=0)=True:=eq_true rfl
 have n3:((oT 1 [oT 0 []]).n=1)=True:=eq_true rfl
 have n4:((oT 2 [oT 0 [],oT 0 []]).n=2)=True:=eq_true rfl
 have f44:(((4:Nat):Int)=4)=True:=eq_true rfl
 obtain ⟨e1,e2,e3,e4,e5,e6⟩:=Ty.facts dc
 obtain ⟨a1,a2,a3,a4,a5,a6⟩:=bt [0,0,1] [1,1,1]
 obtain ⟨b1,b2,b3,b4,b5,b6⟩:=bt [0,0,1] [1,1,3]
 obtain ⟨c1,c2,c3,c4,c5,c6⟩:=bt [0,0,0] [1,1,1]
 have ix:∀ φ,aA 8 (.ak 0 (nS dc.es)) (.int .i64 1) φ=φ (.ah cG.av):=by
  intro φ
  have:=idx_eq 8 0 dc.es .i64 1 φ
  rw [show ((1:Nat):Int)=1 from rfl] at this
  rw [this]
  exact propext ⟨fun h=>h.2,fun h=>⟨by decide,h⟩⟩
 have su:dc.s.av.ab=dc.s.av:=rfl
 simp +contextual only [e1,e2,e3,afV,a1,a2,a3,a4,b1,b2,b3,c1,c2,c3,cQ,FR,Ph,ix,Sc,W1,sG,nT,su,sZ,Nat.reduceEqDiff,Nat.reduceAdd,↓reduceIte]
 refine ⟨ae sg1 ?_,ae sg1 ?_⟩
 all_goals
  simp +contextual only [a4,cQ,FR,sG,su,sZ,Nat.reduceEqDiff,Nat.reduceAdd,Nat.reduceLT,↓reduceIte]
  refine ae sg2 ?_
  simp +contextual only [a4,cQ,FR,sG,su,sZ,Nat.reduceEqDiff,Nat.reduceAdd,Nat.reduceLT,↓reduceIte]
  refine af (p1 _) ?_
  rintro r H' ⟨⟨p,hp,rfl⟩,rfl⟩
  obtain ⟨r1,r2,r3,r4,r5,r6,r7,r8,r9⟩:=bb p
  simp +contextual only [a4,cQ,FR,sG,su,r1,r2,r3,r4,sO,sZ,Nat.reduceEqDiff,Nat.reduceAdd,Nat.reduceLT,↓reduceIte]
  refine ae (v1 hp) ?_
  simp +contextual only [a4,cQ,FR,sG,su,r4,sO,sZ,Nat.reduceEqDiff,Nat.reduceAdd,↓reduceIte]
  refine ae (v2 p) ?_
  simp +contextual only [sZ,Nat.reduceEqDiff,↓reduceIte]
  refine aF (Sq 0) ?_
  simp +contextual only [sZ]
  refine aF (Sq 1) ?_
  simp +contextual only [sZ,Nat.reduceEqDiff,↓reduceIte]
  refine aF (o01) ?_
  simp +contextual only [sZ]
  refine aF (Sq 1) ?_
  simp +contextual only [sZ]
  refine aF (Sq 0) ?_
  simp +contextual only [sZ,Nat.reduceEqDiff,↓reduceIte]
  refine aF (o10) ?_
  simp +contextual only [b4,cQ,FR,sG,su,sZ,Nat.reduceEqDiff,↓reduceIte]
  refine aF (q1) ?_
  simp +contextual only [sZ,Nat.reduceEqDiff,Nat.reduceAdd,Nat.reduceLT,↓reduceIte]
  refine aF (Sq 0) ?_
  simp +contextual only [sZ]
  refine aF (Sq 1) ?_
  simp +contextual only [sZ,Nat.reduceEqDiff,↓reduceIte]
  refine aF (o01) ?_
  simp +contextual only [sZ]
  refine aF (Sq 1) ?_
  simp +contextual only [sZ]
  refine aF (Sq 0) ?_
  simp +contextual only [sZ,Nat.reduceEqDiff,↓reduceIte]
  refine aF (o10) ?_
  simp +contextual only [a4,cQ,FR,sG,su,sZ,Nat.reduceEqDiff,↓reduceIte]
  refine aF (q2) ?_
  simp +contextual only [e4,iI,a4,cQ,sZ,Nat.reduceEqDiff,Nat.reduceAdd,Nat.reduceLT,↓reduceIte]
  refine ae (k1) ?_
  simp +contextual only [e4,iI,c4,cQ,sZ,Nat.reduceEqDiff,Nat.reduceAdd,↓reduceIte]
  refine ae (k2) ?_
  simp +contextual only [e4,iI,c4,cQ,sZ,Nat.reduceEqDiff,Nat.reduceAdd,↓reduceIte]
  refine ae (bl1) ?_
  simp +contextual only [e4,iI,sZ,Nat.reduceEqDiff,Nat.reduceAdd,Nat.reduceLT,↓reduceIte]
  refine ae (fi1) ?_
  simp +contextual only [a1,a2,a3,a4,yg,sZ,Nat.reduceEqDiff,Nat.reduceAdd,Nat.reduceLT,↓reduceIte]
  refine ae (afX) ?_
  simp +contextual only [zp,sZ,Nat.reduceEqDiff,Nat.reduceAdd,↓reduceIte]
  refine ae (afY) ?_
  simp +contextual only [sZ,Nat.reduceEqDiff,↓reduceIte]
  refine aF (Sr 0) ?_
  simp +contextual only [sZ,↓reduceIte]
  refine aF (o1) ?_
  simp +contextual only [sZ]
  refine aF (Sq 0) ?_
  simp +contextual only [sZ]
  refine aF (Sr 0) ?_
  simp +contextual only [sZ]
  refine aF (Sr 0) ?_
  simp +contextual only [sZ]
  refine aF (Sr 0) ?_
  simp +contextual only [sZ,Nat.reduceEqDiff,↓reduceIte]
  refine aF (o00) ?_
  simp +contextual only [a4,cQ,FR,sG,su,bs4,sZ,Nat.reduceEqDiff,↓reduceIte]
  refine aF (so2) ?_
  simp +contextual only [IQ,OD,abY,i40,i41,i42,i43,f44,n1,n2,n3,n4,decide_true,sZ,Nat.reduceEqDiff,Nat.reduceAdd,Nat.reduceLT,↓reduceIte,reduceCtorEq]
  exact aP H.length (sU _) rfl ⟨rfl,by simp⟩
end Go.aK
end
section
set_option maxRecDepth 100000
namespace Go.aK
open Go Go.Proofs Go.fo
def Xk (S:List aa→Prop) (r:AV) (H':List aa):Prop:=(∃ b,r=.bool b)∧S H'
theorem KV {S:List aa→Prop} (hl:AP S) {s:Nat} {b:Bool} {H H':List aa} (hS:S H) (hS':S H'):bT H.length [.t s] [(s,.bool b)] H' (Xk S):=by
 refine aP H.length (sU _) (by rw [ay,if_pos rfl];rfl) ?_
 rw [ay,if_pos rfl,Ue (by rw [hl H H' hS hS'];exact sU _)]
 exact ⟨⟨b,rfl⟩,hS'⟩
theorem ab1 {S:List aa→Prop} (hS:AP S) (g:Nat) (cS:List AV) (cc:cS.map AV.ab=cS) (l:List T) (hf:∀ x∈l,∀ H,S H→aw Tryz.prog g ([x.av]++cS) H (Xk S)) {H:List aa} (hH:S H) :
 aw Tryz.prog 114 [.ak 0 (bk l),.fn (.func g) [] cS] H fun r H'=>(∃ n,r=.int .i64 n)∧S H':=by
 refine Eo.2.calls rfl ?_
 simp only [Eo,aH]
 simp +contextual only [sZ,Nat.reduceEqDiff,Nat.reduceAdd,↓reduceIte,reduceCtorEq]
 intro hl
 have fin:∀ (n:Int) (G:List aa),S G→bT H.length [.t 4] [(4,.int .i64 n)] G fun r H'=>(∃ n,r=.int .i64 n)∧S H':=by
  intro n G hG
  refine aP H.length (sU _) (by rw [ay,if_pos rfl];rfl) ?_
  rw [ay,if_pos rfl,Ue (by rw [hS H G hH hG];exact sU _)]
  exact ⟨⟨n,rfl⟩,hG⟩
 refine aD l.length (fun i (G:List aa)=>S G) (fun i G=>[(0,.ak 0 (bk l)),(1,.fn (.func g) [] cS),(7,.int .i64 l.length),(8,.int .i64 i)]) (fun i G=>G) H ⟨hH,ax _ _ _⟩ fun i G hi hG=>?_
 simp +contextual only [cc,sZ,Nat.reduceEqDiff,Nat.reduceAdd,↓reduceIte,reduceCtorEq]
 refine ⟨fun aG=>?_,fun eW=>?_⟩
 ·have aG:=aY aG
  refine ⟨aG,af (hf _ (bU aG) G hG) ?_⟩
  rintro r G' ⟨⟨b,rfl⟩,dS⟩
  cases b with
  | true=>simp +contextual only [sZ,Nat.reduceEqDiff,↓reduceIte,reduceCtorEq];exact fin _ _ dS
  | false=>simp +contextual only [sZ,Nat.reduceEqDiff,↓reduceIte,reduceCtorEq];exact ⟨i + 1,G',⟨aG,dS⟩,by omega,aE (by rw [aq i (by omega)]) rfl⟩
 ·exact fin _ _ hG
theorem ab2 {S:List aa→Prop} (hS:AP S) (g:Nat) (cS:List AV) (cc:cS.map AV.ab=cS) (l:List T) (hf:∀ x∈l,∀ H,S H→aw Tryz.prog g ([x.av]++cS) H (Xk S)) {H:List aa} (hH:S H) :
 aw Tryz.prog 53 [.ak 0 (bk l),.fn (.func g) [] cS] H (Xk S):=by
 refine Tn.2.calls rfl ?_
 simp only [Tn,aH]
 simp +contextual only [sZ,Nat.reduceEqDiff,Nat.reduceAdd,↓reduceIte,reduceCtorEq]
 refine af (ab1 hS g cS cc l hf hH) ?_
 rintro r G ⟨⟨n,rfl⟩,hG⟩
 simp +contextual only [sZ,↓reduceIte,reduceCtorEq]
 exact KV hS hH hG
structure Fw (q q2:Nat) (H0 H:List aa):Prop where
 len:H.length=H0.length
 cnt:∃ n,H[q]?=some (.cells [.int .i64 n])
 fn:H[q2]?=some (.cells [.fn (.func 71) [] [.ptr q 0,.ptr q2 0]])
 get:∀ j,j≠q→H[j]?=H0[j]?
theorem Fw.AP (q q2:Nat) (H0:List aa):Go.aK.AP (Fw q q2 H0):=fun H H' h h'=>h'.len.trans h.len.symm
theorem Fw.set {q q2:Nat} {H0 H:List aa} (h:Fw q q2 H0 H) (hn:q≠q2) (n:Int):Fw q q2 H0 (H.set q (.cells [.int .i64 n])):=by
 obtain ⟨m,hm⟩:=h.cnt
 exact ⟨by simp [h.len],⟨n,zD (aO hm)⟩,by rw [zC hn];exact h.fn,fun j hj=>by rw [zC (Ne.symm hj)];exact h.get j hj⟩
theorem c71 {q q2:Nat} (hn:q≠q2) {H0:List aa}:∀ (N:Nat) (t:T),wt t≤N→∀ (d:Int) (H:List aa),Fw q q2 H0 H→aw Tryz.prog 71 [t.av,.int .i64 d,.ptr q 0,.ptr q2 0] H (Xk (Fw q q2 H0)):=by
 intro N
 induction N with
 | zero=>intro t h;have:=eF t;omega
 | succ N ih=>
   intro t hw d H hH
   refine k71.2.calls rfl ?_
   simp only [k71,aH]
   have hwe:=EQ t
   obtain ⟨m,hm⟩:=hH.cnt
   have g9:∀ o,(H.set q o)[q]?=some o:=fun o=>zD (aO hm)
   simp +contextual only [hm,g9,sZ,Nat.reduceEqDiff,Nat.reduceAdd,Nat.reduceLT,↓reduceIte,reduceCtorEq]
   have c72:∀ x∈t.l,∀ H,Fw q q2 H0 H→aw Tryz.prog 72 ([x.av]++[.ptr q2 0,.ah (.int .i64 d)]) H (Xk (Fw q q2 H0)):=by
    intro x hx H hH
    refine k72.2.calls rfl ?_
    simp only [k72,aH,List.cons_append,List.nil_append]
    have hfn:=hH.fn
    simp +contextual only [hfn,sZ,Nat.reduceEqDiff,Nat.reduceAdd,Nat.reduceLT,↓reduceIte,reduceCtorEq]
    refine af (ih x (by have:=bM hx;omega) _ H hH) ?_
    rintro r G ⟨⟨b,rfl⟩,hG⟩
    simp +contextual only [sZ,↓reduceIte,reduceCtorEq]
    exact KV (Fw.AP q q2 H0) hH hG
   refine ⟨fun _=>⟨fun _=>af (ab2 (Fw.AP q q2 H0) 72 [.ptr q2 0,.ah (.int .i64 d)] rfl t.l c72 (hH.set hn _)) ?_,fun _=>KV (Fw.AP q q2 H0) hH (hH.set hn _)⟩,fun _=>KV (Fw.AP q q2 H0) hH (hH.set hn _)⟩
   rintro r G ⟨⟨b,rfl⟩,hG⟩
   simp +contextual only [sZ,Nat.reduceEqDiff,↓reduceIte,reduceCtorEq]
   exact KV (Fw.AP q q2 H0) hH hG
theorem c19 (n:Int) (l:List T) (H:List aa):aw Tryz.prog 19 [.int .i64 n,.ak 0 (bk l)] H fun r H'=>(∃ b,r=.bool b)∧H'=H:=by
 refine k19.2.calls rfl ?_
 simp only [k19,aH]
 have sp1:∀ (x y:AV),ai [x] 0 [y]=[y]:=fun _ _=>rfl
 simp +contextual only [sZ,Nat.reduceEqDiff,Nat.reduceAdd,↓reduceIte,reduceCtorEq]
 obtain ⟨H0,eH0⟩:∃ H0,H0=H++[aa.cells [AV.int .i64 n],.cells [.fn (.func 71) [] [.ptr H.length 0,.ptr (H.length + 1) 0]]]:=⟨_,rfl⟩
 have hF:Fw H.length (H.length + 1) H0 H0:=⟨rfl,⟨n,by rw [eH0];simp⟩,by rw [eH0];simp,fun _ _=>rfl⟩
 rw [← eH0]
 have yQ:H0.length=H.length + 2:=by rw [eH0];simp
 have Yv:H0.take H.length=H:=by rw [eH0];simp
 have c73:∀ x∈l,∀ G,Fw H.length (H.length + 1) H0 G→aw Tryz.prog 73 ([x.av]++[.ptr (H.length + 1) 0]) G (Xk (Fw H.length (H.length + 1) H0)):=by
  intro x hx G hG
  refine k73.2.calls rfl ?_
  simp only [k73,aH,List.cons_append,List.nil_append]
  have hfn:=hG.fn
  simp +contextual only [hfn,sZ,Nat.reduceEqDiff,Nat.reduceAdd,Nat.reduceLT,↓reduceIte,reduceCtorEq]
  refine af (c71 (by omega) _ x (sU _) _ G hG) ?_
  rintro r G' ⟨⟨b,rfl⟩,dS⟩
  simp +contextual only [sZ,↓reduceIte,reduceCtorEq]
  exact KV (Fw.AP _ _ H0) hG dS
 refine ⟨by simp;omega,af (ab2 (Fw.AP _ _ H0) 73 [.ptr (H.length + 1) 0] rfl l c73 hF) ?_⟩
 rintro r G ⟨⟨b,rfl⟩,hG⟩
 simp +contextual only [sZ,↓reduceIte,reduceCtorEq]
 refine aP H.length (sU _) (by rw [ay,if_pos rfl];rfl) ?_
 rw [ay,if_pos rfl]
 refine ⟨⟨!b,rfl⟩,?_⟩
 refine Eq.trans ?_ Yv
 apply acG
 intro j
 rw [aa7,aa7]
 by_cases hj:j < H.length
 ·rw [if_pos hj,if_pos hj];exact hG.get j (by omega)
 ·rw [if_neg hj,if_neg hj]
end Go.aK
end
section
set_option maxRecDepth 100000
namespace Go.aK
open Go Go.Proofs Go.fo
def Pk (o:iK):Prop:=o.args.length≤20∧o.name.size≤200
theorem pn {α:Type} [Inhabited α] {p:α→Prop} {l:List α} (h:∀ j,j < l.length→p (l.getD j default)):∀ x∈l,p x:=fun x hx=>by
 obtain ⟨n,hn,rfl⟩:=acZ hx
 have:=h n hn
 rwa [sT,aaf hn] at this
theorem c68 (o:iK):∃ b,Pure Tryz.prog 68 [o.av] (.bool b)∧(b=false→Pk o):=by
 refine ⟨decide (20 < (o.args.length:Int)) || decide (200 < (o.name.size:Int)),fun H=>k68.2.calls rfl ?_,fun h=>by simp at h;exact ⟨by omega,by omega⟩⟩
 simp only [k68,aH]
 simp +contextual only [aC,sZ,Nat.reduceEqDiff,Nat.reduceAdd,↓reduceIte,reduceCtorEq]
 refine fun _=>⟨fun h=>aS rfl ?_,fun h=>aS rfl ?_⟩
 ·have h':¬ (20:Int) < o.args.length:=by omega
  rw [decide_eq_false h',Bool.false_or]
 ·rw [decide_eq_true h,Bool.true_or]
theorem c70 (s:ByteArray):∃ b,Pure Tryz.prog 70 [.str s] (.bool b)∧(b=false→s.size≤200):=by
 refine ⟨decide (200 < (s.size:Int)),fun H=>k70.2.calls rfl ?_,fun h=>by simp at h;omega⟩
 simp only [k70,aH]
 simp +contextual only [sZ,Nat.reduceAdd,↓reduceIte,reduceCtorEq]
 exact aS rfl rfl
theorem ab3 (l:List iK):∀ H,aw Tryz.prog 128 [.ak 0 (pf l),.fn (.func 68) [] []] H fun r H'=>(∃ n,r=.int .i64 n∧(n < 0→∀ o∈l,Pk o))∧H'=H:=by
 refine fun H=>Zh.2.calls rfl ?_
 simp only [Zh,aH]
 simp +contextual only [aC,sZ,Nat.reduceEqDiff,Nat.reduceAdd,↓reduceIte,reduceCtorEq]
 intro hl
 have fin:∀ (n:Int),(n < 0→∀ o∈l,Pk o)→bT H.length [.t 4] [(4,.int .i64 n)] H fun r H'=>(∃ n,r=.int .i64 n∧(n < 0→∀ o∈l,Pk o))∧H'=H:=fun n hn=>
  aP H.length (sU _) (by rw [ay,if_pos rfl];rfl) ⟨⟨n,by rw [ay,if_pos rfl],hn⟩,aby⟩
 refine aB l.length (fun i=>∀ j,j < i→Pk (l.getD j default)) (fun i=>[(0,.ak 0 (pf l)),(1,.fn (.func 68) [] []),(7,.int .i64 l.length),(8,.int .i64 i)]) (fun _=>H) ⟨fun j h=>by omega,ax _ _ _⟩ fun i hi hI=>?_
 simp +contextual only [aC,sZ,Nat.reduceEqDiff,Nat.reduceAdd,↓reduceIte,reduceCtorEq]
 obtain ⟨b,hb,hq⟩:=c68 (l.getD i default)
 refine ⟨fun aG=>?_,fun eW=>fin _ fun _=>pn fun j hj=>hI j (by have:=bN eW;omega)⟩
 have aG:=aY aG
 refine ⟨aG,ae hb ?_⟩
 cases b with
 | true=>simp +contextual only [sZ,Nat.reduceEqDiff,↓reduceIte,reduceCtorEq];exact fin _ fun h=>by omega
 | false=>
   simp +contextual only [sZ,Nat.reduceEqDiff,↓reduceIte,reduceCtorEq]
   refine ⟨i + 1,⟨aG,fun j hj=>?_⟩,by omega,aE (by rw [aq i (by omega)]) rfl⟩
   by_cases e:j < i
   ·exact hI j e
   ·have:j=i:=by omega
    subst this;exact hq rfl
theorem af1 (l:List iK):∀ H,aw Tryz.prog 67 [.ak 0 (pf l),.fn (.func 68) [] []] H fun r H'=>(∃ b,r=.bool b∧(b=false→∀ o∈l,Pk o))∧H'=H:=by
 refine fun H=>k67.2.calls rfl ?_
 simp only [k67,aH]
 simp +contextual only [sZ,Nat.reduceEqDiff,Nat.reduceAdd,↓reduceIte,reduceCtorEq]
 refine af (ab3 l H) ?_
 rintro r G ⟨⟨n,rfl,hn⟩,rfl⟩
 simp +contextual only [sZ,↓reduceIte,reduceCtorEq]
 exact aP _ (sU _) (by rw [ay,if_pos rfl];rfl) ⟨⟨decide (0≤n),by rw [ay,if_pos rfl],fun h=>hn (by simpa using h)⟩,aby⟩
theorem ab4 (l:List ByteArray):∀ H,aw Tryz.prog 129 [.ak 0 (strs l),.fn (.func 70) [] []] H fun r H'=>(∃ n,r=.int .i64 n∧(n < 0→∀ o∈l,o.size≤200))∧H'=H:=by
 refine fun H=>Zi.2.calls rfl ?_
 simp only [Zi,aH]
 simp +contextual only [aC,sZ,Nat.reduceEqDiff,Nat.reduceAdd,↓reduceIte,reduceCtorEq]
 intro hl
 have fin:∀ (n:Int),(n < 0→∀ o∈l,o.size≤200)→bT H.length [.t 4] [(4,.int .i64 n)] H fun r H'=>(∃ n,r=.int .i64 n∧(n < 0→∀ o∈l,o.size≤200))∧H'=H:=fun n hn=>
  aP H.length (sU _) (by rw [ay,if_pos rfl];rfl) ⟨⟨n,by rw [ay,if_pos rfl],hn⟩,aby⟩
 refine aB l.length (fun i=>∀ j,j < i→(l.getD j default).size≤200) (fun i=>[(0,.ak 0 (strs l)),(1,.fn (.func 70) [] []),(7,.int .i64 l.length),(8,.int .i64 i)]) (fun _=>H) ⟨fun j h=>by omega,ax _ _ _⟩ fun i hi hI=>?_
 simp +contextual only [aC,sZ,Nat.reduceEqDiff,Nat.reduceAdd,↓reduceIte,reduceCtorEq]
 obtain ⟨b,hb,hq⟩:=c70 (l.getD i default)
 refine ⟨fun aG=>?_,fun eW=>fin _ fun _=>pn fun j hj=>hI j (by have:=bN eW;omega)⟩
 have aG:=aY aG
 refine ⟨aG,ae hb ?_⟩
 cases b with
 | true=>simp +contextual only [sZ,Nat.reduceEqDiff,↓reduceIte,reduceCtorEq];exact fin _ fun h=>by omega
 | false=>
   simp +contextual only [sZ,Nat.reduceEqDiff,↓reduceIte,reduceCtorEq]
   refine ⟨i + 1,⟨aG,fun j hj=>?_⟩,by omega,aE (by rw [aq i (by omega)]) rfl⟩
   by_cases e:j < i
   ·exact hI j e
   ·have:j=i:=by omega
    subst this;exact hq rfl
theorem af2 (l:List ByteArray):∀ H,aw Tryz.prog 69 [.ak 0 (strs l),.fn (.func 70) [] []] H fun r H'=>(∃ b,r=.bool b∧(b=false→∀ o∈l,o.size≤200))∧H'=H:=by
 refine fun H=>k69.2.calls rfl ?_
 simp only [k69,aH]
 simp +contextual only [sZ,Nat.reduceEqDiff,Nat.reduceAdd,↓reduceIte,reduceCtorEq]
 refine af (ab4 l H) ?_
 rintro r G ⟨⟨n,rfl,hn⟩,rfl⟩
 simp +contextual only [sZ,↓reduceIte,reduceCtorEq]
 exact aP _ (sU _) (by rw [ay,if_pos rfl];rfl) ⟨⟨decide (0≤n),by rw [ay,if_pos rfl],fun h=>hn (by simpa using h)⟩,aby⟩
structure SmS (s:Sg) (ps ss:List Int):Prop where
 h1:s.ops.length≤40
 h2:s.a9.length≤40
 h3:ps.length≤80
 h4:ss.length≤80
 h5:∀ o∈s.ops,Pk o
 h6:∀ x∈s.a9,x.size≤200
theorem c18 (s:Sg) (ps ss:List Int) (H:List aa):aw Tryz.prog 18 [s.av,eT ps ss] H fun r H'=>(∃ b,r=.bool b∧(b=true→SmS s ps ss))∧H'=H:=by
 refine k18.2.calls rfl ?_
 simp only [k18,aH]
 have fin:∀ (b:Bool),(b=true→SmS s ps ss)→bT H.length [.t 4] [(4,.bool b)] H fun r H'=>(∃ b,r=.bool b∧(b=true→SmS s ps ss))∧H'=H:=fun b hb=>
  aP H.length (sU _) (by rw [ay,if_pos rfl];rfl) ⟨⟨b,by rw [ay,if_pos rfl],hb⟩,aby⟩
 have finf:=fin false (fun h=>by cases h)
 obtain ⟨q1,q2,q3,q4,q5,q6⟩:=bt ps ss
 simp +contextual only [aC,q1,yg,zp,au,sZ,Nat.reduceEqDiff,Nat.reduceAdd,↓reduceIte,reduceCtorEq]
 refine fun _=>⟨fun h1 _=>⟨fun h2 _=>⟨fun h3 _=>⟨fun h4=>af (af1 s.ops H) ?_,fun _=>finf⟩,fun _=>finf⟩,fun _=>finf⟩,fun _=>finf⟩
 rintro r G ⟨⟨b,rfl,hb⟩,rfl⟩
 cases b with
 | true=>simp +contextual only [sZ,Nat.reduceEqDiff,↓reduceIte,reduceCtorEq];exact finf
 | false=>
   simp +contextual only [aC,sZ,Nat.reduceEqDiff,Nat.reduceAdd,↓reduceIte]
   refine af (af2 s.a9 _) ?_
   rintro r G ⟨⟨d,rfl,hd⟩,rfl⟩
   simp +contextual only [sZ,Nat.reduceEqDiff,↓reduceIte,reduceCtorEq]
   exact fin _ fun h=>⟨by omega,by omega,by omega,by omega,hb rfl,hd (by simpa using h)⟩
end Go.aK
end
