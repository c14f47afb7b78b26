/- Part 16 of 17 of the proof. -/
import Derived.Test.YtljchnfgjdjobaaGreatXao
import Derived.Test.YtljchnfgjdjobaaGreatXag
import Derived.KernelRfl
import Derived.Test.YtljchnfgjdjobaaGreatXah
import Derived.Test.YtljchnfgjdjobaaGreatXak
import Derived.Test.YtljchnfgjdjobaaGreatXam
import Derived.Test.YtljchnfgjdjobaaGreatRows
import Derived.ProofKit
set_option linter.unusedVariables false
set_option linter.unusedSimpArgs false
set_option linter.defProp false
set_option linter.unusedSectionVars false
section
set_option maxRecDepth 100000
namespace Go.aK
open Go Go.Proofs Go.fo
theorem Xt {s:Sg} {vs:List Int}:∀ (N:Nat) (t:T),wt t≤N→(qe s vs t).isSome=true→(t.k=1∨t.k=2)→(∀ y∈t.l,iP s y=true)→iP s t=true
 | 0,t,h,_,_,_=>by have:=eF t;omega
 | N + 1,.mk k n l,h,ho,h12,hl=>by
   simp only [qe] at ho
   simp only [iP,zB]
   refine ⟨?_,?_⟩
   ·by_cases AB:k=1
    ·subst AB;rfl
    ·rw [if_neg AB] at ho
     split at ho
     ·cases ho
     ·rename_i h1
      have a1:¬ (s.ops.length:Int)≤n:=fun h=>h1 (.inl h)
      have a2:(l.length:Int)=((s.ops.getD n.toNat default).args.length:Nat):=Classical.byContradiction fun h=>h1 (.inr h)
      rw [decide_eq_false a1,decide_eq_true a2];simp
   ·rw [lD,abp,ac7]
    intro y hy;rw [hl y hy];simp
theorem OP {s:Sg} {vs:List Int} {t:T} (h:(qe s vs t).isSome=true) (hs:t.shaped=true):∀ x∈t.l,(qe s vs x).isSome=true:=by
 cases t with
 | mk k n l=>
 simp only [qe] at h
 by_cases AB:k=1
 ·subst AB
  intro x hx
  have h2:(T.mk 1 n l).k=2∨True:=.inr trivial
  rw [T.bP] at hs
  simp only [zB,abp,acx,acS,decide_eq_false_iff_not] at hs
  rcases hs.1.1.1.2 with h | h
  ·exact absurd rfl h
  ·exact absurd (adS.2 (List.ne_nil_of_mem hx)) h
 ·rw [if_neg AB] at h
  split at h
  ·cases h
  ·split at h
   ·rename_i h2
    have key:∀ (l:List T) (a:List Int),KW s vs l a=true→∀ x∈l,(qe s vs x).isSome=true:=by
     intro l
     induction l with
     | nil=>intro a _ x hx;cases hx
     | cons y r FL=>
       intro a h x hx
       simp only [KW,zB,decide_eq_true_eq] at h
       rcases OU.1 hx with rfl | hx
       ·rw [h.1];rfl
       ·exact FL _ h.2 x hx
    exact key l _ h2
   ·cases h
theorem OQ {s:Sg} {vs:List Int}:∀ (N:Nat) (t:T),wt t≤N→t.shaped=true→(qe s vs t).isSome=true→iP s t=true
 | 0,t,h,_,_=>by have:=eF t;omega
 | N + 1,t,h,hs,ho=>by
   have hk:=OP ho hs
   refine Xt _ t (sU _) ho ?_ fun y hy=>OQ N y (by have:=bM hy;omega) ((bD hs).2 y hy) (hk y hy)
   rw [T.bP] at hs
   simp only [zB,abp,acx,acS,decide_eq_false_iff_not] at hs
   obtain ⟨⟨⟨_,h2⟩,_⟩,_⟩:=hs
   omega
theorem OR {t:Ty} {ps ss:List Int} (hT:FC t=0) (hc:zz (FC t) t ps ss=0) {e:iW} (he:e∈t.es):C8 t.s e.a∧C8 t.s e.b∧R (jy ps ss) e.a e.b:=by
 have hO:iO t.s ps ss=0:=by
  by_cases h:iO t.s ps ss=0
  ·exact h
  ·have hb:nV (FC t) t ps ss=(0,false,iO t.s ps ss):=by unfold nV;rw [if_neg (by omega),if_pos h]
   unfold zz at hc
   rw [hb] at hc
   rw [if_neg (fun h'=>h h'.1)] at hc
   exact hc
 have hn:¬ 0≤mL t ps ss:=fun h=>by
  have hb:nV (FC t) t ps ss=(max (mL t ps ss) 0,decide (0≤mL t ps ss),0):=by unfold nV;rw [if_neg (by omega),if_neg (by omega)]
  unfold zz at hc
  rw [hb,if_pos ⟨rfl,decide_eq_true h⟩] at hc
  cases hc
 have hd:uk ps ss e=true:=by
  unfold mL at hn
  rw [wD] at hn
  cases h:uk ps ss e with
  | true=>rfl
  | false=>exact absurd ⟨e,he,by rw [h];rfl⟩ hn
 have hD:NV ps ss e:=by simpa [uk] using hd
 have hq:rj t.s e=true:=by
  unfold FC at hT
  split at hT
  ·rename_i hb
   unfold SE at hb
   simp only [zB] at hb
   exact abo.1 hb.2.2 e he
  ·cases hT
 unfold rj at hq
 simp only [zB] at hq
 have hp:=hq.2.2.2.2.1
 unfold gJ at hp
 simp only [zB] at hp
 exact ⟨⟨hp.1,OQ _ _ (sU _) ((T.bg _).1 hp.1).2.2 hp.2.2.1⟩,⟨hp.2.1,OQ _ _ (sU _) ((T.bg _).1 hp.2.1).2.2 hp.2.2.2.1⟩,hD e.b (by simp [iW.rest])⟩
theorem OS:∀ (p:List Int) {t x:T},oB t p=some x→jS t p x=t
 | [],t,x,h=>by simp only [oB,Option.some.injEq] at h;exact h.symm
 | i::r,t,x,h=>by
   simp only [oB] at h
   split at h
   ·cases h
   ·rename_i hi
    simp only [jS]
    rw [OS r h]
    have hl:i.toNat < t.l.length:=by omega
    have:t.l.set i.toNat (t.l.getD i.toNat default)=t.l:=by
     rw [sT,aaf hl];exact List.set_getElem_self hl
    rw [this];cases t;rfl
theorem SJ {t:Ty} {ps ss:List Int} (hT:FC t=0) (hc:zz (FC t) t ps ss=0) {e:iW} (he:e∈t.es) {x y:T} {p:List Int} (hx:C8 t.s x) (hy:oB x p=some y) (hm:(oc e.a y).1=true)
 (h1:(fj e.b (oc e.a y).2).2=0) (h2:(qV x p (fj e.b (oc e.a y).2).1).2=0):C8 t.s (qV x p (fj e.b (oc e.a y).2).1).1∧R (jy ps ss) x (qV x p (fj e.b (oc e.a y).2).1).1:=by
 obtain ⟨oa,ob,hR⟩:=OR hT hc he
 have oy:=OH p hx hy
 obtain ⟨g1,g2⟩:=OK h1
 rw [g1] at h2 ⊢
 obtain ⟨g3,g4,g5⟩:=Sz h2
 rw [g3]
 have hs:=(K5 oa.1 oy.1 hm).1
 have hl:∀ z∈(oc e.a y).2,iP t.s z=true:=fun z hz=>by
  unfold oc at hz
  rcases wG (P:=fun z=>iP t.s z=true) (fun y h z hz=>yD h hz) e.a y _ oy.2 z hz with h | h
  ·rw [acK h];rfl
  ·exact h
 refine ⟨⟨g4,OI (OJ hl rfl _ e.b (sU _) ob.2) p x hx.2 g5⟩,?_⟩
 have hR2:=acb (l:=(oc e.a y).2) oa.1 ob.1 hR
 rw [hs] at hR2
 have:=Uc hR2 p x hx.1 g5
 rwa [OS p hy] at this
end Go.aK
end
section
set_option maxRecDepth 100000
set_option maxHeartbeats 0
namespace Go.aK
open Go Go.Proofs
noncomputable def acn:=aH Tryz.call16 Tryz.func16 Tryz.ntmps16 [(0,0,1),(0,1,1),(22,8,3003),(24,7,1000)] [(0,[3,4,5,6]),(1,[3,4,5,6,27]),(2,[8]),(3,[3,4,5,6,55]),(4,[8]),(5,[4,5,6,56,57,58]),(6,[4,5,6,56,57,58,59]),(7,[4,5,6,10,56,57,58]),(8,[4,5,6,10,11,12,56,57,58]),(9,[4,5,6,10,11,12,56,57,58,79]),(10,[8]),(11,[4,5,6,10,11,13,56,57,58]),(12,[4,5,6,10,11,13,14,56,57,58]),(13,[4,5,6,10,11,13,14,15,56,57,58]),(14,[4,5,6,10,11,13,14,15,16,56,57,58]),(15,[4,5,6,10,11,13,14,15,16,56,57,58,94]),(16,[4,5,6,10,11,13,14,15,16,56,57,58]),(17,[4,5,6,10,11,13,14,15,16,17,56,57,58]),(18,[4,5,6,10,11,13,14,15,16,17,18,56,57,58]),(19,[4,5,6,10,11,13,14,15,16,17,18,19,20,56,57,58]),(20,[4,5,6,10,11,13,14,15,16,17,18,19,56,57,58,129]),(21,[8]),(22,[4,5,6,10,11,13,14,15,16,17,18,20,21,22,56,57,58]),(23,[4,5,6,10,11,13,14,15,16,17,18,21,56,57,58,143]),(24,[4,5,6,10,11,13,14,15,16,17,20,23,56,57,58]),(25,[4,5,6,10,11,13,14,15,16,17,23,56,57,58,152]),(26,[4,5,6,10,11,13,14,15,16,17,20,56,57,58]),(27,[4,5,6,10,11,13,14,15,16,17,56,57,58,168]),(28,[4,5,6,10,11,13,14,15,16,56,57,58]),(29,[4,5,6,14,56,57,58,177]),(30,[8]),(31,[4,5,6,14,24,25,56,57,58]),(32,[4,5,6,14,56,57,58,192]),(33,[8]),(34,[4,5,6,56,57,58]),(35,[4,5,6,56,57,58]),(36,[8])] [(18,(.take 0 true (.take 1 true (.take 2 true (.take 3 true (.take 4 true (.take 5 false (.take 6 true (.take 7 true (.take 8 true (.br 9 (.br 10 .done .nil) .nil))))))))))),(19,(.take 0 true (.take 1 true (.take 2 true (.take 3 true (.take 4 true (.take 5 false (.take 6 true (.take 7 true (.take 8 true (.take 9 false (.take 10 true (.take 11 true (.take 12 false (.br 13 (.br 14 (.take 15 true .done) .nil) .nil))))))))))))))),(26,(.take 0 true (.take 1 true (.take 2 true (.take 3 true (.take 4 true (.take 5 true (.take 6 true (.take 7 true (.take 8 true (.take 9 true (.take 10 true (.take 11 true (.take 12 true (.take 13 false (.br 14 (.take 15 true .done) .nil))))))))))))))))]
end Go.aK
end
section
set_option maxRecDepth 100000
set_option maxHeartbeats 4000000
namespace Go.aK
open Go Go.Proofs Go.fo
def Jg:Option T→List AV
 | none=>[.int .i64 0,.int .i64 0,.ag]
 | some u=>u.av.cells
theorem gt3 {α:Type} (a b c d:α) (l:List α):(a::b::c::d::l)[3]?=some d:=rfl
theorem st3 {α:Type} (a b c d x:α) (l:List α):(a::b::c::d::l).set 3 x=a::b::c::x::l:=rfl
theorem agm (e:iW) (φ:AV→Prop):cw (some (.cells e.av.cells)) (some 3) 2 φ=φ e.a.av:=by
 obtain ⟨_,_,a,b⟩:=e;cases a;cases b
 simp only [eq_iff_iff,cw]
 constructor
 ·rintro ⟨_,h⟩;exact h
 ·exact fun h=>⟨by simp [iW.av,AV.cells],h⟩
theorem agn (e:iW) (φ:AV→Prop):cw (some (.cells e.av.cells)) (some 3) 5 φ=φ e.b.av:=by
 obtain ⟨_,_,a,b⟩:=e;cases a;cases b
 simp only [eq_iff_iff,cw]
 constructor
 ·rintro ⟨_,h⟩;exact h
 ·exact fun h=>⟨by simp [iW.av,AV.cells],h⟩
theorem c16 (t:Ty) (ps ss:List Int) (x0:T) (st:List Int):Pure Tryz.prog 16 [t.av,eT ps ss,x0.av,.ak 0 (ints st)] (.bool true):=by
 refine fun H=>acn.2.calls rfl ?_
 simp only [acn,aH]
 obtain ⟨q1,q2,q3,q4,q5,q6⟩:=bt ps ss
 obtain ⟨e1,e2,e3,e4,e5,e6⟩:=Ty.facts t
 simp +contextual only [q1,e1,sZ,Nat.reduceEqDiff,Nat.reduceAdd,↓reduceIte,reduceCtorEq]
 refine ae c17 ?_
 have fin:∀ (G:List aa),G.take H.length=H→bT H.length [.t 8] [(8,.bool true)] G fun r H'=>r=.bool true∧H'=H:=fun G hG=>
  aP H.length (sU _) (by rw [ay,if_pos rfl];rfl) ⟨by rw [ay,if_pos rfl],hG⟩
 simp +contextual only [e4,iI,sZ,Nat.reduceEqDiff,Nat.reduceAdd,↓reduceIte]
 refine af (c30 t _) ?_
 rintro r G ⟨⟨b1,rfl⟩,rfl⟩
 cases b1 with
 | false=>simp +contextual only [sZ,Nat.reduceEqDiff,↓reduceIte,reduceCtorEq];exact fin _ (by simp)
 | true=>
 simp +contextual only [aC,q4,cQ,FR,sZ,Nat.reduceEqDiff,Nat.reduceAdd,↓reduceIte]
 refine af (c42 t.s ps ss 40 [x0] _) ?_
 rintro r G' ⟨⟨b2,rfl,hb⟩,rfl⟩
 cases b2 with
 | false=>simp +contextual only [sZ,Nat.reduceEqDiff,↓reduceIte,reduceCtorEq];exact fin _ (by simp)
 | true=>
 obtain ⟨h1,h2,h3⟩:=hb rfl
 have ox0:C8 t.s x0:=Jd.1 (h3 x0 (by simp))
 by_cases X1:(20:Int) < st.length
 ·have f:((20:Int) < st.length)=True:=eq_true X1
  simp +contextual only [au,f,decide_true,sZ,Nat.reduceEqDiff,↓reduceIte,reduceCtorEq]
  exact fun _=>fin _ (by simp)
 have f:((20:Int) < st.length)=False:=eq_false X1
 by_cases hT:FC t=0
 rotate_left
 ·have f1:(FC t=0)=False:=eq_false hT
  simp +contextual only [au,f,decide_false,e4,iI,sZ,Nat.reduceEqDiff,Nat.reduceAdd,↓reduceIte]
  refine fun _=>ae (c62 t) ?_
  simp +contextual only [f1,not_false_eq_true,decide_true,sZ,Nat.reduceEqDiff,↓reduceIte,reduceCtorEq]
  exact fin _ (by simp)
 have c62t:=c62 t
 have c33t:=c33 (c62 t) acg ps ss
 by_cases hc:zz (FC t) t ps ss=0
 rotate_left
 ·have f1:(zz (FC t) t ps ss=0)=False:=eq_false hc
  rw [hT] at c62t
  simp +contextual only [au,f,decide_false,e4,iI,sZ,Nat.reduceEqDiff,Nat.reduceAdd,↓reduceIte]
  refine fun _=>ae c62t ?_
  simp +contextual only [q4,e4,cQ,iI,sZ,Nat.reduceEqDiff,Nat.reduceAdd,↓reduceIte]
  refine ae c33t ?_
  simp +contextual only [f1,not_false_eq_true,decide_true,sZ,Nat.reduceEqDiff,↓reduceIte,reduceCtorEq]
  exact fin _ (by simp)
 have hle:t.es.length≤400:=by
  have hT:=hT
  unfold FC at hT
  split at hT
  ·rename_i h
   unfold SE at h
   simp only [zB,decide_eq_true_eq] at h
   omega
  ·cases hT
 rw [hc] at c33t
 rw [hT] at c62t
 simp +contextual only [au,f,decide_false,e4,iI,sZ,Nat.reduceEqDiff,Nat.reduceAdd,↓reduceIte]
 refine fun _=>ae c62t ?_
 simp +contextual only [q4,e4,cQ,iI,sZ,Nat.reduceEqDiff,Nat.reduceAdd,↓reduceIte]
 refine ae c33t ?_
 simp +contextual only [au,sZ,Nat.reduceEqDiff,↓reduceIte]
 refine fun _=>aD st.length (fun i (x:T)=>C8 t.s x) (fun i x=>[(4,.ah t.av),(5,.ah (eT ps ss)),(6,.ptr H.length 0),(56,.ak 0 (ints st)),(57,.int .i64 st.length),(58,.int .i64 i)]) (fun i x=>H++[.cells x.av.cells]) x0 ⟨ox0,ax _ _ _⟩ fun i x hi ox=>?_
 by_cases hl:i < st.length
 rotate_left
 ·have f1:((i:Int) < st.length)=False:=eq_false (by omega)
  simp +contextual only [f1,sZ,Nat.reduceEqDiff,↓reduceIte,reduceCtorEq]
  exact fin _ (by simp)
 have f1:((i:Int) < st.length)=True:=eq_true (by omega)
 have c56x:=c56 x
 rw [if_pos ox.1,Hi,if_pos ox.1] at c56x
 have vM:(fm x []).length≤2000:=by
  have:=mw x []
  have:=((T.bg x).1 ox.1).1
  omega
 have hp0:0 < (fm x []).length:=by rw [tW];simp
 have hat:∀ q∈fm x [],∃ y,oB x q=some y:=fun q hq=>by
  obtain ⟨z,hz,h⟩:=EG x [] q hq
  rw [List.nil_append] at hz
  subst hz
  exact Option.isSome_iff_exists.1 h
 generalize fm x []=pl at *
 have f2:((pl.length:Int)=0)=False:=eq_false (by omega)
 simp +contextual only [f1,hl,sZ,Nat.reduceEqDiff,Nat.reduceAdd,↓reduceIte]
 refine ae c56x ?_
 by_cases he0:t.es.length=0
 ·have f3:((t.es.length:Int)=0)=True:=eq_true (by omega)
  simp +contextual only [C1,fO,Ph,f2,f3,decide_true,decide_false,sZ,Nat.reduceEqDiff,Nat.reduceAdd,Nat.reduceLT,↓reduceIte,reduceCtorEq]
  exact fun _ _=>fin _ (by simp)
 have f3:((t.es.length:Int)=0)=False:=eq_false (by omega)
 simp +contextual only [C1,fO,Ph,f2,f3,decide_false,sZ,Nat.reduceEqDiff,Nat.reduceAdd,Nat.reduceLT,↓reduceIte]
 intro _ _
 obtain ⟨M,hM⟩:∃ M,pl.length * t.es.length=M:=⟨_,rfl⟩
 have hM0:0 < M:=by rw [← hM];exact Nat.mul_pos hp0 (by omega)
 have hMl:M≤800000:=by rw [← hM];exact Nat.mul_le_mul vM hle
 have f4:IntKind.i64.wrap ((pl.length:Int) * (t.es.length:Int))=(M:Int):=by
  have this:((pl.length:Int) * (t.es.length:Int))=((pl.length * t.es.length:Nat):Int):=by simp
  rw [← hM,cZ _ (by rw [this,hM];omega)]
  simp
 rw [f4]
 generalize st.getD i 0=kk
 refine aD M (fun j (p:Int×Option T)=>-1≤p.1∧(0≤p.1→∃ u,p.2=some u∧C8 t.s u∧R (jy ps ss) x u)) (fun j p=>[(4,.ah t.av),(5,.ah (eT ps ss)),(6,.ptr H.length 0),(10,.int .i64 kk),(11,.ak 0 (sW pl)),(13,.int .i64 p.1),(14,.ptr (H.length + 1) 0),(15,.int .i64 M),(16,.int .i64 j),(56,.ak 0 (ints st)),(57,.int .i64 st.length),(58,.int .i64 i)]) (fun j p=>H++[.cells x.av.cells,.cells (Jg p.2)]) (-1,none) ⟨⟨by omega,fun h=>by omega⟩,ax _ _ _⟩ fun j p hj hI=>?_
 obtain ⟨at_,nx⟩:=p
 obtain ⟨Pj,T3⟩:=hI
 by_cases hgo:j < M∧at_ < 0
 rotate_left
 ·by_cases ha:at_ < 0
  ·have g1:((j:Int) < M)=False:=eq_false fun h=>hgo ⟨by omega,ha⟩
   have g2:(at_ < 0)=True:=eq_true ha
   simp +contextual only [g1,g2,decide_true,decide_false,sZ,Nat.reduceEqDiff,↓reduceIte,reduceCtorEq]
   exact fin _ (by simp)
  ·have g2:(at_ < 0)=False:=eq_false ha
   obtain ⟨u,rfl,ou,hR⟩:=T3 (by omega)
   have g3:=c45 (Sw h1 h2 ox ou)
   rw [sK.2 hR] at g3
   have hz:((j:Int) < M)=False∨((j:Int) < M)=True:=by
    by_cases c:(j:Int) < M
    ·exact .inr (eq_true c)
    ·exact .inl (eq_false c)
   rcases hz with g1 | g1
   all_goals
    simp +contextual only [g1,g2,Jg,decide_false,decide_true,sZ,Nat.reduceEqDiff,Nat.reduceAdd,↓reduceIte,reduceCtorEq]
    refine af (c19 200 [u] _) ?_
    rintro r G2 ⟨⟨b3,rfl⟩,rfl⟩
    cases b3 with
    | false=>simp +contextual only [sZ,Nat.reduceEqDiff,↓reduceIte,reduceCtorEq];exact fin _ (by simp)
    | true=>
    simp +contextual only [aC,q4,cQ,FR,sZ,Nat.reduceEqDiff,Nat.reduceAdd,↓reduceIte]
    refine ae g3 ?_
    simp +contextual only [IG,sZ,Nat.reduceEqDiff,Nat.reduceAdd,Nat.reduceLT,↓reduceIte]
    exact ⟨i + 1,u,⟨hl,ou⟩,by omega,fK (by rw [aq i (by omega)]) (by simp) (by simp [jP,AV.aW,aT,e6,q6]) [.cells u.av.cells] (by simp)⟩
 have g1:((j:Int) < M)=True:=eq_true (by omega)
 have g2:(at_ < 0)=True:=eq_true hgo.2
 obtain ⟨m,hm,hmM⟩:∃ m:Nat,(IntKind.i64.wrap ((j:Int) + IntKind.i64.wrap (kk.tmod M + M))).tmod M=(m:Int)∧m < M:=by
  have a1:(kk.tmod M).natAbs < M:=by
   rw [Int.natAbs_tmod];exact agJ _ (by simpa using hM0)
  have a2:IntKind.i64.wrap (kk.tmod M + M)=kk.tmod M + M:=cZ _ (by omega)
  have a3:IntKind.i64.wrap ((j:Int) + (kk.tmod M + M))=(j:Int) + (kk.tmod M + M):=cZ _ (by omega)
  obtain ⟨s,hs⟩:=acW (show 0≤(j:Int) + (kk.tmod M + M) by omega)
  rw [a2,a3,hs]
  exact ⟨s % M,rfl,agJ _ hM0⟩
 have m1:((m:Int)).tmod (t.es.length:Int)=((m % t.es.length:Nat):Int):=rfl
 have m2:((m:Int)).tdiv (t.es.length:Int)=((m / t.es.length:Nat):Int):=rfl
 have l1:m % t.es.length < t.es.length:=agJ _ (by omega)
 have l2:m / t.es.length < pl.length:=Nat.div_lt_of_lt_mul (by rw [Nat.mul_comm,hM];exact hmM)
 have z1:((M:Int)=0)=False:=eq_false (by omega)
 obtain ⟨e,XV⟩:∃ e,t.es.getD (m % t.es.length) default=e:=⟨_,rfl⟩
 have hem:e∈t.es:=XV ▸ ri l1
 obtain ⟨p,hpq⟩:∃ p,pl.getD (m / t.es.length) default=p:=⟨_,rfl⟩
 obtain ⟨y,hy⟩:=hat p (hpq ▸ ri l2)
 have oy:=OH p ox hy
 obtain ⟨oa,ob,hRe⟩:=OR hT hc hem
 have cat:Pure Tryz.prog 57 [x.av,.ak 0 (ints p)] (.tuple [y.av,.int .i64 0]):=by
  have:=c57 x p
  unfold Ww at this
  rw [if_pos ox.1,hy] at this
  exact this
 obtain ⟨v1,v2,v3,v4,v5,v6⟩:=e.facts
 have wj:=aq j (by omega)
 have sfn:∀ (G:List aa) (K:AV→List aa→Prop),ft 3 .ag G K=K .ag G:=fun _ _=>rfl
 have back (G:List aa):∃ (k:Nat) (p:Int×Option T),(k≤M∧-1≤p.fst∧(0≤p.fst→∃ u,p.snd=some u∧C8 t.s u∧R (jy ps ss) x u))∧M - k < M - j∧sle H.length [(4,.ah t.av),(5,.ah (eT ps ss)),(6,.ptr H.length 0),(10,.int .i64 kk),(11,.ak 0 (sW pl)),(13,.int .i64 at_),(14,.ptr (H.length + 1) 0),(15,.int .i64 M),(16,.int .i64 ((j + 1:Nat):Int)),(56,.ak 0 (ints st)),(57,.int .i64 st.length),(58,.int .i64 i)] (H++.cells x.av.cells::.cells (Jg nx)::G) [(4,.ah t.av),(5,.ah (eT ps ss)),(6,.ptr H.length 0),(10,.int .i64 kk),(11,.ak 0 (sW pl)),(13,.int .i64 p.fst),(14,.ptr (H.length + 1) 0),(15,.int .i64 M),(16,.int .i64 k),(56,.ak 0 (ints st)),(57,.int .i64 st.length),(58,.int .i64 i)] (H++[.cells x.av.cells,.cells (Jg p.snd)]):=
  ⟨j + 1,(at_,nx),⟨by omega,Pj,T3⟩,by omega,fK rfl (by simp) (by simp [jP,AV.aW,aT,sr,e6,q6]) G (by simp)⟩
 have v7:e.av.cells.map AV.ab=e.av.cells:=rfl
 have v8:ai [.ag,.ag,.int .i64 0,.int .i64 0,.ag,.int .i64 0,.int .i64 0,.ag] 0 e.av.cells=e.av.cells:=rfl
 have v9:∀ n,aj n e.av.cells=true:=fun n=>v6 n
 have w2:IntKind.i64.wrap ((m / t.es.length:Nat):Int)=((m / t.es.length:Nat):Int):=by
  generalize m / t.es.length=w at *
  exact cZ _ (by omega)
 simp +contextual only [g1,g2,Ph,fO,decide_true,hm,m1,m2,l1,l2,z1,f3,not_false_eq_true,idx_eq,nT,XV,hpq,vu,v1,v2,v3,v7,v8,v9,w2,Je,FA,sZ,Nat.reduceEqDiff,Nat.reduceAdd,↓reduceIte]
 refine aF cat ?_
 simp +contextual only [gt3,st3,RH,agm,sZ,Nat.reduceEqDiff,Nat.reduceAdd,Nat.reduceLT,↓reduceIte]
 refine af (agk e.a y _) ?_
 intro r G2 hM
 unfold HR at hM
 rw [if_pos ⟨oa.1,oy.1⟩] at hM
 by_cases h4:nH [e.a]≤4000
 rotate_left
 ·rw [if_neg h4] at hM
  obtain ⟨rfl,rfl⟩:=hM
  simp +contextual only [wj,sfn,sZ,Nat.reduceEqDiff,Nat.reduceAdd,Nat.reduceLT,↓reduceIte,Int.reduceEq]
  exact back _
 rw [if_pos h4] at hM
 by_cases hm:(oc e.a y).1=true
 rotate_left
 ·rw [if_neg hm] at hM
  obtain ⟨rfl,rfl⟩:=hM
  simp +contextual only [wj,sfn,sZ,Nat.reduceEqDiff,Nat.reduceAdd,Nat.reduceLT,↓reduceIte]
  exact back _
 rw [if_pos hm] at hM
 obtain ⟨rfl,rfl⟩:=hM
 have fz:∀ K,ft 3 (.ba (H.length + 4) 0 (oc e.a y).2.length (oc e.a y).2.length) (H++[.cells x.av.cells,.cells (Jg nx),.cells e.av.cells,.cells y.av.cells,hZ (oc e.a y).2]) K=K (.ak 0 (bk (oc e.a y).2)) (H++[.cells x.av.cells,.cells (Jg nx),.cells e.av.cells,.cells y.av.cells,.dead]):=fun K=>by
  refine (EE (by simp) (sU _) (aby ..) K).trans ?_
  simp
 have K8:(oc e.a y).2.length * 40≤140737488355328:=by rw [SH];omega
 have c60':=c60 e.b (oc e.a y).2 K8
 have step:=fun h1 h2=>SJ (x:=x) (p:=p) hT hc hem ox hy hm h1 h2
 generalize hu:fj e.b (oc e.a y).2=uu at *
 obtain ⟨u,eu⟩:=uu
 generalize (oc e.a y).2=ll at *
 simp +contextual only [fz,agn,sZ,Nat.reduceEqDiff,Nat.reduceAdd,Nat.reduceLT,↓reduceIte]
 refine ae c60' ?_
 by_cases hS:eu=0
 rotate_left
 ·have z2:(eu=0)=False:=eq_false hS
  simp +contextual only [wj,z2,not_false_eq_true,decide_true,sZ,Nat.reduceEqDiff,Nat.reduceAdd,Nat.reduceLT,↓reduceIte]
  exact back _
 subst hS
 simp +contextual only [decide_false,Ph,fO,m2,w2,l2,Je,FA,hpq,f3,not_false_eq_true,sZ,Nat.reduceEqDiff,Nat.reduceAdd,Nat.reduceLT,↓reduceIte]
 refine aF (c61 x p u) ?_
 generalize hw:qV x p u=ww at *
 obtain ⟨w,ew⟩:=ww
 by_cases hE:ew=0
 ·subst hE
  obtain ⟨ow,hRw⟩:=step rfl rfl
  have nxt (G:List aa):∃ (k:Nat) (p:Int×Option T),(k≤M∧-1≤p.fst∧(0≤p.fst→∃ u,p.snd=some u∧C8 t.s u∧R (jy ps ss) x u))∧M - k < M - j∧sle H.length [(4,.ah t.av),(5,.ah (eT ps ss)),(6,.ptr H.length 0),(10,.int .i64 kk),(11,.ak 0 (sW pl)),(13,.int .i64 m),(14,.ptr (H.length + 1) 0),(15,.int .i64 M),(16,.int .i64 ((j + 1:Nat):Int)),(56,.ak 0 (ints st)),(57,.int .i64 st.length),(58,.int .i64 i)] (H++.cells x.av.cells::.cells w.av.cells::G) [(4,.ah t.av),(5,.ah (eT ps ss)),(6,.ptr H.length 0),(10,.int .i64 kk),(11,.ak 0 (sW pl)),(13,.int .i64 p.fst),(14,.ptr (H.length + 1) 0),(15,.int .i64 M),(16,.int .i64 k),(56,.ak 0 (ints st)),(57,.int .i64 st.length),(58,.int .i64 i)] (H++[.cells x.av.cells,.cells (Jg p.snd)]):=
   ⟨j + 1,(m,some w),⟨by omega,by omega,fun _=>⟨w,rfl,ow,hRw⟩⟩,by omega,fK rfl (by simp) (by simp [jP,AV.aW,aT,sr,e6,q6]) G (by simp [Jg])⟩
  cases nx with
  | none=>
    simp +contextual only [wj,Jg,RH,decide_true,sZ,Nat.reduceEqDiff,Nat.reduceAdd,Nat.reduceLT,↓reduceIte]
    exact nxt _
  | some n0=>
    simp +contextual only [wj,Jg,IG,decide_true,sZ,Nat.reduceEqDiff,Nat.reduceAdd,Nat.reduceLT,↓reduceIte]
    exact nxt _
 ·have nxt (G:List aa):∃ (k:Nat) (p:Int×Option T),(k≤M∧-1≤p.fst∧(0≤p.fst→∃ u,p.snd=some u∧C8 t.s u∧R (jy ps ss) x u))∧M - k < M - j∧sle H.length [(4,.ah t.av),(5,.ah (eT ps ss)),(6,.ptr H.length 0),(10,.int .i64 kk),(11,.ak 0 (sW pl)),(13,.int .i64 at_),(14,.ptr (H.length + 1) 0),(15,.int .i64 M),(16,.int .i64 ((j + 1:Nat):Int)),(56,.ak 0 (ints st)),(57,.int .i64 st.length),(58,.int .i64 i)] (H++.cells x.av.cells::.cells w.av.cells::G) [(4,.ah t.av),(5,.ah (eT ps ss)),(6,.ptr H.length 0),(10,.int .i64 kk),(11,.ak 0 (sW pl)),(13,.int .i64 p.fst),(14,.ptr (H.length + 1) 0),(15,.int .i64 M),(16,.int .i64 k),(56,.ak 0 (ints st)),(57,.int .i64 st.length),(58,.int .i64 i)] (H++[.cells x.av.cells,.cells (Jg p.snd)]):=
   ⟨j + 1,(at_,some w),⟨by omega,Pj,fun h=>absurd h (by have:=hgo.2;omega)⟩,by omega,fK rfl (by simp) (by simp [jP,AV.aW,aT,sr,e6,q6]) G (by simp [Jg])⟩
  have z3:(ew=0)=False:=eq_false hE
  cases nx with
  | none=>
    simp +contextual only [wj,Jg,RH,z3,decide_false,sZ,Nat.reduceEqDiff,Nat.reduceAdd,Nat.reduceLT,↓reduceIte]
    exact nxt _
  | some n0=>
    simp +contextual only [wj,Jg,IG,z3,decide_false,sZ,Nat.reduceEqDiff,Nat.reduceAdd,Nat.reduceLT,↓reduceIte]
    exact nxt _
end Go.aK
end
section
set_option maxRecDepth 100000
namespace Go.aK
open Go Go.RowKit Go.fo
section
variable {H:Type} {enc:TypeId×Value→H} {P:Program} {w:World} {base:Nat} {sp:Nat→Bool} {held:Bool}
def Rd {H:Type} (enc:TypeId×Value→H) (P:Program) (w:World) (base:Nat) (sp:Nat→Bool) (held:Bool) {α:Type} (t:TypeId) (g:α→AV) (R:DataW H→α→Prop):Prop:=
 ∀ (fuel:Nat) (cs:List Value) (x:DataW H×List MemPlace),DataW.trod enc P w base sp held fuel t cs=some x→∃ a,aM (dK w) [] cs (g a).cells∧R x.1 a
theorem HS {ti:TypeId} (h:P.underlying ti=some (.int .i64)):Rd enc P w base sp held ti (fun n:Int=>.int .i64 n) (fun _ _=>True):=by
 intro fuel cs x hx
 obtain ⟨k,rfl,_,_⟩:=DataW.trod_int h hx
 exact ⟨k,.cons _ _ _ _ (.int _ _) .nil,trivial⟩
theorem OT {ti:TypeId} (h:P.underlying ti=some .string):Rd enc P w base sp held ti (fun s:ByteArray=>.str s) (fun _ _=>True):=by
 intro fuel cs x hx
 obtain ⟨k,rfl,_,_⟩:=DataW.trod_string h hx
 exact ⟨k,.cons _ _ _ _ (.str _) .nil,trivial⟩
def yG {α:Type} (d:DataW H) (l:List α):Prop:=match d with | .slice es _=>l.length=es.length | _=>l=[]
theorem mM {α:Type} [Inhabited α] {te tl:TypeId} {g:α→AV} {R:DataW H→α→Prop} {e:Nat} (hl:P.underlying tl=some (.slice te)) (hc:P.cellsOf te=e) (he:0 < e) (h:Rd enc P w base sp held te g R) :
 Rd enc P w base sp held tl (fun l:List α=>.ak 0 (l.map g)) yG:=by
 intro fuel cs x hx
 rcases DataW.trod_slice hl hx with ⟨rfl,rfl⟩ | ⟨a,len,cap,elems,rest,m,hm,rfl,rfl,hb,hle,cc,XF,kw,_,_⟩
 ·exact ⟨[],.cons _ _ _ _ aX.ag.drop .nil,rfl⟩
 ·rw [hc] at kw
  have hex:∀ i,i < len→∃ t:α,∃ cs',w.cells? base (a.add (i * e)) e=some cs'∧aM (dK w) [] cs' (g t).cells:=by
   intro i hi
   have:=kw i hi
   rw [aaf (by omega)] at this
   obtain ⟨cs',k1,k2⟩:=Option.bind_eq_some_iff.1 this
   obtain ⟨t,ht,_⟩:=h _ _ _ k2
   exact ⟨t,cs',k1,ht⟩
  have hf:∃ f:Nat→α,∀ i,i < len→∃ cs',w.cells? base (a.add (i * e)) e=some cs'∧aM (dK w) [] cs' (g (f i)).cells:=by
   refine ⟨fun i=>if hi:i < len then Classical.choose (hex i hi) else default,fun i hi=>?_⟩
   simp only [dif_pos hi]
   exact Classical.choose_spec (hex i hi)
  obtain ⟨f,hf⟩:=hf
  refine ⟨(List.range len).map f,.cons _ _ _ _ ?_ .nil,by simp [yG,XF]⟩
  show aX (dK w) [] _ (.ak 0 (((List.range len).map f).map g))
  rw [ada]
  refine Am (e:=e) (base:=base) he hle cc (fun i=>if hi:i < len then Classical.choose (hf i hi) else []) _ fun i hi=>?_
  simp only [dif_pos hi]
  exact Classical.choose_spec (hf i hi)
structure oe (P:Program) (ti ts tis tss top tops tsig:TypeId):Prop where
 int:P.underlying ti=some (.int .i64)
 str:P.underlying ts=some .string
 ints:P.underlying tis=some (.slice ti)
 strs:P.underlying tss=some (.slice ts)
 op:∃ f0 f1 f2:Field,P.underlying top=some (.struct #[f0,f1,f2])∧f0.type=ts∧f0.offset=0∧f1.type=tis∧f1.offset=1∧f2.type=ti∧f2.offset=2
 ops:P.underlying tops=some (.slice top)
 sig:∃ f0 f1:Field,P.underlying tsig=some (.struct #[f0,f1])∧f0.type=tss∧f0.offset=0∧f1.type=tops∧f1.offset=1
 c:P.cellsOf ti=1∧P.cellsOf ts=1∧P.cellsOf tis=1∧P.cellsOf tss=1∧P.cellsOf top=3∧P.cellsOf tops=1∧P.cellsOf tsig=2
variable {ti ts tis tss top tops tsig:TypeId}
theorem kW {v:List Value} {x:AV} (h:aM (dK w) [] v [x]):∃ u,v=[u]∧aX (dK w) [] u x:=by
 cases h with
 | cons v x vs xs h t=>cases t;exact ⟨_,rfl,h⟩
theorem wH (S:oe P ti ts tis tss top tops tsig):Rd enc P w base sp held tis (fun l:List Int=>.ak 0 (ints l)) yG:=mM S.ints S.c.1 (by decide) (HS S.int)
theorem SK (S:oe P ti ts tis tss top tops tsig):Rd enc P w base sp held tss (fun l:List ByteArray=>.ak 0 (strs l)) yG:=mM S.strs S.c.2.1 (by decide) (OT S.str)
theorem aco (S:oe P ti ts tis tss top tops tsig):Rd enc P w base sp held top iK.av (fun _ _=>True):=by
 intro fuel cs x h
 obtain ⟨f0,f1,f2,hu,h0,o0,h1,o1,h2,o2⟩:=S.op
 obtain ⟨c1,c2,c3,c4,c5,c6,c7⟩:=S.c
 obtain ⟨xs,m,rfl,rfl,hlen,eK,hf⟩:=DataW.trod_struct hu h
 have g0:=hf 0 f0 rfl
 have g1:=hf 1 f1 rfl
 have g2:=hf 2 f2 rfl
 rw [h0,o0,c2] at g0
 rw [h1,o1,c3] at g1
 rw [h2,o2,c1] at g2
 simp at eK
 rw [c5] at hlen
 match cs,hlen with
 | [a,b,c],_=>
   have e0:xs[0]?=some xs[0]:=by simp [eK]
   have e1:xs[1]?=some xs[1]:=by simp [eK]
   have e2:xs[2]?=some xs[2]:=by simp [eK]
   rw [e0] at g0;rw [e1] at g1;rw [e2] at g2
   obtain ⟨nm,r0,_⟩:=OT S.str _ _ _ g0
   obtain ⟨ar,r1,_⟩:=wH S _ _ _ g1
   obtain ⟨re,r2,_⟩:=HS S.int _ _ _ g2
   obtain ⟨_,q0,r0⟩:=kW r0
   obtain ⟨_,q1,r1⟩:=kW r1
   obtain ⟨_,q2,r2⟩:=kW r2
   simp at q0 q1 q2
   subst q0 q1 q2
   exact ⟨⟨nm,ar,re⟩,.cons _ _ _ _ r0 (.cons _ _ _ _ r1 (.cons _ _ _ _ r2 .nil)),trivial⟩
theorem Xu (S:oe P ti ts tis tss top tops tsig):Rd enc P w base sp held tops (fun l:List iK=>.ak 0 (pf l)) yG:=mM S.ops S.c.2.2.2.2.1 (by decide) (aco S)
theorem Xv (S:oe P ti ts tis tss top tops tsig):Rd enc P w base sp held tsig Sg.av (fun _ _=>True):=by
 intro fuel cs x h
 obtain ⟨f0,f1,hu,h0,o0,h1,o1⟩:=S.sig
 obtain ⟨c1,c2,c3,c4,c5,c6,c7⟩:=S.c
 obtain ⟨xs,m,rfl,rfl,hlen,eK,hf⟩:=DataW.trod_struct hu h
 have g0:=hf 0 f0 rfl
 have g1:=hf 1 f1 rfl
 rw [h0,o0,c4] at g0
 rw [h1,o1,c6] at g1
 simp at eK
 rw [c7] at hlen
 match cs,hlen with
 | [a,b],_=>
   have e0:xs[0]?=some xs[0]:=by simp [eK]
   have e1:xs[1]?=some xs[1]:=by simp [eK]
   rw [e0] at g0;rw [e1] at g1
   obtain ⟨nm,r0,_⟩:=SK S _ _ _ g0
   obtain ⟨ar,r1,_⟩:=Xu S _ _ _ g1
   obtain ⟨_,q0,r0⟩:=kW r0
   obtain ⟨_,q1,r1⟩:=kW r1
   simp at q0 q1
   subst q0 q1
   exact ⟨⟨nm,ar⟩,.cons _ _ _ _ r0 (.cons _ _ _ _ r1 .nil),trivial⟩
structure Xw (P:Program) (tis tod:TypeId):Prop where
 od:∃ f0 f1:Field,P.underlying tod=some (.struct #[f0,f1])∧f0.type=tis∧f0.offset=0∧f1.type=tis∧f1.offset=1
 c:P.cellsOf tod=2
theorem acp (S:oe P ti ts tis tss top tops tsig) {tod:TypeId} (O:Xw P tis tod):Rd enc P w base sp held tod (fun o:List Int×List Int=>eT o.1 o.2) (fun _ _=>True):=by
 intro fuel cs x h
 obtain ⟨f0,f1,hu,h0,o0,h1,o1⟩:=O.od
 obtain ⟨c1,c2,c3,c4,c5,c6,c7⟩:=S.c
 obtain ⟨xs,m,rfl,rfl,hlen,eK,hf⟩:=DataW.trod_struct hu h
 have g0:=hf 0 f0 rfl
 have g1:=hf 1 f1 rfl
 rw [h0,o0,c3] at g0
 rw [h1,o1,c3] at g1
 simp at eK
 rw [O.c] at hlen
 match cs,hlen with
 | [a,b],_=>
   have e0:xs[0]?=some xs[0]:=by simp [eK]
   have e1:xs[1]?=some xs[1]:=by simp [eK]
   rw [e0] at g0;rw [e1] at g1
   obtain ⟨nm,r0,_⟩:=wH S _ _ _ g0
   obtain ⟨ar,r1,_⟩:=wH S _ _ _ g1
   obtain ⟨_,q0,r0⟩:=kW r0
   obtain ⟨_,q1,r1⟩:=kW r1
   simp at q0 q1
   subst q0 q1
   exact ⟨(nm,ar),.cons _ _ _ _ r0 (.cons _ _ _ _ r1 .nil),trivial⟩
theorem SL (S:oe P ti ts tis tss top tops tsig) {tod:TypeId} (O:Xw P tis tod) {r:Reach} {b0:Nat} {v:Value} {d:DataW H} {ps:List MemPlace} (kX:Value.okWide P w r b0 tod v) (hd:DataW.Trod enc P w base sp held tod v d ps):∃ pl st:List Int,aX (dK w) [] v (eT pl st):=by
 obtain ⟨f0,f1,hu,_⟩:=O.od
 obtain ⟨cs,rfl,_⟩:=WideShapes.okWide_struct hu kX
 obtain ⟨fuel,hf⟩:=hd
 obtain ⟨o,h1,_⟩:=acp S O _ _ _ hf
 refine ⟨o.1,o.2,?_⟩
 have:aX (dK w) [] (.agg cs.toList.toArray) (eT o.1 o.2):=.agg _ _ h1
 simpa using this
end
end Go.aK
end
section
namespace Go.aK
open Go Go.RowKit Go.fo
section
variable {H:Type} {enc:TypeId×Value→H} {P:Program} {w:World} {base:Nat} {sp:Nat→Bool} {held:Bool}
theorem SM {ti tl:TypeId} (hi:P.underlying ti=some (.int .i64)) (hl:P.underlying tl=some (.slice ti)) (hc:P.cellsOf ti=1) {r:Reach} {b0:Nat} {v:Value} {d:DataW H} {ps:List MemPlace} (kX:Value.okWide P w r b0 tl v) (hd:DataW.Trod enc P w base sp held tl v d ps) :
 ∃ l:List Int,aX (dK w) [] v (.ak 0 (ints l)):=by
 obtain ⟨a,len,cap,rfl⟩:=WideShapes.okWide_slice hl kX
 obtain ⟨fuel,hf⟩:=hd
 obtain ⟨l,hr,_⟩:=mM (g:=fun n:Int=>.int .i64 n) hl hc (by decide) (HS hi) _ _ _ hf
 refine ⟨l,?_⟩
 simp only [Value.cells] at hr
 cases hr with
 | cons v x vs xs h t=>exact h
end
end Go.aK
end
section
set_option maxRecDepth 100000
namespace Go.aK
open Go Go.RowKit Go.fo
section
variable {H:Type} {enc:TypeId×Value→H} {P:Program} {w:World} {base:Nat} {sp:Nat→Bool} {held:Bool}
variable {ti ts tis tss top tops tsig tt tl tc tcs tq tqs ty:TypeId}
structure HT (P:Program) (tis tsig tt tc tcs tq tqs ty:TypeId):Prop where
 pair:∃ f0 f1:Field,P.underlying tc=some (.struct #[f0,f1])∧f0.type=tt∧f0.offset=0∧f1.type=tt∧f1.offset=3
 acq:P.underlying tcs=some (.slice tc)
 eqn:∃ f0 f1 f2 f3:Field,P.underlying tq=some (.struct #[f0,f1,f2,f3])∧(f0.type=tis∧f0.offset=0)∧(f1.type=tcs∧f1.offset=1)∧(f2.type=tt∧f2.offset=2)∧(f3.type=tt∧f3.offset=5)
 agp:P.underlying tqs=some (.slice tq)
 typ:∃ f0 f1:Field,P.underlying ty=some (.struct #[f0,f1])∧f0.type=tsig∧f0.offset=0∧f1.type=tqs∧f1.offset=2
 c:P.cellsOf tc=6∧P.cellsOf tcs=1∧P.cellsOf tq=8∧P.cellsOf tqs=1∧P.cellsOf ty=3
theorem SN (hT:lT P ti tt tl):Rd enc P w base sp held tt T.av (fun _ _=>True):=by
 intro fuel cs x hx
 obtain ⟨t,h1,_⟩:=(Az hT fuel).1 _ _ hx
 exact ⟨t,h1,trivial⟩
theorem acr (hT:lT P ti tt tl) (Y:HT P tis tsig tt tc tcs tq tqs ty):Rd enc P w base sp held tc Cn.av (fun _ _=>True):=by
 intro fuel cs x h
 obtain ⟨f0,f1,hu,h0,o0,h1,o1⟩:=Y.pair
 obtain ⟨c1,c2,c3,c4,c5⟩:=Y.c
 obtain ⟨xs,m,rfl,rfl,hlen,eK,hf⟩:=DataW.trod_struct hu h
 have g0:=hf 0 f0 rfl
 have g1:=hf 1 f1 rfl
 rw [h0,o0,hT.c3] at g0
 rw [h1,o1,hT.c3] at g1
 simp at eK
 rw [c1] at hlen
 match cs,hlen with
 | [a,b,c,d,e,f],_=>
   have e0:xs[0]?=some xs[0]:=by simp [eK]
   have e1:xs[1]?=some xs[1]:=by simp [eK]
   rw [e0] at g0;rw [e1] at g1
   obtain ⟨⟨k,n,l⟩,r0,_⟩:=SN hT _ _ _ g0
   obtain ⟨⟨k',n',l'⟩,r1,_⟩:=SN hT _ _ _ g1
   have r0':aM (dK w) [] [a,b,c] [.int .i64 k,.int .i64 n,.ak 0 (bk l)]:=r0
   have r1':aM (dK w) [] [d,e,f] [.int .i64 k',.int .i64 n',.ak 0 (bk l')]:=r1
   exact ⟨⟨.mk k n l,.mk k' n' l'⟩,r0'.append r1',trivial⟩
theorem Xx (hT:lT P ti tt tl) (Y:HT P tis tsig tt tc tcs tq tqs ty):Rd enc P w base sp held tcs (fun l:List Cn=>.ak 0 (sL l)) yG:=mM Y.acq Y.c.1 (by decide) (acr hT Y)
theorem Xy (S:oe P ti ts tis tss top tops tsig) (hT:lT P ti tt tl) (Y:HT P tis tsig tt tc tcs tq tqs ty):Rd enc P w base sp held tq iW.av (fun _ _=>True):=by
 intro fuel cs x h
 obtain ⟨f0,f1,f2,f3,hu,⟨h0,o0⟩,⟨h1,o1⟩,⟨h2,o2⟩,⟨h3,o3⟩⟩:=Y.eqn
 obtain ⟨c1,c2,c3,c4,c5⟩:=Y.c
 obtain ⟨xs,m,rfl,rfl,hlen,eK,hf⟩:=DataW.trod_struct hu h
 have g0:=hf 0 f0 rfl
 have g1:=hf 1 f1 rfl
 have g2:=hf 2 f2 rfl
 have g3:=hf 3 f3 rfl
 rw [h0,o0,S.c.2.2.1] at g0
 rw [h1,o1,c2] at g1
 rw [h2,o2,hT.c3] at g2
 rw [h3,o3,hT.c3] at g3
 simp at eK
 rw [c3] at hlen
 match cs,hlen with
 | [a,b,c,d,e,f,g,i],_=>
   have e0:xs[0]?=some xs[0]:=by simp [eK]
   have e1:xs[1]?=some xs[1]:=by simp [eK]
   have e2:xs[2]?=some xs[2]:=by simp [eK]
   have e3:xs[3]?=some xs[3]:=by simp [eK]
   rw [e0] at g0;rw [e1] at g1;rw [e2] at g2;rw [e3] at g3
   obtain ⟨vs,r0,_⟩:=wH S _ _ _ g0
   obtain ⟨cn,r1,_⟩:=Xx hT Y _ _ _ g1
   obtain ⟨⟨k,n,l⟩,r2,_⟩:=SN hT _ _ _ g2
   obtain ⟨⟨k',n',l'⟩,r3,_⟩:=SN hT _ _ _ g3
   have r0':aM (dK w) [] [a] [.ak 0 (ints vs)]:=r0
   have r1':aM (dK w) [] [b] [.ak 0 (sL cn)]:=r1
   have r2':aM (dK w) [] [c,d,e] [.int .i64 k,.int .i64 n,.ak 0 (bk l)]:=r2
   have r3':aM (dK w) [] [f,g,i] [.int .i64 k',.int .i64 n',.ak 0 (bk l')]:=r3
   exact ⟨⟨vs,cn,.mk k n l,.mk k' n' l'⟩,r0'.append (r1'.append (r2'.append r3')),trivial⟩
theorem SO (S:oe P ti ts tis tss top tops tsig) (hT:lT P ti tt tl) (Y:HT P tis tsig tt tc tcs tq tqs ty):Rd enc P w base sp held tqs (fun l:List iW=>.ak 0 (nS l)) yG:=mM Y.agp Y.c.2.2.1 (by decide) (Xy S hT Y)
theorem acs (S:oe P ti ts tis tss top tops tsig) (hT:lT P ti tt tl) (Y:HT P tis tsig tt tc tcs tq tqs ty):Rd enc P w base sp held ty Ty.av (fun _ _=>True):=by
 intro fuel cs x h
 obtain ⟨f0,f1,hu,h0,o0,h1,o1⟩:=Y.typ
 obtain ⟨c1,c2,c3,c4,c5⟩:=Y.c
 obtain ⟨xs,m,rfl,rfl,hlen,eK,hf⟩:=DataW.trod_struct hu h
 have g0:=hf 0 f0 rfl
 have g1:=hf 1 f1 rfl
 rw [h0,o0,S.c.2.2.2.2.2.2] at g0
 rw [h1,o1,c4] at g1
 simp at eK
 rw [c5] at hlen
 match cs,hlen with
 | [a,b,c],_=>
   have e0:xs[0]?=some xs[0]:=by simp [eK]
   have e1:xs[1]?=some xs[1]:=by simp [eK]
   rw [e0] at g0;rw [e1] at g1
   obtain ⟨s,r0,_⟩:=Xv S _ _ _ g0
   obtain ⟨es,r1,_⟩:=SO S hT Y _ _ _ g1
   have r0':aM (dK w) [] [a,b] [.ak 0 (strs s.a9),.ak 0 (pf s.ops)]:=r0
   have r1':aM (dK w) [] [c] [.ak 0 (nS es)]:=r1
   exact ⟨⟨s,es⟩,r0'.append r1',trivial⟩
theorem SP (S:oe P ti ts tis tss top tops tsig) (hT:lT P ti tt tl) (Y:HT P tis tsig tt tc tcs tq tqs ty) {r:Reach} {b0:Nat} {v:Value} {d:DataW H} {ps:List MemPlace} (kX:Value.okWide P w r b0 ty v) (hd:DataW.Trod enc P w base sp held ty v d ps):∃ t:Ty,aX (dK w) [] v t.av:=by
 obtain ⟨f0,f1,hu,_⟩:=Y.typ
 obtain ⟨cs,rfl,_⟩:=WideShapes.okWide_struct hu kX
 obtain ⟨fuel,hf⟩:=hd
 obtain ⟨o,h1,_⟩:=acs S hT Y _ _ _ hf
 refine ⟨o,?_⟩
 have:aX (dK w) [] (.agg cs.toList.toArray) o.av:=.agg _ _ h1
 simpa using this
end
end Go.aK
end
section
set_option maxRecDepth 100000
namespace Go.Proofs.YtljchnfgjdjobaaGreat
open Go
theorem Xz:laidOutB Tryz.checked.prog=true:=by kernel_rfl
theorem XA:mapsRowed Tryz.checked.prog=true:=by kernel_rfl
theorem SQ:Tryz.checked.prog.stopsHeard=true:=by kernel_rfl
theorem SR:Tryz.checked.prog.mayEnter=true:=by kernel_rfl
theorem SS:Tryz.checked.prog.liftsFinal=false:=by kernel_rfl
end Go.Proofs.YtljchnfgjdjobaaGreat
end
