/- Part 19 of 20 of the proof. -/
import Derived.Test.YtljchnfgjdjobaaGreatWar
import Derived.Test.YtljchnfgjdjobaaGreatWaq
import Derived.Test.YtljchnfgjdjobaaGreatWan
import Derived.Test.YtljchnfgjdjobaaGreatWap
import Derived.Test.YtljchnfgjdjobaaGreatProg
import Derived.KernelRfl
import Derived.Test.YtljchnfgjdjobaaGreatWaf
import Derived.Test.YtljchnfgjdjobaaGreatWak
import Derived.Test.YtljchnfgjdjobaaGreatWao
import Derived.Test.YtljchnfgjdjobaaGreatRows
import Derived.ProofKit
set_option linter.unusedVariables false
set_option linter.unusedSimpArgs false
set_option linter.defProp false
set_option linter.unusedSectionVars false
section
set_option maxRecDepth 100000
set_option maxHeartbeats 1000000
namespace Go.aI
open Go Go.Proofs Go.dV
theorem tn (b:Nat) (vs:List T) (n m:T) (o:Nat) (ψ:List AV→Prop):bw 3 b (uk vs) (.aj o [n.av,m.av]) ψ=((vs.length + 2) * b≤140737488355328∧ψ (ca (vs++[n,m]))):=by
 have jF:qQ 3 [n.av,m.av]=True:=Cp [n,m]
 cases vs with
 | nil=>simp only [uk,lE,jF];simp [ca]
 | cons v r=>
   show bw 3 b (.aj 3 (ca (v::r))) _ ψ=_
   rw [j3,jF,sK,show ca (v::r)++[n.av,m.av]=ca ((v::r)++[n,m]) from (wK (v::r) [n,m]).symm]
   simp
theorem Jl (vs:List T) (n m:T):AV.aj 3 (ca (vs++[n,m]))=uk (vs++[n,m]):=by cases vs <;> rfl
theorem c30 (t:Ty) (H:List aa):ax Tryz.prog 30 [t.av] H fun r H'=>(∃ b,r=.bool b)∧H'=H:=by
 refine k30.2.calls rfl ?_
 simp only [k30,aH]
 obtain ⟨e1,e2,e3,e4,e5,e6⟩:=Ty.facts t
 have fin (G:List aa) (hG:G.take H.length=H) (b:Bool):bS H.length [.t 2] [(2,.bool b)] G fun r H'=>(∃ b,r=.bool b)∧H'=H:=
  a8 H.length (tv _) (by rw [aC,if_pos rfl];rfl) ⟨⟨b,by rw [aC,if_pos rfl]⟩,hG⟩
 by_cases h1:(30:Int) < t.es.length
 ·have f:((30:Int) < t.es.length)=True:=eq_true h1
  simp +contextual only [e1,Lh,eL,f,sZ,Nat.reduceEqDiff,Nat.reduceAdd,↓reduceIte,reduceCtorEq]
  exact fun _=>fin _ (by simp) _
 have f:((30:Int) < t.es.length)=False:=eq_false h1
 simp +contextual only [e1,Lh,eL,f,sZ,Nat.reduceEqDiff,Nat.reduceAdd,↓reduceIte]
 refine fun _=>aG t.es.length (fun i (l:List T)=>l.length≤42 * i) (fun i l=>[(1,.ai t.av),(3,uk l),(13,.aj 0 (nZ t.es)),(14,.int .i64 t.es.length),(15,.int .i64 i)]) (fun _ _=>H) [] ⟨by simp,aA _ _ _⟩ fun i l hi hI=>?_
 by_cases hl:i < t.es.length
 rotate_left
 ·have f1:((i:Int) < t.es.length)=False:=eq_false (by omega)
  simp +contextual only [aB,Dc,f1,sZ,Nat.reduceEqDiff,Nat.reduceAdd,↓reduceIte]
  refine Ec (c18 t.s [] [] H) (ys:=[t.s.av,eN [] []]) ⟨.inl rfl,.inr (.inr (.inr (.inr ⟨_,rfl,rfl⟩))),trivial⟩ ?_
  rintro r G ⟨⟨b,rfl,_⟩,rfl⟩
  cases b with
  | false=>simp +contextual only [sZ,Nat.reduceEqDiff,↓reduceIte,reduceCtorEq];exact fin _ (by simp) _
  | true=>
    have e7:(uk l).ab.ab.le (.aj 0 (ca l)):=by cases l with | nil=>exact .inr (.inr (.inr (.inl ⟨rfl,0,rfl⟩))) | cons x r=>exact .inl rfl
    simp +contextual only [sZ,Nat.reduceEqDiff,Nat.reduceAdd,↓reduceIte]
    refine Ec (c19 600 l G) (ys:=[.int .i64 600,.aj 0 (ca l)]) ⟨.inl rfl,e7,trivial⟩ ?_
    rintro r G2 ⟨⟨b,rfl⟩,rfl⟩
    simp +contextual only [sZ,Nat.reduceEqDiff,↓reduceIte,reduceCtorEq]
    exact fin _ (by simp) _
 have f1:((i:Int) < t.es.length)=True:=eq_true (by omega)
 obtain ⟨q,hq⟩:∃ q,t.es.getD i default=q:=⟨_,rfl⟩
 obtain ⟨g1,g2,g3,g4,g5,g6⟩:=q.facts
 by_cases h2:(20:Int) < q.cs.length
 ·have f2:((20:Int) < q.cs.length)=True:=eq_true h2
  simp +contextual only [g1,g2,g3,lL,idx_eq,s9,FR,Pa,E3,hq,f1,f2,hl,dq,tn,Jl,decide_true,sZ,Nat.reduceEqDiff,↓reduceIte,reduceCtorEq]
  exact ⟨by omega,fun _=>fin _ (by simp) _⟩
 have f2:((20:Int) < q.cs.length)=False:=eq_false h2
 by_cases h3:(100:Int) < q.vs.length
 ·have f3:((100:Int) < q.vs.length)=True:=eq_true h3
  simp +contextual only [g1,g2,g3,lL,idx_eq,s9,FR,Pa,E3,Fy,hq,f1,f2,f3,hl,aw,dq,tn,Jl,decide_true,decide_false,sZ,Nat.reduceEqDiff,↓reduceIte,reduceCtorEq]
  exact ⟨by omega,fun _ _=>fin _ (by simp) _⟩
 have f3:((100:Int) < q.vs.length)=False:=eq_false h3
 simp +contextual only [g1,g2,g3,lL,idx_eq,s9,FR,Pa,E3,Fy,hq,f1,f2,f3,hl,aw,dq,tn,Jl,decide_false,sZ,Nat.reduceEqDiff,↓reduceIte]
 refine ⟨by omega,fun _ _=>aG q.cs.length (fun k (m:List T)=>m.length≤42 * i + 2 + 2 * k) (fun k m=>[(1,.ai t.av),(3,uk m),(13,.aj 0 (nZ t.es)),(14,.int .i64 t.es.length),(15,.int .i64 i),(37,.aj 0 (s5 q.cs)),(38,.int .i64 q.cs.length),(39,.int .i64 k)]) (fun _ _=>H) (l++[q.a,q.b]) ⟨by rw [aaj];show l.length + 2≤_;omega,aA _ _ _⟩ fun k m hk hK=>?_⟩
 by_cases C8:k < q.cs.length
 ·have f4:((k:Int) < q.cs.length)=True:=eq_true (by omega)
  obtain ⟨c1,c2,c3,c4,c5,c6⟩:=(q.cs.getD k default).facts
  simp +contextual only [c1,c2,c3,WB,WC,ry,nV,NH,f4,C8,tn,Jl,sZ,Nat.reduceEqDiff,↓reduceIte]
  exact ⟨by omega,k + 1,m++[(q.cs.getD k default).a,(q.cs.getD k default).b],⟨C8,by rw [aaj];show m.length + 2≤_;omega⟩,by omega,aD (by rw [aq k (by omega)]) rfl⟩
 ·have f4:((k:Int) < q.cs.length)=False:=eq_false (by omega)
  simp +contextual only [f4,sZ,Nat.reduceEqDiff,↓reduceIte]
  exact ⟨i + 1,m,⟨hl,by omega⟩,by omega,aD (by rw [aq i (by omega)]) rfl⟩
end Go.aI
end
section
set_option maxRecDepth 100000
set_option maxHeartbeats 2000000
namespace Go.aI
open Go Go.Proofs Go.dV
theorem HS {l:List T} (h:∀ t∈l,t.tree=true):dU l=true:=by
 induction l with
 | nil=>rfl
 | cons x r ih=>
   simp only [dU,zU]
   exact ⟨((T.dg x).1 (h x (by simp))).2.2,ih fun t ht=>h t (by simp [ht])⟩
theorem Jm {v:Int}:∀ {l:List T},v∈RF l↔∃ t∈l,v∈t.fv
 | []=>by simp [RF]
 | x::r=>by simp [RF,Jm (l:=r)]
theorem qj {l:List T} (h:∀ t∈l,t.tree=true) {v:Int}:v∈eS l↔∃ t∈l,v∈t.fv:=by
 have hb:kY l=true:=aaO.2 h
 rw [eS,if_pos hb,← sN l [] (HS h),rn,Jm];simp
theorem agl {s:Sg} (hs:SmG s) (e:ju):Pure Tryz.prog 210 [s.av,e.av] (.bool (jd s e)):=by
 refine fun H=>Y9.2.calls rfl ?_
 simp only [Y9,aH]
 obtain ⟨g1,g2,g3,g4,g5,g6⟩:=e.facts
 have bad (h:jd s e=false):bS H.length [.t 4] [(4,.bool false)] H fun r H'=>r=.bool (jd s e)∧H'=H:=aM rfl (by rw [h])
 by_cases f1:(e.vs.length:Int)≤64
 rotate_left
 ·have f1':(64 < (e.vs.length:Int))=True:=eq_true (by omega)
  simp +contextual only [aB,g1,Fy,aw,f1',decide_true,sZ,Nat.reduceEqDiff,Nat.reduceAdd,↓reduceIte,reduceCtorEq]
  exact fun _=>bad (by unfold jd;rw [decide_eq_false f1];rfl)
 have f1':(64 < (e.vs.length:Int))=False:=eq_false (by omega)
 by_cases f2:(e.cs.length:Int)≤8
 rotate_left
 ·have f2':(8 < (e.cs.length:Int))=True:=eq_true (by omega)
  simp +contextual only [aB,g1,Fy,E3,aw,dq,f1',f2',decide_true,decide_false,sZ,Nat.reduceEqDiff,Nat.reduceAdd,↓reduceIte,reduceCtorEq]
  exact fun _ _=>bad (by unfold jd;rw [decide_eq_true f1,decide_eq_false f2];rfl)
 have f2':(8 < (e.cs.length:Int))=False:=eq_false (by omega)
 by_cases f3:e.a.k=2
 rotate_left
 ·simp +contextual only [aB,g1,Fy,E3,FR,aw,dq,f1',f2',f3,decide_true,decide_false,not_false_eq_true,sZ,Nat.reduceEqDiff,Nat.reduceAdd,↓reduceIte,reduceCtorEq]
  exact fun _ _=>bad (by unfold jd;rw [decide_eq_true f1,decide_eq_true f2,decide_eq_false f3];rfl)
 have e0:jd s e=(!(e.vs.any (qt s)) && (dt s e.vs e.a e.b && ((e.cs.all fun c=>dt s e.vs c.a c.b) && ((e.b::oC e.cs).all fun t=>(eS [t]).all fun v=>decide (v∈eS [e.a]))))):=by
  unfold jd;rw [decide_eq_true f1,decide_eq_true f2,decide_eq_true f3];rfl
 simp +contextual only [aB,g1,Fy,E3,FR,aw,dq,f1',f2',f3,decide_false,not_true_eq_false,sZ,Nat.reduceEqDiff,Nat.reduceAdd,↓reduceIte,reduceCtorEq]
 refine fun _ _=>ay e.vs.length (fun i=>∀ j,j < i→qt s (e.vs.getD j 0)=false) (fun i=>[(2,.ai s.av),(3,.ai e.av),(5,.int .i64 i)]) (fun _=>H) ⟨fun j hj=>(by cases hj),aA _ _ _⟩ fun i hi hI=>?_
 by_cases y7:i < e.vs.length
 ·have l1:decide ((i:Int) < e.vs.length)=true:=decide_eq_true (by omega)
  have anyb (h:qt s (e.vs.getD i 0)=true):jd s e=false:=by
   have:e.vs.any (qt s)=true:=age.2 ⟨_,bP y7,h⟩
   rw [e0,this];rfl
  by_cases b1:e.vs.getD i 0 < 0
  ·have b1':(e.vs.getD i 0 < 0)=True:=eq_true b1
   simp +contextual only [l1,Fy,aw,aR,zV,b1',decide_true,sZ,Nat.reduceEqDiff,↓reduceIte,reduceCtorEq]
   exact fun _=>⟨⟨by omega,by omega⟩,bad (anyb (by unfold qt;rw [decide_eq_true b1];rfl))⟩
  have b1':(e.vs.getD i 0 < 0)=False:=eq_false b1
  by_cases b2:(s.aS.length:Int)≤e.vs.getD i 0
  ·have b2':((s.aS.length:Int)≤e.vs.getD i 0)=True:=eq_true b2
   simp +contextual only [aB,l1,Fy,aw,aR,zV,b1',b2',decide_true,decide_false,sZ,Nat.reduceEqDiff,↓reduceIte,reduceCtorEq]
   exact fun _=>⟨by omega,by omega,bad (anyb (by unfold qt;rw [decide_eq_true b2,Bool.or_true]))⟩
  have b2':((s.aS.length:Int)≤e.vs.getD i 0)=False:=eq_false b2
  simp +contextual only [aB,l1,Fy,aw,aR,zV,b1',b2',decide_false,sZ,Nat.reduceEqDiff,↓reduceIte]
  exact fun _=>⟨by omega,by omega,i + 1,⟨y7,dW hI (by unfold qt;rw [decide_eq_false b1,decide_eq_false b2];rfl)⟩,by omega,aD (by rw [aq i (by omega)]) rfl⟩
 have l1:decide ((i:Int) < e.vs.length)=false:=decide_eq_false (by omega)
 have f4:e.vs.any (qt s)=false:=by
  rw [adn]
  intro x hx
  obtain ⟨j,hj,rfl⟩:=jz hx
  rw [hI j (by omega)];simp
 have hv:ja s e.vs:=fun x hx=>by
  have:=adn.1 f4 x hx
  simp only [qt,acA,decide_eq_true_eq] at this
  omega
 rw [f4,Bool.not_false,acY] at e0
 simp +contextual only [aB,l1,Fy,aw,FR,Pa,sZ,Nat.reduceEqDiff,Nat.reduceAdd,↓reduceIte]
 refine fun _=>ae (ab5 hs hv e.a e.b) ?_
 cases f5:dt s e.vs e.a e.b with
 | false=>
   simp +contextual only [sZ,Nat.reduceEqDiff,↓reduceIte,reduceCtorEq]
   exact bad (by rw [e0,f5];rfl)
 | true=>
 rw [f5,acY] at e0
 have ta:e.a.tree=true:=by
  unfold dt at f5
  simp only [zU] at f5
  exact f5.1
 have tb:e.b.tree=true:=by
  unfold dt at f5
  simp only [zU] at f5
  exact f5.2.1
 have szl (l:List T) (h:∀ t∈l,t.tree=true):lh l≤2000 * l.length:=by
  induction l with
  | nil=>simp [lh]
  | cons x r ih=>
    have:=((T.dg x).1 (h x (by simp))).1
    have:=ih fun t ht=>h t (by simp [ht])
    simp only [lh,List.length_cons];omega
 simp +contextual only [FR,sZ,Nat.reduceEqDiff,Nat.reduceAdd,↓reduceIte]
 refine ae (Z8 [e.a] (by have:=szl [e.a] (by simpa using ta);simp at this;omega)) ?_
 generalize hva:eS [e.a]=va at *
 simp +contextual only [Pa,sZ,Nat.reduceEqDiff,↓reduceIte]
 refine ay e.cs.length (fun i=>∀ j,j < i→dt s e.vs (e.cs.getD j default).a (e.cs.getD j default).b=true) (fun i=>[(2,.ai s.av),(3,.ai e.av),(7,.aj 0 (ints va)),(8,.aj 3 (ca (e.b::oC (e.cs.take i)))),(9,.int .i64 i)]) (fun _=>H) ⟨fun j hj=>(by cases hj),aA _ _ _⟩ fun i hi hI=>?_
 by_cases hl:i < e.cs.length
 ·have l2:decide ((i:Int) < e.cs.length)=true:=decide_eq_true (by omega)
  simp +contextual only [aB,l2,E3,Fy,dq,nV,ry,WB,WC,sZ,Nat.reduceEqDiff,↓reduceIte]
  refine fun _=>⟨hl,hl,aF (ab5 hs hv _ _) ?_⟩
  cases f8:dt s e.vs (e.cs.getD i default).a (e.cs.getD i default).b with
  | false=>
    simp +contextual only [sZ,Nat.reduceEqDiff,↓reduceIte,reduceCtorEq]
    refine bad ?_
    have:(e.cs.all fun c=>dt s e.vs c.a c.b)=false:=acZ.2 ⟨_,uH hl,by rw [f8];simp⟩
    rw [e0,this];rfl
  | true=>
    simp +contextual only [E3,nV,ry,WB,WC,j3,sZ,Nat.reduceEqDiff,Nat.reduceAdd,↓reduceIte]
    exact ⟨hl,hl,by rw [nW,acp];omega,of_eq_true (Cp [_,_]),i + 1,⟨hl,dW hI f8⟩,by omega,aD (by rw [aq i (by omega),yv hl,← List.cons_append,wK];rfl) rfl⟩
 have l2:decide ((i:Int) < e.cs.length)=false:=decide_eq_false (by omega)
 rw [aaJ (by omega)]
 have fU:(e.cs.all fun c=>dt s e.vs c.a c.b)=true:=aaO.2 (mT fun j hj=>hI j (by omega))
 rw [fU,acY] at e0
 have W2:∀ t∈e.b::oC e.cs,t.tree=true:=fun t ht=>by
  rcases Xi.1 ht with rfl | ht
  ·exact tb
  ·obtain ⟨c,hc,ht⟩:=acC.1 ht
   have hp:=aaO.1 fU c hc
   unfold dt at hp
   simp only [zU] at hp
   rcases Xi.1 ht with rfl | ht
   ·exact hp.1
   ·rw [aat.1 ht];exact hp.2.1
 have hlen:(e.b::oC e.cs).length≤100:=by rw [List.length_cons,nW];omega
 generalize e.b::oC e.cs=ts at *
 have wY:jd s e=(eS ts).all fun v=>decide (v∈va):=by
  rw [e0,acw]
  simp only [aaO,decide_eq_true_eq]
  constructor
  ·intro h v hm
   obtain ⟨t,ht,hv⟩:=(qj W2).1 hm
   exact h t ht v ((qj (l:=[t]) (by simpa using W2 t ht)).2 ⟨t,by simp,hv⟩)
  ·intro h t ht v hm
   obtain ⟨u,hu,hv⟩:=(qj (l:=[t]) (by simpa using W2 t ht)).1 hm
   rw [aat.1 hu] at hv
   exact h v ((qj W2).2 ⟨t,ht,hv⟩)
 rw [wY]
 simp +contextual only [l2,E3,dq,sZ,Nat.reduceEqDiff,Nat.reduceAdd,↓reduceIte]
 refine fun _=>ae (Z8 ts (by have:=szl ts W2;omega)) ?_
 generalize eS ts=us at *
 simp +contextual only [sZ,Nat.reduceEqDiff,↓reduceIte]
 refine ay us.length (fun i=>∀ j,j < i→us.getD j 0∈va) (fun i=>[(7,.aj 0 (ints va)),(11,.aj 0 (ints us)),(12,.int .i64 i)]) (fun _=>H) ⟨fun j hj=>(by cases hj),aA _ _ _⟩ fun i hi hI=>?_
 by_cases hl:i < us.length
 ·have l3:decide ((i:Int) < us.length)=true:=decide_eq_true (by omega)
  simp +contextual only [l3,aR,zV,sZ,Nat.reduceEqDiff,Nat.reduceAdd,↓reduceIte]
  refine fun _=>⟨⟨by omega,by omega⟩,ae (agh va _) ?_⟩
  by_cases hm:us.getD i 0∈va
  ·rw [decide_eq_true hm]
   simp +contextual only [sZ,Nat.reduceEqDiff,↓reduceIte]
   exact ⟨i + 1,⟨hl,dW hI hm⟩,by omega,aD (by rw [aq i (by omega)]) rfl⟩
  ·rw [decide_eq_false hm]
   simp +contextual only [sZ,Nat.reduceEqDiff,↓reduceIte,reduceCtorEq]
   refine aM rfl ?_
   have:(us.all fun v=>decide (v∈va))=false:=acZ.2 ⟨_,bP hl,by simpa using hm⟩
   rw [this]
 ·have l3:decide ((i:Int) < us.length)=false:=decide_eq_false (by omega)
  simp +contextual only [l3,sZ,Nat.reduceEqDiff,↓reduceIte,reduceCtorEq]
  refine fun _=>aM rfl ?_
  have:(us.all fun v=>decide (v∈va))=true:=aaO.2 fun v hm=>by
   obtain ⟨j,hj,rfl⟩:=jz hm
   exact decide_eq_true (hI j (by omega))
  rw [this]
end Go.aI
end
section
set_option maxRecDepth 100000
namespace Go.aI
open Go Go.Proofs Go.dV
end Go.aI
end
section
set_option maxRecDepth 100000
set_option maxHeartbeats 2000000
namespace Go.aI
open Go Go.Proofs Go.dV
open Classical in
theorem agm {t:Ty} {ps ss:List Int} (hs:TU t.s ps ss):Pure Tryz.prog 168 [t.av] (.bool (HR t)):=by
 have c209:Pure Tryz.prog 209 [t.s.av] (.bool (jL t.s)):=by
  refine fun H=>Y8.2.calls rfl ?_
  simp only [Y8,aH]
  simp +contextual only [aB,sZ,Nat.reduceEqDiff,Nat.reduceAdd,↓reduceIte]
  refine ae (c82 t.s hs.h5 hs.h6 hs.h1 hs.h2) ?_
  by_cases h:zQ t.s
  ·rw [if_pos h]
   simp +contextual only [decide_true,sZ,↓reduceIte,reduceCtorEq]
   exact aM rfl (by rw [Ow h])
  ·rw [if_neg h]
   simp +contextual only [sZ,↓reduceIte,reduceCtorEq,Int.reduceEq]
   refine aM rfl ?_
   cases hb:jL t.s with
   | true=>exact absurd (Jf.2 hb) h
   | false=>rfl
 refine fun H=>YO.2.calls rfl ?_
 simp only [YO,aH]
 obtain ⟨e1,e2,e3,e4,e5,e6⟩:=Ty.facts t
 simp +contextual only [aB,e1,Dc,sZ,Nat.reduceEqDiff,Nat.reduceAdd,↓reduceIte]
 refine ae c209 ?_
 cases h:jL t.s with
 | false=>
   simp +contextual only [sZ,Nat.reduceEqDiff,↓reduceIte,reduceCtorEq]
   exact aM rfl (by rw [HR,h];rfl)
 | true=>
 have hg:SmG t.s:=⟨Jf.2 h,hs.h5,hs.h6,hs.h1,hs.h2⟩
 by_cases h2:(400:Int) < t.es.length
 ·simp +contextual only [Lh,eL,h2,decide_true,sZ,Nat.reduceEqDiff,↓reduceIte,reduceCtorEq]
  exact fun _=>aM rfl (by rw [HR,h,decide_eq_false (by omega)];rfl)
 simp +contextual only [Lh,eL,h2,decide_false,sZ,Nat.reduceEqDiff,↓reduceIte]
 have e0:HR t=t.es.all (jd t.s):=by rw [HR,h,decide_eq_true (by omega)];rfl
 refine fun _=>ay t.es.length (fun i=>∀ j,j < i→jd t.s (t.es.getD j default)=true) (fun i=>[(1,.ai t.av),(4,.int .i64 i)]) (fun _=>H) ⟨fun j hj=>(by cases hj),aA _ _ _⟩ fun i hi hI=>?_
 by_cases hl:i < t.es.length
 ·have l1:decide ((i:Int) < t.es.length)=true:=decide_eq_true (by omega)
  obtain ⟨g1,g2,g3,g4,g5,g6⟩:=(t.es.getD i default).facts
  simp +contextual only [aB,l1,Dc,Lh,eL,lL,idx_eq,s9,g4,sZ,Nat.reduceEqDiff,↓reduceIte]
  refine fun _=>⟨hl,aF (agl hg _) ?_⟩
  cases hq:jd t.s (t.es.getD i default) with
  | true=>
    simp +contextual only [sZ,Nat.reduceEqDiff,↓reduceIte]
    exact ⟨i + 1,⟨hl,dW hI hq⟩,by omega,aD (by rw [aq i (by omega)]) rfl⟩
  | false=>
    simp +contextual only [sZ,Nat.reduceEqDiff,↓reduceIte,reduceCtorEq]
    refine aM rfl ?_
    have:t.es.all (jd t.s)=false:=acZ.2 ⟨_,uH hl,by rw [hq];simp⟩
    rw [e0,this]
 ·have l1:decide ((i:Int) < t.es.length)=false:=decide_eq_false (by omega)
  simp +contextual only [l1,Lh,eL,sZ,Nat.reduceEqDiff,↓reduceIte,reduceCtorEq]
  refine fun _=>aM rfl ?_
  have:t.es.all (jd t.s)=true:=aaO.2 (mT fun j hj=>hI j (by omega))
  rw [e0,this]
theorem c94 {t:Ty} {ps ss:List Int} (hs:TU t.s ps ss):Pure Tryz.prog 94 [t.av] (.int .i64 (Be t)):=by
 refine fun H=>k94.2.calls rfl ?_
 simp only [k94,aH]
 obtain ⟨e1,e2,e3,e4,e5,e6⟩:=Ty.facts t
 simp +contextual only [e1,e4,fw,sZ,Nat.reduceEqDiff,Nat.reduceAdd,↓reduceIte]
 refine ae (agm hs) ?_
 cases h:HR t with
 | true=>simp +contextual only [sZ,↓reduceIte,reduceCtorEq];exact aM rfl (by rw [Be,h];rfl)
 | false=>simp +contextual only [sZ,↓reduceIte,reduceCtorEq];exact aM rfl (by rw [Be,h];rfl)
theorem zK.tt {ps:List Int} {e:ju} (h:zK ps e):∀ t∈e.a::e.rest,Tt ps t:=fun t ht=>⟨h.tree t ht,h.ops t ht⟩
theorem FK {ps ss:List Int} {e:ju}:oF ps ss e=true↔CE ps ss e:=by simp [oF]
theorem agn {ps ss:List Int} (hv:Va ps ss) {e:ju} (he:zK ps e):Pure Tryz.prog 164 [eN ps ss,e.av] (.bool (oF ps ss e)):=by
 have ht:=he.tt
 have hf:=he.few
 have ta:=ht e.a (by simp)
 have tb:=ht e.b (by simp [ju.rest])
 have tc:∀ i,i < e.cs.length→Tt ps (e.cs.getD i default).a∧Tt ps (e.cs.getD i default).b:=fun i hi=>by
  have hm:=uH hi
  exact ⟨ht _ (aaK _ (aaK _ (acC.2 ⟨_,hm,by simp⟩))),ht _ (aaK _ (aaK _ (acC.2 ⟨_,hm,by simp⟩)))⟩
 have hD:CE ps ss e↔R (gZ ps ss) e.a e.b∧∀ i,i < e.cs.length→R (gZ ps ss) e.a (e.cs.getD i default).a∧R (gZ ps ss) e.a (e.cs.getD i default).b:=by
  unfold CE ju.rest
  constructor
  ·intro h
   refine ⟨h _ (by simp),fun i hi=>?_⟩
   have hm:=uH hi
   exact ⟨h _ (aaK _ (acC.2 ⟨_,hm,by simp⟩)),h _ (aaK _ (acC.2 ⟨_,hm,by simp⟩))⟩
  ·rintro ⟨h1,h2⟩ y hy
   rcases Xi.1 hy with rfl | hy
   ·exact h1
   ·obtain ⟨c,hc,hy⟩:=acC.1 hy
    obtain ⟨n,hn,rfl⟩:=acI hc
    have:=h2 n hn
    rw [tu,T1 hn,Option.getD_some] at this
    rcases Xi.1 hy with rfl | hy
    ·exact this.1
    ·rw [aat.1 hy];exact this.2
 have yes (h:CE ps ss e):oF ps ss e=true:=FK.2 h
 have no (h:¬ CE ps ss e):oF ps ss e=false:=acM.2 fun hh=>h (FK.1 hh)
 refine fun H=>YK.2.calls rfl ?_
 simp only [YK,aH]
 obtain ⟨q1,q2,q3,q4,q5,q6⟩:=aX ps ss
 obtain ⟨g1,g2,g3,g4,g5,g6⟩:=e.facts
 simp +contextual only [q1,g1,q4,b7,FR,Pa,sZ,Nat.reduceEqDiff,Nat.reduceAdd,↓reduceIte,reduceCtorEq]
 refine ae (c78 hv ta tb) ?_
 cases h1:E2 ps ss e.a e.b with
 | false=>
   simp +contextual only [sZ,Nat.reduceEqDiff,↓reduceIte,reduceCtorEq]
   refine aM rfl ?_
   rw [no fun h=>by rw [iZ.2 (hD.1 h).1] at h1;cases h1]
 | true=>
 have hE:=iZ.1 h1
 simp +contextual only [sZ,Nat.reduceEqDiff,↓reduceIte]
 refine ay e.cs.length (fun i=>∀ j,j < i→R (gZ ps ss) e.a (e.cs.getD j default).a∧R (gZ ps ss) e.a (e.cs.getD j default).b) (fun i=>[(2,.ai (eN ps ss)),(3,.ai e.av),(6,.int .i64 i)]) (fun _=>H) ⟨fun j hj=>(by cases hj),aA _ _ _⟩ fun i hi hI=>?_
 by_cases hl:i < e.cs.length
 ·have l1:decide ((i:Int) < e.cs.length)=true:=decide_eq_true (by omega)
  obtain ⟨t1,t2⟩:=tc i hl
  simp +contextual only [q4,b7,l1,FR,E3,dq,nV,ry,WB,sZ,Nat.reduceEqDiff,↓reduceIte]
  refine fun _=>⟨hl,aF (c78 hv ta t1) ?_⟩
  simp +contextual only [q4,b7,FR,E3,nV,ry,WC,sZ,Nat.reduceEqDiff,↓reduceIte]
  refine ⟨hl,aF (c78 hv ta t2) ?_⟩
  cases x1:E2 ps ss e.a (e.cs.getD i default).a with
  | false=>
    simp +contextual only [sZ,Nat.reduceEqDiff,↓reduceIte,reduceCtorEq]
    refine aM rfl ?_
    rw [no fun h=>by rw [iZ.2 ((hD.1 h).2 i hl).1] at x1;cases x1]
  | true=>
    cases x2:E2 ps ss e.a (e.cs.getD i default).b with
    | false=>
      simp +contextual only [sZ,Nat.reduceEqDiff,↓reduceIte,reduceCtorEq]
      refine aM rfl ?_
      rw [no fun h=>by rw [iZ.2 ((hD.1 h).2 i hl).2] at x2;cases x2]
    | true=>
      simp +contextual only [sZ,Nat.reduceEqDiff,↓reduceIte]
      exact ⟨i + 1,⟨hl,dW hI ⟨iZ.1 x1,iZ.1 x2⟩⟩,by omega,aD (by rw [aq i (by omega)]) rfl⟩
 ·have l1:decide ((i:Int) < e.cs.length)=false:=decide_eq_false (by omega)
  simp +contextual only [l1,E3,dq,sZ,Nat.reduceEqDiff,↓reduceIte,reduceCtorEq]
  refine fun _=>aM rfl ?_
  rw [yes (hD.2 ⟨hE,fun j hj=>hI j (by omega)⟩)]
theorem c91 (t:Ty) {ps ss:List Int} (hv:Va ps ss) (he:∀ e∈t.es,zK ps e) (K6:t.es.length≤1000000):Pure Tryz.prog 91 [t.av,eN ps ss] (.int .i64 (iC t ps ss)):=by
 refine fun H=>k91.2.calls rfl ?_
 simp only [k91,aH]
 obtain ⟨q1,q2,q3,q4,q5,q6⟩:=aX ps ss
 obtain ⟨e1,e2,e3,e4,e5,e6⟩:=Ty.facts t
 simp +contextual only [q1,e1,sZ,Nat.reduceEqDiff,Nat.reduceAdd,↓reduceIte,reduceCtorEq]
 unfold iC
 refine ay t.es.length (fun i=>mS (fun e=>!oF ps ss e) (t.es.drop i) i=mS (fun e=>!oF ps ss e) t.es 0) (fun i=>[(2,.ai t.av),(3,.ai (eN ps ss)),(5,.int .i64 i)]) (fun _=>H) ⟨rfl,aA _ _ _⟩ fun i hi hI=>?_
 by_cases hl:i < t.es.length
 ·have l1:decide ((i:Int) < t.es.length)=true:=decide_eq_true (by omega)
  obtain ⟨g1,g2,g3,g4,g5,g6⟩:=(t.es.getD i default).facts
  rw [qd hl] at hI
  simp +contextual only [q4,b7,l1,Lh,eL,lL,idx_eq,s9,g4,sZ,Nat.reduceEqDiff,↓reduceIte]
  refine fun _=>⟨hl,aF (agn hv (he _ (uH hl))) ?_⟩
  cases hq:oF ps ss (t.es.getD i default) with
  | true=>
    rw [hq,if_neg (by simp)] at hI
    simp +contextual only [sZ,Nat.reduceEqDiff,↓reduceIte]
    exact ⟨i + 1,⟨hl,hI⟩,by omega,aD (by rw [aq i (by omega)]) rfl⟩
  | false=>
    rw [hq,if_pos (by rfl)] at hI
    simp +contextual only [sZ,Nat.reduceEqDiff,↓reduceIte,reduceCtorEq]
    exact aM rfl (by rw [← hI])
 ·have l1:decide ((i:Int) < t.es.length)=false:=decide_eq_false (by omega)
  rw [aaN (by omega)] at hI
  simp +contextual only [l1,Lh,eL,sZ,Nat.reduceEqDiff,↓reduceIte,reduceCtorEq]
  exact fun _=>aM rfl (by rw [← hI];rfl)
noncomputable def rI (t:Ty) (ps ss:List Int):Int:=if Be t≠0 then Be t else jr t.s ps ss
theorem W9 {t:Ty} (h:Be t=0):jL t.s=true:=by
 unfold Be at h
 split at h
 ·rename_i hb
  unfold HR at hb
  simp only [zU] at hb
  exact hb.1
 ·cases h
open Classical in
theorem c90 (t:Ty) {ps ss:List Int} (hs:TU t.s ps ss):Pure Tryz.prog 90 [t.av,eN ps ss] (.int .i64 (rI t ps ss)):=by
 refine fun H=>k90.2.calls rfl ?_
 simp only [k90,aH]
 obtain ⟨q1,q2,q3,q4,q5,q6⟩:=aX ps ss
 obtain ⟨e1,e2,e3,e4,e5,e6⟩:=Ty.facts t
 simp +contextual only [q1,e1,e4,fw,sZ,Nat.reduceEqDiff,Nat.reduceAdd,↓reduceIte,reduceCtorEq]
 refine ae (c94 hs) ?_
 by_cases h0:Be t=0
 ·have hc:=W9 h0
  simp +contextual only [h0,aB,Dc,q4,b7,sZ,Nat.reduceEqDiff,Nat.reduceAdd,↓reduceIte]
  refine ae (c83 t.s ps ss hs.h1 hs.h3 hs.h4) ?_
  by_cases ho:jk t.s ps ss
  ·rw [decide_eq_true ho]
   simp +contextual only [sZ,↓reduceIte,reduceCtorEq]
   refine aM rfl ?_
   rw [rI,if_neg (by simpa using h0),jr,if_pos hc,if_pos ho]
  ·rw [decide_eq_false ho]
   simp +contextual only [sZ,↓reduceIte,reduceCtorEq]
   refine aM rfl ?_
   rw [rI,if_neg (by simpa using h0),jr,if_pos hc,if_neg ho]
 ·simp +contextual only [h0,sZ,Nat.reduceEqDiff,↓reduceIte,reduceCtorEq]
  refine aM rfl ?_
  rw [rI,if_pos h0]
theorem Xa {t:Ty} {ps ss:List Int} (h:rI t ps ss=0):Be t=0∧jr t.s ps ss=0:=by
 unfold rI at h
 split at h
 ·rename_i h1;exact absurd h h1
 ·rename_i h1;exact ⟨by simpa using h1,h⟩
theorem OJ {t:Ty} {ps ss:List Int} (h:rI t ps ss=0):Va ps ss∧(∀ e∈t.es,zK ps e)∧t.es.length≤1000000:=by
 obtain ⟨h1,h2⟩:=Xa h
 obtain ⟨_,ho⟩:=sX.1 h2
 refine ⟨ho.va,fun e he=>(OI h1).eq e he ps ho.1,?_⟩
 unfold Be at h1
 split at h1
 ·rename_i hb
  unfold HR at hb
  simp only [zU,decide_eq_true_eq] at hb
  omega
 ·cases h1
end Go.aI
end
section
set_option maxRecDepth 100000
set_option maxHeartbeats 2000000
namespace Go.aI
open Go Go.Proofs Go.dV
theorem OK {H:List aa} {a b c:Nat} {x y z:AV} (tw:b≠a∧c≠a∧c≠b) (hx:x.ab=x) (hy:y.ab=y) (hz:z.ab=z) (bx:x.bb H.length=true) (rM:y.bb H.length=true) (bz:z.bb H.length=true):bS H.length [.t a,.t b,.t c] [(a,x),(b,y),(c,z)] H fun r H'=>r=.tuple [x,y,z]∧H'=H:=
 yh tw abe ⟨bx,rM,bz⟩ hx hy hz ⟨rfl,rfl⟩
theorem Jn (t:Ty) (ps ss:List Int):oG (Be t) t ps ss=if rI t ps ss≠0 then (0,false,rI t ps ss) else (max (iC t ps ss) 0,decide (0≤iC t ps ss),0):=by
 unfold oG rI
 by_cases h:Be t=0
 ·simp [h]
 ·simp [h]
theorem c32 (t:Ty) {ps ss:List Int} (hs:TU t.s ps ss):Pure Tryz.prog 32 [t.av,eN ps ss] (Fl (oG (Be t) t ps ss)):=by
 refine fun H=>k32.2.calls rfl ?_
 simp only [k32,aH]
 obtain ⟨q1,q2,q3,q4,q5,q6⟩:=aX ps ss
 obtain ⟨e1,e2,e3,e4,e5,e6⟩:=Ty.facts t
 rw [Jn]
 simp +contextual only [q1,e1,e4,q4,fw,b7,sZ,Nat.reduceEqDiff,Nat.reduceAdd,↓reduceIte,reduceCtorEq]
 refine ae (c90 t hs) ?_
 by_cases h0:rI t ps ss=0
 ·obtain ⟨hv,he,K6⟩:=OJ h0
  rw [if_neg (by simpa using h0)]
  simp +contextual only [h0,e4,q4,fw,b7,sZ,Nat.reduceEqDiff,Nat.reduceAdd,↓reduceIte]
  refine ae (c91 t hv he K6) ?_
  by_cases hb:iC t ps ss < 0
  ·have m:max (iC t ps ss) 0=0:=by omega
   rw [m,decide_eq_false (by omega)]
   simp +contextual only [hb,sZ,Nat.reduceEqDiff,↓reduceIte,reduceCtorEq]
   exact OK (by decide) rfl rfl rfl rfl rfl rfl
  ·have m:max (iC t ps ss) 0=iC t ps ss:=by omega
   rw [m,decide_eq_true (by omega)]
   simp +contextual only [hb,sZ,Nat.reduceEqDiff,↓reduceIte,reduceCtorEq]
   exact OK (by decide) rfl rfl rfl rfl rfl rfl
 ·rw [if_pos h0]
  simp +contextual only [h0,sZ,Nat.reduceEqDiff,↓reduceIte,reduceCtorEq]
  exact OK (by decide) rfl rfl rfl rfl rfl rfl
theorem Sp (t:Ty) (ps ss:List Int):HF (Be t) t ps ss=if rI t ps ss≠0 then rI t ps ss else if 0≤iC t ps ss then 60 else 0:=by
 unfold HF
 rw [Jn]
 by_cases h:rI t ps ss=0
 ·by_cases hb:0≤iC t ps ss <;> simp [h,hb]
 ·simp [h]
theorem c34 (t:Ty) {ps ss:List Int} (hs:TU t.s ps ss):Pure Tryz.prog 34 [t.av,eN ps ss] (.int .i64 (HF (Be t) t ps ss)):=by
 refine fun H=>k34.2.calls rfl ?_
 simp only [k34,aH]
 obtain ⟨q1,q2,q3,q4,q5,q6⟩:=aX ps ss
 obtain ⟨e1,e2,e3,e4,e5,e6⟩:=Ty.facts t
 rw [Sp]
 simp +contextual only [q1,e1,e4,q4,fw,b7,sZ,Nat.reduceEqDiff,Nat.reduceAdd,↓reduceIte,reduceCtorEq]
 refine ae (c90 t hs) ?_
 by_cases h0:rI t ps ss=0
 ·obtain ⟨hv,he,K6⟩:=OJ h0
  rw [if_neg (by simpa using h0)]
  simp +contextual only [h0,e4,q4,fw,b7,sZ,Nat.reduceEqDiff,Nat.reduceAdd,↓reduceIte]
  refine ae (c91 t hv he K6) ?_
  by_cases hb:0≤iC t ps ss
  ·simp +contextual only [hb,sZ,↓reduceIte,reduceCtorEq]
   exact aM rfl (by rw [if_pos hb])
  ·simp +contextual only [hb,sZ,↓reduceIte,reduceCtorEq]
   exact aM rfl (by rw [if_neg hb])
 ·rw [if_pos h0]
  simp +contextual only [h0,sZ,Nat.reduceEqDiff,↓reduceIte,reduceCtorEq]
  exact aM rfl rfl
end Go.aI
end
section
set_option maxRecDepth 100000
set_option maxHeartbeats 0
namespace Go.aI
open Go Go.Proofs
noncomputable def k5:=aH Tryz.call5 Tryz.func5 Tryz.ntmps5 [(0,0,1),(0,1,1)] [(0,[2,3]),(1,[2,3,12]),(2,[4]),(3,[2,3,22]),(4,[4]),(5,[2,3,5,6,7]),(6,[2,3,5,6,7,8,9,10]),(7,[4])] [(7,(.take 0 true (.take 1 true (.take 2 true (.take 3 true (.take 4 true (.take 5 true (.take 6 true (.take 7 true (.take 8 true (.take 9 true (.take 10 true (.take 11 true (.take 12 true (.take 13 true (.take 14 true (.take 15 true (.take 16 true (.take 17 true (.take 18 true (.take 19 true (.take 20 true (.take 21 true (.take 22 true .done))))))))))))))))))))))))]
end Go.aI
end
section
set_option maxRecDepth 100000
set_option maxHeartbeats 2000000
namespace Go.aI
open Go Go.Proofs Go.dV
theorem c5 (t:Ty) (ps ss:List Int):Pure Tryz.prog 5 [t.av,eN ps ss] (.bool true):=by
 refine fun H=>k5.2.calls rfl ?_
 simp only [k5,aH]
 obtain ⟨q1,q2,q3,q4,q5,q6⟩:=aX ps ss
 obtain ⟨e1,e2,e3,e4,e5,e6⟩:=Ty.facts t
 simp +contextual only [q1,e1,sZ,Nat.reduceEqDiff,Nat.reduceAdd,↓reduceIte,reduceCtorEq]
 refine ae c17 ?_
 have fin:bS H.length [.t 4] [(4,.bool true)] H fun r H'=>r=.bool true∧H'=H:=aM rfl rfl
 simp +contextual only [e4,fw,sZ,Nat.reduceEqDiff,Nat.reduceAdd,↓reduceIte]
 refine af (c30 t H) ?_
 rintro r G ⟨⟨b1,rfl⟩,rfl⟩
 cases b1 with
 | false=>simp +contextual only [sZ,Nat.reduceEqDiff,↓reduceIte,reduceCtorEq];exact fin
 | true=>
 simp +contextual only [aB,q4,b7,Dc,sZ,Nat.reduceEqDiff,Nat.reduceAdd,↓reduceIte]
 refine af (c18 t.s ps ss _) ?_
 rintro r G' ⟨⟨b2,rfl,hb⟩,rfl⟩
 cases b2 with
 | false=>simp +contextual only [sZ,Nat.reduceEqDiff,↓reduceIte,reduceCtorEq];exact fin
 | true=>
 have hs:=hb rfl
 have c31t:=c31 (c62 t) OI ps ss
 have c33t:=c33 (c62 t) OI ps ss
 simp +contextual only [e4,q4,fw,b7,sZ,Nat.reduceEqDiff,Nat.reduceAdd,↓reduceIte]
 refine ae c31t ?_
 simp +contextual only [e4,q4,fw,b7,wP,(n8 _ _).1,(n8 _ _).2.1,(n8 _ _).2.2,sZ,Nat.reduceEqDiff,Nat.reduceAdd,↓reduceIte]
 refine ae (c32 t hs) ?_
 simp +contextual only [e4,q4,fw,b7,wP,(n8 _ _).1,(n8 _ _).2.1,(n8 _ _).2.2,sZ,Nat.reduceEqDiff,↓reduceIte]
 refine aF c33t ?_
 simp +contextual only [e4,q4,fw,b7,sZ,Nat.reduceEqDiff,↓reduceIte]
 refine aF (c34 t hs) ?_
 simp +contextual only [sZ,Nat.reduceEqDiff,↓reduceIte,reduceCtorEq]
 exact fin
end Go.aI
end
section
set_option maxRecDepth 100000
namespace Go.aI
open Go Go.RowKit Go.dV
section
variable {H:Type} {enc:TypeId×Value→H} {P:Program} {w:World} {base:Nat} {sp:Nat→Bool} {held:Bool}
def Rd {H:Type} (enc:TypeId×Value→H) (P:Program) (w:World) (base:Nat) (sp:Nat→Bool) (held:Bool) {α:Type} (t:TypeId) (g:α→AV) (R:DataW H→α→Prop):Prop:=
 ∀ (fuel:Nat) (cs:List Value) (x:DataW H×List MemPlace),DataW.trod enc P w base sp held fuel t cs=some x→∃ a,aN (eH w) [] cs (g a).cells∧R x.1 a
theorem OL {ti:TypeId} (h:P.underlying ti=some (.int .i64)):Rd enc P w base sp held ti (fun n:Int=>.int .i64 n) (fun _ _=>True):=by
 intro fuel cs x hx
 obtain ⟨k,rfl,_,_⟩:=DataW.trod_int h hx
 exact ⟨k,.cons _ _ _ _ (.int _ _) .nil,trivial⟩
theorem OM {ti:TypeId} (h:P.underlying ti=some .string):Rd enc P w base sp held ti (fun s:ByteArray=>.str s) (fun _ _=>True):=by
 intro fuel cs x hx
 obtain ⟨k,rfl,_,_⟩:=DataW.trod_string h hx
 exact ⟨k,.cons _ _ _ _ (.str _) .nil,trivial⟩
def yU {α:Type} (d:DataW H) (l:List α):Prop:=match d with | .slice es _=>l.length=es.length | _=>l=[]
theorem pD {α:Type} [Inhabited α] {te tl:TypeId} {g:α→AV} {R:DataW H→α→Prop} {e:Nat} (hl:P.underlying tl=some (.slice te)) (hc:P.cellsOf te=e) (he:0 < e) (h:Rd enc P w base sp held te g R) :
 Rd enc P w base sp held tl (fun l:List α=>.aj 0 (l.map g)) yU:=by
 intro fuel cs x hx
 rcases DataW.trod_slice hl hx with ⟨rfl,rfl⟩ | ⟨a,len,cap,elems,rest,m,hm,rfl,rfl,hb,hle,cr,K6,kI,_,_⟩
 ·exact ⟨[],.cons _ _ _ _ aZ.ag.drop .nil,rfl⟩
 ·rw [hc] at kI
  have hex:∀ i,i < len→∃ t:α,∃ cs',w.cells? base (a.add (i * e)) e=some cs'∧aN (eH w) [] cs' (g t).cells:=by
   intro i hi
   have:=kI i hi
   rw [T1 (by omega)] at this
   obtain ⟨cs',k1,k2⟩:=Option.bind_eq_some_iff.1 this
   obtain ⟨t,ht,_⟩:=h _ _ _ k2
   exact ⟨t,cs',k1,ht⟩
  have hf:∃ f:Nat→α,∀ i,i < len→∃ cs',w.cells? base (a.add (i * e)) e=some cs'∧aN (eH w) [] cs' (g (f i)).cells:=by
   refine ⟨fun i=>if hi:i < len then Classical.choose (hex i hi) else default,fun i hi=>?_⟩
   simp only [dif_pos hi]
   exact Classical.choose_spec (hex i hi)
  obtain ⟨f,hf⟩:=hf
  refine ⟨(List.range len).map f,.cons _ _ _ _ ?_ .nil,by simp [yU,K6]⟩
  show aZ (eH w) [] _ (.aj 0 (((List.range len).map f).map g))
  rw [ac0]
  refine Ax (e:=e) (base:=base) he hle cr (fun i=>if hi:i < len then Classical.choose (hf i hi) else []) _ fun i hi=>?_
  simp only [dif_pos hi]
  exact Classical.choose_spec (hf i hi)
structure ot (P:Program) (ti ts tis tss top tops tsig:TypeId):Prop where
 int:P.underlying ti=some (.int .i64)
 str:P.underlying ts=some .string
 ints:P.underlying tis=some (.slice ti)
 strs:P.underlying tss=some (.slice ts)
 op:∃ f0 f1 f2:Field,P.underlying top=some (.struct #[f0,f1,f2])∧f0.type=ts∧f0.offset=0∧f1.type=tis∧f1.offset=1∧f2.type=ti∧f2.offset=2
 ops:P.underlying tops=some (.slice top)
 sig:∃ f0 f1:Field,P.underlying tsig=some (.struct #[f0,f1])∧f0.type=tss∧f0.offset=0∧f1.type=tops∧f1.offset=1
 c:P.cellsOf ti=1∧P.cellsOf ts=1∧P.cellsOf tis=1∧P.cellsOf tss=1∧P.cellsOf top=3∧P.cellsOf tops=1∧P.cellsOf tsig=2
variable {ti ts tis tss top tops tsig:TypeId}
theorem lg {v:List Value} {x:AV} (h:aN (eH w) [] v [x]):∃ u,v=[u]∧aZ (eH w) [] u x:=by
 cases h with
 | cons v x vs xs h t=>cases t;exact ⟨_,rfl,h⟩
theorem wQ (S:ot P ti ts tis tss top tops tsig):Rd enc P w base sp held tis (fun l:List Int=>.aj 0 (ints l)) yU:=pD S.ints S.c.1 (by decide) (OL S.int)
theorem Sq (S:ot P ti ts tis tss top tops tsig):Rd enc P w base sp held tss (fun l:List ByteArray=>.aj 0 (strs l)) yU:=pD S.strs S.c.2.1 (by decide) (OM S.str)
theorem ab7 (S:ot P ti ts tis tss top tops tsig):Rd enc P w base sp held top iY.av (fun _ _=>True):=by
 intro fuel cs x h
 obtain ⟨f0,f1,f2,hu,h0,o0,h1,o1,h2,o2⟩:=S.op
 obtain ⟨c1,c2,c3,c4,c5,c6,c7⟩:=S.c
 obtain ⟨xs,m,rfl,rfl,hlen,eR,hf⟩:=DataW.trod_struct hu h
 have g0:=hf 0 f0 rfl
 have g1:=hf 1 f1 rfl
 have g2:=hf 2 f2 rfl
 rw [h0,o0,c2] at g0
 rw [h1,o1,c3] at g1
 rw [h2,o2,c1] at g2
 simp at eR
 rw [c5] at hlen
 match cs,hlen with
 | [a,b,c],_=>
   have e0:xs[0]?=some xs[0]:=by simp [eR]
   have e1:xs[1]?=some xs[1]:=by simp [eR]
   have e2:xs[2]?=some xs[2]:=by simp [eR]
   rw [e0] at g0;rw [e1] at g1;rw [e2] at g2
   obtain ⟨nm,r0,_⟩:=OM S.str _ _ _ g0
   obtain ⟨ar,r1,_⟩:=wQ S _ _ _ g1
   obtain ⟨re,r2,_⟩:=OL S.int _ _ _ g2
   obtain ⟨_,q0,r0⟩:=lg r0
   obtain ⟨_,q1,r1⟩:=lg r1
   obtain ⟨_,q2,r2⟩:=lg r2
   simp at q0 q1 q2
   subst q0 q1 q2
   exact ⟨⟨nm,ar,re⟩,.cons _ _ _ _ r0 (.cons _ _ _ _ r1 (.cons _ _ _ _ r2 .nil)),trivial⟩
theorem Xb (S:ot P ti ts tis tss top tops tsig):Rd enc P w base sp held tops (fun l:List iY=>.aj 0 (po l)) yU:=pD S.ops S.c.2.2.2.2.1 (by decide) (ab7 S)
theorem Xc (S:ot P ti ts tis tss top tops tsig):Rd enc P w base sp held tsig Sg.av (fun _ _=>True):=by
 intro fuel cs x h
 obtain ⟨f0,f1,hu,h0,o0,h1,o1⟩:=S.sig
 obtain ⟨c1,c2,c3,c4,c5,c6,c7⟩:=S.c
 obtain ⟨xs,m,rfl,rfl,hlen,eR,hf⟩:=DataW.trod_struct hu h
 have g0:=hf 0 f0 rfl
 have g1:=hf 1 f1 rfl
 rw [h0,o0,c4] at g0
 rw [h1,o1,c6] at g1
 simp at eR
 rw [c7] at hlen
 match cs,hlen with
 | [a,b],_=>
   have e0:xs[0]?=some xs[0]:=by simp [eR]
   have e1:xs[1]?=some xs[1]:=by simp [eR]
   rw [e0] at g0;rw [e1] at g1
   obtain ⟨nm,r0,_⟩:=Sq S _ _ _ g0
   obtain ⟨ar,r1,_⟩:=Xb S _ _ _ g1
   obtain ⟨_,q0,r0⟩:=lg r0
   obtain ⟨_,q1,r1⟩:=lg r1
   simp at q0 q1
   subst q0 q1
   exact ⟨⟨nm,ar⟩,.cons _ _ _ _ r0 (.cons _ _ _ _ r1 .nil),trivial⟩
structure Xd (P:Program) (tis tod:TypeId):Prop where
 od:∃ f0 f1:Field,P.underlying tod=some (.struct #[f0,f1])∧f0.type=tis∧f0.offset=0∧f1.type=tis∧f1.offset=1
 c:P.cellsOf tod=2
theorem ab8 (S:ot P ti ts tis tss top tops tsig) {tod:TypeId} (O:Xd P tis tod):Rd enc P w base sp held tod (fun o:List Int×List Int=>eN o.1 o.2) (fun _ _=>True):=by
 intro fuel cs x h
 obtain ⟨f0,f1,hu,h0,o0,h1,o1⟩:=O.od
 obtain ⟨c1,c2,c3,c4,c5,c6,c7⟩:=S.c
 obtain ⟨xs,m,rfl,rfl,hlen,eR,hf⟩:=DataW.trod_struct hu h
 have g0:=hf 0 f0 rfl
 have g1:=hf 1 f1 rfl
 rw [h0,o0,c3] at g0
 rw [h1,o1,c3] at g1
 simp at eR
 rw [O.c] at hlen
 match cs,hlen with
 | [a,b],_=>
   have e0:xs[0]?=some xs[0]:=by simp [eR]
   have e1:xs[1]?=some xs[1]:=by simp [eR]
   rw [e0] at g0;rw [e1] at g1
   obtain ⟨nm,r0,_⟩:=wQ S _ _ _ g0
   obtain ⟨ar,r1,_⟩:=wQ S _ _ _ g1
   obtain ⟨_,q0,r0⟩:=lg r0
   obtain ⟨_,q1,r1⟩:=lg r1
   simp at q0 q1
   subst q0 q1
   exact ⟨(nm,ar),.cons _ _ _ _ r0 (.cons _ _ _ _ r1 .nil),trivial⟩
theorem Sr (S:ot P ti ts tis tss top tops tsig) {tod:TypeId} (O:Xd P tis tod) {r:Reach} {b0:Nat} {v:Value} {d:DataW H} {ps:List MemPlace} (qm:Value.okWide P w r b0 tod v) (hd:DataW.Trod enc P w base sp held tod v d ps):∃ pl st:List Int,aZ (eH w) [] v (eN pl st):=by
 obtain ⟨f0,f1,hu,_⟩:=O.od
 obtain ⟨cs,rfl,_⟩:=WideShapes.okWide_struct hu qm
 obtain ⟨fuel,hf⟩:=hd
 obtain ⟨o,h1,_⟩:=ab8 S O _ _ _ hf
 refine ⟨o.1,o.2,?_⟩
 have:aZ (eH w) [] (.agg cs.toList.toArray) (eN o.1 o.2):=.agg _ _ h1
 simpa using this
end
end Go.aI
end
section
set_option maxRecDepth 100000
namespace Go.aI
open Go Go.RowKit Go.dV
section
variable {H:Type} {enc:TypeId×Value→H} {P:Program} {w:World} {base:Nat} {sp:Nat→Bool} {held:Bool}
variable {ti ts tis tss top tops tsig tt tl tc tcs tq tqs ty:TypeId}
structure HT (P:Program) (tis tsig tt tc tcs tq tqs ty:TypeId):Prop where
 pair:∃ f0 f1:Field,P.underlying tc=some (.struct #[f0,f1])∧f0.type=tt∧f0.offset=0∧f1.type=tt∧f1.offset=3
 ab9:P.underlying tcs=some (.slice tc)
 eqn:∃ f0 f1 f2 f3:Field,P.underlying tq=some (.struct #[f0,f1,f2,f3])∧(f0.type=tis∧f0.offset=0)∧(f1.type=tcs∧f1.offset=1)∧(f2.type=tt∧f2.offset=2)∧(f3.type=tt∧f3.offset=5)
 ago:P.underlying tqs=some (.slice tq)
 typ:∃ f0 f1:Field,P.underlying ty=some (.struct #[f0,f1])∧f0.type=tsig∧f0.offset=0∧f1.type=tqs∧f1.offset=2
 c:P.cellsOf tc=6∧P.cellsOf tcs=1∧P.cellsOf tq=8∧P.cellsOf tqs=1∧P.cellsOf ty=3
theorem Ss (hT:nQ P ti tt tl):Rd enc P w base sp held tt T.av (fun _ _=>True):=by
 intro fuel cs x hx
 obtain ⟨t,h1,_⟩:=(KD hT fuel).1 _ _ hx
 exact ⟨t,h1,trivial⟩
theorem aca (hT:nQ P ti tt tl) (Y:HT P tis tsig tt tc tcs tq tqs ty):Rd enc P w base sp held tc Cn.av (fun _ _=>True):=by
 intro fuel cs x h
 obtain ⟨f0,f1,hu,h0,o0,h1,o1⟩:=Y.pair
 obtain ⟨c1,c2,c3,c4,c5⟩:=Y.c
 obtain ⟨xs,m,rfl,rfl,hlen,eR,hf⟩:=DataW.trod_struct hu h
 have g0:=hf 0 f0 rfl
 have g1:=hf 1 f1 rfl
 rw [h0,o0,hT.c3] at g0
 rw [h1,o1,hT.c3] at g1
 simp at eR
 rw [c1] at hlen
 match cs,hlen with
 | [a,b,c,d,e,f],_=>
   have e0:xs[0]?=some xs[0]:=by simp [eR]
   have e1:xs[1]?=some xs[1]:=by simp [eR]
   rw [e0] at g0;rw [e1] at g1
   obtain ⟨⟨k,n,l⟩,r0,_⟩:=Ss hT _ _ _ g0
   obtain ⟨⟨k',n',l'⟩,r1,_⟩:=Ss hT _ _ _ g1
   have r0':aN (eH w) [] [a,b,c] [.int .i64 k,.int .i64 n,.aj 0 (ca l)]:=r0
   have r1':aN (eH w) [] [d,e,f] [.int .i64 k',.int .i64 n',.aj 0 (ca l')]:=r1
   exact ⟨⟨.mk k n l,.mk k' n' l'⟩,r0'.append r1',trivial⟩
theorem Xe (hT:nQ P ti tt tl) (Y:HT P tis tsig tt tc tcs tq tqs ty):Rd enc P w base sp held tcs (fun l:List Cn=>.aj 0 (s5 l)) yU:=pD Y.ab9 Y.c.1 (by decide) (aca hT Y)
theorem Xf (S:ot P ti ts tis tss top tops tsig) (hT:nQ P ti tt tl) (Y:HT P tis tsig tt tc tcs tq tqs ty):Rd enc P w base sp held tq ju.av (fun _ _=>True):=by
 intro fuel cs x h
 obtain ⟨f0,f1,f2,f3,hu,⟨h0,o0⟩,⟨h1,o1⟩,⟨h2,o2⟩,⟨h3,o3⟩⟩:=Y.eqn
 obtain ⟨c1,c2,c3,c4,c5⟩:=Y.c
 obtain ⟨xs,m,rfl,rfl,hlen,eR,hf⟩:=DataW.trod_struct hu h
 have g0:=hf 0 f0 rfl
 have g1:=hf 1 f1 rfl
 have g2:=hf 2 f2 rfl
 have g3:=hf 3 f3 rfl
 rw [h0,o0,S.c.2.2.1] at g0
 rw [h1,o1,c2] at g1
 rw [h2,o2,hT.c3] at g2
 rw [h3,o3,hT.c3] at g3
 simp at eR
 rw [c3] at hlen
 match cs,hlen with
 | [a,b,c,d,e,f,g,i],_=>
   have e0:xs[0]?=some xs[0]:=by simp [eR]
   have e1:xs[1]?=some xs[1]:=by simp [eR]
   have e2:xs[2]?=some xs[2]:=by simp [eR]
   have e3:xs[3]?=some xs[3]:=by simp [eR]
   rw [e0] at g0;rw [e1] at g1;rw [e2] at g2;rw [e3] at g3
   obtain ⟨vs,r0,_⟩:=wQ S _ _ _ g0
   obtain ⟨cn,r1,_⟩:=Xe hT Y _ _ _ g1
   obtain ⟨⟨k,n,l⟩,r2,_⟩:=Ss hT _ _ _ g2
   obtain ⟨⟨k',n',l'⟩,r3,_⟩:=Ss hT _ _ _ g3
   have r0':aN (eH w) [] [a] [.aj 0 (ints vs)]:=r0
   have r1':aN (eH w) [] [b] [.aj 0 (s5 cn)]:=r1
   have r2':aN (eH w) [] [c,d,e] [.int .i64 k,.int .i64 n,.aj 0 (ca l)]:=r2
   have r3':aN (eH w) [] [f,g,i] [.int .i64 k',.int .i64 n',.aj 0 (ca l')]:=r3
   exact ⟨⟨vs,cn,.mk k n l,.mk k' n' l'⟩,r0'.append (r1'.append (r2'.append r3')),trivial⟩
theorem Su (S:ot P ti ts tis tss top tops tsig) (hT:nQ P ti tt tl) (Y:HT P tis tsig tt tc tcs tq tqs ty):Rd enc P w base sp held tqs (fun l:List ju=>.aj 0 (nZ l)) yU:=pD Y.ago Y.c.2.2.1 (by decide) (Xf S hT Y)
theorem acb (S:ot P ti ts tis tss top tops tsig) (hT:nQ P ti tt tl) (Y:HT P tis tsig tt tc tcs tq tqs ty):Rd enc P w base sp held ty Ty.av (fun _ _=>True):=by
 intro fuel cs x h
 obtain ⟨f0,f1,hu,h0,o0,h1,o1⟩:=Y.typ
 obtain ⟨c1,c2,c3,c4,c5⟩:=Y.c
 obtain ⟨xs,m,rfl,rfl,hlen,eR,hf⟩:=DataW.trod_struct hu h
 have g0:=hf 0 f0 rfl
 have g1:=hf 1 f1 rfl
 rw [h0,o0,S.c.2.2.2.2.2.2] at g0
 rw [h1,o1,c4] at g1
 simp at eR
 rw [c5] at hlen
 match cs,hlen with
 | [a,b,c],_=>
   have e0:xs[0]?=some xs[0]:=by simp [eR]
   have e1:xs[1]?=some xs[1]:=by simp [eR]
   rw [e0] at g0;rw [e1] at g1
   obtain ⟨s,r0,_⟩:=Xc S _ _ _ g0
   obtain ⟨es,r1,_⟩:=Su S hT Y _ _ _ g1
   have r0':aN (eH w) [] [a,b] [.aj 0 (strs s.aS),.aj 0 (po s.ops)]:=r0
   have r1':aN (eH w) [] [c] [.aj 0 (nZ es)]:=r1
   exact ⟨⟨s,es⟩,r0'.append r1',trivial⟩
theorem Sv (S:ot P ti ts tis tss top tops tsig) (hT:nQ P ti tt tl) (Y:HT P tis tsig tt tc tcs tq tqs ty) {r:Reach} {b0:Nat} {v:Value} {d:DataW H} {ps:List MemPlace} (qm:Value.okWide P w r b0 ty v) (hd:DataW.Trod enc P w base sp held ty v d ps):∃ t:Ty,aZ (eH w) [] v t.av:=by
 obtain ⟨f0,f1,hu,_⟩:=Y.typ
 obtain ⟨cs,rfl,_⟩:=WideShapes.okWide_struct hu qm
 obtain ⟨fuel,hf⟩:=hd
 obtain ⟨o,h1,_⟩:=acb S hT Y _ _ _ hf
 refine ⟨o,?_⟩
 have:aZ (eH w) [] (.agg cs.toList.toArray) o.av:=.agg _ _ h1
 simpa using this
end
end Go.aI
end
section
set_option maxRecDepth 100000
namespace Go.Proofs.YtljchnfgjdjobaaGreat
open Go
theorem Xg:laidOutB Tryz.checked.prog=true:=by kernel_rfl
theorem Xh:mapsRowed Tryz.checked.prog=true:=by kernel_rfl
theorem Sw:Tryz.checked.prog.stopsHeard=true:=by kernel_rfl
theorem Sx:Tryz.checked.prog.mayEnter=true:=by kernel_rfl
theorem Sy:Tryz.checked.prog.liftsFinal=false:=by kernel_rfl
end Go.Proofs.YtljchnfgjdjobaaGreat
end
