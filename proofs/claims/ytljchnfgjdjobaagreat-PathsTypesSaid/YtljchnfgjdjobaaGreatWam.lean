/- Part 13 of 20 of the proof. -/
import Derived.Test.YtljchnfgjdjobaaGreatWal
import Derived.Test.YtljchnfgjdjobaaGreatWak
import Derived.Test.YtljchnfgjdjobaaGreatWai
import Derived.Test.YtljchnfgjdjobaaGreatWag
import Derived.KernelRfl
set_option linter.unusedVariables false
set_option linter.unusedSimpArgs false
set_option linter.defProp false
set_option linter.unusedSectionVars false
section
set_option maxRecDepth 100000
namespace Go.aI
open Go Go.Proofs Go.dV
def nf (c:Cx) (x:Int):T:=norm c.O (c.tm x)
def zD (c:Cx) (i k:Int):Prop:=we c i k=true∧dN c i=3∧Mu (Gt c.O.sp) ((c.kd i).map (nf c)) ((c.kd k).map (nf c))
theorem aed {c:Cx} {a b:List Int} {va vb:AV} (ha:IL va a) (hb:IL vb b) {p q:Nat} {x y:Int} (hx:0≤x∧x < a.length) (hy:0≤y∧y < b.length) (h:ji c (a.getD x.toNat 0) (b.getD y.toNat 0)) {G:List aa} (hD:Du c G) (gp:G[p]?=some (.cells [va])) (gq:G[q]?=some (.cells [vb])) :
 ax Tryz.prog 222 [.int .i64 x,.ai (.ptr c.d 0),.ptr p 0,.ptr q 0,.ai (.int .i64 y)] G (jD c (R c.O (c.tm (a.getD x.toNat 0)) (c.tm (b.getD y.toNat 0))) G):=by
 refine Zf.2.calls rfl ?_
 simp only [Zf,aH]
 obtain ⟨a1,a2,a3,a4⟩:=ha.one
 obtain ⟨b1,b2,b3,b4⟩:=hb.one
 simp +contextual only [gp,gq,a2,b2,ha.lens,hb.lens,ha.idx,hb.idx,sZ,Nat.reduceEqDiff,Nat.reduceAdd,Nat.reduceLT,↓reduceIte,reduceCtorEq]
 refine ⟨hx,hy,af (h G hD) ?_⟩
 rintro r G' ⟨z,rfl,hz,hU,kv⟩
 simp +contextual only [sZ,↓reduceIte,reduceCtorEq]
 exact eX rfl hz hU kv
theorem aee {c:Cx} {a b l:List Int} {va vb vl:AV} (ha:IL va a) (hb:IL vb b) (hl:IL vl l) (ll:l.length≤1000000000) {p q:Nat} {y:Int} (hx:∀ x∈l,0≤x∧x < a.length) (hy:0≤y∧y < b.length) (h:∀ x∈l,ji c (a.getD x.toNat 0) (b.getD y.toNat 0)) {G:List aa} (hD:Du c G)
 (gp:G[p]?=some (.cells [va])) (gq:G[q]?=some (.cells [vb])) (np:p≠c.e∧p≠c.g) (nq:q≠c.e∧q≠c.g) :
 ax Tryz.prog 221 [.int .i64 y,.ai vl,.ai (.ptr c.d 0),.ptr p 0,.ptr q 0] G (jD c (¬ ∃ x∈l,R c.O (c.tm (a.getD x.toNat 0)) (c.tm (b.getD y.toNat 0))) G):=by
 refine Ze.2.calls rfl ?_
 simp only [Ze,aH]
 obtain ⟨a1,a2,a3,a4⟩:=hl.one
 have ld:∀ (H:List aa) (φ:AV→Prop),aY none (.ai vl) H φ=φ vl:=fun H φ=>by simp [aY,a1,a2]
 simp +contextual only [ld,a2,sZ,Nat.reduceEqDiff,Nat.reduceAdd,↓reduceIte,reduceCtorEq]
 refine af (ER (SD.Cv c G) hl ll 222 [] [.ai (.ptr c.d 0),.ptr p 0,.ptr q 0,.ai (.int .i64 y)] rfl rfl (Q:=fun x=>R c.O (c.tm (a.getD x.toNat 0)) (c.tm (b.getD y.toNat 0)))
  (fun x rJ G' eW=>(aed ha hb (hx x rJ) hy (h x rJ) eW.1 (by rw [eW.2.get p np.1 np.2,gp]) (by rw [eW.2.get q nq.1 nq.2,gq])).mono fun r H' hr=>hr.sb eW) ⟨hD,Up.refl c G⟩) ?_
 rintro r G' ⟨z,rfl,hz,eW⟩
 simp +contextual only [sZ,↓reduceIte,reduceCtorEq]
 refine eX (b:=!z) rfl ?_ eW.2 eW.1
 rw [← hz];cases z <;> simp
theorem mN {P:Px} {t:DT} {f:AV→Env} {H:List aa} {o:Option aa} {off:Nat} {K1 K2:Env→List aa→Prop} (h:c8 o none off fun x=>jZ P t (f x) H K1) (hk:∀ e G,K1 e G→K2 e G):c8 o none off fun x=>jZ P t (f x) H K2:=by
 unfold c8 at *
 split at h
 ·exact ⟨h.1,dR h.2 hk⟩
 ·exact h.elim
theorem aay {c:Cx} (hc:c.Ok) {i k:Int} (hi:c.ew i) (hk:c.ew k) (h2:∀ x∈c.kd i,∀ y∈c.kd k,lI c x y) (h3:∀ x∈c.kd i,∀ y∈c.kd k,ji c x y) {H:List aa} (hD:Du c H) :
 ax Tryz.prog 186 [.ptr c.d 0,.int .i64 i,.int .i64 k] H (jD c (zD c i k) H):=by
 refine TB.2.calls rfl ?_
 simp only [TB,aH]
 have k2:∀ l,(bu l).ab=bu l:=fun l=>(aJ l).2.1
 have l1:=hc.kl i hi
 have l2:=hc.kl k hk
 simp +contextual only [sZ,Nat.reduceEqDiff,Nat.reduceAdd,↓reduceIte,reduceCtorEq]
 refine af (Hm hc hi hk hD) ?_
 rintro r H1 ⟨rfl,rfl⟩
 simp +contextual only [sZ,Nat.reduceEqDiff,Nat.reduceAdd,Nat.reduceLT,↓reduceIte]
 cases hl:we c i k with
 | false=>
   simp +contextual only [Bool.not_false,sZ,Nat.reduceEqDiff,↓reduceIte,reduceCtorEq]
   exact eX rfl ⟨fun h=>by simp at h,fun h=>by have:=h.1;rw [hl] at this;simp at this⟩ (Up.refl c _) hD
 | true=>
   by_cases hs:dN c i=3
   ·have d3:decide (dN c i=3)=true:=decide_eq_true hs
    have d3':decide (¬dN c i=3)=false:=decide_eq_false (fun h=>h hs)
    simp +contextual only [Bool.not_true,hs,not_true_eq_false,decide_false,sZ,Nat.reduceEqDiff,Nat.reduceAdd,↓reduceIte]
    obtain ⟨l4,l5,l6⟩:=hD.lt
    have ed:∀ X:List aa,(H1++X)[c.d]?=H1[c.d]?:=fun X=>zR l4
    refine mN (K1:=fun e G=>get e 3=.ai (.ptr c.d 0)∧∃ p q X,get e 9=.ptr p 0∧get e 10=.ptr q 0∧H1.length≤p∧H1.length≤q∧G=H1++X∧G[p]?=some (.cells [bu (c.kd i)])∧G[q]?=some (.cells [bu (c.kd k)])) ?_ ?_
    ·obtain ⟨k1,k3,k4,k5,k6⟩:=aJ (c.kd i)
     obtain ⟨m1,m3,m4,m5,m6⟩:=aJ (c.kd k)
     have g0:∀ (x:aa) (l:List aa),(H1++x::l)[H1.length]?=some x:=fun x l=>by simp
     have g1:∀ (x y:aa),(H1++[x,y])[H1.length + 1]?=some y:=fun x y=>by simp
     have ei:(c.nd.getD i.toNat default).snd=c.kd i:=rfl
     have ek:(c.nd.getD k.toNat default).snd=c.kd k:=rfl
     have sp:∀ x:AV,ah [AV.ag] 0 [x]=[x]:=fun x=>rfl
     have A:∃ p q X,AV.ptr H1.length 0=AV.ptr p 0∧AV.ptr (H1.length + 1) 0=AV.ptr q 0∧H1.length≤p∧H1.length≤q∧H1++[.cells [bu (c.kd i)],.cells [bu (c.kd k)]]=H1++X∧(H1++[aa.cells [bu (c.kd i)],.cells [bu (c.kd k)]])[p]?=some (.cells [bu (c.kd i)])∧(H1++[aa.cells [bu (c.kd i)],.cells [bu (c.kd k)]])[q]?=some (.cells [bu (c.kd k)]):=
      ⟨_,_,_,rfl,rfl,tv _,Nat.le_succ _,rfl,g0 _ _,g1 _ _⟩
     have B:∃ p q X,AV.ptr (H1.length + 1) 0=AV.ptr p 0∧AV.ptr H1.length 0=AV.ptr q 0∧H1.length≤p∧H1.length≤q∧H1++[.cells [bu (c.kd k)],.cells [bu (c.kd i)]]=H1++X∧(H1++[aa.cells [bu (c.kd k)],.cells [bu (c.kd i)]])[p]?=some (.cells [bu (c.kd i)])∧(H1++[aa.cells [bu (c.kd k)],.cells [bu (c.kd i)]])[q]?=some (.cells [bu (c.kd k)]):=
      ⟨_,_,_,rfl,rfl,Nat.le_succ _,tv _,rfl,g1 _ _,g0 _ _⟩
     simp +contextual only [ed,hD.d,nT,FQ,cN,cb,k2,ei,ek,k1,k4,k5,k6,m1,m4,m5,m6,List.map_cons,List.map_nil,sp,List.all_cons,List.all_nil,acJ,bN,da,sZ,Nat.reduceEqDiff,Nat.reduceAdd,Nat.reduceLT,↓reduceIte]
     refine ⟨hi,?_⟩
     repeat' apply hV
     all_goals first | exact hk.1 | exact hk.2 | exact A | exact B
    ·rintro e G ⟨e3,p,q,X,e9,e10,hp,hq,rfl,gp,gq⟩
     simp +contextual only [e3,e9,e10,gp,gq,k2,sZ,Nat.reduceEqDiff,Nat.reduceAdd,Nat.reduceLT,↓reduceIte,reduceCtorEq]
     refine af (Wp (.inl rfl:IL (bu (c.kd i)) (c.kd i)) (.inl rfl:IL (bu (c.kd k)) (c.kd k)) (by omega) (by omega) h2 (hD.um X)) ?_
     rintro r G' ⟨us,to,Cz,rfl,hU,kv⟩
     have Wq:=Pr.mu (f:=nf c) (G:=Gt c.O.sp) Cz
     have lbl:=kD (c.kd i).length fun i=>!us.getD i false
     have lbo:=kD (c.kd k).length fun j=>decide (to.getD j 0 < 0)
     have il:IL (bu (below (c.kd i).length fun i=>!us.getD i false)) (below (c.kd i).length fun i=>!us.getD i false):=.inl rfl
     have io:IL (bu (below (c.kd k).length fun j=>decide (to.getD j 0 < 0))) (below (c.kd k).length fun j=>decide (to.getD j 0 < 0)):=.inl rfl
     have ml:∀ x∈below (c.kd i).length (fun i=>!us.getD i false),0≤x∧x < (c.kd i).length:=by
      intro x hx;obtain ⟨j,rfl,hj,_⟩:=iA.1 hx;omega
     have mo:∀ x∈below (c.kd k).length (fun j=>decide (to.getD j 0 < 0)),0≤x∧x < (c.kd k).length:=by
      intro x hx;obtain ⟨j,rfl,hj,_⟩:=iA.1 hx;omega
     generalize (below (c.kd i).length fun i=>!us.getD i false)=L at *
     generalize (below (c.kd k).length fun j=>decide (to.getD j 0 < 0))=V at *
     obtain ⟨a1,a2,a3,a4⟩:=il.one
     obtain ⟨b1,b2,b3,b4⟩:=io.one
     have hG1:∀ G2,Up c (H1++X) G2→Du c G2→Up c H1 (G2.take H1.length)∧Du c (G2.take H1.length):=fun G2 u d=>⟨u.take,d.take l4 l5 l6⟩
     have fin:∀ G2 (b:Bool),Up c (H1++X) G2→Du c G2→(b=true↔zD c i k)→bS H1.length [.t 6] [(6,.bool b)] G2 (jD c (zD c i k) H1):=by
      intro G2 b u d hb
      refine a8 H1.length (tv _) (by rw [aC,if_pos rfl];rfl) ?_
      rw [aC,if_pos rfl]
      exact ⟨b,rfl,hb,(hG1 G2 u d).1,(hG1 G2 u d).2⟩
     simp +contextual only [List.map_cons,List.map_nil,k2,a1,a3,a4,il.aO,il.len (by omega),cb,sZ,Nat.reduceEqDiff,Nat.reduceAdd,Nat.reduceLT,↓reduceIte,reduceCtorEq]
     refine ⟨fun hL=>?_,fun hL=>?_⟩
     ·have gp':G'[p]?=some (.cells [bu (c.kd i)]):=by rw [hU.get p (by omega) (by omega),gp]
      have gq':G'[q]?=some (.cells [bu (c.kd k)]):=by rw [hU.get q (by omega) (by omega),gq]
      have gm:∀ {x:Int} {l:List Int},0≤x∧x < l.length→l.getD x.toNat 0∈l:=fun h=>aV (by omega)
      refine af (ER (SD.Cv c G') io (by omega) 221 [] [.ai (bu L),.ai (.ptr c.d 0),.ptr p 0,.ptr q 0] rfl rfl (Q:=fun y=>¬ ∃ x∈L,R c.O (c.tm ((c.kd i).getD x.toNat 0)) (c.tm ((c.kd k).getD y.toNat 0)))
       (fun y hy G2 Wr=>(aee (.inl rfl) (.inl rfl) il (by omega) ml (mo y hy) (fun x hx=>h3 _ (gm (ml x hx)) _ (gm (mo y hy))) Wr.1 (by rw [Wr.2.get p (by omega) (by omega),gp']) (by rw [Wr.2.get q (by omega) (by omega),gq']) ⟨by omega,by omega⟩ ⟨by omega,by omega⟩).mono fun r H' hr=>hr.sb Wr) ⟨kv,Up.refl c G'⟩) ?_
      rintro r G2 ⟨z,rfl,hz,Wr⟩
      simp +contextual only [sZ,Nat.reduceEqDiff,↓reduceIte,reduceCtorEq]
      refine fin G2 (!z) (hU.trans Wr.2) Wr.1 ?_
      have hLn:L≠[]:=by intro e;rw [e] at hL;simp at hL
      rw [zD,Wq]
      cases z with
      | true=>
        obtain ⟨y,hy,hn⟩:=hz.1 rfl
        exact ⟨fun h=>by simp at h,fun ⟨_,_,_,h⟩=>absurd (h y hy) hn⟩
      | false=>
        refine ⟨fun _=>⟨hl,hs,hLn,fun y hy=>?_⟩,fun _=>rfl⟩
        by_cases JK:∃ x∈L,R c.O (c.tm ((c.kd i).getD x.toNat 0)) (c.tm ((c.kd k).getD y.toNat 0))
        ·exact JK
        ·exact absurd (hz.2 ⟨y,hy,JK⟩) (by simp)
     ·refine fin G' false hU kv ⟨fun h=>by simp at h,fun h=>?_⟩
      have:=(Wq.1 h.2.2).1
      exact absurd (abY.1 (by omega)) this
   ·have d3':decide (¬dN c i=3)=true:=decide_eq_true hs
    simp +contextual only [Bool.not_true,hs,decide_true,not_false_eq_true,sZ,Nat.reduceEqDiff,↓reduceIte,reduceCtorEq]
    exact eX rfl ⟨fun h=>by simp at h,fun h=>absurd h.2.1 hs⟩ (Up.refl c _) hD
theorem wJ {c:Cx} (hc:c.Ok) {i:Int} (hi:c.ew i):(c.tm i).l.map (norm c.O)=(c.kd i).map (nf c):=by
 rw [← (hc.kids i hi).1,ac0];rfl
theorem Hn {f:Int→T} {a b:List Int}:a.map f=b.map f↔a.length=b.length∧∀ j,j < a.length→f (a.getD j 0)=f (b.getD j 0):=by
 constructor
 ·intro h
  have hl:a.length=b.length:=by simpa using congrArg List.length h
  refine ⟨hl,fun j hj=>?_⟩
  have:=congrArg (fun l=>l[j]?) h
  have hb:j < b.length:=by omega
  simpa [hj,hb] using this
 ·rintro ⟨hl,h⟩
  apply aev
  ·simpa using hl
  ·intro j h1 h2
   have h3:j < a.length:=by simpa using h1
   have h4:j < b.length:=by simpa using h2
   simpa [h3,h4] using h j h3
theorem aef {c:Cx} (hc:c.Ok) {i k:Int} (hi:c.ew i) (hk:c.ew k) (h2:∀ x∈c.kd i,∀ y∈c.kd k,lI c x y) {H:List aa} (hD:Du c H):ax Tryz.prog 138 (EQ c i k) H (jD c (E c.O (c.tm i) (c.tm k)) H):=by
 refine Yw.2.calls rfl ?_
 simp only [Yw,aH,EQ]
 have k2:∀ l,(bu l).ab=bu l:=fun l=>(aJ l).2.1
 have l1:=hc.kl i hi
 have l2:=hc.kl k hk
 simp +contextual only [sZ,Nat.reduceEqDiff,Nat.reduceAdd,↓reduceIte,reduceCtorEq]
 refine af (ru hc hi hD) ?_
 rintro r H1 ⟨rfl,rfl⟩
 simp +contextual only [dO,gh,gk,gl,sZ,Nat.reduceEqDiff,Nat.reduceAdd,↓reduceIte,reduceCtorEq]
 refine af (ru hc hk hD) ?_
 rintro r H1 ⟨rfl,rfl⟩
 simp +contextual only [dO,gh,gk,gl,sZ,Nat.reduceEqDiff,↓reduceIte,reduceCtorEq]
 have eqf:∀ b:Bool,dc false (.bool b) (.bool b)=fun φ=>φ (.bool true):=fun b=>by funext φ;cases b <;> simp [dc]
 have fT0:=IT
 have fT1:∀ (t:T) (φ:AV→Prop),ap 1 none (.ai t.av) φ=φ (.ai (.int .i64 t.n)):=fun t φ=>by cases t;simp [ap,T.av,apart,AV.cells,AV.one,T.n]
 have ei:(c.nd.getD i.toNat default).fst=c.tm i:=rfl
 have ek:(c.nd.getD k.toNat default).fst=c.tm k:=rfl
 have hE:=Tx (O:=c.O) (a:=c.tm i) (b:=c.tm k)
 rw [wJ hc hi,wJ hc hk] at hE
 cases hbi:tx c i with
 | false=>
   have ki:(c.tm i).k≠2:=of_decide_eq_false hbi
   cases Ho:tx c k with
   | false=>
     have kk:(c.tm k).k≠2:=of_decide_eq_false Ho
     simp +contextual only [Bool.not_false,hD.d,nT,fN0,fT1,cN,ei,ek,sZ,Nat.reduceEqDiff,Nat.reduceAdd,Nat.reduceLT,↓reduceIte,reduceCtorEq]
     refine ⟨hi,hk,eX rfl ?_ (Up.refl c _) hD⟩
     rw [hE,decide_eq_true_eq]
     exact ⟨fun h=>.inr ⟨ki,kk,h⟩,fun h=>by rcases h with h | h;exact absurd h.1 ki;exact h.2.2⟩
   | true=>
     have kk:(c.tm k).k=2:=of_decide_eq_true Ho
     simp +contextual only [Bool.not_false,sZ,Nat.reduceEqDiff,↓reduceIte,reduceCtorEq]
     refine eX rfl ?_ (Up.refl c _) hD
     rw [hE]
     exact ⟨fun h=>by simp at h,fun h=>by rcases h with h | h;exact absurd h.1 ki;exact absurd kk h.2.1⟩
 | true=>
   have ki:(c.tm i).k=2:=of_decide_eq_true hbi
   cases Ho:tx c k with
   | false=>
     have kk:(c.tm k).k≠2:=of_decide_eq_false Ho
     simp +contextual only [Bool.not_false,Bool.not_true,sZ,Nat.reduceEqDiff,↓reduceIte,reduceCtorEq]
     refine eX rfl ?_ (Up.refl c _) hD
     rw [hE]
     exact ⟨fun h=>by simp at h,fun h=>by rcases h with h | h;exact absurd h.2.1 kk;exact absurd ki h.1⟩
   | true=>
     have kk:(c.tm k).k=2:=of_decide_eq_true Ho
     have epi:rq c i=c.O.pl (c.tm i).n:=if_pos ki
     have epk:rq c k=c.O.pl (c.tm k).n:=if_pos kk
     have esi:dN c i=c.O.sp (c.O.pl (c.tm i).n):=if_pos ki
     have hE2:E c.O (c.tm i) (c.tm k)↔rq c i=rq c k∧(if dN c i=3 then ((c.kd i).map (nf c)).Perm ((c.kd k).map (nf c)) else (c.kd i).map (nf c)=(c.kd k).map (nf c)):=by
      rw [hE,epi,epk,esi]
      exact ⟨fun h=>by rcases h with h | h;exact h.2.2;exact absurd ki h.1,fun h=>.inl ⟨ki,kk,h⟩⟩
     have eki:(c.nd.getD i.toNat default).snd=c.kd i:=rfl
     have ekk:(c.nd.getD k.toNat default).snd=c.kd k:=rfl
     have ii:IL (bu (c.kd i)) (c.kd i):=.inl rfl
     have ik:IL (bu (c.kd k)) (c.kd k):=.inl rfl
     have hlen:E c.O (c.tm i) (c.tm k)→(c.kd i).length=(c.kd k).length:=by
      intro h
      have h:=(hE2.1 h).2
      split at h
      ·simpa using h.length_eq
      ·simpa using congrArg List.length h
     simp +contextual only [Bool.not_true,hD.d,nT,FQ,cN,cb,k2,eki,ekk,ii.aO,ik.aO,ii.len (by omega),ik.len (by omega),sZ,Nat.reduceEqDiff,Nat.reduceAdd,Nat.reduceLT,↓reduceIte,reduceCtorEq]
     refine ⟨hi,hk,fun hp=>⟨fun hn=>?_,fun hlk=>⟨fun h3=>?_,fun h3=>?_⟩⟩,fun hp=>?_⟩
     ·refine eX rfl ⟨fun h=>by simp at h,fun h=>absurd (hlen h) (by omega)⟩ (Up.refl c _) hD
     ·refine af (Wp ii ik (by omega) (by omega) h2 hD) ?_
      rintro r G ⟨us,to,Cz,rfl,hU,kv⟩
      have Py:=Pr.perm (f:=nf c) Cz (by omega)
      have lbl:=kD (c.kd i).length fun i=>!us.getD i false
      have il:IL (bu (below (c.kd i).length fun i=>!us.getD i false)) (below (c.kd i).length fun i=>!us.getD i false):=.inl rfl
      generalize (below (c.kd i).length fun i=>!us.getD i false)=L at *
      simp +contextual only [k2,il.aO,il.len (by omega),sZ,Nat.reduceEqDiff,Nat.reduceAdd,Nat.reduceLT,↓reduceIte,reduceCtorEq]
      refine eX rfl ?_ hU kv
      rw [hE2,if_pos h3,Py,decide_eq_true_eq]
      exact ⟨fun h=>⟨hp,abY.1 (by omega)⟩,fun h=>by rw [h.2];rfl⟩
     ·refine af (aao (SD.Cv c _) ii ik (by omega) (by omega) 79 [.ptr c.d 0] [] rfl rfl (Q:=fun x y=>E c.O (c.tm x) (c.tm y)) (fun x hx y hy G hG=>(h2 x hx y hy G hG.1).mono fun r H' hr=>hr.sb hG) ⟨hD,Up.refl c _⟩) ?_
      rintro r G ⟨b,rfl,hb,hG⟩
      simp +contextual only [sZ,↓reduceIte,reduceCtorEq]
      refine eX rfl ?_ hG.2 hG.1
      rw [hE2,if_neg h3,hb]
      have:=Hn (f:=nf c) (a:=c.kd i) (b:=c.kd k)
      exact ⟨fun h=>⟨hp,this.2 h⟩,fun h=>this.1 h.2⟩
     ·exact eX rfl ⟨fun h=>by simp at h,fun h=>absurd (hE2.1 h).1 hp⟩ (Up.refl c _) hD
end Go.aI
end
section
set_option maxRecDepth 100000
namespace Go.aI
open Go Go.Proofs Go.dV
def eI:AV:=.agg [.gv,.fn (.func 183) [] [],.fn (.func 184) [] [],.fn (.func 185) [] [],.fn (.func 186) [] []]
theorem aeg (φ:AV→Prop):cD [.gv,.gv,.gv,.gv,.gv] [(1,1,.fn (.func 183) [] []),(2,1,.fn (.func 184) [] []),(3,1,.fn (.func 185) [] []),(4,1,.fn (.func 186) [] [])] φ=φ eI:=by
 simp only [cD,iJ,eq_iff_iff]
 constructor
 ·rintro ⟨_,_,_,_,_,_,_,_,_,_,_,_,h⟩;exact h
 ·exact fun h=>⟨rfl,rfl,by decide,rfl,rfl,by decide,rfl,rfl,by decide,rfl,rfl,by decide,h⟩
theorem CB:eI.val=true∧eI.cells.length=5∧eI.cells.all AV.one=true∧(∀ n,al n (eI.cells.map AV.ab)=true)∧ah [AV.gv,.gv,.gv,.gv,.gv] 0 (eI.cells.map AV.ab)=eI.cells:=⟨rfl,rfl,rfl,fun _=>rfl,rfl⟩
theorem Ny:Pure Tryz.prog 136 [] eI:=by
 refine fun H=>Yv.2.calls rfl ?_
 simp only [Yv,aH]
 obtain ⟨r1,r2,r3,r4,r5⟩:=CB
 simp +contextual only [aeg,r1,r2,r3,r4,r5,sZ,Nat.reduceAdd,↓reduceIte,reduceCtorEq]
 have e:c8 (some (aa.cells eI.cells)) (some 5) 0=fun φ=>(5≤5∧φ eI):=rfl
 rw [e]
 exact ⟨tv _,Tk (n0:=H.length) (by simp) rfl rfl ⟨rfl,rfl⟩⟩
theorem XB (j:Nat) (f:AV) (h:eI.cells[j]?=some f) (hj:j < 5) (φ:AV→Prop) (hd:f.drop=f):b8 5 eI (.int .i64 (j:Int)) φ=φ f:=by
 simp only [b8,eI,zV,eq_iff_iff]
 have e:[AV.gv,.fn (.func 183) [] [],.fn (.func 184) [] [],.fn (.func 185) [] [],.fn (.func 186) [] []].getD j .any=f:=by
  rw [tu];show (eI.cells[j]?).getD .any=f;rw [h];rfl
 rw [e,hd]
 exact ⟨fun h=>h.2.2.2,fun h=>⟨rfl,by omega,hj,h⟩⟩
def Nz (c:Cx) (i k:Int):Prop:=∃ x∈c.kd i,E c.O (c.tm x) (c.tm k)∨R c.O (c.tm x) (c.tm k)
def ux (c:Cx) (i k:Int):Prop:=tx c k=true∧rq c k < rq c i∧∀ x∈c.kd k,R c.O (c.tm i) (c.tm x)
def iX (c:Cx) (i k:Int) (n:Nat):Prop:=(n=1∧Nz c i k)∨(n=2∧ux c i k)∨(n=3∧Cw c i k)∨(n=4∧zD c i k)
structure IU (c:Cx) (i k:Int):Prop where
 r1:∀ H,Du c H→ax Tryz.prog 183 [.ptr c.d 0,.int .i64 i,.int .i64 k] H (jD c (Nz c i k) H)
 r2:∀ H,Du c H→ax Tryz.prog 184 [.ptr c.d 0,.int .i64 i,.int .i64 k] H (jD c (ux c i k) H)
 r3:∀ H,Du c H→ax Tryz.prog 185 [.ptr c.d 0,.int .i64 i,.int .i64 k] H (jD c (Cw c i k) H)
 r4:∀ H,Du c H→ax Tryz.prog 186 [.ptr c.d 0,.int .i64 i,.int .i64 k] H (jD c (zD c i k) H)
theorem IU.at {c:Cx} {i k:Int} (h:IU c i k) {n:Nat} (h1:0 < n) (h2:n < 5) {H:List aa} (hD:Du c H):ax Tryz.prog (182 + n) [.ptr c.d 0,.int .i64 i,.int .i64 k] H (jD c (iX c i k n) H):=by
 have:n=1∨n=2∨n=3∨n=4:=by omega
 have key:∀ {Q Q':Prop} {f:Nat},ax Tryz.prog f [.ptr c.d 0,.int .i64 i,.int .i64 k] H (jD c Q H)→(Q↔Q')→ax Tryz.prog f [.ptr c.d 0,.int .i64 i,.int .i64 k] H (jD c Q' H):=by
  intro Q Q' f h e
  refine h.mono ?_
  rintro r H' ⟨b,h1,h2,h3,h4⟩
  exact ⟨b,h1,h2.trans e,h3,h4⟩
 rcases this with rfl | rfl | rfl | rfl
 ·exact key (h.r1 H hD) (by simp [iX])
 ·exact key (h.r2 H hD) (by simp [iX])
 ·exact key (h.r3 H hD) (by simp [iX])
 ·exact key (h.r4 H hD) (by simp [iX])
theorem aeh {c:Cx} (hc:c.Ok) {i k:Int} (hi:c.ew i) (hr:IU c i k) {H:List aa} (hD:Du c H):ax Tryz.prog 134 (EQ c i k) H (jD c (tx c i=true∧∃ n,n < 5∧iX c i k n) H):=by
 refine Yt.2.calls rfl ?_
 simp only [Yt,aH,EQ]
 simp +contextual only [sZ,Nat.reduceEqDiff,Nat.reduceAdd,↓reduceIte,reduceCtorEq]
 refine af (ru hc hi hD) ?_
 rintro r H1 ⟨rfl,rfl⟩
 simp +contextual only [dO,gh,gk,gl,sZ,Nat.reduceEqDiff,↓reduceIte,reduceCtorEq]
 cases hb:tx c i with
 | false=>
   simp +contextual only [Bool.not_false,sZ,↓reduceIte,reduceCtorEq]
   exact eX rfl ⟨fun h=>by simp at h,fun h=>absurd h.1 (by simp)⟩ (Up.refl c _) hD
 | true=>
   simp +contextual only [Bool.not_true,sZ]
   refine ae Ny ?_
   simp +contextual only [sZ,Nat.reduceEqDiff,↓reduceIte,reduceCtorEq]
   refine aG 5 (fun n (G:List aa)=>SD c H1 G∧∀ m,m < n→¬ iX c i k m)
    (fun n G=>[(0,.ai (.ptr c.d 0)),(1,.ai (.int .i64 i)),(2,.ai (.int .i64 k)),(18,eI),(19,.int .i64 n)]) (fun n G=>G) H1 ⟨⟨⟨hD,Up.refl c _⟩,fun m hm=>by omega⟩,aA _ _ _⟩ fun n G hn hI=>?_
   obtain ⟨hG,kq⟩:=hI
   by_cases h0:n=0
   ·subst h0
    have e0:=XB 0 .gv rfl (by decide)
    have d1:decide (((0:Nat):Int) < 5)=true:=rfl
    have d2:decide ((0:Int) < ((0:Nat):Int))=false:=rfl
    simp +contextual only [nK,e0 _ rfl,d1,d2,sZ,Nat.reduceEqDiff,↓reduceIte,reduceCtorEq]
    refine ⟨1,G,⟨by omega,hG,fun m hm=>?_⟩,by omega,aD rfl rfl⟩
    intro h
    simp only [iX] at h
    omega
   ·by_cases h5:n < 5
    ·have hf:eI.cells[n]?=some (.fn (.func (182 + n)) [] []):=by
      have:n=1∨n=2∨n=3∨n=4:=by omega
      rcases this with rfl | rfl | rfl | rfl <;> rfl
     have en:=XB n _ hf h5
     have d1:decide ((n:Int) < 5)=true:=decide_eq_true (by omega)
     have d2:decide ((0:Int) < n)=true:=decide_eq_true (by omega)
     simp +contextual only [nK,en _ rfl,d1,d2,sZ,Nat.reduceEqDiff,Nat.reduceAdd,↓reduceIte,reduceCtorEq]
     refine af (hr.at (by omega) h5 hG.1) ?_
     rintro r G' ⟨b,rfl,ey,hU,kv⟩
     have eW:SD c H1 G':=⟨kv,hG.2.trans hU⟩
     cases b with
     | true=>
       simp +contextual only [sZ,Nat.reduceEqDiff,↓reduceIte,reduceCtorEq]
       exact eX rfl ⟨fun _=>⟨rfl,n,h5,ey.1 rfl⟩,fun _=>rfl⟩ eW.2 eW.1
     | false=>
       simp +contextual only [sZ,Nat.reduceEqDiff,↓reduceIte,reduceCtorEq]
       refine ⟨n + 1,G',⟨by omega,eW,fun m hm=>?_⟩,by omega,aD (by rw [aq n (by omega)]) rfl⟩
       by_cases e:m=n
       ·subst e;exact fun h=>absurd (ey.2 h) (by simp)
       ·exact kq m (by omega)
    ·have d1:decide ((n:Int) < 5)=false:=decide_eq_false (by omega)
     simp +contextual only [d1,sZ,Nat.reduceEqDiff,↓reduceIte,reduceCtorEq]
     exact eX rfl ⟨fun h=>by simp at h,fun ⟨_,m,hm,h⟩=>absurd h (kq m (by omega))⟩ hG.2 hG.1
theorem iB {f:Int→T} {s:Int} {l:List Int}:side s (l.map f)=(bt s l).map f:=by unfold side bt;split <;> simp
theorem Lg.lx {f:Int→T} {G:T→T→Prop} (irr:∀ x,¬ G x x):∀ {a b:List Int} {n:Nat},Lg (fun x y=>f x=f y) a b n→(Lx G (a.map f) (b.map f)↔n < a.length∧(n=b.length∨G (f (a.getD n 0)) (f (b.getD n 0))))
 | [],b,n,h=>by simp [Lx]
 | x::r,[],n,h=>by
   have:=h.lb
   simp at this
   subst this
   simp [Lx]
 | x::r,y::s,0,h=>by
   have dP:¬ f x=f y:=h.no (by simp) (by simp)
   simp [Lx,dP]
 | x::r,y::s,m + 1,h=>by
   have heq:f x=f y:=h.eq 0 (by omega)
   have ih:=Lg.lx irr (a:=r) (b:=s) (n:=m) ⟨by have:=h.la;simp at this;omega,by have:=h.lb;simp at this;omega,fun j hj=>h.eq (j + 1) (by omega),fun h1 h2=>h.no (by simpa using h1) (by simpa using h2)⟩
   simp only [List.map_cons,Lx,heq,true_and,List.length_cons,List.getD_cons_succ,Nat.add_lt_add_iff_right,Nat.add_right_cancel_iff]
   rw [ih]
   exact ⟨fun h=>by rcases h with h | h;exact h;exact absurd h (irr _),fun h=>.inl h⟩
theorem yn {Q:Int→Int→Prop}:∀ (a b:List Int),∃ n,Lg Q a b n
 | [],b=>⟨0,by simp,by simp,fun j h=>by omega,fun h=>by simp at h⟩
 | x::r,[]=>⟨0,by simp,by simp,fun j h=>by omega,fun _ h=>by simp at h⟩
 | x::r,y::s=>by
   by_cases hq:Q x y
   ·obtain ⟨n,h⟩:=yn (Q:=Q) r s
    refine ⟨n + 1,by have:=h.la;simp;omega,by have:=h.lb;simp;omega,fun j hj=>?_,fun h1 h2=>h.no (by simpa using h1) (by simpa using h2)⟩
    cases j with
    | zero=>exact hq
    | succ j=>exact h.eq j (by omega)
   ·exact ⟨0,by simp,by simp,fun j h=>by omega,fun _ _=>hq⟩
theorem uy {c:Cx} (hc:c.Ok) {i k:Int} (hi:c.ew i) (hk:c.ew k):(tx c i=true∧∃ n,n < 5∧iX c i k n)↔R c.O (c.tm i) (c.tm k):=by
 rw [qL,wJ hc hi,wJ hc hk]
 have hbi:tx c i=true↔(c.tm i).k=2:=by simp [tx]
 have Ho:tx c k=true↔(c.tm k).k=2:=by simp [tx]
 rw [hbi]
 refine and_congr_right fun hki=>?_
 have epi:rq c i=c.O.pl (c.tm i).n:=if_pos hki
 have esi:dN c i=c.O.sp (c.O.pl (c.tm i).n):=if_pos hki
 have lk:=(hc.kids k hk).1
 have li:=(hc.kids i hi).1
 have all:(∀ x∈c.kd k,R c.O (c.tm i) (c.tm x))↔∀ y∈(c.tm k).l,R c.O (c.tm i) y:=by rw [← lk];simp
 have sub:Nz c i k↔∃ x∈(c.tm i).l,E c.O x (c.tm k)∨R c.O x (c.tm k):=by
  rw [← li];unfold Nz
  constructor
  ·rintro ⟨x,hx,h⟩;exact ⟨_,aan.2 ⟨x,hx,rfl⟩,h⟩
  ·rintro ⟨y,hy,h⟩;obtain ⟨x,hx,rfl⟩:=aan.1 hy;exact ⟨x,hx,h⟩
 have lex:Cw c i k↔(c.tm k).k=2∧c.O.pl (c.tm k).n=c.O.pl (c.tm i).n∧c.O.sp (c.O.pl (c.tm i).n)≠3∧(∀ y∈(c.tm k).l,R c.O (c.tm i) y)∧Lx (Gt c.O.sp) (side (c.O.sp (c.O.pl (c.tm i).n)) ((c.kd i).map (nf c))) (side (c.O.sp (c.O.pl (c.tm i).n)) ((c.kd k).map (nf c))):=by
  unfold Cw
  rw [lJ,all,← esi,iB,iB]
  obtain ⟨n,hn⟩:=yn (Q:=fun x y=>nf c x=nf c y) (bt (dN c i) (c.kd i)) (bt (dN c i) (c.kd k))
  have hlx:=Lg.lx (G:=Gt c.O.sp) (fun x=>yc x) hn
  rw [hlx]
  constructor
  ·rintro ⟨⟨_,h1,h2⟩,h3,h4,m,hm,h5⟩
   have:=hm.Wl hn
   subst this
   exact ⟨h1,h2.symm,h3,h4,h5⟩
  ·rintro ⟨h1,h2,h3,h4,h5⟩
   exact ⟨⟨hki,h1,h2.symm⟩,h3,h4,n,hn,h5⟩
 have mul:zD c i k↔(c.tm k).k=2∧c.O.pl (c.tm k).n=c.O.pl (c.tm i).n∧c.O.sp (c.O.pl (c.tm i).n)=3∧Mu (Gt c.O.sp) ((c.kd i).map (nf c)) ((c.kd k).map (nf c)):=by
  unfold zD
  rw [lJ,← esi]
  exact ⟨fun ⟨⟨_,h1,h2⟩,h3⟩=>⟨h1,h2.symm,h3⟩,fun ⟨h1,h2,h3⟩=>⟨⟨hki,h1,h2.symm⟩,h3⟩⟩
 have pla:ux c i k↔(c.tm k).k=2∧c.O.pl (c.tm k).n < c.O.pl (c.tm i).n∧∀ y∈(c.tm k).l,R c.O (c.tm i) y:=by
  unfold ux
  rw [all,Ho,epi]
  refine and_congr_right fun h=>?_
  rw [show rq c k=c.O.pl (c.tm k).n from if_pos h]
 have e:(∃ n,n < 5∧iX c i k n)↔Nz c i k∨ux c i k∨Cw c i k∨zD c i k:=by
  constructor
  ·rintro ⟨n,_,h | h | h | h⟩
   ·exact .inl h.2
   ·exact .inr (.inl h.2)
   ·exact .inr (.inr (.inl h.2))
   ·exact .inr (.inr (.inr h.2))
  ·rintro (h | h | h | h)
   ·exact ⟨1,by omega,.inl ⟨rfl,h⟩⟩
   ·exact ⟨2,by omega,.inr (.inl ⟨rfl,h⟩)⟩
   ·exact ⟨3,by omega,.inr (.inr (.inl ⟨rfl,h⟩))⟩
   ·exact ⟨4,by omega,.inr (.inr (.inr ⟨rfl,h⟩))⟩
 rw [e,sub,pla,lex,mul]
 refine or_congr_right ?_
 constructor
 ·rintro (⟨h1,h2⟩ | ⟨h1,h2⟩ | ⟨h1,h2⟩)
  ·exact ⟨h1,.inl h2⟩
  ·exact ⟨h1,.inr (.inl h2)⟩
  ·exact ⟨h1,.inr (.inr h2)⟩
 ·rintro ⟨h1,h2 | h2 | h2⟩
  ·exact .inl ⟨h1,h2⟩
  ·exact .inr (.inl ⟨h1,h2⟩)
  ·exact .inr (.inr ⟨h1,h2⟩)
theorem jD.iff {c:Cx} {Q Q':Prop} {f:Nat} {args:List AV} {H:List aa} (h:ax Tryz.prog f args H (jD c Q H)) (e:Q↔Q'):ax Tryz.prog f args H (jD c Q' H):=by
 refine h.mono ?_
 rintro r H' ⟨b,h1,h2,h3,h4⟩
 exact ⟨b,h1,h2.trans e,h3,h4⟩
theorem EX {c:Cx} (hc:c.Ok):∀ (N:Nat) (i k:Int),c.ew i→c.ew k→wt (c.tm i) + wt (c.tm k)≤N→lI c i k∧ji c i k:=by
 intro N
 induction N with
 | zero=>intro i k _ _ h;have:=dH (c.tm i);omega
 | succ N ih=>
 intro i k hi hk hN
 have hx:∀ {j:Int},c.ew j→∀ x∈c.kd j,c.ew x∧wt (c.tm x) < wt (c.tm j):=fun {j} hj x hx=>by
  have h1:=hc.kids j hj
  exact ⟨h1.2 x hx,cu (by rw [← h1.1];exact aan.2 ⟨x,hx,rfl⟩)⟩
 have s1:∀ x∈c.kd i,∀ y∈c.kd k,lI c x y:=fun x h y h'=>(ih x y (hx hi x h).1 (hx hk y h').1 (by have:=(hx hi x h).2;have:=(hx hk y h').2;omega)).1
 have m1:∀ x∈c.kd i,∀ y∈c.kd k,ji c x y:=fun x h y h'=>(ih x y (hx hi x h).1 (hx hk y h').1 (by have:=(hx hi x h).2;have:=(hx hk y h').2;omega)).2
 have s2:∀ x∈c.kd i,lI c x k:=fun x h=>(ih x k (hx hi x h).1 hk (by have:=(hx hi x h).2;omega)).1
 have m2:∀ x∈c.kd i,ji c x k:=fun x h=>(ih x k (hx hi x h).1 hk (by have:=(hx hi x h).2;omega)).2
 have m3:∀ y∈c.kd k,ji c i y:=fun y h=>(ih i y hi (hx hk y h).1 (by have:=(hx hk y h).2;omega)).2
 refine ⟨c79 hc fun H hD=>aef hc hi hk s1 hD,c76 hc fun H hD=>jD.iff (aeh hc hi ⟨fun H hD=>aap hc hi s2 m2 hD,fun H hD=>aaq hc hi hk m3 hD,fun H hD=>aas hc hi hk m3 s1 m1 hD,fun H hD=>aay hc hi hk s1 m1 hD⟩ hD) (uy hc hi hk)⟩
theorem k8 {c:Cx} (hc:c.Ok) {i k:Int} (hi:c.ew i) (hk:c.ew k):lI c i k:=(EX hc _ i k hi hk (tv _)).1
theorem k9 {c:Cx} (hc:c.Ok) {i k:Int} (hi:c.ew i) (hk:c.ew k):ji c i k:=(EX hc _ i k hi hk (tv _)).2
end Go.aI
end
section
set_option maxRecDepth 100000
namespace Go.aI
open Go Go.Proofs Go.dV
def EmT (nd:List Nd) (t:T) (i:Nat):Prop:=∀ j,j < wt t→nd[i + j]?=(ye t i)[j]?
def NA (nd:List Nd) (l:List T) (i:Nat):Prop:=∀ j,j < fN l→nd[i + j]?=(dh l i)[j]?
theorem EmT.head {nd:List Nd} {t:T} {i:Nat} (h:EmT nd t i):nd[i]?=some (t,ba t.l (i + 1))∧NA nd t.l (i + 1):=by
 have hw:=yf t
 constructor
 ·have:=h 0 (dH t)
  rw [pX] at this
  simpa using this
 ·intro j hj
  have:=h (j + 1) (by omega)
  rw [pX,List.getElem?_cons_succ] at this
  rw [← this];congr 1;omega
theorem NA.cons {nd:List Nd} {x:T} {r:List T} {i:Nat} (h:NA nd (x::r) i):EmT nd x i∧NA nd r (i + wt x):=by
 constructor
 ·intro j hj
  have:=h j (by rw [fN];omega)
  rw [dh,zR (by rw [sQ];exact hj)] at this
  exact this
 ·intro j hj
  have:=h (wt x + j) (by rw [fN];omega)
  rw [dh,aba (by rw [sQ];omega),sQ] at this
  rw [show wt x + j - wt x=j by omega] at this
  rw [← this];congr 1;omega
theorem NA.kids {nd:List Nd}:∀ {l:List T} {i:Nat},NA nd l i→(ba l i).map (fun k=>(nd.getD k.toNat default).1)=l∧∀ k∈ba l i,0≤k∧k < nd.length
 | [],i,_=>⟨rfl,fun k h=>by simp [ba] at h⟩
 | x::r,i,h=>by
   obtain ⟨h1,h2⟩:=h.cons
   obtain ⟨h3,h4⟩:=NA.kids h2
   have h5:=h1.head.1
   have h6:=(aa0.1 h5).1
   refine ⟨?_,?_⟩
   ·rw [ba,List.map_cons,h3]
    congr 1
    rw [tu,zV,h5];rfl
   ·intro k hk
    rw [ba] at hk
    rcases Xi.1 hk with rfl | hk
    ·omega
    ·exact h4 k hk
def Gd (nd:List Nd) (p:Int→Prop) (i:Nat):Prop:=∃ t,nd[i]?=some (t,ba t.l (i + 1))∧NA nd t.l (i + 1)∧v9 p t
mutual
theorem gdT {nd:List Nd} {p:Int→Prop}:∀ (t:T) (i:Nat),EmT nd t i→v9 p t→∀ j,j < wt t→Gd nd p (i + j)
 | .mk k n l,i,h,ha,j,hj=>by
   obtain ⟨h1,h2⟩:=h.head
   cases j with
   | zero=>exact ⟨_,h1,h2,ha⟩
   | succ j=>
     have:=gdL l (i + 1) h2 (fun x hx=>ha.mem hx) j (by rw [wt] at hj;omega)
     rw [show i + (j + 1)=i + 1 + j by omega];exact this
theorem gdL {nd:List Nd} {p:Int→Prop}:∀ (l:List T) (i:Nat),NA nd l i→(∀ x∈l,v9 p x)→∀ j,j < fN l→Gd nd p (i + j)
 | [],i,h,ha,j,hj=>by simp [fN] at hj
 | x::r,i,h,ha,j,hj=>by
   obtain ⟨h1,h2⟩:=h.cons
   by_cases hx:j < wt x
   ·exact gdT x i h1 (ha x aa2) j hx
   ·have:=gdL r (i + wt x) h2 (fun y hy=>ha y (aaK _ hy)) (j - wt x) (by rw [fN] at hj;omega)
    rw [show i + j=i + wt x + (j - wt x) by omega];exact this
end
def iE (ps ss:List Int) (ts:List T) (n:Nat):Cx:=⟨ps,ss,dh ts 0,n + 2,n,n + 1⟩
theorem RU (ts:List T):NA (dh ts 0) ts 0:=fun j _=>by rw [ach]
theorem TC {ps ss:List Int} (hv:Va ps ss) {ts:List T} (dP:ts≠[]) (hw:fN ts≤100000000) (ha:∀ t∈ts,v9 (fun n=>0≤n∧n < ps.length) t) (n:Nat):(iE ps ss ts n).Ok:=by
 have hl:(dh ts 0).length=fN ts:=iW ts 0
 have gd:∀ i,(iE ps ss ts n).ew i→∃ t,(dh ts 0).getD i.toNat default=(t,ba t.l (i.toNat + 1))∧NA (dh ts 0) t.l (i.toNat + 1)∧v9 (fun n=>0≤n∧n < ps.length) t:=by
  intro i hi
  have mq:i.toNat < fN ts:=by have:=hi.1;have:=hi.2;simp only [iE] at *;omega
  obtain ⟨t,h1,h2,h3⟩:=gdL ts 0 (RU ts) ha i.toNat mq
  rw [ach] at h1 h2
  exact ⟨t,by rw [tu,h1];rfl,h2,h3⟩
 refine ⟨hv,?_,by simp [iE],by simp [iE],by simp [iE],fun i hi=>?_,fun i hi=>?_,fun i hi hk=>?_⟩
 ·intro e
  have e:dh ts 0=[]:=e
  rw [e] at hl
  have:=gL ts
  have h0:ts.length=0:=by simp at hl;omega
  exact dP (abY.1 h0)
 ·obtain ⟨t,h1,h2,h3⟩:=gd i hi
  show ((dh ts 0).getD i.toNat default).2.length≤_
  rw [h1,cM]
  by_cases h0:t.l=[]
  ·rw [h0];simp
  ·have:fN t.l≤(dh ts 0).length:=by
    have hp:0 < fN t.l:=by
     have:=gL t.l
     have:=agz.2 h0
     omega
    have:=h2 (fN t.l - 1) (by omega)
    have h4:(dh t.l (i.toNat + 1))[fN t.l - 1]?≠none:=by rw [T1 (by rw [iW];omega)];simp
    rw [← this] at h4
    have h5:i.toNat + 1 + (fN t.l - 1) < (dh ts 0).length:=by
     apply Decidable.byContradiction
     intro hc
     exact h4 (aci (by omega))
    omega
   have:=gL t.l
   omega
 ·obtain ⟨t,h1,h2,h3⟩:=gd i hi
  have hk:=h2.kids
  have e1:(iE ps ss ts n).kd i=ba t.l (i.toNat + 1):=by show ((dh ts 0).getD i.toNat default).2=_;rw [h1]
  have e2:(iE ps ss ts n).tm i=t:=by show ((dh ts 0).getD i.toNat default).1=_;rw [h1]
  rw [e1,e2]
  exact hk
 ·obtain ⟨t,h1,h2,h3⟩:=gd i hi
  have e2:(iE ps ss ts n).tm i=t:=by show ((dh ts 0).getD i.toNat default).1=_;rw [h1]
  rw [e2] at hk ⊢
  exact h3.op hk
theorem AR (ps ss:List Int) {ts:List T} (dP:ts≠[]) (H:List aa):Du (iE ps ss ts H.length) (H++[.map [],.map [],k7 ps ss (dh ts 0) H.length (H.length + 1)]):=by
 have hn:dh ts 0≠[]:=by
  intro e
  have hl:(dh ts 0).length=fN ts:=iW ts 0
  have:=gL ts
  rw [e] at hl
  have h0:ts.length=0:=by simp at hl;omega
  exact dP (abY.1 h0)
 refine ⟨?_,⟨[],?_,fun p hp=>by simp at hp⟩,⟨[],?_,fun p hp=>by simp at hp⟩⟩
 ·show (H++[aa.map [],.map [],k7 ps ss (dh ts 0) H.length (H.length + 1)])[H.length + 2]?=_
  rw [k7,pk,if_neg hn]
  simp [iE]
 ·show (H++[aa.map [],.map [],k7 ps ss (dh ts 0) H.length (H.length + 1)])[H.length]?=_
  simp [nS]
 ·show (H++[aa.map [],.map [],k7 ps ss (dh ts 0) H.length (H.length + 1)])[H.length + 1]?=_
  simp [nS]
theorem vI {ps ss:List Int} {ts:List T} {n j:Nat} (hj:j < ts.length):(iE ps ss ts n).ew ((ba ts 0).getD j 0)∧(iE ps ss ts n).tm ((ba ts 0).getD j 0)=ts.getD j default:=by
 obtain ⟨h1,h2⟩:=(RU ts).kids
 have hl:=cM ts 0
 refine ⟨h2 _ (aV (by omega)),?_⟩
 have:=congrArg (fun l=>l[j]?) h1
 have wI:j < (ba ts 0).length:=by omega
 simp only [acu,T1 wI,T1 hj,Option.map_some,Option.some.injEq] at this
 have e1:(ba ts 0).getD j 0=(ba ts 0)[j]:=by simp [wI]
 have e2:ts.getD j default=ts[j]:=by simp [hj]
 rw [e1,e2]
 exact this
end Go.aI
end
section
set_option maxRecDepth 100000
namespace Go.aI
open Go Go.Proofs
theorem ixs (s:ByteArray) (k:IntKind) (i:Nat) (φ:AV→Prop):bO (.str s) (.int k (i:Int)) φ=(i < s.size∧φ (.int .u8 (s.data.toList.getD i 0).toNat)):=by
 simp only [bO,zV,eq_iff_iff]
 exact ⟨fun h=>h.2,fun h=>⟨by omega,h⟩⟩
theorem rv (a b:ByteArray) (φ:AV→Prop):dl .eql (.str a) (.str b) φ=φ (.bool (decide (a=b))):=by
 simp [dl]
theorem IV {g:Nat} {f:List AV→Option AV} (h:vA Tryz.prog g (.xH f)) {xs:List AV} {r:AV} (hr:f xs=some r):Pure Tryz.prog g xs r:=fun H=>h xs r H hr
theorem ael (s:ByteArray) (c:Int):Pure Tryz.prog 238 [.str s,.int .u8 c] (.int .i64 (firstIdx s c.toNat.toUInt8)):=IV ZA rfl
def oB (s:ByteArray) (c:Int):Int:=s.foldl (fun (n:Int) x=>if x == c.toNat.toUInt8 then n + 1 else n) ((0:Nat):Int)
theorem aem (s:ByteArray) (c:Int):Pure Tryz.prog 231 [.str s,.int .u8 c] (.int .i64 (oB s c)):=IV ZB (by simp only [countP,oB])
theorem aaz (s:ByteArray) (c:Int):Pure Tryz.prog 228 [.str s,.int .u8 c] (.int .i64 (firstIdx s c.toNat.toUInt8)):=by
 refine fun H=>Qk.2.calls rfl ?_
 simp only [Qk,aH]
 simp +contextual only [B5,sZ,Nat.reduceEqDiff,Nat.reduceAdd,↓reduceIte,reduceCtorEq]
 refine ae (ael s c) ?_
 simp +contextual only [sZ,↓reduceIte,reduceCtorEq]
 exact aM rfl rfl
theorem aen (s:ByteArray) (c:Int):Pure Tryz.prog 190 [.str s,.int .u8 c] (.int .i64 (firstIdx s c.toNat.toUInt8)):=by
 refine fun H=>P7.2.calls rfl ?_
 simp only [P7,aH]
 simp +contextual only [B5,sZ,Nat.reduceEqDiff,Nat.reduceAdd,↓reduceIte,reduceCtorEq]
 refine ae (aaz s c) ?_
 simp +contextual only [sZ,↓reduceIte,reduceCtorEq]
 exact aM rfl rfl
def us:ByteArray:=⟨#[95]⟩
theorem ix0 (k:IntKind) (φ:AV→Prop):bO (.str us) (.int k 0) φ=φ (.int .u8 95):=by
 simp only [bO,eq_iff_iff]
 exact ⟨fun h=>h.2.2,fun h=>⟨by omega,by decide,h⟩⟩
def NB (s:ByteArray):Int:=if s=us then 0 else firstIdx s 95
theorem aeo (s:ByteArray):Pure Tryz.prog 229 [.str s,.str us] (.int .i64 (NB s)):=by
 refine fun H=>Ql.2.calls rfl ?_
 simp only [Ql,aH]
 unfold NB
 have de:((us.size:Nat):Int)=1:=rfl
 by_cases hs:s=us
 ·rw [if_pos hs]
  simp +contextual only [rv,de,hs,Int.reduceEq,sZ,Nat.reduceEqDiff,Nat.reduceAdd,↓reduceIte,reduceCtorEq,Int.reduceEq]
  exact aM rfl rfl
 ·rw [if_neg hs]
  have Ub:¬ us=s:=fun e=>hs e.symm
  simp +contextual only [rv,de,Ub,ix0,Int.reduceEq,sZ,Nat.reduceEqDiff,Nat.reduceAdd,↓reduceIte,reduceCtorEq,Int.reduceEq]
  refine ae (aaz s 95) ?_
  simp +contextual only [sZ,↓reduceIte,reduceCtorEq]
  exact aM rfl rfl
theorem aep (s:ByteArray):Pure Tryz.prog 191 [.str s,.str us] (.int .i64 (NB s)):=by
 refine fun H=>P8.2.calls rfl ?_
 simp only [P8,aH]
 simp +contextual only [sZ,Nat.reduceEqDiff,Nat.reduceAdd,↓reduceIte,reduceCtorEq]
 refine ae (aeo s) ?_
 simp +contextual only [sZ,↓reduceIte,reduceCtorEq]
 exact aM rfl rfl
theorem aeq (s:ByteArray):Pure Tryz.prog 142 [.str s,.str us] (.bool (decide (0≤NB s))):=by
 refine fun H=>PY.2.calls rfl ?_
 simp only [PY,aH]
 simp +contextual only [sZ,Nat.reduceEqDiff,Nat.reduceAdd,↓reduceIte,reduceCtorEq]
 refine ae (aep s) ?_
 simp +contextual only [sZ,↓reduceIte,reduceCtorEq]
 exact aM rfl rfl
theorem aer (s:ByteArray):Pure Tryz.prog 193 [.str s,.str us] (.int .i64 (oB s 95)):=by
 refine fun H=>Qa.2.calls rfl ?_
 simp only [Qa,aH]
 have de:((us.size:Nat):Int)=1:=rfl
 simp +contextual only [de,ix0,Int.reduceEq,sZ,Nat.reduceEqDiff,Nat.reduceAdd,↓reduceIte,reduceCtorEq,Int.reduceEq]
 refine ae (aem s 95) ?_
 simp +contextual only [sZ,↓reduceIte,reduceCtorEq]
 exact aM rfl rfl
def yo (c:UInt8):Bool:=decide (((c.toNat:Nat):Int) < 33) || decide ((126:Int) < ((c.toNat:Nat):Int)) || decide (0≤firstIdx ⟨#[40,41,44]⟩ ((c.toNat:Nat):Int).toNat.toUInt8)
def om (s:ByteArray):Bool:=!decide (((s.size:Nat):Int) < 1) && !decide ((32:Int) < ((s.size:Nat):Int)) && s.data.toList.all fun c=>!yo c
theorem AS {p:UInt8→Bool} {l:List UInt8} {i:Nat} (h:i < l.length):(l.drop i).all p=(p (l.getD i 0) && (l.drop (i + 1)).all p):=by
 rw [aaP h,List.all_cons]
 simp [h]
theorem aaA (s:ByteArray):Pure Tryz.prog 141 [.str s] (.bool (om s)):=by
 refine fun H=>SU.calls rfl ?_
 simp only [Md,SS]
 have hl:s.data.toList.length=s.size:=rfl
 unfold om
 simp +contextual only [sZ,Nat.reduceEqDiff,Nat.reduceAdd,↓reduceIte,reduceCtorEq]
 refine ⟨fun h1=>⟨fun h2=>?_,fun h2=>?_⟩,fun h1=>?_⟩
 ·exact aM rfl (by simp [h2])
 ·refine ay s.size (fun i=>((s.data.toList.drop i).all fun c=>!yo c)=(s.data.toList.all fun c=>!yo c))
   (fun i=>[(0,.str s),(13,.int .i64 s.size),(14,.int .i64 i)]) (fun i=>H) ⟨rfl,aA _ _ _⟩ fun i hi hI=>?_
  simp +contextual only [ixs,sZ,Nat.reduceEqDiff,Nat.reduceAdd,↓reduceIte,reduceCtorEq]
  have fin:∀ (aP:i < s.size),yo (s.data.toList.getD i 0)=true→(s.data.toList.all fun c=>!yo c)=false:=fun aP hb=>by
   rw [← hI,AS (by omega),hb];rfl
  refine ⟨fun aP=>?_,fun iq=>?_⟩
  ·have aP:=bA aP
   have fin:=fin aP
   rw [AS (by omega)] at hI
   have Tw:yo (s.data.toList.getD i 0)=(decide ((((s.data.toList.getD i 0).toNat:Nat):Int) < 33) || decide ((126:Int) < (((s.data.toList.getD i 0).toNat:Nat):Int)) || decide (0≤firstIdx ⟨#[40,41,44]⟩ (((s.data.toList.getD i 0).toNat:Nat):Int).toNat.toUInt8)):=rfl
   generalize s.data.toList.getD i 0=c at *
   refine ⟨aP,fun a=>⟨aP,fun b=>⟨aP,ae (aen _ _) ?_⟩,fun b=>?_⟩,fun a=>?_⟩
   ·simp +contextual only [sZ,Nat.reduceEqDiff,↓reduceIte,reduceCtorEq]
    refine ⟨fun d=>?_,fun d=>?_⟩
    ·exact aM rfl (by rw [fin (by rw [Tw];simp only [decide_eq_true d,Bool.or_true])];simp)
    ·refine ⟨i + 1,⟨aP,?_⟩,by omega,aD (by rw [aq i (by omega)]) rfl⟩
     rw [← hI]
     have:yo c=false:=by
      rw [Tw]
      simp only [aco,decide_eq_false_iff_not]
      omega
     rw [this];simp
   ·exact aM rfl (by rw [fin (by rw [Tw];simp only [decide_eq_true b,Bool.or_true,Bool.true_or])];simp)
   ·exact aM rfl (by rw [fin (by rw [Tw];simp only [decide_eq_true a,Bool.true_or])];simp)
  ·rw [aaN (by have:=cc iq;omega)] at hI
   exact aM rfl (by rw [← hI];simp;omega)
 ·exact aM rfl (by simp [h1])
end Go.aI
end
section
set_option maxRecDepth 100000
namespace Go.aI
open Go Go.Proofs
structure iY where
 name:ByteArray
 args:List Int
 zF:Int
 deriving Inhabited
structure Sg where
 aS:List ByteArray
 ops:List iY
 deriving Inhabited
def iY.av (o:iY):AV:=.agg [.str o.name,.aj 0 (ints o.args),.int .i64 o.zF]
def po (l:List iY):List AV:=l.map iY.av
def strs (l:List ByteArray):List AV:=l.map AV.str
def Sg.av (s:Sg):AV:=.agg [.aj 0 (strs s.aS),.aj 0 (po s.ops)]
theorem yp (l:List iY):(po l).length=l.length:=by simp [po]
theorem EY (l:List ByteArray):(strs l).length=l.length:=by simp [strs]
theorem yq (n:Nat) (l:List iY):al n (po l)=true:=by
 rw [a9];intro x hx;obtain ⟨y,_,rfl⟩:=aan.1 hx
 simp [iY.av,AV.bb,al,aT]
theorem yr (n:Nat) (l:List ByteArray):al n (strs l)=true:=by
 rw [a9];intro x hx;obtain ⟨y,_,rfl⟩:=aan.1 hx;rfl
theorem iY.ma (n:Nat) (o:iY):o.av.bb n=true:=by simp [iY.av,AV.bb,al,aT]
theorem iY.xZ (o:iY):o.av.val=true:=rfl
theorem iY.rj (o:iY):o.av.cells.all AV.one=true:=rfl
theorem iY.pj (o:iY):o.av.ab=o.av:=rfl
theorem iY.sL (o:iY):o.av.drop=o.av:=rfl
theorem iY.iU (o:iY):o.av.cells.length=3:=rfl
theorem Sg.ma (n:Nat) (o:Sg):o.av.bb n=true:=by simp [Sg.av,AV.bb,al,yr,yq]
theorem Sg.xZ (o:Sg):o.av.val=true:=rfl
theorem Sg.rj (o:Sg):o.av.cells.all AV.one=true:=rfl
theorem Sg.pj (o:Sg):o.av.ab=o.av:=rfl
theorem Sg.sL (o:Sg):o.av.drop=o.av:=rfl
theorem Sg.iU (o:Sg):o.av.cells.length=2:=rfl
theorem KI (o:Nat) (l:List iY):(∀ (own:Nat) (xs:List AV),AV.aj o (po l)=AV.aj own xs→∀ z∈xs,z.cells.length=3)=True:=by
 simp only [eq_iff_iff,iff_true]
 intro own xs e z hz
 cases e
 obtain ⟨y,_,rfl⟩:=aan.1 hz
 rfl
theorem KJ (o:Nat) (l:List ByteArray):(∀ (own:Nat) (xs:List AV),AV.aj o (strs l)=AV.aj own xs→∀ z∈xs,z.cells.length=1)=True:=by
 simp only [eq_iff_iff,iff_true]
 intro own xs e z hz
 cases e
 obtain ⟨y,_,rfl⟩:=aan.1 hz
 rfl
theorem NC (e o:Nat) (l:List iY) (k:IntKind) (i:Nat) (φ:AV→Prop):aE e (.aj o (po l)) (.int k (i:Int)) φ=(i < l.length∧φ (.ai (l.getD i default).av)):=by
 simp only [aE,yp,zV,eq_iff_iff]
 constructor
 ·rintro ⟨_,h,h2⟩;refine ⟨h,?_⟩;simpa [po,h] using h2
 ·rintro ⟨h,h2⟩;refine ⟨by omega,h,?_⟩;simpa [po,h] using h2
theorem ND (e o:Nat) (l:List ByteArray) (k:IntKind) (i:Nat) (φ:AV→Prop):aE e (.aj o (strs l)) (.int k (i:Int)) φ=(i < l.length∧φ (.ai (.str (l.getD i default)))):=by
 simp only [aE,EY,zV,eq_iff_iff]
 constructor
 ·rintro ⟨_,h,h2⟩;refine ⟨h,?_⟩;simpa [strs,h] using h2
 ·rintro ⟨h,h2⟩;refine ⟨by omega,h,?_⟩;simpa [strs,h] using h2
theorem aaB (o:iY) (H:List aa) (φ:AV→Prop):aY (some 3) (.ai o.av) H φ=φ o.av:=by simp [aY,iY.av,AV.cells]
theorem sV (o:Sg) (H:List aa) (φ:AV→Prop):aY (some 2) (.ai o.av) H φ=φ o.av:=by simp [aY,Sg.av,AV.cells]
theorem fo0 (x:iY) (φ:AV→Prop):ap 0 none (.ai x.av) φ=φ (.ai (.str x.name)):=by simp [ap,apart,iY.av,AV.cells,AV.one]
theorem fo1 (x:iY) (φ:AV→Prop):ap 1 none (.ai x.av) φ=φ (.ai (.aj 0 (ints x.args))):=by simp [ap,apart,iY.av,AV.cells,AV.one]
theorem fo2 (x:iY) (φ:AV→Prop):ap 2 none (.ai x.av) φ=φ (.ai (.int .i64 x.zF)):=by simp [ap,apart,iY.av,AV.cells,AV.one]
theorem fs0 (x:Sg) (φ:AV→Prop):ap 0 none (.ai x.av) φ=φ (.ai (.aj 0 (strs x.aS))):=by simp [ap,apart,Sg.av,AV.cells,AV.one]
theorem fs1 (x:Sg) (φ:AV→Prop):ap 1 none (.ai x.av) φ=φ (.ai (.aj 0 (po x.ops))):=by simp [ap,apart,Sg.av,AV.cells,AV.one]
def aB:=(hV (hV (hV (hV @yp @EY) (hV @yq @yr)) (hV (hV @iY.ma @iY.xZ) (hV (hV @iY.rj @iY.pj) (hV @iY.sL @iY.iU)))) (hV (hV (hV (hV @Sg.ma @Sg.xZ) (hV (hV @Sg.rj @Sg.pj) (hV @Sg.sL @Sg.iU))) (hV (hV @KI @KJ) (hV @NC @ND))) (hV (hV @aaB @sV) (hV (hV @fo0 @fo1) (hV @fo2 (hV @fs0 @fs1))))))
def zG (p:Int→Bool):List Int→Int→Int
 | [],_=>-1
 | x::r,k=>if p x=true then k else zG p r (k + 1)
theorem EZ (p:Int→Bool):∀ (l:List Int) (k:Int),0≤k→(decide (0≤zG p l k)=l.any p)
 | [],k,_=>by simp [zG]
 | x::r,k,h=>by
   simp only [zG,af8]
   split
   ·rename_i hp;simp [hp,h]
   ·rename_i hp;simp [hp,EZ p r (k + 1) (by omega)]
theorem KK {p:Int→Bool} {l:List Int} {i:Nat} {k:Int} (h:i < l.length):zG p (l.drop i) k=if p (l.getD i 0)=true then k else zG p (l.drop (i + 1)) (k + 1):=by
 rw [aaP h]
 simp [zG,h]
theorem aes (g:Nat) (cap:List AV) (cr:cap.map AV.ab=cap) (hb:al 0 cap=true) (p:Int→Bool) (l:List Int) (hf:∀ x∈l,Pure Tryz.prog g ([.int .i64 x]++cap) (.bool (p x))) :
 Pure Tryz.prog 100 [.aj 0 (ints l),.fn (.func g) [] cap] (.int .i64 (zG p l 0)):=by
 refine fun H=>D2.2.calls rfl ?_
 simp only [D2,aH]
 simp +contextual only [sZ,Nat.reduceEqDiff,Nat.reduceAdd,↓reduceIte,reduceCtorEq]
 intro hl
 refine ay l.length (fun i=>zG p (l.drop i) i=zG p l 0) (fun i=>[(0,.aj 0 (ints l)),(1,.fn (.func g) [] cap),(7,.int .i64 l.length),(8,.int .i64 i)]) (fun _=>H) ⟨rfl,aA _ _ _⟩ fun i hi hI=>?_
 simp +contextual only [cr,sZ,Nat.reduceEqDiff,Nat.reduceAdd,↓reduceIte,reduceCtorEq]
 refine ⟨fun aP=>?_,fun iq=>?_⟩
 ·have aP:=bA aP
  rw [KK aP] at hI
  refine ⟨aP,ae (hf _ ?_) ?_⟩
  ·simp [aP]
  simp +contextual only [sZ,Nat.reduceEqDiff,↓reduceIte,reduceCtorEq]
  refine sE (fun hb=>?_) (fun hb=>?_) <;> simp +contextual only [sZ,Nat.reduceEqDiff,↓reduceIte,reduceCtorEq]
  ·rw [if_pos hb] at hI
   exact aM rfl (by rw [← hI])
  ·rw [if_neg (by rw [hb];simp)] at hI
   exact ⟨i + 1,⟨aP,hI⟩,by omega,aD (by rw [aq i (by omega)]) rfl⟩
 ·rw [aaN (cc iq)] at hI
  exact aM rfl (by rw [← hI];rfl)
theorem aaC (g:Nat) (cap:List AV) (cr:cap.map AV.ab=cap) (hb:al 0 cap=true) (p:Int→Bool) (l:List Int) (hf:∀ x∈l,Pure Tryz.prog g ([.int .i64 x]++cap) (.bool (p x))) :
 Pure Tryz.prog 102 [.aj 0 (ints l),.fn (.func g) [] cap] (.bool (l.any p)):=by
 refine fun H=>D3.2.calls rfl ?_
 simp only [D3,aH]
 simp +contextual only [sZ,Nat.reduceEqDiff,Nat.reduceAdd,↓reduceIte,reduceCtorEq]
 refine ae (aes g cap cr hb p l hf) ?_
 simp +contextual only [sZ,↓reduceIte,reduceCtorEq]
 exact aM rfl (by rw [EZ p l 0 (by omega)])
end Go.aI
end
section
set_option maxRecDepth 100000
namespace Go.aI
open Go Go.Proofs
def Hp (n a:Int):Bool:=decide (0≤a) && decide (a < n)
theorem aaD (n a:Int):Pure Tryz.prog 192 [.int .i64 a,.ai (.int .i64 n)] (.bool (Hp n a)):=by
 refine fun H=>P9.2.calls rfl ?_
 simp only [P9,aH]
 unfold Hp
 simp +contextual only [sZ,Nat.reduceEqDiff,Nat.reduceAdd,↓reduceIte,reduceCtorEq]
 refine ⟨fun h=>aM rfl (by simp [h]),fun h=>aM rfl (by simp;omega)⟩
theorem aet (n a:Int):Pure Tryz.prog 194 [.int .i64 a,.ai (.fn (.func 192) [] [.ai (.int .i64 n)])] (.bool (!Hp n a)):=by
 refine fun H=>Qb.2.calls rfl ?_
 simp only [Qb,aH]
 simp +contextual only [sZ,Nat.reduceEqDiff,Nat.reduceAdd,↓reduceIte,reduceCtorEq]
 refine ae (aaD n a) ?_
 simp +contextual only [sZ,↓reduceIte,reduceCtorEq]
 exact aM rfl rfl
def pq (o:iY) (n:Int):Bool:=
 om o.name && (decide (oB o.name 95 < o.name.size) && ((decide (oB o.name 95=0) || decide (oB o.name 95=o.args.length)) && (decide ((o.args.length:Int)≤8) && (Hp n o.zF && !o.args.any fun a=>!Hp n a))))
theorem aeu (o:iY) (n:Int):Pure Tryz.prog 143 [o.av,.int .i64 n] (.bool (pq o n)):=by
 refine fun H=>SW.calls rfl ?_
 simp only [Me,SV]
 unfold pq
 simp +contextual only [aB,sZ,Nat.reduceEqDiff,Nat.reduceAdd,↓reduceIte,reduceCtorEq]
 refine ae (aer o.name) ?_
 simp +contextual only [aB,sZ,Nat.reduceEqDiff,Nat.reduceAdd,↓reduceIte]
 refine ae (aaA o.name) ?_
 cases hn:om o.name with
 | false=>
   simp +contextual only [sZ,Nat.reduceEqDiff,↓reduceIte,reduceCtorEq]
   exact aM rfl rfl
 | true=>
   have h66:=aaC 194 [.ai (.fn (.func 192) [] [.ai (.int .i64 n)])] rfl rfl (fun a=>!Hp n a) o.args (fun a _=>aet n a)
   have NE:=aaD n o.zF
   generalize Hp n o.zF=q at NE ⊢
   generalize (o.args.any fun a=>!Hp n a)=z at h66 ⊢
   by_cases h1:oB o.name 95 < o.name.size
   ·have e1:decide (oB o.name 95 < o.name.size)=true:=decide_eq_true h1
    simp +contextual only [aB,h1,sZ,Nat.reduceEqDiff,Nat.reduceAdd,↓reduceIte,reduceCtorEq]
    refine ⟨fun h20 _=>⟨fun h21=>?_,fun h21=>?_⟩,fun h20 _=>?_⟩
    ·have e2:(decide (oB o.name 95=0) || decide (oB o.name 95=(o.args.length:Int)))=true:=by simp [h21]
     refine ⟨fun h3=>ae NE ?_,fun h3=>?_⟩
     ·have e903:decide ((o.args.length:Int)≤8)=true:=decide_eq_true h3
      rw [e1,e2,e903]
      cases q with
      | false=>
        simp +contextual only [sZ,Nat.reduceEqDiff,↓reduceIte,reduceCtorEq]
        exact aM rfl (by simp)
      | true=>
        simp +contextual only [aB,sZ,Nat.reduceEqDiff,Nat.reduceAdd,↓reduceIte,reduceCtorEq]
        refine ae h66 ?_
        simp +contextual only [sZ,Nat.reduceEqDiff,↓reduceIte,reduceCtorEq]
        exact aM rfl (by simp)
     ·have e903:decide ((o.args.length:Int)≤8)=false:=decide_eq_false (by omega)
      exact aM rfl (by rw [e903];simp)
    ·have e2:(decide (oB o.name 95=0) || decide (oB o.name 95=(o.args.length:Int)))=false:=by simp [h20,h21]
     exact aM rfl (by rw [e2];simp)
    ·have e2:(decide (oB o.name 95=0) || decide (oB o.name 95=(o.args.length:Int)))=true:=by simp [h20]
     refine ⟨fun h3=>ae NE ?_,fun h3=>?_⟩
     ·have e903:decide ((o.args.length:Int)≤8)=true:=decide_eq_true h3
      rw [e1,e2,e903]
      cases q with
      | false=>
        simp +contextual only [sZ,Nat.reduceEqDiff,↓reduceIte,reduceCtorEq]
        exact aM rfl (by simp)
      | true=>
        simp +contextual only [aB,sZ,Nat.reduceEqDiff,Nat.reduceAdd,↓reduceIte,reduceCtorEq]
        refine ae h66 ?_
        simp +contextual only [sZ,Nat.reduceEqDiff,↓reduceIte,reduceCtorEq]
        exact aM rfl (by simp)
     ·have e903:decide ((o.args.length:Int)≤8)=false:=decide_eq_false (by omega)
      exact aM rfl (by rw [e903];simp)
   ·have e1:decide (oB o.name 95 < o.name.size)=false:=decide_eq_false h1
    rw [e1]
    simp +contextual only [aB,h1,sZ,Nat.reduceEqDiff,↓reduceIte,reduceCtorEq]
    exact aM rfl (by simp)
end Go.aI
end
section
set_option maxRecDepth 100000
namespace Go.aI
open Go Go.Proofs
theorem aaE (l:List Int) (hl:l.length * 8≤140737488355328):Pure Tryz.prog 118 [.aj 0 (ints l)] (.aj 1 (ints l)):=fun H=>
 xK 0 (ints l) H (of_eq_true (nM l)) (by rw [aw];exact hl) (aT _ _)
def KL (a:Int):UInt8:=UInt8.ofNat (IntKind.u8.wrap a).toNat
theorem Ws (a:Int):AV.int .u8 (IntKind.u8.wrap a)=.int .u8 (KL a).toNat:=by
 have h:0≤IntKind.u8.wrap a∧IntKind.u8.wrap a < 256:=by
  simp only [IntKind.wrap]
  have h1:IntKind.u8.bits=8:=rfl
  have h2:IntKind.u8.signed=false:=rfl
  rw [h1,h2]
  simp
  omega
 congr 1
 unfold KL
 rw [UInt8.toNat_ofNat']
 omega
def Hq (o:iY):List UInt8:=(o.name++⟨#[40]⟩).data.toList++(o.args++[o.zF]).map KL
def kc (o:iY):ByteArray:=⟨(Hq o).toArray⟩
theorem Hr (l:List UInt8) (a:Int):bp l++[.int .u8 (IntKind.u8.wrap a)]=bp (l++[KL a]):=by
 rw [Ws];simp [bp]
theorem KM (l:List UInt8):(bp l).length=l.length:=by simp [bp]
theorem Wt (s:ByteArray) (φ:AV→Prop):fI 1 (.str s) φ=(s.size < 9223372036854775808∧φ (.aj 1 (bp s.data.toList))):=agI
theorem Wu (o:Nat) (l:List UInt8) (φ:AV→Prop) (h:φ (.str ⟨l.toArray⟩)):kM (.aj o (bp l)) φ:=⟨l,rfl,h⟩
theorem Wv (k k':IntKind) (n:Int) (φ:AV→Prop):cI k (.int k' n) φ=φ (.int k (k.wrap n)):=agI
theorem aaF (o:iY) (h1:o.name.size≤32) (h2:o.args.length≤8):Pure Tryz.prog 144 [o.av] (.str (kc o)):=by
 refine fun H=>SY.calls rfl ?_
 simp only [Mf,SX]
 have de:(⟨#[40]⟩:ByteArray).size=1:=rfl
 have hs2:(o.name++⟨#[40]⟩:ByteArray).size=o.name.size + 1:=by rw [ByteArray.size_append,de]
 have hln:(o.name++⟨#[40]⟩:ByteArray).data.toList.length=o.name.size + 1:=hs2
 simp +contextual only [aB,Wt,de,hs2,sZ,Nat.reduceEqDiff,Nat.reduceAdd,↓reduceIte]
 refine ⟨by omega,by omega,aF (aaE o.args (by omega)) ?_⟩
 simp +contextual only [aB,j3,ok_int,ue,sZ,Nat.reduceEqDiff,Nat.reduceAdd,↓reduceIte]
 refine ⟨by omega,?_⟩
 generalize hv:o.args++[o.zF]=vs
 have rL:vs.length≤9:=by rw [← hv];simp;omega
 have hk:kc o=⟨((o.name++⟨#[40]⟩:ByteArray).data.toList++vs.map KL).toArray⟩:=by rw [kc,Hq,hv]
 rw [hk]
 generalize (o.name++⟨#[40]⟩:ByteArray).data.toList=nm at *
 refine ay vs.length (fun _=>True)
  (fun i=>[(3,.aj 1 (bp (nm++(vs.take i).map KL))),(16,.aj 1 (ints vs)),(17,.int .i64 vs.length),(18,.int .i64 i)]) (fun _=>H) ⟨trivial,aD (by simp) rfl⟩ fun i hi hI=>?_
 simp +contextual only [sZ,Nat.reduceEqDiff,↓reduceIte,reduceCtorEq]
 refine ⟨fun aP=>⟨bA aP,?_⟩,fun iq=>?_⟩
 ·have aP:=bA aP
  simp +contextual only [Wv,j3,ok_int,Hr,KM,sZ,Nat.reduceEqDiff,Nat.reduceAdd,↓reduceIte]
  refine ⟨by simp;omega,i + 1,aP,by omega,aD ?_ rfl⟩
  rw [aq i (by omega),adm,acG,← aa6]
  simp [aP]
 ·rw [aaJ (cc iq)]
  refine Wu 0 _ _ ?_
  simp +contextual only [sZ]
  exact aM rfl rfl
instance:LawfulBEq ByteArray where
 rfl:=by intro a;rw [Bu];simp
 eq_of_beq:=by intro a b h;rw [Bu] at h;exact of_decide_eq_true h
def qN (vs:List ByteArray):List (AV×AV):=vs.map fun v=>(.str v,.bool true)
theorem pr (n:ByteArray):∀ (vs:List ByteArray) (i:Nat),(n∈vs→∃ j,dn 1 (.str n) (qN vs) i=some (some (j,.bool true)))∧(n∉vs→dn 1 (.str n) (qN vs) i=some none)
 | [],i=>⟨fun h=>(by cases h),fun _=>rfl⟩
 | v::r,i=>by
   have ih:=pr n r (i + 1)
   simp only [qN,List.map_cons,dn,cK]
   by_cases hv:n=v
   ·subst hv
    simp
   ·simp only [Xi,hv,false_or]
    exact ih
theorem sW (n:ByteArray) (vs:List ByteArray) (φ:AV→Prop):gJ (some (.map (qN vs))) 1 (.bool false) (.str n) false φ=φ (.bool (decide (n∈vs))):=by
 have h:=pr n vs 0
 unfold gJ
 by_cases hn:n∈vs
 ·obtain ⟨j,hj⟩:=h.1 hn
  simp [hj,hn,nJ]
 ·simp [h.2 hn,hn,cK,aU,bm.aU,nJ]
theorem E0 {n:ByteArray} {vs:List ByteArray} (hn:n∉vs) (id:Nat) (H:List aa) (K:List aa→Prop):ft (some (.map (qN vs))) 1 id (.str n) (.bool true) H K=K (H.set id (.map (qN (vs++[n])))):=by
 have h:=(pr n vs 0).2 hn
 unfold ft
 simp only [h]
 simp [cK,Mk,sD,wF,qN,aU,bm.aU,nJ]
def mc:List ByteArray→List ByteArray→Bool
 | [],_=>true
 | s::r,seen=>if om s=true∧¬ 0≤NB s∧s∉seen then mc r (seen++[s]) else false
def zH (n:Int):List iY→List ByteArray→Bool
 | [],_=>true
 | o::r,seen=>if pq o n=true∧kc o∉seen then zH n r (seen++[kc o]) else false
def jL (s:Sg):Bool:=decide ((s.aS.length:Int)≤64) && decide ((s.ops.length:Int)≤256) && mc s.aS [] && zH s.aS.length s.ops []
theorem pv {l:List ByteArray} {i:Nat} (h:i < l.length) (seen:List ByteArray):mc (l.drop i) seen=if om (l.getD i default)=true∧¬ 0≤NB (l.getD i default)∧l.getD i default∉seen then mc (l.drop (i + 1)) (seen++[l.getD i default]) else false:=by
 rw [aaP h,mc]
 have e:l.getD i default=l[i]:=by simp [h]
 rw [e]
theorem uz {n:Int} {l:List iY} {i:Nat} (h:i < l.length) (seen:List ByteArray):zH n (l.drop i) seen=if pq (l.getD i default) n=true∧kc (l.getD i default)∉seen then zH n (l.drop (i + 1)) (seen++[kc (l.getD i default)]) else false:=by
 rw [aaP h,zH]
 have e:l.getD i default=l[i]:=by simp [h]
 rw [e]
theorem Ht {o:iY} {n:Int} (h:pq o n=true):o.name.size≤32∧o.args.length≤8∧Hp n o.zF=true∧∀ a∈o.args,Hp n a=true:=by
 simp only [pq,om,zU,abX,decide_eq_false_iff_not,decide_eq_true_eq] at h
 obtain ⟨⟨⟨_,h1⟩,_⟩,_,_,h2,h3,h4⟩:=h
 refine ⟨by omega,by omega,h3,fun a ha=>?_⟩
 cases hx:Hp n a with
 | true=>rfl
 | false=>
   rw [acM] at h4
   exact absurd (age.2 ⟨a,ha,by rw [hx];rfl⟩) h4
theorem c81 (s:Sg):Pure Tryz.prog 81 [s.av] (.int .i64 (if jL s=true then 0 else 40)):=by
 refine fun H=>Yh.calls rfl ?_
 simp only [Uv,Yg]
 have bad:∀ {G:List aa} {e:Bool},e=false→G.take H.length=H→jL s=e→bS H.length [RX.t 2] [(2,AV.int IntKind.i64 40)] G fun r H'=>r=AV.int IntKind.i64 (if jL s=true then 0 else 40)∧H'=H:=by
  intro G e he hG hc
  rw [hc,he]
  exact Rw hG rfl rfl ⟨rfl,rfl⟩
 simp +contextual only [aB,sZ,Nat.reduceEqDiff,Nat.reduceAdd,↓reduceIte,reduceCtorEq]
 refine fun _=>⟨fun h1 _=>⟨fun h2=>?_,fun h2=>?_⟩,fun h1=>?_⟩
 ·have h2':¬ (s.ops.length:Int)≤256:=by omega
  exact bad rfl (by simp) (by rw [jL,decide_eq_false h2'];simp)
 ·refine aG s.aS.length (fun i (seen:List ByteArray)=>mc (s.aS.drop i) seen=mc s.aS [])
   (fun i seen=>[(1,.ai s.av),(3,.map H.length),(21,.aj 0 (strs s.aS)),(22,.int .i64 s.aS.length),(23,.int .i64 i)]) (fun i seen=>H++[.map (qN seen)]) [] ⟨rfl,aA _ _ _⟩ fun i seen hi hI=>?_
  simp +contextual only [aB,sZ,Nat.reduceEqDiff,Nat.reduceAdd,↓reduceIte]
  refine ⟨fun aP=>⟨bA aP,?_⟩,fun iq=>?_⟩
  ·have aP:=bA aP
   rw [pv aP] at hI
   generalize s.aS.getD i default=x at *
   refine ae (aaA x) ?_
   cases hn:om x with
   | false=>
     rw [hn,if_neg (by simp)] at hI
     simp +contextual only [sZ,Nat.reduceEqDiff,↓reduceIte,reduceCtorEq]
     exact bad rfl (by simp) (by simp [jL,← hI])
   | true=>
     rw [hn] at hI
     simp +contextual only [sZ,Nat.reduceEqDiff,Nat.reduceAdd,↓reduceIte]
     refine ae (aeq x) ?_
     by_cases hu:0≤NB x
     ·rw [if_neg (fun h=>h.2.1 hu)] at hI
      simp +contextual only [hu,sZ,Nat.reduceEqDiff,↓reduceIte,reduceCtorEq]
      exact bad rfl (by simp) (by simp [jL,← hI])
     ·by_cases hm:x∈seen
      ·rw [if_neg (fun h=>h.2.2 hm)] at hI
       simp +contextual only [hu,sW,hm,sZ,Nat.reduceEqDiff,↓reduceIte,reduceCtorEq]
       exact bad rfl (by simp) (by simp [jL,← hI])
      ·rw [if_pos ⟨rfl,hu,hm⟩] at hI
       simp +contextual only [hu,sW,hm,E0 hm,sZ,Nat.reduceEqDiff,↓reduceIte]
       exact ⟨i + 1,seen++[x],⟨aP,hI⟩,by omega,aD (by rw [aq i (by omega)]) rfl⟩
  ·have hs:mc s.aS []=true:=by
    rw [← hI,aaN (cc iq)];rfl
   have hc:jL s=zH s.aS.length s.ops []:=by simp [jL,h1,h2,hs]
   clear hI
   simp +contextual only [sZ]
   refine fun _=>aG s.ops.length (fun i (seen2:List ByteArray)=>zH s.aS.length (s.ops.drop i) seen2=zH s.aS.length s.ops [])
    (fun i seen2=>[(1,.ai s.av),(6,.map (H.length + 1)),(44,.aj 0 (po s.ops)),(45,.int .i64 s.ops.length),(46,.int .i64 i)]) (fun i seen2=>H++[.map (qN seen),.map (qN seen2)]) [] ⟨rfl,aA _ _ _⟩ fun i seen2 hi hI=>?_
   simp +contextual only [aB,sZ,Nat.reduceEqDiff,Nat.reduceAdd,↓reduceIte,reduceCtorEq]
   refine ⟨fun aP=>⟨bA aP,?_⟩,fun iq=>?_⟩
   ·have aP:=bA aP
    rw [uz aP] at hI
    generalize s.ops.getD i default=x at *
    refine fun _=>ae (aeu x _) ?_
    cases hg:pq x s.aS.length with
    | false=>
      rw [hg,if_neg (by simp)] at hI
      simp +contextual only [sZ,Nat.reduceEqDiff,↓reduceIte,reduceCtorEq]
      exact bad rfl (by simp) (by rw [hc,← hI])
    | true=>
      rw [hg] at hI
      have hsm:=Ht hg
      simp +contextual only [aB,sZ,Nat.reduceEqDiff,Nat.reduceAdd,↓reduceIte]
      refine ae (aaF x hsm.1 hsm.2.1) ?_
      by_cases hm:kc x∈seen2
      ·rw [if_neg (fun h=>h.2 hm)] at hI
       simp +contextual only [sW,hm,sZ,Nat.reduceEqDiff,↓reduceIte,reduceCtorEq]
       exact bad rfl (by simp) (by rw [hc,← hI])
      ·rw [if_pos ⟨rfl,hm⟩] at hI
       simp +contextual only [aB,sW,hm,sZ,Nat.reduceEqDiff,Nat.reduceAdd,↓reduceIte]
       refine ae (aaF x hsm.1 hsm.2.1) ?_
       simp +contextual only [E0 hm,sZ,Nat.reduceEqDiff,↓reduceIte]
       exact ⟨i + 1,seen2++[kc x],⟨aP,hI⟩,by omega,aD (by rw [aq i (by omega)]) rfl⟩
   ·rw [aaN (cc iq)] at hI
    exact Rw (by simp) rfl rfl ⟨by rw [hc,← hI];rfl,rfl⟩
 ·have h1':¬ (s.aS.length:Int)≤64:=by omega
  exact bad rfl (by simp) (by rw [jL,decide_eq_false h1'];simp)
end Go.aI
end
section
set_option maxRecDepth 100000
namespace Go.aI
open Go Go.Proofs Go.dV
def jj (w:List (Int×Int)):List (AV×AV):=w.map fun p=>(.int .i64 p.1,.int .i64 p.2)
theorem Hu (n:Int):∀ (w:List (Int×Int)) (i:Nat),(∃ j s,w[j]?=some (n,s)∧dn 0 (.int .i64 n) (jj w) i=some (some (i + j,.int .i64 s)))∨((∀ p∈w,p.1≠n)∧dn 0 (.int .i64 n) (jj w) i=some none)
 | [],i=>.inr ⟨(fun p h=>by cases h),rfl⟩
 | (a,b)::r,i=>by
   have ih:=Hu n r (i + 1)
   simp only [jj,List.map_cons,dn,cK,if_true]
   by_cases h:n=a
   ·subst h
    exact .inl ⟨0,b,rfl,by simp⟩
   ·simp only [decide_eq_false h]
    rcases ih with ⟨j,s,h1,h2⟩ | ⟨h1,h2⟩
    ·exact .inl ⟨j + 1,s,h1,by rw [show i + (j + 1)=i + 1 + j by omega];exact h2⟩
    ·refine .inr ⟨fun p hp=>?_,h2⟩
     rcases Xi.1 hp with rfl | hp
     ·exact fun e=>h e.symm
     ·exact h1 p hp
theorem lkW {n:Int} {w:List (Int×Int)} {φ:AV→Prop} (h1:∀ s,(n,s)∈w→φ (.tuple [.int .i64 s,.bool true])) (h2:(∀ p∈w,p.1≠n)→φ (.tuple [.int .i64 0,.bool false])):gJ (some (.map (jj w))) 0 (.int .i64 0) (.int .i64 n) true φ:=by
 unfold gJ
 rcases Hu n w 0 with ⟨j,s,h3,h4⟩ | ⟨h3,h4⟩
 ·simp only [h4];exact h1 s (abm h3)
 ·simp only [h4];exact ⟨by simp [cK],h2 h3⟩
theorem msW {n s:Int} {w:List (Int×Int)} {id:Nat} {H:List aa} {K:List aa→Prop} (h:∀ w',(∀ p∈w',p∈w∨p=(n,s))→(∀ p∈w,∃ q∈w',q.1=p.1)→(n,s)∈w'→K (H.set id (.map (jj w')))):ft (some (.map (jj w))) 0 id (.int .i64 n) (.int .i64 s) H K:=by
 unfold ft
 refine ⟨rfl,rfl,rfl,?_⟩
 have ec:aU (.int .i64 s)=.int .i64 s:=rfl
 rcases Hu n w 0 with ⟨j,x,h3,h4⟩ | ⟨h3,h4⟩
 ·simp only [h4,ec,ach]
  have e:(jj w).set j (.int .i64 n,.int .i64 s)=jj (w.set j (n,s)):=by simp [jj,aek]
  rw [e]
  have hj:=(aa0.1 h3).1
  refine h _ (fun p hp=>acF hp) (fun p hp=>?_) (aeY.2 ⟨j,by rw [aai hj]⟩)
  obtain ⟨m,hm⟩:=aeY.1 hp
  by_cases e:j=m
  ·subst e
   rw [h3] at hm;cases hm
   exact ⟨(n,s),aeY.2 ⟨j,by rw [aai hj]⟩,rfl⟩
  ·exact ⟨p,aeY.2 ⟨m,by rw [zS e];exact hm⟩,rfl⟩
 ·simp only [h4,ec]
  refine ⟨by simp [cK],?_⟩
  have e:jj w++[(AV.int .i64 n,AV.int .i64 s)]=jj (w++[(n,s)]):=by simp [jj]
  rw [e]
  exact h _ (fun p hp=>by simpa using hp) (fun p hp=>⟨p,abZ.2 (.inl hp),rfl⟩) (by simp)
structure RW (ps ss:List Int) (i:Nat):Prop where
 Sz:∀ j,j < i→0≤ps.getD j 0∧ps.getD j 0≤255∧1≤ss.getD j 0∧ss.getD j 0≤3
 st:∀ j k,j < i→k < i→ps.getD j 0=ps.getD k 0→ss.getD j 0=ss.getD k 0
def jk (s:Sg) (ps ss:List Int):Prop:=ps.length=s.ops.length∧ss.length=s.ops.length∧RW ps ss ps.length
theorem jk.va {s:Sg} {ps ss:List Int} (h:jk s ps ss):Va ps ss:=⟨by rw [h.2.1,h.1],h.2.2.st⟩
open Classical in
noncomputable def jr (s:Sg) (ps ss:List Int):Int:=if jL s=true then (if jk s ps ss then 0 else 60) else 40
theorem wg (ps ss:List Int) (φ:AV→Prop):ap 0 none (.ai (eN ps ss)) φ=φ (.ai (.aj 0 (ints ps))):=by simp [ap,apart,eN,AV.cells,AV.one]
theorem yu (ps ss:List Int) (φ:AV→Prop):ap 1 none (.ai (eN ps ss)) φ=φ (.ai (.aj 0 (ints ss))):=by simp [ap,apart,eN,AV.cells,AV.one]
theorem aX (ps ss:List Int):(eN ps ss).val=true∧(eN ps ss).cells.length=2∧(eN ps ss).cells.all AV.one=true∧(eN ps ss).ab=eN ps ss∧(eN ps ss).drop=eN ps ss∧∀ n,(eN ps ss).bb n=true:=
 ⟨rfl,rfl,rfl,rfl,rfl,fun n=>by simp [eN,xM,bN,da,bM,aT]⟩
theorem b7 (ps ss:List Int) (H:List aa) (φ:AV→Prop):aY (some 2) (.ai (eN ps ss)) H φ=φ (eN ps ss):=RQ _ _ _ _
theorem c24 (s:Sg) (ps ss:List Int):Pure Tryz.prog 24 [s.av,eN ps ss] (.int .i64 (jr s ps ss)):=by
 refine fun H=>k24.2.calls rfl ?_
 simp only [k24,aH]
 obtain ⟨q1,q2,q3,q4,q5,q6⟩:=aX ps ss
 simp +contextual only [aB,q1,sZ,Nat.reduceEqDiff,Nat.reduceAdd,↓reduceIte,reduceCtorEq]
 refine ae (c81 s) ?_
 cases hs:jL s with
 | false=>
   have e:jr s ps ss=40:=by rw [jr,if_neg (by rw [hs];simp)]
   rw [e]
   simp +contextual only [acg,sZ,Nat.reduceEqDiff,↓reduceIte,reduceCtorEq,Int.reduceEq]
   exact aM rfl rfl
 | true=>
   simp +contextual only [aB,wg,yu,aw,sZ,Nat.reduceEqDiff,↓reduceIte,reduceCtorEq]
   have bad:¬ jk s ps ss→jr s ps ss=60:=fun h=>by rw [jr,if_pos hs,if_neg h]
   have Ww:jk s ps ss→jr s ps ss=0:=fun h=>by rw [jr,if_pos hs,if_pos h]
   have ret60:∀ (X:List aa),¬ jk s ps ss→bS H.length [.t 4] [(4,.int .i64 60)] (H++X) fun r H'=>r=.int .i64 (jr s ps ss)∧H'=H:=fun X h=>by rw [bad h];exact M9 rfl rfl
   have ret60':¬ jk s ps ss→bS H.length [.t 4] [(4,.int .i64 60)] H fun r H'=>r=.int .i64 (jr s ps ss)∧H'=H:=fun h=>by rw [bad h];exact aM rfl rfl
   refine fun _ _=>⟨fun hl=>?_,fun hl=>?_⟩
   rotate_left
   ·first | exact ret60' fun h=>hl (by omega) | (refine ret60' fun h=>?_;have:=h.1;omega)
   refine fun _=>⟨fun mW=>ret60' fun h=>mW (by have:=h.2.1;omega),fun mW=>?_⟩
   have g0:∀ w,(H++[aa.map (jj w)])[H.length]?=some (.map (jj w)):=fun w=>by simp
   have gs:∀ w w',(H++[aa.map (jj w)]).set H.length (.map (jj w'))=H++[.map (jj w')]:=fun w w'=>by simp
   refine aG ps.length (fun i (w:List (Int×Int))=>RW ps ss i∧(∀ p∈w,∃ j,j < i∧ps.getD j 0=p.1∧ss.getD j 0=p.2)∧∀ j,j < i→∃ p∈w,p.1=ps.getD j 0)
    (fun i w=>[(3,.ai (eN ps ss)),(6,.map H.length),(35,.aj 0 (ints ps)),(36,.int .i64 s.ops.length),(37,.int .i64 i)]) (fun i w=>H++[.map (jj w)]) []
    ⟨⟨⟨fun j h=>by omega,fun j k h=>by omega⟩,(fun p h=>by cases h),fun j h=>by omega⟩,aA _ _ _⟩ fun i w hi hI=>?_
   ·obtain ⟨hu,hw1,hw2⟩:=hI
    have nbad:∀ j,j < ps.length→¬ (0≤ps.getD j 0∧ps.getD j 0≤255∧1≤ss.getD j 0∧ss.getD j 0≤3)→¬ jk s ps ss:=fun j hj h h'=>h (h'.2.2.Sz j hj)
    by_cases O9:(i:Int) < s.ops.length
    ·have Wx:i < ps.length:=by omega
     simp +contextual only [yu,aR,zV,g0,O9,decide_true,sZ,Nat.reduceEqDiff,↓reduceIte]
     generalize hp:ps.getD i 0=p
     generalize hq:ss.getD i 0=q
     refine ⟨by omega,⟨by omega,by omega⟩,?_⟩
     by_cases r1:p < 0
     ·refine lkW (fun o _=>?_) (fun _=>?_)
      all_goals
       simp +contextual only [r1,decide_true,sZ,Nat.reduceEqDiff,Nat.reduceAdd,Nat.reduceLT,↓reduceIte,reduceCtorEq]
       exact ret60 _ (nbad i Wx (by rw [hp];omega))
     ·by_cases r2:255 < p
      ·refine lkW (fun o _=>?_) (fun _=>?_)
       all_goals
        simp +contextual only [r1,r2,decide_true,decide_false,sZ,Nat.reduceEqDiff,Nat.reduceAdd,Nat.reduceLT,↓reduceIte,reduceCtorEq]
        exact ret60 _ (nbad i Wx (by rw [hp];omega))
      ·by_cases r3:q < 1
       ·refine lkW (fun o _=>?_) (fun _=>?_)
        all_goals
         simp +contextual only [r1,r2,r3,decide_true,decide_false,sZ,Nat.reduceEqDiff,Nat.reduceAdd,Nat.reduceLT,↓reduceIte,reduceCtorEq]
         exact ret60 _ (nbad i Wx (by rw [hq];omega))
       ·by_cases r4:3 < q
        ·refine lkW (fun o _=>?_) (fun _=>?_)
         all_goals
          simp +contextual only [r1,r2,r3,r4,decide_true,decide_false,sZ,Nat.reduceEqDiff,Nat.reduceAdd,Nat.reduceLT,↓reduceIte,reduceCtorEq]
          exact ret60 _ (nbad i Wx (by rw [hq];omega))
        ·have aez:0≤p∧p≤255∧1≤q∧q≤3:=⟨by omega,by omega,by omega,by omega⟩
         have next:(∀ j,j < i→ps.getD j 0=p→ss.getD j 0=q)→∀ w':List (Int×Int),(∀ x∈w',x∈w∨x=(p,q))→(∀ x∈w,∃ y∈w',y.1=x.1)→(p,q)∈w'→RW ps ss (i + 1)∧(∀ x∈w',∃ j,j < i + 1∧ps.getD j 0=x.1∧ss.getD j 0=x.2)∧∀ j,j < i + 1→∃ x∈w',x.1=ps.getD j 0:=by
          intro hsame w' m1 m2 m3
          refine ⟨⟨fun j hj=>?_,fun j k hj hk he=>?_⟩,fun x hx=>?_,fun j hj=>?_⟩
          ·by_cases e:j=i
           ·subst e;rw [hp,hq];exact aez
           ·exact hu.Sz j (by omega)
          ·by_cases e:j=i
           ·by_cases e':k=i
            ·rw [e,e']
            ·subst e;rw [hp] at he;rw [hq];exact (hsame k (by omega) he.symm).symm
           ·by_cases e':k=i
            ·subst e';rw [hp] at he;rw [hq];exact hsame j (by omega) he
            ·exact hu.st j k (by omega) (by omega) he
          ·rcases m1 x hx with h | rfl
           ·obtain ⟨j,h1,h2,h3⟩:=hw1 x h;exact ⟨j,by omega,h2,h3⟩
           ·exact ⟨i,by omega,hp,hq⟩
          ·by_cases e:j=i
           ·subst e;rw [hp];exact ⟨_,m3,rfl⟩
           ·obtain ⟨x,h1,h2⟩:=hw2 j (by omega)
            obtain ⟨y,h3,h4⟩:=m2 x h1
            exact ⟨y,h3,h4.trans h2⟩
         refine lkW (fun o ho=>?_) (fun kq=>?_)
         ·obtain ⟨j0,hj1,hj2,hj3⟩:=hw1 _ ho
          simp only at hj2 hj3
          by_cases Z5:o=q
          ·subst Z5
           have d0:decide (¬ o=o)=false:=by simp
           simp +contextual only [r1,r2,r3,r4,decide_false,g0,sZ,Nat.reduceEqDiff,Nat.reduceAdd,Nat.reduceLT,↓reduceIte]
           refine msW fun w' m1 m2 m3=>?_
           simp +contextual only [gs,sZ,Nat.reduceEqDiff,↓reduceIte]
           refine ⟨i + 1,w',⟨Wx,next (fun j hj he=>?_) w' m1 m2 m3⟩,by omega,aD (by rw [aq i (by omega)]) rfl⟩
           rw [hu.st j j0 hj hj1 (he.trans hj2.symm),hj3]
          ·have d0:decide (¬ o=q)=true:=by simp [Z5]
           simp +contextual only [r1,r2,r3,r4,decide_false,d0,sZ,Nat.reduceEqDiff,Nat.reduceAdd,Nat.reduceLT,↓reduceIte,reduceCtorEq]
           exact ret60 _ fun h=>Z5 (by rw [← hj3,← hq];exact h.2.2.st j0 i (by omega) Wx (hj2.trans hp.symm))
         ·simp +contextual only [r1,r2,r3,r4,decide_false,g0,sZ,Nat.reduceEqDiff,Nat.reduceAdd,Nat.reduceLT,↓reduceIte]
          refine msW fun w' m1 m2 m3=>?_
          simp +contextual only [gs,sZ,Nat.reduceEqDiff,↓reduceIte]
          refine ⟨i + 1,w',⟨Wx,next (fun j hj he=>?_) w' m1 m2 m3⟩,by omega,aD (by rw [aq i (by omega)]) rfl⟩
          obtain ⟨x,h1,h2⟩:=hw2 j hj
          exact absurd (h2.trans he) (kq x h1)
    ·have hii:i=ps.length:=by omega
     subst hii
     rw [Ww ⟨by omega,by omega,hu⟩]
     simp +contextual only [O9,decide_false,sZ,Nat.reduceEqDiff,↓reduceIte,reduceCtorEq]
     exact M9 rfl rfl
end Go.aI
end
section
set_option maxRecDepth 100000
namespace Go.aI
open Go Go.Proofs Go.dV
theorem aaH (g:Nat) (cP:List AV) (cr:cP.map AV.ab=cP) (p:T→Bool) (l:List T) (hf:∀ x∈l,Pure Tryz.prog g ([x.av]++cP) (.bool (p x))) :
 Pure Tryz.prog 114 [.aj 0 (ca l),.fn (.func g) [] cP] (.int .i64 (ug p l 0)):=by
 refine fun H=>D4.2.calls rfl ?_
 simp only [D4,aH]
 simp +contextual only [sZ,Nat.reduceEqDiff,Nat.reduceAdd,↓reduceIte,reduceCtorEq]
 intro hl
 refine ay l.length (fun i=>ug p (l.drop i) i=ug p l 0) (fun i=>[(0,.aj 0 (ca l)),(1,.fn (.func g) [] cP),(7,.int .i64 l.length),(8,.int .i64 i)]) (fun _=>H) ⟨rfl,aA _ _ _⟩ fun i hi hI=>?_
 simp +contextual only [cr,sZ,Nat.reduceEqDiff,Nat.reduceAdd,↓reduceIte,reduceCtorEq]
 refine ⟨fun aP=>?_,fun iq=>?_⟩
 ·have aP:=bA aP
  rw [AD aP] at hI
  refine ⟨aP,ae (hf _ (fM aP)) ?_⟩
  cases hb:p (l.getD i default) with
  | true=>
    rw [if_pos hb] at hI
    simp +contextual only [sZ,Nat.reduceEqDiff,↓reduceIte,reduceCtorEq]
    exact aM rfl (by rw [← hI])
  | false=>
    rw [if_neg (by rw [hb];simp)] at hI
    simp +contextual only [sZ,Nat.reduceEqDiff,↓reduceIte,reduceCtorEq]
    exact ⟨i + 1,⟨aP,hI⟩,by omega,aD (by rw [aq i (by omega)]) rfl⟩
 ·rw [aaN (cc iq)] at hI
  exact aM rfl (by rw [← hI];rfl)
theorem aaI (g:Nat) (cP:List AV) (cr:cP.map AV.ab=cP) (p:T→Bool) (l:List T) (hf:∀ x∈l,Pure Tryz.prog g ([x.av]++cP) (.bool (p x))) :
 Pure Tryz.prog 53 [.aj 0 (ca l),.fn (.func g) [] cP] (.bool (l.any p)):=by
 refine fun H=>SR.2.calls rfl ?_
 simp only [SR,aH]
 simp +contextual only [sZ,Nat.reduceEqDiff,Nat.reduceAdd,↓reduceIte,reduceCtorEq]
 refine ae (aaH g cP cr p l hf) ?_
 simp +contextual only [sZ,↓reduceIte,reduceCtorEq]
 exact aM rfl (by rw [x8 p l 0 (by omega)])
theorem Wy (x:T):Pure Tryz.prog 130 [x.av] (.int .i64 (if x.tree=true then 0 else 4)):=by
 refine fun H=>PX.2.calls rfl ?_
 simp only [PX,aH]
 simp +contextual only [sZ,Nat.reduceEqDiff,Nat.reduceAdd,↓reduceIte]
 refine ae (Z2 x) ?_
 cases h:x.tree with
 | true=>simp +contextual only [Bool.not_true,sZ,↓reduceIte,reduceCtorEq];exact aM rfl rfl
 | false=>simp +contextual only [Bool.not_false,sZ,↓reduceIte,reduceCtorEq];exact aM rfl rfl
mutual
def E1 (s:Sg):T→Bool
 | .mk k n l=>!(decide (k=2) && (decide ((s.ops.length:Int)≤n) || !decide ((l.length:Int)=((s.ops.getD n.toNat default).args.length:Nat)))) && ovL s l
def ovL (s:Sg):List T→Bool
 | []=>true
 | x::r=>E1 s x && ovL s r
end
theorem CC (s:Sg):∀ l,ovL s l=!(l.any fun x=>!E1 s x)
 | []=>rfl
 | x::r=>by rw [ovL,CC s r,af8];cases E1 s x <;> simp
theorem aeC (s:Sg):∀ t:T,t.shaped=true→Pure Tryz.prog 131 [s.av,t.av] (.bool (E1 s t)):=by
 suffices h:∀ N t,wt t≤N→t.shaped=true→Pure Tryz.prog 131 [s.av,t.av] (.bool (E1 s t)) from fun t ht=>h _ t (tv _) ht
 intro N
 induction N with
 | zero=>intro t h;have:=dH t;omega
 | succ N ih=>
 intro t hN hs H
 have hk:=iw hs
 have c182:∀ x∈t.l,Pure Tryz.prog 182 ([x.av]++[.ai s.av]) (.bool (!E1 s x)):=by
  intro x hx H
  refine YR.2.calls rfl ?_
  simp only [YR,aH]
  simp +contextual only [aB,sZ,Nat.reduceEqDiff,Nat.reduceAdd,↓reduceIte,reduceCtorEq]
  refine ae (ih x (by have:=cu hx;omega) (hk.2 x hx)) ?_
  simp +contextual only [sZ,↓reduceIte,reduceCtorEq]
  exact aM rfl rfl
 have hn:0≤t.n:=by
  rw [T.dD] at hs
  simp only [zU,abX,aco,decide_eq_false_iff_not] at hs
  have:=hs.1.1.1.1
  omega
 obtain ⟨m,hm⟩:=acE hn
 refine Yr.2.calls rfl ?_
 simp only [Yr,aH]
 have e:E1 s t=(!(decide (t.k=2) && (decide ((s.ops.length:Int)≤t.n) || !decide ((t.l.length:Int)=((s.ops.getD t.n.toNat default).args.length:Nat)))) && !(t.l.any fun x=>!E1 s x)):=by
  rw [← CC];cases t;rfl
 have fin:(!(decide (t.k=2) && (decide ((s.ops.length:Int)≤t.n) || !decide ((t.l.length:Int)=((s.ops.getD t.n.toNat default).args.length:Nat)))))=false→bS H.length [.t 4] [(4,.bool false)] H fun r H'=>r=.bool (E1 s t)∧H'=H:=by
  intro h
  rw [e,h];exact aM rfl rfl
 by_cases h2:t.k=2
 ·by_cases h3:(s.ops.length:Int)≤t.n
  ·simp +contextual only [aB,h2,h3,decide_true,sZ,Nat.reduceEqDiff,Nat.reduceAdd,↓reduceIte,reduceCtorEq]
   exact fin (by simp [h2,h3])
  ·have Wz:m < s.ops.length:=by omega
   have h3':¬ (s.ops.length:Int)≤(m:Int):=by omega
   have em:t.n.toNat=m:=by omega
   by_cases h4:(t.l.length:Int)=((s.ops.getD m default).args.length:Nat)
   ·simp +contextual only [aB,h2,h3',h4,hm,Wz,aw,decide_true,decide_false,sZ,Nat.reduceEqDiff,Nat.reduceAdd,↓reduceIte,reduceCtorEq]
    refine ae (aaI 182 [.ai s.av] rfl _ t.l c182) ?_
    simp +contextual only [sZ,↓reduceIte,reduceCtorEq]
    refine aM rfl ?_
    rw [e,em,h4]
    simp [h2,h3]
   ·simp +contextual only [aB,h2,h3',h4,hm,Wz,aw,decide_true,decide_false,sZ,Nat.reduceEqDiff,Nat.reduceAdd,↓reduceIte,reduceCtorEq]
    exact fin (by rw [em,decide_eq_true h2,decide_eq_false h3,decide_eq_false h4];rfl)
 ·simp +contextual only [aB,h2,decide_false,sZ,Nat.reduceEqDiff,Nat.reduceAdd,↓reduceIte,reduceCtorEq]
  refine ae (aaI 182 [.ai s.av] rfl _ t.l c182) ?_
  simp +contextual only [sZ,↓reduceIte,reduceCtorEq]
  refine aM rfl ?_
  rw [e]
  simp [h2]
noncomputable def jt (s:Sg) (ps ss:List Int) (l:List T):Int:=if jr s ps ss=0 then (if (l.all fun t=>t.tree && E1 s t)=true then 0 else 4) else jr s ps ss
theorem KN {p:T→Bool} {l:List T} {i:Nat} (h:i < l.length):(l.drop i).all p=(p (l.getD i default) && (l.drop (i + 1)).all p):=by
 have e:l.getD i default=l[i]:=by simp [h]
 rw [aaP h,List.all_cons,e]
theorem c74 (s:Sg) (ps ss:List Int) (l:List T):Pure Tryz.prog 74 [s.av,eN ps ss,.aj 0 (ca l)] (.int .i64 (jt s ps ss l)):=by
 refine fun H=>k74.2.calls rfl ?_
 simp only [k74,aH]
 obtain ⟨q1,q2,q3,q4,q5,q6⟩:=aX ps ss
 simp +contextual only [aB,q1,q4,b7,sZ,Nat.reduceEqDiff,Nat.reduceAdd,↓reduceIte,reduceCtorEq]
 refine ae (c24 s ps ss) ?_
 by_cases h0:jr s ps ss=0
 ·simp +contextual only [h0,sZ,Nat.reduceEqDiff,↓reduceIte]
  intro _
  refine ay l.length (fun i=>l.all (fun t=>t.tree && E1 s t)=(l.drop i).all fun t=>t.tree && E1 s t) (fun i=>[(3,.ai s.av),(16,.aj 0 (ca l)),(17,.int .i64 l.length),(18,.int .i64 i)]) (fun _=>H) ⟨rfl,aA _ _ _⟩ fun i hi hI=>?_
  by_cases y7:(i:Int) < l.length
  ·have aP:i < l.length:=by omega
   rw [KN aP] at hI
   simp +contextual only [y7,decide_true,sZ,Nat.reduceEqDiff,Nat.reduceAdd,↓reduceIte]
   refine ⟨aP,ae (Wy _) ?_⟩
   cases ht:(l.getD i default).tree with
   | false=>
     rw [ht,afN,afN] at hI
     simp +contextual only [sZ,Nat.reduceEqDiff,↓reduceIte,reduceCtorEq,Int.reduceEq]
     refine aM rfl ?_
     rw [jt,if_pos h0,hI,if_neg (by simp)]
   | true=>
     rw [ht,acY] at hI
     simp +contextual only [aB,sZ,Nat.reduceEqDiff,Nat.reduceAdd,↓reduceIte]
     refine ae (aeC s _ ((T.dg _).1 ht).2.2) ?_
     cases ho:E1 s (l.getD i default) with
     | false=>
       rw [ho,afN] at hI
       simp +contextual only [Bool.not_false,sZ,Nat.reduceEqDiff,↓reduceIte,reduceCtorEq]
       refine aM rfl ?_
       rw [jt,if_pos h0,hI,if_neg (by simp)]
     | true=>
       rw [ho,acY] at hI
       simp +contextual only [Bool.not_true,sZ,Nat.reduceEqDiff,↓reduceIte]
       exact ⟨i + 1,⟨aP,hI⟩,by omega,aD (by rw [aq i (by omega)]) rfl⟩
  ·simp +contextual only [y7,decide_false,sZ,Nat.reduceEqDiff,↓reduceIte,reduceCtorEq]
   rw [aaN (by omega)] at hI
   refine aM rfl ?_
   rw [jt,if_pos h0,hI];rfl
 ·simp +contextual only [h0,sZ,Nat.reduceEqDiff,↓reduceIte,reduceCtorEq]
  refine aM rfl ?_
  rw [jt,if_neg h0]
theorem WA {s:Sg}:∀ t:T,t.shaped=true→E1 s t=true→v9 (fun n=>0≤n∧n < s.ops.length) t:=by
 suffices h:∀ N t,wt t≤N→t.shaped=true→E1 s t=true→v9 (fun n=>0≤n∧n < s.ops.length) t from fun t=>h _ t (tv _)
 intro N
 induction N with
 | zero=>intro t h;have:=dH t;omega
 | succ N ih=>
 intro t hN hs ho
 have hn:0≤t.n:=by
  rw [T.dD] at hs
  simp only [zU,abX,aco,decide_eq_false_iff_not] at hs
  have:=hs.1.1.1.1
  omega
 have hk:=(iw hs).2
 obtain ⟨k,n,l⟩:=t
 rw [E1,CC] at ho
 simp only [zU,abX,aeO,aco,decide_eq_false_iff_not,adn,Bool.not_eq_false'] at ho
 refine v9.mk k n l (fun vr=>?_) fun x hx=>ih x (by have:=cu (a:=.mk k n l) hx;omega) (hk x hx) ?_
 ·rcases ho.1 with h | h
  ·exact absurd vr h
  ·exact ⟨hn,by omega⟩
 ·have:=ho.2 x hx
  simpa using this
end Go.aI
end
section
set_option maxRecDepth 100000
namespace Go.aI
open Go Go.Proofs Go.dV
mutual
theorem NF:∀ t:T,(wt t:Int)=t.sz
 | .mk k n l=>by rw [wt,T.sz];have:=IW l;omega
theorem IW:∀ l:List T,(fN l:Int)=lh l
 | []=>rfl
 | x::r=>by rw [fN,lh];have:=NF x;have:=IW r;omega
end
theorem lK {l:List T} (h:∀ t∈l,t.tree=true):fN l≤2000 * l.length:=by
 induction l with
 | nil=>simp [fN]
 | cons x r ih=>
   have:=ih fun t ht=>h t (aaK _ ht)
   have h1:=((T.dg x).1 (h x aa2)).1
   have h2:=NF x
   rw [fN,List.length_cons];omega
structure Rt0 (s:Sg) (ps ss:List Int) (l:List T):Prop where
 ord:jk s ps ss
 tree:∀ t∈l,t.tree=true
 all:∀ t∈l,v9 (fun n=>0≤n∧n < ps.length) t
theorem sX {s:Sg} {ps ss:List Int}:jr s ps ss=0↔jL s=true∧jk s ps ss:=by
 unfold jr
 by_cases h:jL s=true
 ·by_cases h2:jk s ps ss
  ·rw [if_pos h,if_pos h2];simp [h,h2]
  ·rw [if_pos h,if_neg h2];simp [h2]
 ·rw [if_neg h];simp [h]
theorem sY {s:Sg} {ps ss:List Int} {l:List T} (h:jt s ps ss l=0):Rt0 s ps ss l:=by
 unfold jt at h
 split at h
 ·rename_i h0
  have h1:=(sX.1 h0).2
  split at h
  ·rename_i h2
   have h3:=aaO.1 h2
   refine ⟨h1,fun t ht=>?_,fun t ht=>?_⟩
   ·have:=h3 t ht;simp only [zU] at this;exact this.1
   ·have:=h3 t ht
    simp only [zU] at this
    rw [h1.1]
    exact WA t ((T.dg t).1 this.1).2.2 this.2
  ·cases h
 ·rename_i h0;exact absurd h h0
theorem Rt0.cx {s:Sg} {ps ss:List Int} {l:List T} (h:Rt0 s ps ss l) (dP:l≠[]) (hl:l.length≤10000) (n:Nat):(iE ps ss l n).Ok:=
 TC h.ord.va dP (by have:=lK h.tree;omega) h.all n
open Classical in
noncomputable def E2 (ps ss:List Int) (a b:T):Bool:=decide (R (gZ ps ss) a b)
open Classical in
noncomputable def eqB (ps ss:List Int) (a b:T):Bool:=decide (E (gZ ps ss) a b)
theorem iZ {ps ss:List Int} {a b:T}:E2 ps ss a b=true↔R (gZ ps ss) a b:=by simp [E2]
theorem IY {ps ss:List Int} {a b:T}:eqB ps ss a b=true↔E (gZ ps ss) a b:=by simp [eqB]
theorem RY (a b:T):bu (ba [a,b] 0)=.aj 0 (ints (ba [a,b] 0)):=rfl
theorem IZ {Hs G:List aa} {n0 a b:Nat} {u v x y:AV} {R:AV→List aa→Prop} (tw:b≠a) (hH:Hs.take n0=G) (hb:x.bb n0=true∧y.bb n0=true) (hx:u.ab=x) (hy:v.ab=y) (hR:R (.tuple [x,y]) G):bS n0 [.t a,.t b] [(a,u),(b,v)] Hs R:=by
 subst hH;subst hx;subst hy
 refine ⟨n0,tv _,[u.ab,v.ab],?_,by simp only [al,hb.1,hb.2,acS],hR⟩
 simp only [aC,if_neg tw,if_true,List.map]
 exact bZ _
theorem Up.low {c:Cx} {H X G:List aa} (h:Up c (H++X) G) (he:H.length≤c.e) (hg:H.length≤c.g):G.take H.length=H:=by
 apply acr
 intro j
 rw [aaM]
 split
 ·rename_i hj
  rw [h.get j (by omega) (by omega),zR hj]
 ·rename_i hj
  rw [aci (by omega)]
theorem c20 (s:Sg) (ps ss:List Int) (a b:T):Pure Tryz.prog 20 [s.av,eN ps ss,a.av,b.av] (.tuple [.bool (if jt s ps ss [a,b]=0 then E2 ps ss a b else false),.int .i64 (jt s ps ss [a,b])]):=by
 refine fun H=>k20.2.calls rfl ?_
 simp only [k20,aH]
 obtain ⟨q1,q2,q3,q4,q5,q6⟩:=aX ps ss
 simp +contextual only [aB,q1,q4,b7,sZ,Nat.reduceEqDiff,Nat.reduceAdd,↓reduceIte,reduceCtorEq]
 refine ae (c74 s ps ss [a,b]) ?_
 by_cases h0:jt s ps ss [a,b]=0
 ·rw [if_pos h0]
  have hr:=sY h0
  have hw:=lK hr.tree
  have hc:=hr.cx (by simp) (by simp) H.length
  have hd:=AR ps ss (ts:=[a,b]) (by simp) H
  simp +contextual only [q4,b7,h0,sZ,Nat.reduceEqDiff,Nat.reduceAdd,↓reduceIte]
  refine af (c75 ps ss [a,b] H (by simp at hw;omega)) ?_
  rintro r G ⟨rfl,rfl⟩
  have a0:=vI (ps:=ps) (ss:=ss) (ts:=[a,b]) (n:=H.length) (j:=0) (by simp)
  have a1:=vI (ps:=ps) (ss:=ss) (ts:=[a,b]) (n:=H.length) (j:=1) (by simp)
  have hl:=cM [a,b] 0
  rw [RY]
  generalize ba [a,b] 0=ks at a0 a1 hl ⊢
  have mW:ks.length=2:=hl
  simp +contextual only [aR,mW,dS,sZ,Nat.reduceEqDiff,Nat.reduceAdd,Nat.reduceLT,↓reduceIte,reduceCtorEq]
  refine ⟨by decide,by decide,af (k9 hc a0.1 a1.1 _ hd) ?_⟩
  rintro r G ⟨x,rfl,hx,hU,hD⟩
  rw [a0.2,a1.2] at hx
  simp +contextual only [sZ,Nat.reduceEqDiff,↓reduceIte,reduceCtorEq]
  have ex:x=E2 ps ss a b:=by rw [acw,iZ];exact hx
  rw [ex]
  exact IZ (by decide) (hU.low (by simp [iE]) (by simp [iE])) ⟨rfl,rfl⟩ rfl rfl ⟨by rw [h0];rfl,rfl⟩
 ·rw [if_neg h0]
  simp +contextual only [h0,sZ,Nat.reduceEqDiff,↓reduceIte,reduceCtorEq]
  exact IZ (by decide) abe ⟨rfl,rfl⟩ rfl rfl ⟨rfl,rfl⟩
theorem c22 (s:Sg) (ps ss:List Int) (a b:T):Pure Tryz.prog 22 [s.av,eN ps ss,a.av,b.av] (.tuple [.bool (if jt s ps ss [a,b]=0 then eqB ps ss a b else false),.int .i64 (jt s ps ss [a,b])]):=by
 refine fun H=>k22.2.calls rfl ?_
 simp only [k22,aH]
 obtain ⟨q1,q2,q3,q4,q5,q6⟩:=aX ps ss
 simp +contextual only [aB,q1,q4,b7,sZ,Nat.reduceEqDiff,Nat.reduceAdd,↓reduceIte,reduceCtorEq]
 refine ae (c74 s ps ss [a,b]) ?_
 by_cases h0:jt s ps ss [a,b]=0
 ·rw [if_pos h0]
  have hr:=sY h0
  have hw:=lK hr.tree
  have hc:=hr.cx (by simp) (by simp) H.length
  have hd:=AR ps ss (ts:=[a,b]) (by simp) H
  simp +contextual only [q4,b7,h0,sZ,Nat.reduceEqDiff,Nat.reduceAdd,↓reduceIte]
  refine af (c75 ps ss [a,b] H (by simp at hw;omega)) ?_
  rintro r G ⟨rfl,rfl⟩
  have a0:=vI (ps:=ps) (ss:=ss) (ts:=[a,b]) (n:=H.length) (j:=0) (by simp)
  have a1:=vI (ps:=ps) (ss:=ss) (ts:=[a,b]) (n:=H.length) (j:=1) (by simp)
  have hl:=cM [a,b] 0
  rw [RY]
  generalize ba [a,b] 0=ks at a0 a1 hl ⊢
  have mW:ks.length=2:=hl
  simp +contextual only [aR,mW,dS,sZ,Nat.reduceEqDiff,Nat.reduceAdd,Nat.reduceLT,↓reduceIte,reduceCtorEq]
  refine ⟨by decide,by decide,af (k8 hc a0.1 a1.1 _ hd) ?_⟩
  rintro r G ⟨x,rfl,hx,hU,hD⟩
  rw [a0.2,a1.2] at hx
  simp +contextual only [sZ,Nat.reduceEqDiff,↓reduceIte,reduceCtorEq]
  have ex:x=eqB ps ss a b:=by rw [acw,IY];exact hx
  rw [ex]
  exact IZ (by decide) (hU.low (by simp [iE]) (by simp [iE])) ⟨rfl,rfl⟩ rfl rfl ⟨by rw [h0];rfl,rfl⟩
 ·rw [if_neg h0]
  simp +contextual only [h0,sZ,Nat.reduceEqDiff,↓reduceIte,reduceCtorEq]
  exact IZ (by decide) abe ⟨rfl,rfl⟩ rfl rfl ⟨rfl,rfl⟩
end Go.aI
end
section
set_option maxRecDepth 100000
set_option maxHeartbeats 0
namespace Go.aI
open Go Go.Proofs
noncomputable def TD:=aH Tryz.call163 Tryz.func163 Tryz.ntmps163 [(0,0,1),(0,1,1),(1,4,1),(1,5,1),(4,2,1000),(5,0,1),(5,7,1),(8,6,2000)] [(0,[2,3]),(1,[2,3,5]),(2,[2,5,16,17,18]),(3,[2,5,16,17,18,19]),(4,[2,5,7,16,17,18]),(5,[2,5,16,17,18]),(6,[2,5,16,17,18]),(7,[8,9]),(8,[4])] [(8,(.take 0 true (.take 1 true (.take 2 true (.take 3 true (.take 4 true (.take 5 true (.br 6 (.take 7 true .done) .nil))))))))]
end Go.aI
end
section
set_option maxRecDepth 100000
namespace Go.aI
open Go Go.Proofs Go.dV
structure Cn where
 a:T
 b:T
deriving Inhabited
def Cn.av (c:Cn):AV:=.agg [.int .i64 c.a.k,.int .i64 c.a.n,.aj 0 (ca c.a.l),.int .i64 c.b.k,.int .i64 c.b.n,.aj 0 (ca c.b.l)]
def s5 (l:List Cn):List AV:=l.map Cn.av
structure ju where
 vs:List Int
 cs:List Cn
 a:T
 b:T
deriving Inhabited
def ju.av (e:ju):AV:=.agg [.aj 0 (ints e.vs),.aj 0 (s5 e.cs),.int .i64 e.a.k,.int .i64 e.a.n,.aj 0 (ca e.a.l),.int .i64 e.b.k,.int .i64 e.b.n,.aj 0 (ca e.b.l)]
def ju.rest (e:ju):List T:=e.b::e.cs.flatMap fun c=>[c.a,c.b]
theorem dq (l:List Cn):(s5 l).length=l.length:=by simp [s5]
theorem NG (n:Nat) (l:List Cn):al n (s5 l)=true:=by
 rw [a9];intro x hx;obtain ⟨y,_,rfl⟩:=aan.1 hx
 simp [Cn.av,AV.bb,al,dT]
theorem ju.facts (e:ju):e.av.val=true∧e.av.cells.length=8∧e.av.cells.all AV.one=true∧e.av.ab=e.av∧e.av.drop=e.av∧∀ n,e.av.bb n=true:=
 ⟨rfl,rfl,rfl,rfl,rfl,fun n=>by simp [ju.av,AV.bb,al,dT,aT,NG]⟩
theorem Cn.facts (e:Cn):e.av.val=true∧e.av.cells.length=6∧e.av.cells.all AV.one=true∧e.av.ab=e.av∧e.av.drop=e.av∧∀ n,e.av.bb n=true:=
 ⟨rfl,rfl,rfl,rfl,rfl,fun n=>by simp [Cn.av,AV.bb,al,dT]⟩
theorem T.CD (t:T):AV.agg [.int .i64 t.k,.int .i64 t.n,.aj 0 (ca t.l)]=t.av:=by cases t;rfl
theorem FR (e:ju) (φ:AV→Prop):ap 2 (some 3) (.ai e.av) φ=φ (.ai e.a.av):=by simp [ap,apart,ju.av,AV.cells,← T.CD]
theorem Pa (e:ju) (φ:AV→Prop):ap 5 (some 3) (.ai e.av) φ=φ (.ai e.b.av):=by simp [ap,apart,ju.av,AV.cells,← T.CD]
theorem E3 (e:ju) (φ:AV→Prop):ap 1 none (.ai e.av) φ=φ (.ai (.aj 0 (s5 e.cs))):=by simp [ap,apart,ju.av,AV.cells,AV.one]
theorem WB (e:Cn) (φ:AV→Prop):ap 0 (some 3) (.ai e.av) φ=φ (.ai e.a.av):=by simp [ap,apart,Cn.av,AV.cells,← T.CD]
theorem WC (e:Cn) (φ:AV→Prop):ap 3 (some 3) (.ai e.av) φ=φ (.ai e.b.av):=by simp [ap,apart,Cn.av,AV.cells,← T.CD]
theorem nV (o:Nat) (l:List Cn):(∀ (own:Nat) (xs:List AV),AV.aj o (s5 l)=AV.aj own xs→∀ z∈xs,z.cells.length=6)=True:=by
 simp only [eq_iff_iff,iff_true]
 intro own xs e z hz
 cases e
 obtain ⟨y,_,rfl⟩:=aan.1 hz;rfl
theorem ry (e o:Nat) (l:List Cn) (k:IntKind) (i:Nat) (φ:AV→Prop):aE e (.aj o (s5 l)) (.int k (i:Int)) φ=(i < l.length∧φ (.ai (l.getD i default).av)):=by
 simp only [aE,dq,zV,eq_iff_iff]
 constructor
 ·rintro ⟨_,h,h2⟩;refine ⟨h,?_⟩;simpa [s5,h] using h2
 ·rintro ⟨h,h2⟩;refine ⟨by omega,h,?_⟩;simpa [s5,h] using h2
theorem NH (e:Cn) (H:List aa) (φ:AV→Prop):aY (some 6) (.ai e.av) H φ=φ e.av:=by simp [aY,Cn.av,AV.cells]
def CE (ps ss:List Int) (e:ju):Prop:=∀ y∈e.rest,R (gZ ps ss) e.a y
def oC (l:List Cn):List T:=l.flatMap fun c=>[c.a,c.b]
theorem yv {l:List Cn} {i:Nat} (h:i < l.length):oC (l.take (i + 1))=oC (l.take i)++[(l.getD i default).a,(l.getD i default).b]:=by
 have e:l.getD i default=l[i]:=by simp [h]
 rw [acq h,e]
 unfold oC
 rw [adz]
 rfl
theorem nW (l:List Cn):(oC l).length=2 * l.length:=by
 induction l with
 | nil=>rfl
 | cons x r ih=>simp only [oC,List.flatMap_cons,aaj,List.length_cons,List.length_nil] at ih ⊢;omega
theorem wK (a b:List T):ca (a++b)=ca a++ca b:=by
 induction a with
 | nil=>rfl
 | cons x r ih=>rw [List.cons_append,ca,ca,ih];rfl
theorem aaL (x:Int) (r:List Int) (φ:AV→Prop):bC 1 (.aj 0 (ints (x::r))) (some (.int .i64 1)) none none φ=φ (.aj 0 (ints r)):=by
 have er:dA (AV.aj 0 (ints (x::r)))=some (ints (x::r)):=rfl
 have e1:(1:Int).toNat=1:=rfl
 have e2:((ints (x::r)).take (ints (x::r)).length).drop 1=ints r:=by rw [abe];rfl
 simp only [bC,fH,er,ep,e1,e2,eq_iff_iff]
 constructor
 ·intro h;exact h.2.2.2.2
 ·intro h
  refine ⟨fun own xs he z hz=>?_,by omega,by simp [aw],tv _,h⟩
  cases he
  obtain ⟨y,_,rfl⟩:=aan.1 hz
  rfl
theorem aeE (ps ss:List Int) (e:ju) (hv:Va ps ss) (hlen:e.cs.length≤1000) (ht:∀ t∈e.a::e.rest,t.tree=true) (cW:∀ t∈e.a::e.rest,v9 (fun n=>0≤n∧n < ps.length) t) (H:List aa) :
 ax Tryz.prog 163 [eN ps ss,e.av] H fun r H'=>(∃ b:Bool,r=.bool b∧(b=true↔CE ps ss e))∧H'=H:=by
 refine TD.2.calls rfl ?_
 simp only [TD,aH]
 obtain ⟨q1,q2,q3,q4,q5,q6⟩:=aX ps ss
 obtain ⟨e1,e2,e3,e4,e5,e6⟩:=ju.facts e
 have cf:=Cn.facts
 simp +contextual only [q1,e1,FR,Pa,E3,dq,sZ,Nat.reduceEqDiff,Nat.reduceAdd,↓reduceIte,reduceCtorEq]
 intro _
 have rest:e.rest=e.b::oC e.cs:=rfl
 refine ay e.cs.length (fun i=>True) (fun i=>[(2,.ai (eN ps ss)),(5,.aj 3 (ca (e.a::e.b::oC (e.cs.take i)))),(16,.aj 0 (s5 e.cs)),(17,.int .i64 e.cs.length),(18,.int .i64 i)]) (fun _=>H) ⟨trivial,aA _ _ _⟩ fun i hi _=>?_
 by_cases y7:(i:Int) < e.cs.length
 ·have aP:i < e.cs.length:=by omega
  obtain ⟨f1,f2,f3,f4,f5,f6⟩:=cf (e.cs.getD i default)
  have hl:(oC (e.cs.take i)).length≤2000:=by rw [nW];simp;omega
  have hal:=sK (e.a::e.b::oC (e.cs.take i))
  have jF:qQ 3 [(e.cs.getD i default).a.av,(e.cs.getD i default).b.av]:=of_eq_true (Cp [_,_])
  simp +contextual only [y7,decide_true,nV,ry,NH,f1,f2,f3,WB,WC,sZ,Nat.reduceEqDiff,Nat.reduceAdd,↓reduceIte]
  have e7:ca (e.a::e.b::oC (e.cs.take i))++[(e.cs.getD i default).a.av,(e.cs.getD i default).b.av]=ca (e.a::e.b::oC (e.cs.take (i + 1))):=by
   rw [yv aP,← List.cons_append,← List.cons_append,wK];rfl
  exact ⟨aP,by omega,jF,i + 1,aP,by omega,aD (by rw [aq i (by omega),e7]) rfl⟩
 ·have Lv:i=e.cs.length:=by omega
  subst Lv
  rw [abe]
  have dP:e.a::e.b::oC e.cs≠[]:=by simp
  have hl:(e.a::e.b::oC e.cs).length≤10000:=by simp [nW];omega
  have hw:=lK (l:=e.a::e.b::oC e.cs) ht
  have hc:=TC hv dP (by omega) cW H.length
  have hd:=AR ps ss dP H
  simp +contextual only [y7,decide_false,b7,q4,sZ,Nat.reduceEqDiff,Nat.reduceAdd,↓reduceIte]
  refine af (c75 ps ss (e.a::e.b::oC e.cs) H (by omega)) ?_
  rintro r G ⟨rfl,rfl⟩
  have hk:=(RU (e.a::e.b::oC e.cs)).kids
  have ek:ba (e.a::e.b::oC e.cs) 0=0::ba (e.b::oC e.cs) (0 + wt e.a):=by rw [ba];rfl
  have C8:=cM (e.b::oC e.cs) (0 + wt e.a)
  rw [ek] at hk ⊢
  generalize ba (e.b::oC e.cs) (0 + wt e.a)=tl at hk C8 ⊢
  obtain ⟨Nr,vr⟩:=hk
  simp only [List.map_cons,List.cons.injEq] at Nr
  obtain ⟨ha,hb⟩:=Nr
  have e0:([(0:Int)]++tl).getD 0 0=0:=rfl
  have ix0:∀ φ:AV→Prop,aE 1 (.aj 0 (ints (0::tl))) (.int .i64 0) φ=φ (.ai (.int .i64 0)):=fun φ=>by
   have:=aR 1 0 (0::tl) .i64 0 φ
   rw [this]
   simp
  simp +contextual only [bu,ix0,dS,Option.map_some,Option.map_none,aaL,sZ,Nat.reduceEqDiff,Nat.reduceAdd,Nat.reduceLT,↓reduceIte,reduceCtorEq]
  have itl:IL (.aj 0 (ints tl)) tl:=.inr rfl
  refine af (Wk (c:=iE ps ss (e.a::e.b::oC e.cs) H.length) (i:=0) itl (by rw [C8];simp [nW];omega) (fun x hx=>k9 hc (vr 0 aa2) (vr x (aaK _ hx))) hd) ?_
  rintro r G ⟨b,rfl,hbb,hU,hD⟩
  simp +contextual only [sZ,↓reduceIte,reduceCtorEq]
  refine a8 H.length (tv _) (by rw [aC,if_pos rfl];rfl) ?_
  rw [aC,if_pos rfl]
  refine ⟨⟨b,rfl,?_⟩,hU.low (by simp [iE]) (by simp [iE])⟩
  rw [hbb,CE,rest]
  have ha':(iE ps ss (e.a::e.b::oC e.cs) H.length).tm 0=e.a:=ha
  have ey:tl.map (iE ps ss (e.a::e.b::oC e.cs) H.length).tm=e.b::oC e.cs:=hb
  rw [ha']
  generalize (iE ps ss (e.a::e.b::oC e.cs) H.length).tm=f at ey
  rw [← ey]
  constructor
  ·intro h y hy
   obtain ⟨x,hx,rfl⟩:=aan.1 hy
   exact h x hx
  ·intro h x hx
   exact h _ (aan.2 ⟨x,hx,rfl⟩)
end Go.aI
end
