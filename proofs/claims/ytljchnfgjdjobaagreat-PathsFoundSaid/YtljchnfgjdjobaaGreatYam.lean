/- Part 13 of 19 of the proof. -/
import Derived.Test.YtljchnfgjdjobaaGreatYal
import Derived.Test.YtljchnfgjdjobaaGreatYak
import Derived.Test.YtljchnfgjdjobaaGreatYai
import Derived.Test.YtljchnfgjdjobaaGreatYag
import Derived.KernelRfl
set_option linter.unusedVariables false
set_option linter.unusedSimpArgs false
set_option linter.defProp false
set_option linter.unusedSectionVars false
section
set_option maxRecDepth 100000
namespace Go.aJ
open Go Go.Proofs Go.eN
def nf (c:Cx) (x:Int):T:=norm c.O (c.tm x)
def yg (c:Cx) (i k:Int):Prop:=uM c i k=true∧dE c i=3∧Mu (Gt c.O.sp) ((c.kd i).map (nf c)) ((c.kd k).map (nf c))
theorem aa9 {c:Cx} {a b:List Int} {va vb:AV} (ha:IL va a) (hb:IL vb b) {p q:Nat} {x y:Int} (hx:0≤x∧x < a.length) (hy:0≤y∧y < b.length) (h:iz c (a.getD x.toNat 0) (b.getD y.toNat 0)) {G:List aa} (hD:Du c G) (gp:G[p]?=some (.cells [va])) (gq:G[q]?=some (.cells [vb])) :
 aw Tryz.prog 222 [.int .i64 x,.aj (.ptr c.d 0),.ptr p 0,.ptr q 0,.aj (.int .i64 y)] G (iO c (R c.O (c.tm (a.getD x.toNat 0)) (c.tm (b.getD y.toNat 0))) G):=by
 refine WH.2.calls rfl ?_
 simp only [WH,aK]
 obtain ⟨a1,a2,a3,a4⟩:=ha.one
 obtain ⟨b1,b2,b3,b4⟩:=hb.one
 simp +contextual only [gp,gq,a2,b2,ha.lens,hb.lens,ha.idx,hb.idx,sZ,Nat.reduceEqDiff,Nat.reduceAdd,Nat.reduceLT,↓reduceIte,reduceCtorEq]
 refine ⟨hx,hy,ag (h G hD) ?_⟩
 rintro r G' ⟨z,rfl,hz,hU,jC⟩
 simp +contextual only [sZ,↓reduceIte,reduceCtorEq]
 exact eG rfl hz hU jC
theorem aba {c:Cx} {a b l:List Int} {va vb vl:AV} (ha:IL va a) (hb:IL vb b) (hl:IL vl l) (ll:l.length≤1000000000) {p q:Nat} {y:Int} (hx:∀ x∈l,0≤x∧x < a.length) (hy:0≤y∧y < b.length) (h:∀ x∈l,iz c (a.getD x.toNat 0) (b.getD y.toNat 0)) {G:List aa} (hD:Du c G)
 (gp:G[p]?=some (.cells [va])) (gq:G[q]?=some (.cells [vb])) (np:p≠c.e∧p≠c.g) (nq:q≠c.e∧q≠c.g) :
 aw Tryz.prog 221 [.int .i64 y,.aj vl,.aj (.ptr c.d 0),.ptr p 0,.ptr q 0] G (iO c (¬ ∃ x∈l,R c.O (c.tm (a.getD x.toNat 0)) (c.tm (b.getD y.toNat 0))) G):=by
 refine WG.2.calls rfl ?_
 simp only [WG,aK]
 obtain ⟨a1,a2,a3,a4⟩:=hl.one
 have ld:∀ (H:List aa) (φ:AV→Prop),aV none (.aj vl) H φ=φ vl:=fun H φ=>by simp [aV,a1,a2]
 simp +contextual only [ld,a2,sZ,Nat.reduceEqDiff,Nat.reduceAdd,↓reduceIte,reduceCtorEq]
 refine ag (DD (SD.Bf c G) hl ll 222 [] [.aj (.ptr c.d 0),.ptr p 0,.ptr q 0,.aj (.int .i64 y)] rfl rfl (Q:=fun x=>R c.O (c.tm (a.getD x.toNat 0)) (c.tm (b.getD y.toNat 0)))
  (fun x qp G' eF=>(aa9 ha hb (hx x qp) hy (h x qp) eF.1 (by rw [eF.2.get p np.1 np.2,gp]) (by rw [eF.2.get q nq.1 nq.2,gq])).mono fun r H' hr=>hr.sb eF) ⟨hD,Up.refl c G⟩) ?_
 rintro r G' ⟨z,rfl,hz,eF⟩
 simp +contextual only [sZ,↓reduceIte,reduceCtorEq]
 refine eG (b:=!z) rfl ?_ eF.2 eF.1
 rw [← hz];cases z <;> simp
theorem lN {P:Px} {t:DT} {f:AV→Env} {H:List aa} {o:Option aa} {off:Nat} {K1 K2:Env→List aa→Prop} (h:cL o none off fun x=>jn P t (f x) H K1) (hk:∀ e G,K1 e G→K2 e G):cL o none off fun x=>jn P t (f x) H K2:=by
 unfold cL at *
 split at h
 ·exact ⟨h.1,dI h.2 hk⟩
 ·exact h.elim
theorem XN {c:Cx} (hc:c.Ok) {i k:Int} (hi:c.dP i) (hk:c.dP k) (h2:∀ x∈c.kd i,∀ y∈c.kd k,kE c x y) (h3:∀ x∈c.kd i,∀ y∈c.kd k,iz c x y) {H:List aa} (hD:Du c H) :
 aw Tryz.prog 186 [.ptr c.d 0,.int .i64 i,.int .i64 k] H (iO c (yg c i k) H):=by
 refine Q9.2.calls rfl ?_
 simp only [Q9,aK]
 have k2:∀ l,(bo l).ae=bo l:=fun l=>(aG l).2.1
 have l1:=hc.kl i hi
 have l2:=hc.kl k hk
 simp +contextual only [sZ,Nat.reduceEqDiff,Nat.reduceAdd,↓reduceIte,reduceCtorEq]
 refine ag (FN hc hi hk hD) ?_
 rintro r H1 ⟨rfl,rfl⟩
 simp +contextual only [sZ,Nat.reduceEqDiff,Nat.reduceAdd,Nat.reduceLT,↓reduceIte]
 cases hl:uM c i k with
 | false=>
   simp +contextual only [Bool.not_false,sZ,Nat.reduceEqDiff,↓reduceIte,reduceCtorEq]
   exact eG rfl ⟨fun h=>by simp at h,fun h=>by have:=h.1;rw [hl] at this;simp at this⟩ (Up.refl c _) hD
 | true=>
   by_cases hs:dE c i=3
   ·have d3:decide (dE c i=3)=true:=decide_eq_true hs
    have d3':decide (¬dE c i=3)=false:=decide_eq_false (fun h=>h hs)
    simp +contextual only [Bool.not_true,hs,not_true_eq_false,decide_false,sZ,Nat.reduceEqDiff,Nat.reduceAdd,↓reduceIte]
    obtain ⟨l4,l5,l6⟩:=hD.lt
    have ed:∀ X:List aa,(H1++X)[c.d]?=H1[c.d]?:=fun X=>yp l4
    refine lN (K1:=fun e G=>get e 3=.aj (.ptr c.d 0)∧∃ p q X,get e 9=.ptr p 0∧get e 10=.ptr q 0∧H1.length≤p∧H1.length≤q∧G=H1++X∧G[p]?=some (.cells [bo (c.kd i)])∧G[q]?=some (.cells [bo (c.kd k)])) ?_ ?_
    ·obtain ⟨k1,k3,k4,k5,k6⟩:=aG (c.kd i)
     obtain ⟨m1,m3,m4,m5,m6⟩:=aG (c.kd k)
     have g0:∀ (x:aa) (l:List aa),(H1++x::l)[H1.length]?=some x:=fun x l=>by simp
     have g1:∀ (x y:aa),(H1++[x,y])[H1.length + 1]?=some y:=fun x y=>by simp
     have ei:(c.nd.getD i.toNat default).snd=c.kd i:=rfl
     have ek:(c.nd.getD k.toNat default).snd=c.kd k:=rfl
     have sp:∀ x:AV,ai [AV.ah] 0 [x]=[x]:=fun x=>rfl
     have A:∃ p q X,AV.ptr H1.length 0=AV.ptr p 0∧AV.ptr (H1.length + 1) 0=AV.ptr q 0∧H1.length≤p∧H1.length≤q∧H1++[.cells [bo (c.kd i)],.cells [bo (c.kd k)]]=H1++X∧(H1++[aa.cells [bo (c.kd i)],.cells [bo (c.kd k)]])[p]?=some (.cells [bo (c.kd i)])∧(H1++[aa.cells [bo (c.kd i)],.cells [bo (c.kd k)]])[q]?=some (.cells [bo (c.kd k)]):=
      ⟨_,_,_,rfl,rfl,yo _,Nat.le_succ _,rfl,g0 _ _,g1 _ _⟩
     have B:∃ p q X,AV.ptr (H1.length + 1) 0=AV.ptr p 0∧AV.ptr H1.length 0=AV.ptr q 0∧H1.length≤p∧H1.length≤q∧H1++[.cells [bo (c.kd k)],.cells [bo (c.kd i)]]=H1++X∧(H1++[aa.cells [bo (c.kd k)],.cells [bo (c.kd i)]])[p]?=some (.cells [bo (c.kd i)])∧(H1++[aa.cells [bo (c.kd k)],.cells [bo (c.kd i)]])[q]?=some (.cells [bo (c.kd k)]):=
      ⟨_,_,_,rfl,rfl,Nat.le_succ _,yo _,rfl,g1 _ _,g0 _ _⟩
     simp +contextual only [ed,hD.d,mP,En,cG,bY,k2,ei,ek,k1,k4,k5,k6,m1,m4,m5,m6,List.map_cons,List.map_nil,sp,List.all_cons,List.all_nil,acQ,bE,cN,sZ,Nat.reduceEqDiff,Nat.reduceAdd,Nat.reduceLT,↓reduceIte]
     refine ⟨hi,?_⟩
     repeat' apply rZ
     all_goals first | exact hk.1 | exact hk.2 | exact A | exact B
    ·rintro e G ⟨e3,p,q,X,e9,e10,hp,hq,rfl,gp,gq⟩
     simp +contextual only [e3,e9,e10,gp,gq,k2,sZ,Nat.reduceEqDiff,Nat.reduceAdd,Nat.reduceLT,↓reduceIte,reduceCtorEq]
     refine ag (T7 (.inl rfl:IL (bo (c.kd i)) (c.kd i)) (.inl rfl:IL (bo (c.kd k)) (c.kd k)) (by omega) (by omega) h2 (hD.s6 X)) ?_
     rintro r G' ⟨us,to,Bi,rfl,hU,jC⟩
     have ZD:=Pr.mu (f:=nf c) (G:=Gt c.O.sp) Bi
     have lbl:=jG (c.kd i).length fun i=>!us.getD i false
     have lbo:=jG (c.kd k).length fun j=>decide (to.getD j 0 < 0)
     have il:IL (bo (below (c.kd i).length fun i=>!us.getD i false)) (below (c.kd i).length fun i=>!us.getD i false):=.inl rfl
     have io:IL (bo (below (c.kd k).length fun j=>decide (to.getD j 0 < 0))) (below (c.kd k).length fun j=>decide (to.getD j 0 < 0)):=.inl rfl
     have ml:∀ x∈below (c.kd i).length (fun i=>!us.getD i false),0≤x∧x < (c.kd i).length:=by
      intro x hx;obtain ⟨j,rfl,hj,_⟩:=gH.1 hx;omega
     have mo:∀ x∈below (c.kd k).length (fun j=>decide (to.getD j 0 < 0)),0≤x∧x < (c.kd k).length:=by
      intro x hx;obtain ⟨j,rfl,hj,_⟩:=gH.1 hx;omega
     generalize (below (c.kd i).length fun i=>!us.getD i false)=L at *
     generalize (below (c.kd k).length fun j=>decide (to.getD j 0 < 0))=V at *
     obtain ⟨a1,a2,a3,a4⟩:=il.one
     obtain ⟨b1,b2,b3,b4⟩:=io.one
     have hG1:∀ G2,Up c (H1++X) G2→Du c G2→Up c H1 (G2.take H1.length)∧Du c (G2.take H1.length):=fun G2 u d=>⟨u.take,d.take l4 l5 l6⟩
     have fin:∀ G2 (b:Bool),Up c (H1++X) G2→Du c G2→(b=true↔yg c i k)→bV H1.length [.t 6] [(6,.bool b)] G2 (iO c (yg c i k) H1):=by
      intro G2 b u d hb
      refine aX H1.length (yo _) (by rw [aA,if_pos rfl];rfl) ?_
      rw [aA,if_pos rfl]
      exact ⟨b,rfl,hb,(hG1 G2 u d).1,(hG1 G2 u d).2⟩
     simp +contextual only [List.map_cons,List.map_nil,k2,a1,a3,a4,il.aN,il.len (by omega),bY,sZ,Nat.reduceEqDiff,Nat.reduceAdd,Nat.reduceLT,↓reduceIte,reduceCtorEq]
     refine ⟨fun hL=>?_,fun hL=>?_⟩
     ·have gp':G'[p]?=some (.cells [bo (c.kd i)]):=by rw [hU.get p (by omega) (by omega),gp]
      have gq':G'[q]?=some (.cells [bo (c.kd k)]):=by rw [hU.get q (by omega) (by omega),gq]
      have gm:∀ {x:Int} {l:List Int},0≤x∧x < l.length→l.getD x.toNat 0∈l:=fun h=>aO (by omega)
      refine ag (DD (SD.Bf c G') io (by omega) 221 [] [.aj (bo L),.aj (.ptr c.d 0),.ptr p 0,.ptr q 0] rfl rfl (Q:=fun y=>¬ ∃ x∈L,R c.O (c.tm ((c.kd i).getD x.toNat 0)) (c.tm ((c.kd k).getD y.toNat 0)))
       (fun y hy G2 T8=>(aba (.inl rfl) (.inl rfl) il (by omega) ml (mo y hy) (fun x hx=>h3 _ (gm (ml x hx)) _ (gm (mo y hy))) T8.1 (by rw [T8.2.get p (by omega) (by omega),gp']) (by rw [T8.2.get q (by omega) (by omega),gq']) ⟨by omega,by omega⟩ ⟨by omega,by omega⟩).mono fun r H' hr=>hr.sb T8) ⟨jC,Up.refl c G'⟩) ?_
      rintro r G2 ⟨z,rfl,hz,T8⟩
      simp +contextual only [sZ,Nat.reduceEqDiff,↓reduceIte,reduceCtorEq]
      refine fin G2 (!z) (hU.trans T8.2) T8.1 ?_
      have hLn:L≠[]:=by intro e;rw [e] at hL;simp at hL
      rw [yg,ZD]
      cases z with
      | true=>
        obtain ⟨y,hy,hn⟩:=hz.1 rfl
        exact ⟨fun h=>by simp at h,fun ⟨_,_,_,h⟩=>absurd (h y hy) hn⟩
      | false=>
        refine ⟨fun _=>⟨hl,hs,hLn,fun y hy=>?_⟩,fun _=>rfl⟩
        by_cases Ao:∃ x∈L,R c.O (c.tm ((c.kd i).getD x.toNat 0)) (c.tm ((c.kd k).getD y.toNat 0))
        ·exact Ao
        ·exact absurd (hz.2 ⟨y,hy,Ao⟩) (by simp)
     ·refine fin G' false hU jC ⟨fun h=>by simp at h,fun h=>?_⟩
      have:=(ZD.1 h.2.2).1
      exact absurd (abt.1 (by omega)) this
   ·have d3':decide (¬dE c i=3)=true:=decide_eq_true hs
    simp +contextual only [Bool.not_true,hs,decide_true,not_false_eq_true,sZ,Nat.reduceEqDiff,↓reduceIte,reduceCtorEq]
    exact eG rfl ⟨fun h=>by simp at h,fun h=>absurd h.2.1 hs⟩ (Up.refl c _) hD
theorem vj {c:Cx} (hc:c.Ok) {i:Int} (hi:c.dP i):(c.tm i).l.map (norm c.O)=(c.kd i).map (nf c):=by
 rw [← (hc.kids i hi).1,adp];rfl
theorem FO {f:Int→T} {a b:List Int}:a.map f=b.map f↔a.length=b.length∧∀ j,j < a.length→f (a.getD j 0)=f (b.getD j 0):=by
 constructor
 ·intro h
  have hl:a.length=b.length:=by simpa using congrArg List.length h
  refine ⟨hl,fun j hj=>?_⟩
  have:=congrArg (fun l=>l[j]?) h
  have hb:j < b.length:=by omega
  simpa [hj,hb] using this
 ·rintro ⟨hl,h⟩
  apply ad1
  ·simpa using hl
  ·intro j h1 h2
   have h3:j < a.length:=by simpa using h1
   have h4:j < b.length:=by simpa using h2
   simpa [h3,h4] using h j h3
theorem abb {c:Cx} (hc:c.Ok) {i k:Int} (hi:c.dP i) (hk:c.dP k) (h2:∀ x∈c.kd i,∀ y∈c.kd k,kE c x y) {H:List aa} (hD:Du c H):aw Tryz.prog 138 (DC c i k) H (iO c (E c.O (c.tm i) (c.tm k)) H):=by
 refine Wc.2.calls rfl ?_
 simp only [Wc,aK,DC]
 have k2:∀ l,(bo l).ae=bo l:=fun l=>(aG l).2.1
 have l1:=hc.kl i hi
 have l2:=hc.kl k hk
 simp +contextual only [sZ,Nat.reduceEqDiff,Nat.reduceAdd,↓reduceIte,reduceCtorEq]
 refine ag (qi hc hi hD) ?_
 rintro r H1 ⟨rfl,rfl⟩
 simp +contextual only [dF,fI,fJ,fK,sZ,Nat.reduceEqDiff,Nat.reduceAdd,↓reduceIte,reduceCtorEq]
 refine ag (qi hc hk hD) ?_
 rintro r H1 ⟨rfl,rfl⟩
 simp +contextual only [dF,fI,fJ,fK,sZ,Nat.reduceEqDiff,↓reduceIte,reduceCtorEq]
 have eqf:∀ b:Bool,da false (.bool b) (.bool b)=fun φ=>φ (.bool true):=fun b=>by funext φ;cases b <;> simp [da]
 have fT0:=Hd
 have fT1:∀ (t:T) (φ:AV→Prop),aq 1 none (.aj t.av) φ=φ (.aj (.int .i64 t.n)):=fun t φ=>by cases t;simp [aq,T.av,apart,AV.cells,AV.one,T.n]
 have ei:(c.nd.getD i.toNat default).fst=c.tm i:=rfl
 have ek:(c.nd.getD k.toNat default).fst=c.tm k:=rfl
 have hE:=Ha (O:=c.O) (a:=c.tm i) (b:=c.tm k)
 rw [vj hc hi,vj hc hk] at hE
 cases ZE:sf c i with
 | false=>
   have ki:(c.tm i).k≠2:=of_decide_eq_false ZE
   cases FP:sf c k with
   | false=>
     have kk:(c.tm k).k≠2:=of_decide_eq_false FP
     simp +contextual only [Bool.not_false,hD.d,mP,fN0,fT1,cG,ei,ek,sZ,Nat.reduceEqDiff,Nat.reduceAdd,Nat.reduceLT,↓reduceIte,reduceCtorEq]
     refine ⟨hi,hk,eG rfl ?_ (Up.refl c _) hD⟩
     rw [hE,decide_eq_true_eq]
     exact ⟨fun h=>.inr ⟨ki,kk,h⟩,fun h=>by rcases h with h | h;exact absurd h.1 ki;exact h.2.2⟩
   | true=>
     have kk:(c.tm k).k=2:=of_decide_eq_true FP
     simp +contextual only [Bool.not_false,sZ,Nat.reduceEqDiff,↓reduceIte,reduceCtorEq]
     refine eG rfl ?_ (Up.refl c _) hD
     rw [hE]
     exact ⟨fun h=>by simp at h,fun h=>by rcases h with h | h;exact absurd h.1 ki;exact absurd kk h.2.1⟩
 | true=>
   have ki:(c.tm i).k=2:=of_decide_eq_true ZE
   cases FP:sf c k with
   | false=>
     have kk:(c.tm k).k≠2:=of_decide_eq_false FP
     simp +contextual only [Bool.not_false,Bool.not_true,sZ,Nat.reduceEqDiff,↓reduceIte,reduceCtorEq]
     refine eG rfl ?_ (Up.refl c _) hD
     rw [hE]
     exact ⟨fun h=>by simp at h,fun h=>by rcases h with h | h;exact absurd h.2.1 kk;exact absurd ki h.1⟩
   | true=>
     have kk:(c.tm k).k=2:=of_decide_eq_true FP
     have epi:qh c i=c.O.pl (c.tm i).n:=if_pos ki
     have epk:qh c k=c.O.pl (c.tm k).n:=if_pos kk
     have esi:dE c i=c.O.sp (c.O.pl (c.tm i).n):=if_pos ki
     have ZF:E c.O (c.tm i) (c.tm k)↔qh c i=qh c k∧(if dE c i=3 then ((c.kd i).map (nf c)).Perm ((c.kd k).map (nf c)) else (c.kd i).map (nf c)=(c.kd k).map (nf c)):=by
      rw [hE,epi,epk,esi]
      exact ⟨fun h=>by rcases h with h | h;exact h.2.2;exact absurd ki h.1,fun h=>.inl ⟨ki,kk,h⟩⟩
     have eki:(c.nd.getD i.toNat default).snd=c.kd i:=rfl
     have ekk:(c.nd.getD k.toNat default).snd=c.kd k:=rfl
     have ii:IL (bo (c.kd i)) (c.kd i):=.inl rfl
     have ik:IL (bo (c.kd k)) (c.kd k):=.inl rfl
     have hlen:E c.O (c.tm i) (c.tm k)→(c.kd i).length=(c.kd k).length:=by
      intro h
      have h:=(ZF.1 h).2
      split at h
      ·simpa using h.length_eq
      ·simpa using congrArg List.length h
     simp +contextual only [Bool.not_true,hD.d,mP,En,cG,bY,k2,eki,ekk,ii.aN,ik.aN,ii.len (by omega),ik.len (by omega),sZ,Nat.reduceEqDiff,Nat.reduceAdd,Nat.reduceLT,↓reduceIte,reduceCtorEq]
     refine ⟨hi,hk,fun hp=>⟨fun hn=>?_,fun M8=>⟨fun h3=>?_,fun h3=>?_⟩⟩,fun hp=>?_⟩
     ·refine eG rfl ⟨fun h=>by simp at h,fun h=>absurd (hlen h) (by omega)⟩ (Up.refl c _) hD
     ·refine ag (T7 ii ik (by omega) (by omega) h2 hD) ?_
      rintro r G ⟨us,to,Bi,rfl,hU,jC⟩
      have U0:=Pr.perm (f:=nf c) Bi (by omega)
      have lbl:=jG (c.kd i).length fun i=>!us.getD i false
      have il:IL (bo (below (c.kd i).length fun i=>!us.getD i false)) (below (c.kd i).length fun i=>!us.getD i false):=.inl rfl
      generalize (below (c.kd i).length fun i=>!us.getD i false)=L at *
      simp +contextual only [k2,il.aN,il.len (by omega),sZ,Nat.reduceEqDiff,Nat.reduceAdd,Nat.reduceLT,↓reduceIte,reduceCtorEq]
      refine eG rfl ?_ hU jC
      rw [ZF,if_pos h3,U0,decide_eq_true_eq]
      exact ⟨fun h=>⟨hp,abt.1 (by omega)⟩,fun h=>by rw [h.2];rfl⟩
     ·refine ag (XD (SD.Bf c _) ii ik (by omega) (by omega) 79 [.ptr c.d 0] [] rfl rfl (Q:=fun x y=>E c.O (c.tm x) (c.tm y)) (fun x hx y hy G hG=>(h2 x hx y hy G hG.1).mono fun r H' hr=>hr.sb hG) ⟨hD,Up.refl c _⟩) ?_
      rintro r G ⟨b,rfl,hb,hG⟩
      simp +contextual only [sZ,↓reduceIte,reduceCtorEq]
      refine eG rfl ?_ hG.2 hG.1
      rw [ZF,if_neg h3,hb]
      have:=FO (f:=nf c) (a:=c.kd i) (b:=c.kd k)
      exact ⟨fun h=>⟨hp,this.2 h⟩,fun h=>this.1 h.2⟩
     ·exact eG rfl ⟨fun h=>by simp at h,fun h=>absurd (ZF.1 h).1 hp⟩ (Up.refl c _) hD
end Go.aJ
end
section
set_option maxRecDepth 100000
namespace Go.aJ
open Go Go.Proofs Go.eN
def ee:AV:=.agg [.fP,.fn (.func 183) [] [],.fn (.func 184) [] [],.fn (.func 185) [] [],.fn (.func 186) [] []]
theorem abc (φ:AV→Prop):b7 [.fP,.fP,.fP,.fP,.fP] [(1,1,.fn (.func 183) [] []),(2,1,.fn (.func 184) [] []),(3,1,.fn (.func 185) [] []),(4,1,.fn (.func 186) [] [])] φ=φ ee:=by
 simp only [b7,gE,eq_iff_iff]
 constructor
 ·rintro ⟨_,_,_,_,_,_,_,_,_,_,_,_,h⟩;exact h
 ·exact fun h=>⟨rfl,rfl,by decide,rfl,rfl,by decide,rfl,rfl,by decide,rfl,rfl,by decide,h⟩
theorem Bk:ee.val=true∧ee.cells.length=5∧ee.cells.all AV.one=true∧(∀ n,ak n (ee.cells.map AV.ae)=true)∧ai [AV.fP,.fP,.fP,.fP,.fP] 0 (ee.cells.map AV.ae)=ee.cells:=⟨rfl,rfl,rfl,fun _=>rfl,rfl⟩
theorem LG:Pure Tryz.prog 136 [] ee:=by
 refine fun H=>Wb.2.calls rfl ?_
 simp only [Wb,aK]
 obtain ⟨r1,r2,r3,r4,r5⟩:=Bk
 simp +contextual only [abc,r1,r2,r3,r4,r5,sZ,Nat.reduceAdd,↓reduceIte,reduceCtorEq]
 have e:cL (some (aa.cells ee.cells)) (some 5) 0=fun φ=>(5≤5∧φ ee):=rfl
 rw [e]
 exact ⟨yo _,QU (n0:=H.length) (by simp) rfl rfl ⟨rfl,rfl⟩⟩
theorem Vf (j:Nat) (f:AV) (h:ee.cells[j]?=some f) (hj:j < 5) (φ:AV→Prop) (hd:f.drop=f):bT 5 ee (.int .i64 (j:Int)) φ=φ f:=by
 simp only [bT,ee,aaa,eq_iff_iff]
 have e:[AV.fP,.fn (.func 183) [] [],.fn (.func 184) [] [],.fn (.func 185) [] [],.fn (.func 186) [] []].getD j .any=f:=by
  rw [sc];show (ee.cells[j]?).getD .any=f;rw [h];rfl
 rw [e,hd]
 exact ⟨fun h=>h.2.2.2,fun h=>⟨rfl,by omega,hj,h⟩⟩
def LH (c:Cx) (i k:Int):Prop:=∃ x∈c.kd i,E c.O (c.tm x) (c.tm k)∨R c.O (c.tm x) (c.tm k)
def tg (c:Cx) (i k:Int):Prop:=sf c k=true∧qh c k < qh c i∧∀ x∈c.kd k,R c.O (c.tm i) (c.tm x)
def g9 (c:Cx) (i k:Int) (n:Nat):Prop:=(n=1∧LH c i k)∨(n=2∧tg c i k)∨(n=3∧Bg c i k)∨(n=4∧yg c i k)
structure He (c:Cx) (i k:Int):Prop where
 r1:∀ H,Du c H→aw Tryz.prog 183 [.ptr c.d 0,.int .i64 i,.int .i64 k] H (iO c (LH c i k) H)
 r2:∀ H,Du c H→aw Tryz.prog 184 [.ptr c.d 0,.int .i64 i,.int .i64 k] H (iO c (tg c i k) H)
 r3:∀ H,Du c H→aw Tryz.prog 185 [.ptr c.d 0,.int .i64 i,.int .i64 k] H (iO c (Bg c i k) H)
 r4:∀ H,Du c H→aw Tryz.prog 186 [.ptr c.d 0,.int .i64 i,.int .i64 k] H (iO c (yg c i k) H)
theorem He.at {c:Cx} {i k:Int} (h:He c i k) {n:Nat} (h1:0 < n) (h2:n < 5) {H:List aa} (hD:Du c H):aw Tryz.prog (182 + n) [.ptr c.d 0,.int .i64 i,.int .i64 k] H (iO c (g9 c i k n) H):=by
 have:n=1∨n=2∨n=3∨n=4:=by omega
 have key:∀ {Q Q':Prop} {f:Nat},aw Tryz.prog f [.ptr c.d 0,.int .i64 i,.int .i64 k] H (iO c Q H)→(Q↔Q')→aw Tryz.prog f [.ptr c.d 0,.int .i64 i,.int .i64 k] H (iO c Q' H):=by
  intro Q Q' f h e
  refine h.mono ?_
  rintro r H' ⟨b,h1,h2,h3,h4⟩
  exact ⟨b,h1,h2.trans e,h3,h4⟩
 rcases this with rfl | rfl | rfl | rfl
 ·exact key (h.r1 H hD) (by simp [g9])
 ·exact key (h.r2 H hD) (by simp [g9])
 ·exact key (h.r3 H hD) (by simp [g9])
 ·exact key (h.r4 H hD) (by simp [g9])
theorem abd {c:Cx} (hc:c.Ok) {i k:Int} (hi:c.dP i) (hr:He c i k) {H:List aa} (hD:Du c H):aw Tryz.prog 134 (DC c i k) H (iO c (sf c i=true∧∃ n,n < 5∧g9 c i k n) H):=by
 refine V9.2.calls rfl ?_
 simp only [V9,aK,DC]
 simp +contextual only [sZ,Nat.reduceEqDiff,Nat.reduceAdd,↓reduceIte,reduceCtorEq]
 refine ag (qi hc hi hD) ?_
 rintro r H1 ⟨rfl,rfl⟩
 simp +contextual only [dF,fI,fJ,fK,sZ,Nat.reduceEqDiff,↓reduceIte,reduceCtorEq]
 cases hb:sf c i with
 | false=>
   simp +contextual only [Bool.not_false,sZ,↓reduceIte,reduceCtorEq]
   exact eG rfl ⟨fun h=>by simp at h,fun h=>absurd h.1 (by simp)⟩ (Up.refl c _) hD
 | true=>
   simp +contextual only [Bool.not_true,sZ]
   refine af LG ?_
   simp +contextual only [sZ,Nat.reduceEqDiff,↓reduceIte,reduceCtorEq]
   refine aB 5 (fun n (G:List aa)=>SD c H1 G∧∀ m,m < n→¬ g9 c i k m)
    (fun n G=>[(0,.aj (.ptr c.d 0)),(1,.aj (.int .i64 i)),(2,.aj (.int .i64 k)),(18,ee),(19,.int .i64 n)]) (fun n G=>G) H1 ⟨⟨⟨hD,Up.refl c _⟩,fun m hm=>by omega⟩,aD _ _ _⟩ fun n G hn hI=>?_
   obtain ⟨hG,jO⟩:=hI
   by_cases h0:n=0
   ·subst h0
    have e0:=Vf 0 .fP rfl (by decide)
    have d1:decide (((0:Nat):Int) < 5)=true:=rfl
    have d2:decide ((0:Int) < ((0:Nat):Int))=false:=rfl
    simp +contextual only [mG,e0 _ rfl,d1,d2,sZ,Nat.reduceEqDiff,↓reduceIte,reduceCtorEq]
    refine ⟨1,G,⟨by omega,hG,fun m hm=>?_⟩,by omega,aE rfl rfl⟩
    intro h
    simp only [g9] at h
    omega
   ·by_cases h5:n < 5
    ·have hf:ee.cells[n]?=some (.fn (.func (182 + n)) [] []):=by
      have:n=1∨n=2∨n=3∨n=4:=by omega
      rcases this with rfl | rfl | rfl | rfl <;> rfl
     have en:=Vf n _ hf h5
     have d1:decide ((n:Int) < 5)=true:=decide_eq_true (by omega)
     have d2:decide ((0:Int) < n)=true:=decide_eq_true (by omega)
     simp +contextual only [mG,en _ rfl,d1,d2,sZ,Nat.reduceEqDiff,Nat.reduceAdd,↓reduceIte,reduceCtorEq]
     refine ag (hr.at (by omega) h5 hG.1) ?_
     rintro r G' ⟨b,rfl,eu,hU,jC⟩
     have eF:SD c H1 G':=⟨jC,hG.2.trans hU⟩
     cases b with
     | true=>
       simp +contextual only [sZ,Nat.reduceEqDiff,↓reduceIte,reduceCtorEq]
       exact eG rfl ⟨fun _=>⟨rfl,n,h5,eu.1 rfl⟩,fun _=>rfl⟩ eF.2 eF.1
     | false=>
       simp +contextual only [sZ,Nat.reduceEqDiff,↓reduceIte,reduceCtorEq]
       refine ⟨n + 1,G',⟨by omega,eF,fun m hm=>?_⟩,by omega,aE (by rw [ay n (by omega)]) rfl⟩
       by_cases e:m=n
       ·subst e;exact fun h=>absurd (eu.2 h) (by simp)
       ·exact jO m (by omega)
    ·have d1:decide ((n:Int) < 5)=false:=decide_eq_false (by omega)
     simp +contextual only [d1,sZ,Nat.reduceEqDiff,↓reduceIte,reduceCtorEq]
     exact eG rfl ⟨fun h=>by simp at h,fun ⟨_,m,hm,h⟩=>absurd h (jO m (by omega))⟩ hG.2 hG.1
theorem jH {f:Int→T} {s:Int} {l:List Int}:side s (l.map f)=(bH s l).map f:=by unfold side bH;split <;> simp
theorem JD.lx {f:Int→T} {G:T→T→Prop} (irr:∀ x,¬ G x x):∀ {a b:List Int} {n:Nat},JD (fun x y=>f x=f y) a b n→(Lx G (a.map f) (b.map f)↔n < a.length∧(n=b.length∨G (f (a.getD n 0)) (f (b.getD n 0))))
 | [],b,n,h=>by simp [Lx]
 | x::r,[],n,h=>by
   have:=h.lb
   simp at this
   subst this
   simp [Lx]
 | x::r,y::s,0,h=>by
   have eU:¬ f x=f y:=h.no (by simp) (by simp)
   simp [Lx,eU]
 | x::r,y::s,m + 1,h=>by
   have heq:f x=f y:=h.eq 0 (by omega)
   have ih:=JD.lx irr (a:=r) (b:=s) (n:=m) ⟨by have:=h.la;simp at this;omega,by have:=h.lb;simp at this;omega,fun j hj=>h.eq (j + 1) (by omega),fun h1 h2=>h.no (by simpa using h1) (by simpa using h2)⟩
   simp only [List.map_cons,Lx,heq,true_and,List.length_cons,List.getD_cons_succ,Nat.add_lt_add_iff_right,Nat.add_right_cancel_iff]
   rw [ih]
   exact ⟨fun h=>by rcases h with h | h;exact h;exact absurd h (irr _),fun h=>.inl h⟩
theorem xe {Q:Int→Int→Prop}:∀ (a b:List Int),∃ n,JD Q a b n
 | [],b=>⟨0,by simp,by simp,fun j h=>by omega,fun h=>by simp at h⟩
 | x::r,[]=>⟨0,by simp,by simp,fun j h=>by omega,fun _ h=>by simp at h⟩
 | x::r,y::s=>by
   by_cases hq:Q x y
   ·obtain ⟨n,h⟩:=xe (Q:=Q) r s
    refine ⟨n + 1,by have:=h.la;simp;omega,by have:=h.lb;simp;omega,fun j hj=>?_,fun h1 h2=>h.no (by simpa using h1) (by simpa using h2)⟩
    cases j with
    | zero=>exact hq
    | succ j=>exact h.eq j (by omega)
   ·exact ⟨0,by simp,by simp,fun j h=>by omega,fun _ _=>hq⟩
theorem th {c:Cx} (hc:c.Ok) {i k:Int} (hi:c.dP i) (hk:c.dP k):(sf c i=true∧∃ n,n < 5∧g9 c i k n)↔R c.O (c.tm i) (c.tm k):=by
 rw [oh,vj hc hi,vj hc hk]
 have ZE:sf c i=true↔(c.tm i).k=2:=by simp [sf]
 have FP:sf c k=true↔(c.tm k).k=2:=by simp [sf]
 rw [ZE]
 refine and_congr_right fun ZG=>?_
 have epi:qh c i=c.O.pl (c.tm i).n:=if_pos ZG
 have esi:dE c i=c.O.sp (c.O.pl (c.tm i).n):=if_pos ZG
 have lk:=(hc.kids k hk).1
 have li:=(hc.kids i hi).1
 have all:(∀ x∈c.kd k,R c.O (c.tm i) (c.tm x))↔∀ y∈(c.tm k).l,R c.O (c.tm i) y:=by rw [← lk];simp
 have sub:LH c i k↔∃ x∈(c.tm i).l,E c.O x (c.tm k)∨R c.O x (c.tm k):=by
  rw [← li];unfold LH
  constructor
  ·rintro ⟨x,hx,h⟩;exact ⟨_,aag.2 ⟨x,hx,rfl⟩,h⟩
  ·rintro ⟨y,hy,h⟩;obtain ⟨x,hx,rfl⟩:=aag.1 hy;exact ⟨x,hx,h⟩
 have lex:Bg c i k↔(c.tm k).k=2∧c.O.pl (c.tm k).n=c.O.pl (c.tm i).n∧c.O.sp (c.O.pl (c.tm i).n)≠3∧(∀ y∈(c.tm k).l,R c.O (c.tm i) y)∧Lx (Gt c.O.sp) (side (c.O.sp (c.O.pl (c.tm i).n)) ((c.kd i).map (nf c))) (side (c.O.sp (c.O.pl (c.tm i).n)) ((c.kd k).map (nf c))):=by
  unfold Bg
  rw [kF,all,← esi,jH,jH]
  obtain ⟨n,hn⟩:=xe (Q:=fun x y=>nf c x=nf c y) (bH (dE c i) (c.kd i)) (bH (dE c i) (c.kd k))
  have hlx:=JD.lx (G:=Gt c.O.sp) (fun x=>A8 x) hn
  rw [hlx]
  constructor
  ·rintro ⟨⟨_,h1,h2⟩,h3,h4,m,hm,h5⟩
   have:=hm.T4 hn
   subst this
   exact ⟨h1,h2.symm,h3,h4,h5⟩
  ·rintro ⟨h1,h2,h3,h4,h5⟩
   exact ⟨⟨ZG,h1,h2.symm⟩,h3,h4,n,hn,h5⟩
 have mul:yg c i k↔(c.tm k).k=2∧c.O.pl (c.tm k).n=c.O.pl (c.tm i).n∧c.O.sp (c.O.pl (c.tm i).n)=3∧Mu (Gt c.O.sp) ((c.kd i).map (nf c)) ((c.kd k).map (nf c)):=by
  unfold yg
  rw [kF,← esi]
  exact ⟨fun ⟨⟨_,h1,h2⟩,h3⟩=>⟨h1,h2.symm,h3⟩,fun ⟨h1,h2,h3⟩=>⟨⟨ZG,h1,h2.symm⟩,h3⟩⟩
 have pla:tg c i k↔(c.tm k).k=2∧c.O.pl (c.tm k).n < c.O.pl (c.tm i).n∧∀ y∈(c.tm k).l,R c.O (c.tm i) y:=by
  unfold tg
  rw [all,FP,epi]
  refine and_congr_right fun h=>?_
  rw [show qh c k=c.O.pl (c.tm k).n from if_pos h]
 have e:(∃ n,n < 5∧g9 c i k n)↔LH c i k∨tg c i k∨Bg c i k∨yg c i k:=by
  constructor
  ·rintro ⟨n,_,h | h | h | h⟩
   ·exact .inl h.2
   ·exact .inr (.inl h.2)
   ·exact .inr (.inr (.inl h.2))
   ·exact .inr (.inr (.inr h.2))
  ·rintro (h | h | h | h)
   ·exact ⟨1,by omega,.inl ⟨rfl,h⟩⟩
   ·exact ⟨2,by omega,.inr (.inl ⟨rfl,h⟩)⟩
   ·exact ⟨3,by omega,.inr (.inr (.inl ⟨rfl,h⟩))⟩
   ·exact ⟨4,by omega,.inr (.inr (.inr ⟨rfl,h⟩))⟩
 rw [e,sub,pla,lex,mul]
 refine or_congr_right ?_
 constructor
 ·rintro (⟨h1,h2⟩ | ⟨h1,h2⟩ | ⟨h1,h2⟩)
  ·exact ⟨h1,.inl h2⟩
  ·exact ⟨h1,.inr (.inl h2)⟩
  ·exact ⟨h1,.inr (.inr h2)⟩
 ·rintro ⟨h1,h2 | h2 | h2⟩
  ·exact .inl ⟨h1,h2⟩
  ·exact .inr (.inl ⟨h1,h2⟩)
  ·exact .inr (.inr ⟨h1,h2⟩)
theorem iO.iff {c:Cx} {Q Q':Prop} {f:Nat} {args:List AV} {H:List aa} (h:aw Tryz.prog f args H (iO c Q H)) (e:Q↔Q'):aw Tryz.prog f args H (iO c Q' H):=by
 refine h.mono ?_
 rintro r H' ⟨b,h1,h2,h3,h4⟩
 exact ⟨b,h1,h2.trans e,h3,h4⟩
theorem DJ {c:Cx} (hc:c.Ok):∀ (N:Nat) (i k:Int),c.dP i→c.dP k→wt (c.tm i) + wt (c.tm k)≤N→kE c i k∧iz c i k:=by
 intro N
 induction N with
 | zero=>intro i k _ _ h;have:=fO (c.tm i);omega
 | succ N ih=>
 intro i k hi hk hN
 have hx:∀ {j:Int},c.dP j→∀ x∈c.kd j,c.dP x∧wt (c.tm x) < wt (c.tm j):=fun {j} hj x hx=>by
  have h1:=hc.kids j hj
  exact ⟨h1.2 x hx,bX (by rw [← h1.1];exact aag.2 ⟨x,hx,rfl⟩)⟩
 have s1:∀ x∈c.kd i,∀ y∈c.kd k,kE c x y:=fun x h y h'=>(ih x y (hx hi x h).1 (hx hk y h').1 (by have:=(hx hi x h).2;have:=(hx hk y h').2;omega)).1
 have m1:∀ x∈c.kd i,∀ y∈c.kd k,iz c x y:=fun x h y h'=>(ih x y (hx hi x h).1 (hx hk y h').1 (by have:=(hx hi x h).2;have:=(hx hk y h').2;omega)).2
 have s2:∀ x∈c.kd i,kE c x k:=fun x h=>(ih x k (hx hi x h).1 hk (by have:=(hx hi x h).2;omega)).1
 have m2:∀ x∈c.kd i,iz c x k:=fun x h=>(ih x k (hx hi x h).1 hk (by have:=(hx hi x h).2;omega)).2
 have m3:∀ y∈c.kd k,iz c i y:=fun y h=>(ih i y hi (hx hk y h).1 (by have:=(hx hk y h).2;omega)).2
 refine ⟨c79 hc fun H hD=>abb hc hi hk s1 hD,c76 hc fun H hD=>iO.iff (abd hc hi ⟨fun H hD=>XE hc hi s2 m2 hD,fun H hD=>XF hc hi hk m3 hD,fun H hD=>XH hc hi hk m3 s1 m1 hD,fun H hD=>XN hc hi hk s1 m1 hD⟩ hD) (th hc hi hk)⟩
theorem kh {c:Cx} (hc:c.Ok) {i k:Int} (hi:c.dP i) (hk:c.dP k):kE c i k:=(DJ hc _ i k hi hk (yo _)).1
theorem kj {c:Cx} (hc:c.Ok) {i k:Int} (hi:c.dP i) (hk:c.dP k):iz c i k:=(DJ hc _ i k hi hk (yo _)).2
end Go.aJ
end
section
set_option maxRecDepth 100000
namespace Go.aJ
open Go Go.Proofs Go.eN
def ZH (nd:List Nd) (t:T) (i:Nat):Prop:=∀ j,j < wt t→nd[i + j]?=(w8 t i)[j]?
def LI (nd:List Nd) (l:List T) (i:Nat):Prop:=∀ j,j < ij l→nd[i + j]?=(dd l i)[j]?
theorem ZH.head {nd:List Nd} {t:T} {i:Nat} (h:ZH nd t i):nd[i]?=some (t,aY t.l (i + 1))∧LI nd t.l (i + 1):=by
 have hw:=Dz t
 constructor
 ·have:=h 0 (fO t)
  rw [oZ] at this
  simpa using this
 ·intro j hj
  have:=h (j + 1) (by omega)
  rw [oZ,List.getElem?_cons_succ] at this
  rw [← this];congr 1;omega
theorem LI.cons {nd:List Nd} {x:T} {r:List T} {i:Nat} (h:LI nd (x::r) i):ZH nd x i∧LI nd r (i + wt x):=by
 constructor
 ·intro j hj
  have:=h j (by rw [ij];omega)
  rw [dd,yp (by rw [rA];exact hj)] at this
  exact this
 ·intro j hj
  have:=h (wt x + j) (by rw [ij];omega)
  rw [dd,aaN (by rw [rA];omega),rA] at this
  rw [show wt x + j - wt x=j by omega] at this
  rw [← this];congr 1;omega
theorem LI.kids {nd:List Nd}:∀ {l:List T} {i:Nat},LI nd l i→(aY l i).map (fun k=>(nd.getD k.toNat default).1)=l∧∀ k∈aY l i,0≤k∧k < nd.length
 | [],i,_=>⟨rfl,fun k h=>by simp [aY] at h⟩
 | x::r,i,h=>by
   obtain ⟨h1,h2⟩:=h.cons
   obtain ⟨h3,h4⟩:=LI.kids h2
   have h5:=h1.head.1
   have h6:=(aaw.1 h5).1
   refine ⟨?_,?_⟩
   ·rw [aY,List.map_cons,h3]
    congr 1
    rw [sc,aaa,h5];rfl
   ·intro k hk
    rw [aY] at hk
    rcases UQ.1 hk with rfl | hk
    ·omega
    ·exact h4 k hk
def Gd (nd:List Nd) (p:Int→Prop) (i:Nat):Prop:=∃ t,nd[i]?=some (t,aY t.l (i + 1))∧LI nd t.l (i + 1)∧nE p t
mutual
theorem gdT {nd:List Nd} {p:Int→Prop}:∀ (t:T) (i:Nat),ZH nd t i→nE p t→∀ j,j < wt t→Gd nd p (i + j)
 | .mk k n l,i,h,ha,j,hj=>by
   obtain ⟨h1,h2⟩:=h.head
   cases j with
   | zero=>exact ⟨_,h1,h2,ha⟩
   | succ j=>
     have:=gdL l (i + 1) h2 (fun x hx=>ha.mem hx) j (by rw [wt] at hj;omega)
     rw [show i + (j + 1)=i + 1 + j by omega];exact this
theorem gdL {nd:List Nd} {p:Int→Prop}:∀ (l:List T) (i:Nat),LI nd l i→(∀ x∈l,nE p x)→∀ j,j < ij l→Gd nd p (i + j)
 | [],i,h,ha,j,hj=>by simp [ij] at hj
 | x::r,i,h,ha,j,hj=>by
   obtain ⟨h1,h2⟩:=h.cons
   by_cases hx:j < wt x
   ·exact gdT x i h1 (ha x aan) j hx
   ·have:=gdL r (i + wt x) h2 (fun y hy=>ha y (aai _ hy)) (j - wt x) (by rw [ij] at hj;omega)
    rw [show i + j=i + wt x + (j - wt x) by omega];exact this
end
def gK (ps ss:List Int) (ts:List T) (n:Nat):Cx:=⟨ps,ss,dd ts 0,n + 2,n,n + 1⟩
theorem PO (ts:List T):LI (dd ts 0) ts 0:=fun j _=>by rw [abw]
theorem Ra {ps ss:List Int} (hv:Va ps ss) {ts:List T} (eU:ts≠[]) (hw:ij ts≤100000000) (ha:∀ t∈ts,nE (fun n=>0≤n∧n < ps.length) t) (n:Nat):(gK ps ss ts n).Ok:=by
 have hl:(dd ts 0).length=ij ts:=gZ ts 0
 have gd:∀ i,(gK ps ss ts n).dP i→∃ t,(dd ts 0).getD i.toNat default=(t,aY t.l (i.toNat + 1))∧LI (dd ts 0) t.l (i.toNat + 1)∧nE (fun n=>0≤n∧n < ps.length) t:=by
  intro i hi
  have l9:i.toNat < ij ts:=by have:=hi.1;have:=hi.2;simp only [gK] at *;omega
  obtain ⟨t,h1,h2,h3⟩:=gdL ts 0 (PO ts) ha i.toNat l9
  rw [abw] at h1 h2
  exact ⟨t,by rw [sc,h1];rfl,h2,h3⟩
 refine ⟨hv,?_,by simp [gK],by simp [gK],by simp [gK],fun i hi=>?_,fun i hi=>?_,fun i hi hk=>?_⟩
 ·intro e
  have e:dd ts 0=[]:=e
  rw [e] at hl
  have:=iN ts
  have h0:ts.length=0:=by simp at hl;omega
  exact eU (abt.1 h0)
 ·obtain ⟨t,h1,h2,h3⟩:=gd i hi
  show ((dd ts 0).getD i.toNat default).2.length≤_
  rw [h1,cF]
  by_cases h0:t.l=[]
  ·rw [h0];simp
  ·have:ij t.l≤(dd ts 0).length:=by
    have hp:0 < ij t.l:=by
     have:=iN t.l
     have:=ad9.2 h0
     omega
    have:=h2 (ij t.l - 1) (by omega)
    have h4:(dd t.l (i.toNat + 1))[ij t.l - 1]?≠none:=by rw [aap (by rw [gZ];omega)];simp
    rw [← this] at h4
    have h5:i.toNat + 1 + (ij t.l - 1) < (dd ts 0).length:=by
     apply Decidable.byContradiction
     intro hc
     exact h4 (aby (by omega))
    omega
   have:=iN t.l
   omega
 ·obtain ⟨t,h1,h2,h3⟩:=gd i hi
  have hk:=h2.kids
  have e1:(gK ps ss ts n).kd i=aY t.l (i.toNat + 1):=by show ((dd ts 0).getD i.toNat default).2=_;rw [h1]
  have e2:(gK ps ss ts n).tm i=t:=by show ((dd ts 0).getD i.toNat default).1=_;rw [h1]
  rw [e1,e2]
  exact hk
 ·obtain ⟨t,h1,h2,h3⟩:=gd i hi
  have e2:(gK ps ss ts n).tm i=t:=by show ((dd ts 0).getD i.toNat default).1=_;rw [h1]
  rw [e2] at hk ⊢
  exact h3.op hk
theorem zC (ps ss:List Int) {ts:List T} (eU:ts≠[]) (H:List aa):Du (gK ps ss ts H.length) (H++[.map [],.map [],kg ps ss (dd ts 0) H.length (H.length + 1)]):=by
 have hn:dd ts 0≠[]:=by
  intro e
  have hl:(dd ts 0).length=ij ts:=gZ ts 0
  have:=iN ts
  rw [e] at hl
  have h0:ts.length=0:=by simp at hl;omega
  exact eU (abt.1 h0)
 refine ⟨?_,⟨[],?_,fun p hp=>by simp at hp⟩,⟨[],?_,fun p hp=>by simp at hp⟩⟩
 ·show (H++[aa.map [],.map [],kg ps ss (dd ts 0) H.length (H.length + 1)])[H.length + 2]?=_
  rw [kg,om,if_neg hn]
  simp [gK]
 ·show (H++[aa.map [],.map [],kg ps ss (dd ts 0) H.length (H.length + 1)])[H.length]?=_
  simp [mO]
 ·show (H++[aa.map [],.map [],kg ps ss (dd ts 0) H.length (H.length + 1)])[H.length + 1]?=_
  simp [mO]
theorem uv {ps ss:List Int} {ts:List T} {n j:Nat} (hj:j < ts.length):(gK ps ss ts n).dP ((aY ts 0).getD j 0)∧(gK ps ss ts n).tm ((aY ts 0).getD j 0)=ts.getD j default:=by
 obtain ⟨h1,h2⟩:=(PO ts).kids
 have hl:=cF ts 0
 refine ⟨h2 _ (aO (by omega)),?_⟩
 have:=congrArg (fun l=>l[j]?) h1
 have vi:j < (aY ts 0).length:=by omega
 simp only [acj,aap vi,aap hj,Option.map_some,Option.some.injEq] at this
 have e1:(aY ts 0).getD j 0=(aY ts 0)[j]:=by simp [vi]
 have e2:ts.getD j default=ts[j]:=by simp [hj]
 rw [e1,e2]
 exact this
end Go.aJ
end
section
set_option maxRecDepth 100000
namespace Go.aJ
open Go Go.Proofs
theorem ixs (s:ByteArray) (k:IntKind) (i:Nat) (φ:AV→Prop):bK (.str s) (.int k (i:Int)) φ=(i < s.size∧φ (.int .u8 (s.data.toList.getD i 0).toNat)):=by
 simp only [bK,aaa,eq_iff_iff]
 exact ⟨fun h=>h.2,fun h=>⟨by omega,h⟩⟩
theorem LJ (a b:ByteArray) (φ:AV→Prop):di .eql (.str a) (.str b) φ=φ (.bool (decide (a=b))):=by
 simp [di]
theorem Hf {g:Nat} {f:List AV→Option AV} (h:ug Tryz.prog g (.wE f)) {xs:List AV} {r:AV} (hr:f xs=some r):Pure Tryz.prog g xs r:=fun H=>h xs r H hr
theorem abg (s:ByteArray) (c:Int):Pure Tryz.prog 238 [.str s,.int .u8 c] (.int .i64 (firstIdx s c.toNat.toUInt8)):=Hf WO rfl
def qj (s:ByteArray) (c:Int):Int:=s.foldl (fun (n:Int) x=>if x == c.toNat.toUInt8 then n + 1 else n) ((0:Nat):Int)
theorem abh (s:ByteArray) (c:Int):Pure Tryz.prog 231 [.str s,.int .u8 c] (.int .i64 (qj s c)):=Hf WQ (by simp only [countP,qj])
theorem XO (s:ByteArray) (c:Int):Pure Tryz.prog 228 [.str s,.int .u8 c] (.int .i64 (firstIdx s c.toNat.toUInt8)):=by
 refine fun H=>N8.2.calls rfl ?_
 simp only [N8,aK]
 simp +contextual only [AN,sZ,Nat.reduceEqDiff,Nat.reduceAdd,↓reduceIte,reduceCtorEq]
 refine af (abg s c) ?_
 simp +contextual only [sZ,↓reduceIte,reduceCtorEq]
 exact bf rfl rfl
theorem abi (s:ByteArray) (c:Int):Pure Tryz.prog 190 [.str s,.int .u8 c] (.int .i64 (firstIdx s c.toNat.toUInt8)):=by
 refine fun H=>NV.2.calls rfl ?_
 simp only [NV,aK]
 simp +contextual only [AN,sZ,Nat.reduceEqDiff,Nat.reduceAdd,↓reduceIte,reduceCtorEq]
 refine af (XO s c) ?_
 simp +contextual only [sZ,↓reduceIte,reduceCtorEq]
 exact bf rfl rfl
def us:ByteArray:=⟨#[95]⟩
theorem ZI (k:IntKind) (φ:AV→Prop):bK (.str us) (.int k 0) φ=φ (.int .u8 95):=by
 simp only [bK,eq_iff_iff]
 exact ⟨fun h=>h.2.2,fun h=>⟨by omega,by decide,h⟩⟩
def T9 (s:ByteArray):Int:=if s=us then 0 else firstIdx s 95
theorem abj (s:ByteArray):Pure Tryz.prog 229 [.str s,.str us] (.int .i64 (T9 s)):=by
 refine fun H=>N9.2.calls rfl ?_
 simp only [N9,aK]
 unfold T9
 have db:((us.size:Nat):Int)=1:=rfl
 by_cases hs:s=us
 ·rw [if_pos hs]
  simp +contextual only [LJ,db,hs,Int.reduceEq,sZ,Nat.reduceEqDiff,Nat.reduceAdd,↓reduceIte,reduceCtorEq,Int.reduceEq]
  exact bf rfl rfl
 ·rw [if_neg hs]
  have VE:¬ us=s:=fun e=>hs e.symm
  simp +contextual only [LJ,db,VE,ZI,Int.reduceEq,sZ,Nat.reduceEqDiff,Nat.reduceAdd,↓reduceIte,reduceCtorEq,Int.reduceEq]
  refine af (XO s 95) ?_
  simp +contextual only [sZ,↓reduceIte,reduceCtorEq]
  exact bf rfl rfl
theorem abk (s:ByteArray):Pure Tryz.prog 191 [.str s,.str us] (.int .i64 (T9 s)):=by
 refine fun H=>NW.2.calls rfl ?_
 simp only [NW,aK]
 simp +contextual only [sZ,Nat.reduceEqDiff,Nat.reduceAdd,↓reduceIte,reduceCtorEq]
 refine af (abj s) ?_
 simp +contextual only [sZ,↓reduceIte,reduceCtorEq]
 exact bf rfl rfl
theorem abl (s:ByteArray):Pure Tryz.prog 142 [.str s,.str us] (.bool (decide (0≤T9 s))):=by
 refine fun H=>NM.2.calls rfl ?_
 simp only [NM,aK]
 simp +contextual only [sZ,Nat.reduceEqDiff,Nat.reduceAdd,↓reduceIte,reduceCtorEq]
 refine af (abk s) ?_
 simp +contextual only [sZ,↓reduceIte,reduceCtorEq]
 exact bf rfl rfl
theorem abm (s:ByteArray):Pure Tryz.prog 193 [.str s,.str us] (.int .i64 (qj s 95)):=by
 refine fun H=>NY.2.calls rfl ?_
 simp only [NY,aK]
 have db:((us.size:Nat):Int)=1:=rfl
 simp +contextual only [db,ZI,Int.reduceEq,sZ,Nat.reduceEqDiff,Nat.reduceAdd,↓reduceIte,reduceCtorEq,Int.reduceEq]
 refine af (abh s 95) ?_
 simp +contextual only [sZ,↓reduceIte,reduceCtorEq]
 exact bf rfl rfl
def FQ (c:UInt8):Bool:=decide (((c.toNat:Nat):Int) < 33) || decide ((126:Int) < ((c.toNat:Nat):Int)) || decide (0≤firstIdx ⟨#[40,41,44]⟩ ((c.toNat:Nat):Int).toNat.toUInt8)
def uw (s:ByteArray):Bool:=!decide (((s.size:Nat):Int) < 1) && !decide ((32:Int) < ((s.size:Nat):Int)) && s.data.toList.all fun c=>!FQ c
theorem zD {p:UInt8→Bool} {l:List UInt8} {i:Nat} (h:i < l.length):(l.drop i).all p=(p (l.getD i 0) && (l.drop (i + 1)).all p):=by
 rw [aaU h,List.all_cons]
 simp [h]
theorem XP (s:ByteArray):Pure Tryz.prog 141 [.str s] (.bool (uw s)):=by
 refine fun H=>Qw.calls rfl ?_
 simp only [Kp,Qv]
 have hl:s.data.toList.length=s.size:=rfl
 unfold uw
 simp +contextual only [sZ,Nat.reduceEqDiff,Nat.reduceAdd,↓reduceIte,reduceCtorEq]
 refine ⟨fun h1=>⟨fun h2=>?_,fun h2=>?_⟩,fun h1=>?_⟩
 ·exact bf rfl (by simp [h2])
 ·refine aR s.size (fun i=>((s.data.toList.drop i).all fun c=>!FQ c)=(s.data.toList.all fun c=>!FQ c))
   (fun i=>[(0,.str s),(13,.int .i64 s.size),(14,.int .i64 i)]) (fun i=>H) ⟨rfl,aD _ _ _⟩ fun i hi hI=>?_
  simp +contextual only [ixs,sZ,Nat.reduceEqDiff,Nat.reduceAdd,↓reduceIte,reduceCtorEq]
  have fin:∀ (aS:i < s.size),FQ (s.data.toList.getD i 0)=true→(s.data.toList.all fun c=>!FQ c)=false:=fun aS hb=>by
   rw [← hI,zD (by omega),hb];rfl
  refine ⟨fun aS=>?_,fun iR=>?_⟩
  ·have aS:=bW aS
   have fin:=fin aS
   rw [zD (by omega)] at hI
   have Q5:FQ (s.data.toList.getD i 0)=(decide ((((s.data.toList.getD i 0).toNat:Nat):Int) < 33) || decide ((126:Int) < (((s.data.toList.getD i 0).toNat:Nat):Int)) || decide (0≤firstIdx ⟨#[40,41,44]⟩ (((s.data.toList.getD i 0).toNat:Nat):Int).toNat.toUInt8)):=rfl
   generalize s.data.toList.getD i 0=c at *
   refine ⟨aS,fun a=>⟨aS,fun b=>⟨aS,af (abi _ _) ?_⟩,fun b=>?_⟩,fun a=>?_⟩
   ·simp +contextual only [sZ,Nat.reduceEqDiff,↓reduceIte,reduceCtorEq]
    refine ⟨fun d=>?_,fun d=>?_⟩
    ·exact bf rfl (by rw [fin (by rw [Q5];simp only [decide_eq_true d,Bool.or_true])];simp)
    ·refine ⟨i + 1,⟨aS,?_⟩,by omega,aE (by rw [ay i (by omega)]) rfl⟩
     rw [← hI]
     have:FQ c=false:=by
      rw [Q5]
      simp only [acR,decide_eq_false_iff_not]
      omega
     rw [this];simp
   ·exact bf rfl (by rw [fin (by rw [Q5];simp only [decide_eq_true b,Bool.or_true,Bool.true_or])];simp)
   ·exact bf rfl (by rw [fin (by rw [Q5];simp only [decide_eq_true a,Bool.true_or])];simp)
  ·rw [aaZ (by have:=dg iR;omega)] at hI
   exact bf rfl (by rw [← hI];simp;omega)
 ·exact bf rfl (by simp [h1])
end Go.aJ
end
section
set_option maxRecDepth 100000
namespace Go.aJ
open Go Go.Proofs
structure jq where
 name:ByteArray
 args:List Int
 M9:Int
 deriving Inhabited
structure Sg where
 ft:List ByteArray
 ops:List jq
 deriving Inhabited
def jq.av (o:jq):AV:=.agg [.str o.name,.al 0 (ints o.args),.int .i64 o.M9]
def oq (l:List jq):List AV:=l.map jq.av
def strs (l:List ByteArray):List AV:=l.map AV.str
def Sg.av (s:Sg):AV:=.agg [.al 0 (strs s.ft),.al 0 (oq s.ops)]
theorem ot (l:List jq):(oq l).length=l.length:=by simp [oq]
theorem DK (l:List ByteArray):(strs l).length=l.length:=by simp [strs]
theorem xf (n:Nat) (l:List jq):ak n (oq l)=true:=by
 rw [bb];intro x hx;obtain ⟨y,_,rfl⟩:=aag.1 hx
 simp [jq.av,AV.a8,ak,aW]
theorem xg (n:Nat) (l:List ByteArray):ak n (strs l)=true:=by
 rw [bb];intro x hx;obtain ⟨y,_,rfl⟩:=aag.1 hx;rfl
theorem jq.k8 (n:Nat) (o:jq):o.av.a8 n=true:=by simp [jq.av,AV.a8,ak,aW]
theorem jq.wS (o:jq):o.av.val=true:=rfl
theorem jq.qd (o:jq):o.av.cells.all AV.one=true:=rfl
theorem jq.og (o:jq):o.av.ae=o.av:=rfl
theorem jq.rp (o:jq):o.av.drop=o.av:=rfl
theorem jq.gX (o:jq):o.av.cells.length=3:=rfl
theorem Sg.k8 (n:Nat) (o:Sg):o.av.a8 n=true:=by simp [Sg.av,AV.a8,ak,xg,xf]
theorem Sg.wS (o:Sg):o.av.val=true:=rfl
theorem Sg.qd (o:Sg):o.av.cells.all AV.one=true:=rfl
theorem Sg.og (o:Sg):o.av.ae=o.av:=rfl
theorem Sg.rp (o:Sg):o.av.drop=o.av:=rfl
theorem Sg.gX (o:Sg):o.av.cells.length=2:=rfl
theorem I9 (o:Nat) (l:List jq):(∀ (own:Nat) (xs:List AV),AV.al o (oq l)=AV.al own xs→∀ z∈xs,z.cells.length=3)=True:=by
 simp only [eq_iff_iff,iff_true]
 intro own xs e z hz
 cases e
 obtain ⟨y,_,rfl⟩:=aag.1 hz
 rfl
theorem Ja (o:Nat) (l:List ByteArray):(∀ (own:Nat) (xs:List AV),AV.al o (strs l)=AV.al own xs→∀ z∈xs,z.cells.length=1)=True:=by
 simp only [eq_iff_iff,iff_true]
 intro own xs e z hz
 cases e
 obtain ⟨y,_,rfl⟩:=aag.1 hz
 rfl
theorem LK (e o:Nat) (l:List jq) (k:IntKind) (i:Nat) (φ:AV→Prop):aC e (.al o (oq l)) (.int k (i:Int)) φ=(i < l.length∧φ (.aj (l.getD i default).av)):=by
 simp only [aC,ot,aaa,eq_iff_iff]
 constructor
 ·rintro ⟨_,h,h2⟩;refine ⟨h,?_⟩;simpa [oq,h] using h2
 ·rintro ⟨h,h2⟩;refine ⟨by omega,h,?_⟩;simpa [oq,h] using h2
theorem LL (e o:Nat) (l:List ByteArray) (k:IntKind) (i:Nat) (φ:AV→Prop):aC e (.al o (strs l)) (.int k (i:Int)) φ=(i < l.length∧φ (.aj (.str (l.getD i default)))):=by
 simp only [aC,DK,aaa,eq_iff_iff]
 constructor
 ·rintro ⟨_,h,h2⟩;refine ⟨h,?_⟩;simpa [strs,h] using h2
 ·rintro ⟨h,h2⟩;refine ⟨by omega,h,?_⟩;simpa [strs,h] using h2
theorem XQ (o:jq) (H:List aa) (φ:AV→Prop):aV (some 3) (.aj o.av) H φ=φ o.av:=by simp [aV,jq.av,AV.cells]
theorem rF (o:Sg) (H:List aa) (φ:AV→Prop):aV (some 2) (.aj o.av) H φ=φ o.av:=by simp [aV,Sg.av,AV.cells]
theorem fo0 (x:jq) (φ:AV→Prop):aq 0 none (.aj x.av) φ=φ (.aj (.str x.name)):=by simp [aq,apart,jq.av,AV.cells,AV.one]
theorem fo1 (x:jq) (φ:AV→Prop):aq 1 none (.aj x.av) φ=φ (.aj (.al 0 (ints x.args))):=by simp [aq,apart,jq.av,AV.cells,AV.one]
theorem fo2 (x:jq) (φ:AV→Prop):aq 2 none (.aj x.av) φ=φ (.aj (.int .i64 x.M9)):=by simp [aq,apart,jq.av,AV.cells,AV.one]
theorem fs0 (x:Sg) (φ:AV→Prop):aq 0 none (.aj x.av) φ=φ (.aj (.al 0 (strs x.ft))):=by simp [aq,apart,Sg.av,AV.cells,AV.one]
theorem fs1 (x:Sg) (φ:AV→Prop):aq 1 none (.aj x.av) φ=φ (.aj (.al 0 (oq x.ops))):=by simp [aq,apart,Sg.av,AV.cells,AV.one]
def aZ:=(rZ (rZ (rZ (rZ @ot @DK) (rZ @xf @xg)) (rZ (rZ @jq.k8 @jq.wS) (rZ (rZ @jq.qd @jq.og) (rZ @jq.rp @jq.gX)))) (rZ (rZ (rZ (rZ @Sg.k8 @Sg.wS) (rZ (rZ @Sg.qd @Sg.og) (rZ @Sg.rp @Sg.gX))) (rZ (rZ @I9 @Ja) (rZ @LK @LL))) (rZ (rZ @XQ @rF) (rZ (rZ @fo0 @fo1) (rZ @fo2 (rZ @fs0 @fs1))))))
def yh (p:Int→Bool):List Int→Int→Int
 | [],_=>-1
 | x::r,k=>if p x=true then k else yh p r (k + 1)
theorem DL (p:Int→Bool):∀ (l:List Int) (k:Int),0≤k→(decide (0≤yh p l k)=l.any p)
 | [],k,_=>by simp [yh]
 | x::r,k,h=>by
   simp only [yh,adX]
   split
   ·rename_i hp;simp [hp,h]
   ·rename_i hp;simp [hp,DL p r (k + 1) (by omega)]
theorem Jb {p:Int→Bool} {l:List Int} {i:Nat} {k:Int} (h:i < l.length):yh p (l.drop i) k=if p (l.getD i 0)=true then k else yh p (l.drop (i + 1)) (k + 1):=by
 rw [aaU h]
 simp [yh,h]
theorem abn (g:Nat) (cap:List AV) (cA:cap.map AV.ae=cap) (hb:ak 0 cap=true) (p:Int→Bool) (l:List Int) (hf:∀ x∈l,Pure Tryz.prog g ([.int .i64 x]++cap) (.bool (p x))) :
 Pure Tryz.prog 100 [.al 0 (ints l),.fn (.func g) [] cap] (.int .i64 (yh p l 0)):=by
 refine fun H=>CF.2.calls rfl ?_
 simp only [CF,aK]
 simp +contextual only [sZ,Nat.reduceEqDiff,Nat.reduceAdd,↓reduceIte,reduceCtorEq]
 intro hl
 refine aR l.length (fun i=>yh p (l.drop i) i=yh p l 0) (fun i=>[(0,.al 0 (ints l)),(1,.fn (.func g) [] cap),(7,.int .i64 l.length),(8,.int .i64 i)]) (fun _=>H) ⟨rfl,aD _ _ _⟩ fun i hi hI=>?_
 simp +contextual only [cA,sZ,Nat.reduceEqDiff,Nat.reduceAdd,↓reduceIte,reduceCtorEq]
 refine ⟨fun aS=>?_,fun iR=>?_⟩
 ·have aS:=bW aS
  rw [Jb aS] at hI
  refine ⟨aS,af (hf _ ?_) ?_⟩
  ·simp [aS]
  simp +contextual only [sZ,Nat.reduceEqDiff,↓reduceIte,reduceCtorEq]
  refine rf (fun hb=>?_) (fun hb=>?_) <;> simp +contextual only [sZ,Nat.reduceEqDiff,↓reduceIte,reduceCtorEq]
  ·rw [if_pos hb] at hI
   exact bf rfl (by rw [← hI])
  ·rw [if_neg (by rw [hb];simp)] at hI
   exact ⟨i + 1,⟨aS,hI⟩,by omega,aE (by rw [ay i (by omega)]) rfl⟩
 ·rw [aaZ (dg iR)] at hI
  exact bf rfl (by rw [← hI];rfl)
theorem XR (g:Nat) (cap:List AV) (cA:cap.map AV.ae=cap) (hb:ak 0 cap=true) (p:Int→Bool) (l:List Int) (hf:∀ x∈l,Pure Tryz.prog g ([.int .i64 x]++cap) (.bool (p x))) :
 Pure Tryz.prog 102 [.al 0 (ints l),.fn (.func g) [] cap] (.bool (l.any p)):=by
 refine fun H=>CG.2.calls rfl ?_
 simp only [CG,aK]
 simp +contextual only [sZ,Nat.reduceEqDiff,Nat.reduceAdd,↓reduceIte,reduceCtorEq]
 refine af (abn g cap cA hb p l hf) ?_
 simp +contextual only [sZ,↓reduceIte,reduceCtorEq]
 exact bf rfl (by rw [DL p l 0 (by omega)])
end Go.aJ
end
section
set_option maxRecDepth 100000
namespace Go.aJ
open Go Go.Proofs
def LM (n a:Int):Bool:=decide (0≤a) && decide (a < n)
theorem XS (n a:Int):Pure Tryz.prog 192 [.int .i64 a,.aj (.int .i64 n)] (.bool (LM n a)):=by
 refine fun H=>NX.2.calls rfl ?_
 simp only [NX,aK]
 unfold LM
 simp +contextual only [sZ,Nat.reduceEqDiff,Nat.reduceAdd,↓reduceIte,reduceCtorEq]
 refine ⟨fun h=>bf rfl (by simp [h]),fun h=>bf rfl (by simp;omega)⟩
theorem abo (n a:Int):Pure Tryz.prog 194 [.int .i64 a,.aj (.fn (.func 192) [] [.aj (.int .i64 n)])] (.bool (!LM n a)):=by
 refine fun H=>NZ.2.calls rfl ?_
 simp only [NZ,aK]
 simp +contextual only [sZ,Nat.reduceEqDiff,Nat.reduceAdd,↓reduceIte,reduceCtorEq]
 refine af (XS n a) ?_
 simp +contextual only [sZ,↓reduceIte,reduceCtorEq]
 exact bf rfl rfl
def xh (o:jq) (n:Int):Bool:=
 uw o.name && (decide (qj o.name 95 < o.name.size) && ((decide (qj o.name 95=0) || decide (qj o.name 95=o.args.length)) && (decide ((o.args.length:Int)≤8) && (LM n o.M9 && !o.args.any fun a=>!LM n a))))
theorem abp (o:jq) (n:Int):Pure Tryz.prog 143 [o.av,.int .i64 n] (.bool (xh o n)):=by
 refine fun H=>Qy.calls rfl ?_
 simp only [Kq,Qx]
 unfold xh
 simp +contextual only [aZ,sZ,Nat.reduceEqDiff,Nat.reduceAdd,↓reduceIte,reduceCtorEq]
 refine af (abm o.name) ?_
 simp +contextual only [aZ,sZ,Nat.reduceEqDiff,Nat.reduceAdd,↓reduceIte]
 refine af (XP o.name) ?_
 cases hn:uw o.name with
 | false=>
   simp +contextual only [sZ,Nat.reduceEqDiff,↓reduceIte,reduceCtorEq]
   exact bf rfl rfl
 | true=>
   have h66:=XR 194 [.aj (.fn (.func 192) [] [.aj (.int .i64 n)])] rfl rfl (fun a=>!LM n a) o.args (fun a _=>abo n a)
   have LN:=XS n o.M9
   generalize LM n o.M9=q at LN ⊢
   generalize (o.args.any fun a=>!LM n a)=z at h66 ⊢
   by_cases h1:qj o.name 95 < o.name.size
   ·have e1:decide (qj o.name 95 < o.name.size)=true:=decide_eq_true h1
    simp +contextual only [aZ,h1,sZ,Nat.reduceEqDiff,Nat.reduceAdd,↓reduceIte,reduceCtorEq]
    refine ⟨fun h20 _=>⟨fun h21=>?_,fun h21=>?_⟩,fun h20 _=>?_⟩
    ·have e2:(decide (qj o.name 95=0) || decide (qj o.name 95=(o.args.length:Int)))=true:=by simp [h21]
     refine ⟨fun h3=>af LN ?_,fun h3=>?_⟩
     ·have e903:decide ((o.args.length:Int)≤8)=true:=decide_eq_true h3
      rw [e1,e2,e903]
      cases q with
      | false=>
        simp +contextual only [sZ,Nat.reduceEqDiff,↓reduceIte,reduceCtorEq]
        exact bf rfl (by simp)
      | true=>
        simp +contextual only [aZ,sZ,Nat.reduceEqDiff,Nat.reduceAdd,↓reduceIte,reduceCtorEq]
        refine af h66 ?_
        simp +contextual only [sZ,Nat.reduceEqDiff,↓reduceIte,reduceCtorEq]
        exact bf rfl (by simp)
     ·have e903:decide ((o.args.length:Int)≤8)=false:=decide_eq_false (by omega)
      exact bf rfl (by rw [e903];simp)
    ·have e2:(decide (qj o.name 95=0) || decide (qj o.name 95=(o.args.length:Int)))=false:=by simp [h20,h21]
     exact bf rfl (by rw [e2];simp)
    ·have e2:(decide (qj o.name 95=0) || decide (qj o.name 95=(o.args.length:Int)))=true:=by simp [h20]
     refine ⟨fun h3=>af LN ?_,fun h3=>?_⟩
     ·have e903:decide ((o.args.length:Int)≤8)=true:=decide_eq_true h3
      rw [e1,e2,e903]
      cases q with
      | false=>
        simp +contextual only [sZ,Nat.reduceEqDiff,↓reduceIte,reduceCtorEq]
        exact bf rfl (by simp)
      | true=>
        simp +contextual only [aZ,sZ,Nat.reduceEqDiff,Nat.reduceAdd,↓reduceIte,reduceCtorEq]
        refine af h66 ?_
        simp +contextual only [sZ,Nat.reduceEqDiff,↓reduceIte,reduceCtorEq]
        exact bf rfl (by simp)
     ·have e903:decide ((o.args.length:Int)≤8)=false:=decide_eq_false (by omega)
      exact bf rfl (by rw [e903];simp)
   ·have e1:decide (qj o.name 95 < o.name.size)=false:=decide_eq_false h1
    rw [e1]
    simp +contextual only [aZ,h1,sZ,Nat.reduceEqDiff,↓reduceIte,reduceCtorEq]
    exact bf rfl (by simp)
end Go.aJ
end
section
set_option maxRecDepth 100000
namespace Go.aJ
open Go Go.Proofs
theorem XT (l:List Int) (hl:l.length * 8≤140737488355328):Pure Tryz.prog 118 [.al 0 (ints l)] (.al 1 (ints l)):=fun H=>
 wH 0 (ints l) H (of_eq_true (mI l)) (by rw [ax];exact hl) (aW _ _)
def Vg (a:Int):UInt8:=UInt8.ofNat (IntKind.u8.wrap a).toNat
theorem Ua (a:Int):AV.int .u8 (IntKind.u8.wrap a)=.int .u8 (Vg a).toNat:=by
 have h:0≤IntKind.u8.wrap a∧IntKind.u8.wrap a < 256:=by
  simp only [IntKind.wrap]
  have h1:IntKind.u8.bits=8:=rfl
  have h2:IntKind.u8.signed=false:=rfl
  rw [h1,h2]
  simp
  omega
 congr 1
 unfold Vg
 rw [UInt8.toNat_ofNat']
 omega
def XU (o:jq):List UInt8:=(o.name++⟨#[40]⟩).data.toList++(o.args++[o.M9]).map Vg
def Bl (o:jq):ByteArray:=⟨(XU o).toArray⟩
theorem FR (l:List UInt8) (a:Int):bk l++[.int .u8 (IntKind.u8.wrap a)]=bk (l++[Vg a]):=by
 rw [Ua];simp [bk]
theorem Jc (l:List UInt8):(bk l).length=l.length:=by simp [bk]
theorem Ub (s:ByteArray) (φ:AV→Prop):fm 1 (.str s) φ=(s.size < 9223372036854775808∧φ (.al 1 (bk s.data.toList))):=aei
theorem Uc (o:Nat) (l:List UInt8) (φ:AV→Prop) (h:φ (.str ⟨l.toArray⟩)):jN (.al o (bk l)) φ:=⟨l,rfl,h⟩
theorem Ud (k k':IntKind) (n:Int) (φ:AV→Prop):cC k (.int k' n) φ=φ (.int k (k.wrap n)):=aei
theorem XV (o:jq) (h1:o.name.size≤32) (h2:o.args.length≤8):Pure Tryz.prog 144 [o.av] (.str (Bl o)):=by
 refine fun H=>QA.calls rfl ?_
 simp only [Kr,Qz]
 have db:(⟨#[40]⟩:ByteArray).size=1:=rfl
 have hs2:(o.name++⟨#[40]⟩:ByteArray).size=o.name.size + 1:=by rw [ByteArray.size_append,db]
 have hln:(o.name++⟨#[40]⟩:ByteArray).data.toList.length=o.name.size + 1:=hs2
 simp +contextual only [aZ,Ub,db,hs2,sZ,Nat.reduceEqDiff,Nat.reduceAdd,↓reduceIte]
 refine ⟨by omega,by omega,aL (XT o.args (by omega)) ?_⟩
 simp +contextual only [aZ,kZ,ok_int,sS,sZ,Nat.reduceEqDiff,Nat.reduceAdd,↓reduceIte]
 refine ⟨by omega,?_⟩
 generalize hv:o.args++[o.M9]=vs
 have qq:vs.length≤9:=by rw [← hv];simp;omega
 have hk:Bl o=⟨((o.name++⟨#[40]⟩:ByteArray).data.toList++vs.map Vg).toArray⟩:=by rw [Bl,XU,hv]
 rw [hk]
 generalize (o.name++⟨#[40]⟩:ByteArray).data.toList=nm at *
 refine aR vs.length (fun _=>True)
  (fun i=>[(3,.al 1 (bk (nm++(vs.take i).map Vg))),(16,.al 1 (ints vs)),(17,.int .i64 vs.length),(18,.int .i64 i)]) (fun _=>H) ⟨trivial,aE (by simp) rfl⟩ fun i hi hI=>?_
 simp +contextual only [sZ,Nat.reduceEqDiff,↓reduceIte,reduceCtorEq]
 refine ⟨fun aS=>⟨bW aS,?_⟩,fun iR=>?_⟩
 ·have aS:=bW aS
  simp +contextual only [Ud,kZ,ok_int,FR,Jc,sZ,Nat.reduceEqDiff,Nat.reduceAdd,↓reduceIte]
  refine ⟨by simp;omega,i + 1,aS,by omega,aE ?_ rfl⟩
  rw [ay i (by omega),List.take_add_one,ac3,← aa2]
  simp [aS]
 ·rw [aak (dg iR)]
  refine Uc 0 _ _ ?_
  simp +contextual only [sZ]
  exact bf rfl rfl
instance:LawfulBEq ByteArray where
 rfl:=by intro a;rw [Aa];simp
 eq_of_beq:=by intro a b h;rw [Aa] at h;exact of_decide_eq_true h
def pI (vs:List ByteArray):List (AV×AV):=vs.map fun v=>(.str v,.bool true)
theorem ou (n:ByteArray):∀ (vs:List ByteArray) (i:Nat),(n∈vs→∃ j,dk 1 (.str n) (pI vs) i=some (some (j,.bool true)))∧(n∉vs→dk 1 (.str n) (pI vs) i=some none)
 | [],i=>⟨fun h=>(by cases h),fun _=>rfl⟩
 | v::r,i=>by
   have ih:=ou n r (i + 1)
   simp only [pI,List.map_cons,dk,cE]
   by_cases hv:n=v
   ·subst hv
    simp
   ·simp only [UQ,hv,false_or]
    exact ih
theorem rG (n:ByteArray) (vs:List ByteArray) (φ:AV→Prop):gg (some (.map (pI vs))) 1 (.bool false) (.str n) false φ=φ (.bool (decide (n∈vs))):=by
 have h:=ou n vs 0
 unfold gg
 by_cases hn:n∈vs
 ·obtain ⟨j,hj⟩:=h.1 hn
  simp [hj,hn,mD]
 ·simp [h.2 hn,hn,cE,aP,bj.aP,mD]
theorem DM {n:ByteArray} {vs:List ByteArray} (hn:n∉vs) (id:Nat) (H:List aa) (K:List aa→Prop):eX (some (.map (pI vs))) 1 id (.str n) (.bool true) H K=K (H.set id (.map (pI (vs++[n])))):=by
 have h:=(ou n vs 0).2 hn
 unfold eX
 simp only [h]
 simp [cE,Kw,rc,ve,pI,aP,bj.aP,mD]
def ow:List ByteArray→List ByteArray→Bool
 | [],_=>true
 | s::r,seen=>if uw s=true∧¬ 0≤T9 s∧s∉seen then ow r (seen++[s]) else false
def DN (n:Int):List jq→List ByteArray→Bool
 | [],_=>true
 | o::r,seen=>if xh o n=true∧Bl o∉seen then DN n r (seen++[Bl o]) else false
def nv (s:Sg):Bool:=decide ((s.ft.length:Int)≤64) && decide ((s.ops.length:Int)≤256) && ow s.ft [] && DN s.ft.length s.ops []
theorem DO {l:List ByteArray} {i:Nat} (h:i < l.length) (seen:List ByteArray):ow (l.drop i) seen=if uw (l.getD i default)=true∧¬ 0≤T9 (l.getD i default)∧l.getD i default∉seen then ow (l.drop (i + 1)) (seen++[l.getD i default]) else false:=by
 rw [aaU h,ow]
 have e:l.getD i default=l[i]:=by simp [h]
 rw [e]
theorem Jd {n:Int} {l:List jq} {i:Nat} (h:i < l.length) (seen:List ByteArray):DN n (l.drop i) seen=if xh (l.getD i default) n=true∧Bl (l.getD i default)∉seen then DN n (l.drop (i + 1)) (seen++[Bl (l.getD i default)]) else false:=by
 rw [aaU h,DN]
 have e:l.getD i default=l[i]:=by simp [h]
 rw [e]
theorem FT {o:jq} {n:Int} (h:xh o n=true):o.name.size≤32∧o.args.length≤8∧LM n o.M9=true∧∀ a∈o.args,LM n a=true:=by
 simp only [xh,uw,yu,abr,decide_eq_false_iff_not,decide_eq_true_eq] at h
 obtain ⟨⟨⟨_,h1⟩,_⟩,_,_,h2,h3,h4⟩:=h
 refine ⟨by omega,by omega,h3,fun a ha=>?_⟩
 cases hx:LM n a with
 | true=>rfl
 | false=>
   rw [acZ] at h4
   exact absurd (List.any_eq_true.2 ⟨a,ha,by rw [hx];rfl⟩) h4
theorem c81 (s:Sg):Pure Tryz.prog 81 [s.av] (.int .i64 (if nv s=true then 0 else 40)):=by
 refine fun H=>VW.calls rfl ?_
 simp only [R6,VV]
 have bad:∀ {G:List aa} {e:Bool},e=false→G.take H.length=H→nv s=e→bV H.length [RX.t 2] [(2,AV.int IntKind.i64 40)] G fun r H'=>r=AV.int IntKind.i64 (if nv s=true then 0 else 40)∧H'=H:=by
  intro G e he hG hc
  rw [hc,he]
  exact Pq hG rfl rfl ⟨rfl,rfl⟩
 simp +contextual only [aZ,sZ,Nat.reduceEqDiff,Nat.reduceAdd,↓reduceIte,reduceCtorEq]
 refine fun _=>⟨fun h1 _=>⟨fun h2=>?_,fun h2=>?_⟩,fun h1=>?_⟩
 ·have h2':¬ (s.ops.length:Int)≤256:=by omega
  exact bad rfl (by simp) (by rw [nv,decide_eq_false h2'];simp)
 ·refine aB s.ft.length (fun i (seen:List ByteArray)=>ow (s.ft.drop i) seen=ow s.ft [])
   (fun i seen=>[(1,.aj s.av),(3,.map H.length),(21,.al 0 (strs s.ft)),(22,.int .i64 s.ft.length),(23,.int .i64 i)]) (fun i seen=>H++[.map (pI seen)]) [] ⟨rfl,aD _ _ _⟩ fun i seen hi hI=>?_
  simp +contextual only [aZ,sZ,Nat.reduceEqDiff,Nat.reduceAdd,↓reduceIte]
  refine ⟨fun aS=>⟨bW aS,?_⟩,fun iR=>?_⟩
  ·have aS:=bW aS
   rw [DO aS] at hI
   generalize s.ft.getD i default=x at *
   refine af (XP x) ?_
   cases hn:uw x with
   | false=>
     rw [hn,if_neg (by simp)] at hI
     simp +contextual only [sZ,Nat.reduceEqDiff,↓reduceIte,reduceCtorEq]
     exact bad rfl (by simp) (by simp [nv,← hI])
   | true=>
     rw [hn] at hI
     simp +contextual only [sZ,Nat.reduceEqDiff,Nat.reduceAdd,↓reduceIte]
     refine af (abl x) ?_
     by_cases hu:0≤T9 x
     ·rw [if_neg (fun h=>h.2.1 hu)] at hI
      simp +contextual only [hu,sZ,Nat.reduceEqDiff,↓reduceIte,reduceCtorEq]
      exact bad rfl (by simp) (by simp [nv,← hI])
     ·by_cases hm:x∈seen
      ·rw [if_neg (fun h=>h.2.2 hm)] at hI
       simp +contextual only [hu,rG,hm,sZ,Nat.reduceEqDiff,↓reduceIte,reduceCtorEq]
       exact bad rfl (by simp) (by simp [nv,← hI])
      ·rw [if_pos ⟨rfl,hu,hm⟩] at hI
       simp +contextual only [hu,rG,hm,DM hm,sZ,Nat.reduceEqDiff,↓reduceIte]
       exact ⟨i + 1,seen++[x],⟨aS,hI⟩,by omega,aE (by rw [ay i (by omega)]) rfl⟩
  ·have hs:ow s.ft []=true:=by
    rw [← hI,aaZ (dg iR)];rfl
   have hc:nv s=DN s.ft.length s.ops []:=by simp [nv,h1,h2,hs]
   clear hI
   simp +contextual only [sZ]
   refine fun _=>aB s.ops.length (fun i (seen2:List ByteArray)=>DN s.ft.length (s.ops.drop i) seen2=DN s.ft.length s.ops [])
    (fun i seen2=>[(1,.aj s.av),(6,.map (H.length + 1)),(44,.al 0 (oq s.ops)),(45,.int .i64 s.ops.length),(46,.int .i64 i)]) (fun i seen2=>H++[.map (pI seen),.map (pI seen2)]) [] ⟨rfl,aD _ _ _⟩ fun i seen2 hi hI=>?_
   simp +contextual only [aZ,sZ,Nat.reduceEqDiff,Nat.reduceAdd,↓reduceIte,reduceCtorEq]
   refine ⟨fun aS=>⟨bW aS,?_⟩,fun iR=>?_⟩
   ·have aS:=bW aS
    rw [Jd aS] at hI
    generalize s.ops.getD i default=x at *
    refine fun _=>af (abp x _) ?_
    cases hg:xh x s.ft.length with
    | false=>
      rw [hg,if_neg (by simp)] at hI
      simp +contextual only [sZ,Nat.reduceEqDiff,↓reduceIte,reduceCtorEq]
      exact bad rfl (by simp) (by rw [hc,← hI])
    | true=>
      rw [hg] at hI
      have Vh:=FT hg
      simp +contextual only [aZ,sZ,Nat.reduceEqDiff,Nat.reduceAdd,↓reduceIte]
      refine af (XV x Vh.1 Vh.2.1) ?_
      by_cases hm:Bl x∈seen2
      ·rw [if_neg (fun h=>h.2 hm)] at hI
       simp +contextual only [rG,hm,sZ,Nat.reduceEqDiff,↓reduceIte,reduceCtorEq]
       exact bad rfl (by simp) (by rw [hc,← hI])
      ·rw [if_pos ⟨rfl,hm⟩] at hI
       simp +contextual only [aZ,rG,hm,sZ,Nat.reduceEqDiff,Nat.reduceAdd,↓reduceIte]
       refine af (XV x Vh.1 Vh.2.1) ?_
       simp +contextual only [DM hm,sZ,Nat.reduceEqDiff,↓reduceIte]
       exact ⟨i + 1,seen2++[Bl x],⟨aS,hI⟩,by omega,aE (by rw [ay i (by omega)]) rfl⟩
   ·rw [aaZ (dg iR)] at hI
    exact Pq (by simp) rfl rfl ⟨by rw [hc,← hI];rfl,rfl⟩
 ·have h1':¬ (s.ft.length:Int)≤64:=by omega
  exact bad rfl (by simp) (by rw [nv,decide_eq_false h1'];simp)
end Go.aJ
end
section
set_option maxRecDepth 100000
namespace Go.aJ
open Go Go.Proofs Go.eN
def iA (w:List (Int×Int)):List (AV×AV):=w.map fun p=>(.int .i64 p.1,.int .i64 p.2)
theorem FU (n:Int):∀ (w:List (Int×Int)) (i:Nat),(∃ j s,w[j]?=some (n,s)∧dk 0 (.int .i64 n) (iA w) i=some (some (i + j,.int .i64 s)))∨((∀ p∈w,p.1≠n)∧dk 0 (.int .i64 n) (iA w) i=some none)
 | [],i=>.inr ⟨(fun p h=>by cases h),rfl⟩
 | (a,b)::r,i=>by
   have ih:=FU n r (i + 1)
   simp only [iA,List.map_cons,dk,cE,if_true]
   by_cases h:n=a
   ·subst h
    exact .inl ⟨0,b,rfl,by simp⟩
   ·simp only [decide_eq_false h]
    rcases ih with ⟨j,s,h1,h2⟩ | ⟨h1,h2⟩
    ·exact .inl ⟨j + 1,s,h1,by rw [show i + (j + 1)=i + 1 + j by omega];exact h2⟩
    ·refine .inr ⟨fun p hp=>?_,h2⟩
     rcases UQ.1 hp with rfl | hp
     ·exact fun e=>h e.symm
     ·exact h1 p hp
theorem XW {n:Int} {w:List (Int×Int)} {φ:AV→Prop} (h1:∀ s,(n,s)∈w→φ (.tuple [.int .i64 s,.bool true])) (h2:(∀ p∈w,p.1≠n)→φ (.tuple [.int .i64 0,.bool false])):gg (some (.map (iA w))) 0 (.int .i64 0) (.int .i64 n) true φ:=by
 unfold gg
 rcases FU n w 0 with ⟨j,s,h3,h4⟩ | ⟨h3,h4⟩
 ·simp only [h4];exact h1 s (aaX h3)
 ·simp only [h4];exact ⟨by simp [cE],h2 h3⟩
theorem msW {n s:Int} {w:List (Int×Int)} {id:Nat} {H:List aa} {K:List aa→Prop} (h:∀ w',(∀ p∈w',p∈w∨p=(n,s))→(∀ p∈w,∃ q∈w',q.1=p.1)→(n,s)∈w'→K (H.set id (.map (iA w')))):eX (some (.map (iA w))) 0 id (.int .i64 n) (.int .i64 s) H K:=by
 unfold eX
 refine ⟨rfl,rfl,rfl,?_⟩
 have ec:aP (.int .i64 s)=.int .i64 s:=rfl
 rcases FU n w 0 with ⟨j,x,h3,h4⟩ | ⟨h3,h4⟩
 ·simp only [h4,ec,abw]
  have e:(iA w).set j (.int .i64 n,.int .i64 s)=iA (w.set j (n,s)):=by simp [iA,adq]
  rw [e]
  have hj:=(aaw.1 h3).1
  refine h _ (fun p hp=>acJ hp) (fun p hp=>?_) (adF.2 ⟨j,by rw [Rx hj]⟩)
  obtain ⟨m,hm⟩:=adF.1 hp
  by_cases e:j=m
  ·subst e
   rw [h3] at hm;cases hm
   exact ⟨(n,s),adF.2 ⟨j,by rw [Rx hj]⟩,rfl⟩
  ·exact ⟨p,adF.2 ⟨m,by rw [yq e];exact hm⟩,rfl⟩
 ·simp only [h4,ec]
  refine ⟨by simp [cE],?_⟩
  have e:iA w++[(AV.int .i64 n,AV.int .i64 s)]=iA (w++[(n,s)]):=by simp [iA]
  rw [e]
  exact h _ (fun p hp=>by simpa using hp) (fun p hp=>⟨p,abf.2 (.inl hp),rfl⟩) (by simp)
structure Ue (ps ss:List Int) (i:Nat):Prop where
 Qj:∀ j,j < i→0≤ps.getD j 0∧ps.getD j 0≤255∧1≤ss.getD j 0∧ss.getD j 0≤3
 st:∀ j k,j < i→k < i→ps.getD j 0=ps.getD k 0→ss.getD j 0=ss.getD k 0
def kG (s:Sg) (ps ss:List Int):Prop:=ps.length=s.ops.length∧ss.length=s.ops.length∧Ue ps ss ps.length
theorem kG.va {s:Sg} {ps ss:List Int} (h:kG s ps ss):Va ps ss:=⟨by rw [h.2.1,h.1],h.2.2.st⟩
open Classical in
noncomputable def eT (s:Sg) (ps ss:List Int):Int:=if nv s=true then (if kG s ps ss then 0 else 60) else 40
theorem Uf (ps ss:List Int) (φ:AV→Prop):aq 0 none (.aj (fa ps ss)) φ=φ (.aj (.al 0 (ints ps))):=by simp [aq,apart,fa,AV.cells,AV.one]
theorem PR (ps ss:List Int) (φ:AV→Prop):aq 1 none (.aj (fa ps ss)) φ=φ (.aj (.al 0 (ints ss))):=by simp [aq,apart,fa,AV.cells,AV.one]
theorem bi (ps ss:List Int):(fa ps ss).val=true∧(fa ps ss).cells.length=2∧(fa ps ss).cells.all AV.one=true∧(fa ps ss).ae=fa ps ss∧(fa ps ss).drop=fa ps ss∧∀ n,(fa ps ss).a8 n=true:=
 ⟨rfl,rfl,rfl,rfl,rfl,fun n=>by simp [fa,wJ,bE,cN,ch,aW]⟩
theorem cW (ps ss:List Int) (H:List aa) (φ:AV→Prop):aV (some 2) (.aj (fa ps ss)) H φ=φ (fa ps ss):=PK _ _ _ _
theorem Vi (s:Sg) (ps ss:List Int):Pure Tryz.prog 24 [s.av,fa ps ss] (.int .i64 (eT s ps ss)):=by
 refine fun H=>k24.2.calls rfl ?_
 simp only [k24,aK]
 obtain ⟨q1,q2,q3,q4,q5,q6⟩:=bi ps ss
 simp +contextual only [aZ,q1,sZ,Nat.reduceEqDiff,Nat.reduceAdd,↓reduceIte,reduceCtorEq]
 refine af (c81 s) ?_
 cases hs:nv s with
 | false=>
   have e:eT s ps ss=40:=by rw [eT,if_neg (by rw [hs];simp)]
   rw [e]
   simp +contextual only [abv,sZ,Nat.reduceEqDiff,↓reduceIte,reduceCtorEq,Int.reduceEq]
   exact bf rfl rfl
 | true=>
   simp +contextual only [aZ,Uf,PR,ax,sZ,Nat.reduceEqDiff,↓reduceIte,reduceCtorEq]
   have bad:¬ kG s ps ss→eT s ps ss=60:=fun h=>by rw [eT,if_pos hs,if_neg h]
   have Ug:kG s ps ss→eT s ps ss=0:=fun h=>by rw [eT,if_pos hs,if_pos h]
   have ret60:∀ (X:List aa),¬ kG s ps ss→bV H.length [.t 4] [(4,.int .i64 60)] (H++X) fun r H'=>r=.int .i64 (eT s ps ss)∧H'=H:=fun X h=>by rw [bad h];exact Lh rfl rfl
   have ret60':¬ kG s ps ss→bV H.length [.t 4] [(4,.int .i64 60)] H fun r H'=>r=.int .i64 (eT s ps ss)∧H'=H:=fun h=>by rw [bad h];exact bf rfl rfl
   refine fun _ _=>⟨fun hl=>?_,fun hl=>?_⟩
   rotate_left
   ·first | exact ret60' fun h=>hl (by omega) | (refine ret60' fun h=>?_;have:=h.1;omega)
   refine fun _=>⟨fun pi=>ret60' fun h=>pi (by have:=h.2.1;omega),fun pi=>?_⟩
   have g0:∀ w,(H++[aa.map (iA w)])[H.length]?=some (.map (iA w)):=fun w=>by simp
   have gs:∀ w w',(H++[aa.map (iA w)]).set H.length (.map (iA w'))=H++[.map (iA w')]:=fun w w'=>by simp
   refine aB ps.length (fun i (w:List (Int×Int))=>Ue ps ss i∧(∀ p∈w,∃ j,j < i∧ps.getD j 0=p.1∧ss.getD j 0=p.2)∧∀ j,j < i→∃ p∈w,p.1=ps.getD j 0)
    (fun i w=>[(3,.aj (fa ps ss)),(6,.map H.length),(35,.al 0 (ints ps)),(36,.int .i64 s.ops.length),(37,.int .i64 i)]) (fun i w=>H++[.map (iA w)]) []
    ⟨⟨⟨fun j h=>by omega,fun j k h=>by omega⟩,(fun p h=>by cases h),fun j h=>by omega⟩,aD _ _ _⟩ fun i w hi hI=>?_
   ·obtain ⟨hu,hw1,hw2⟩:=hI
    have nbad:∀ j,j < ps.length→¬ (0≤ps.getD j 0∧ps.getD j 0≤255∧1≤ss.getD j 0∧ss.getD j 0≤3)→¬ kG s ps ss:=fun j hj h h'=>h (h'.2.2.Qj j hj)
    by_cases M7:(i:Int) < s.ops.length
    ·have Uh:i < ps.length:=by omega
     simp +contextual only [PR,cH,aaa,g0,M7,decide_true,sZ,Nat.reduceEqDiff,↓reduceIte]
     generalize hp:ps.getD i 0=p
     generalize hq:ss.getD i 0=q
     refine ⟨by omega,⟨by omega,by omega⟩,?_⟩
     by_cases r1:p < 0
     ·refine XW (fun o _=>?_) (fun _=>?_)
      all_goals
       simp +contextual only [r1,decide_true,sZ,Nat.reduceEqDiff,Nat.reduceAdd,Nat.reduceLT,↓reduceIte,reduceCtorEq]
       exact ret60 _ (nbad i Uh (by rw [hp];omega))
     ·by_cases r2:255 < p
      ·refine XW (fun o _=>?_) (fun _=>?_)
       all_goals
        simp +contextual only [r1,r2,decide_true,decide_false,sZ,Nat.reduceEqDiff,Nat.reduceAdd,Nat.reduceLT,↓reduceIte,reduceCtorEq]
        exact ret60 _ (nbad i Uh (by rw [hp];omega))
      ·by_cases r3:q < 1
       ·refine XW (fun o _=>?_) (fun _=>?_)
        all_goals
         simp +contextual only [r1,r2,r3,decide_true,decide_false,sZ,Nat.reduceEqDiff,Nat.reduceAdd,Nat.reduceLT,↓reduceIte,reduceCtorEq]
         exact ret60 _ (nbad i Uh (by rw [hq];omega))
       ·by_cases r4:3 < q
        ·refine XW (fun o _=>?_) (fun _=>?_)
         all_goals
          simp +contextual only [r1,r2,r3,r4,decide_true,decide_false,sZ,Nat.reduceEqDiff,Nat.reduceAdd,Nat.reduceLT,↓reduceIte,reduceCtorEq]
          exact ret60 _ (nbad i Uh (by rw [hq];omega))
        ·have abu:0≤p∧p≤255∧1≤q∧q≤3:=⟨by omega,by omega,by omega,by omega⟩
         have next:(∀ j,j < i→ps.getD j 0=p→ss.getD j 0=q)→∀ w':List (Int×Int),(∀ x∈w',x∈w∨x=(p,q))→(∀ x∈w,∃ y∈w',y.1=x.1)→(p,q)∈w'→Ue ps ss (i + 1)∧(∀ x∈w',∃ j,j < i + 1∧ps.getD j 0=x.1∧ss.getD j 0=x.2)∧∀ j,j < i + 1→∃ x∈w',x.1=ps.getD j 0:=by
          intro hsame w' m1 m2 m3
          refine ⟨⟨fun j hj=>?_,fun j k hj hk he=>?_⟩,fun x hx=>?_,fun j hj=>?_⟩
          ·by_cases e:j=i
           ·subst e;rw [hp,hq];exact abu
           ·exact hu.Qj j (by omega)
          ·by_cases e:j=i
           ·by_cases e':k=i
            ·rw [e,e']
            ·subst e;rw [hp] at he;rw [hq];exact (hsame k (by omega) he.symm).symm
           ·by_cases e':k=i
            ·subst e';rw [hp] at he;rw [hq];exact hsame j (by omega) he
            ·exact hu.st j k (by omega) (by omega) he
          ·rcases m1 x hx with h | rfl
           ·obtain ⟨j,h1,h2,h3⟩:=hw1 x h;exact ⟨j,by omega,h2,h3⟩
           ·exact ⟨i,by omega,hp,hq⟩
          ·by_cases e:j=i
           ·subst e;rw [hp];exact ⟨_,m3,rfl⟩
           ·obtain ⟨x,h1,h2⟩:=hw2 j (by omega)
            obtain ⟨y,h3,h4⟩:=m2 x h1
            exact ⟨y,h3,h4.trans h2⟩
         refine XW (fun o ho=>?_) (fun jO=>?_)
         ·obtain ⟨j0,hj1,hj2,hj3⟩:=hw1 _ ho
          simp only at hj2 hj3
          by_cases Xl:o=q
          ·subst Xl
           have d0:decide (¬ o=o)=false:=by simp
           simp +contextual only [r1,r2,r3,r4,decide_false,g0,sZ,Nat.reduceEqDiff,Nat.reduceAdd,Nat.reduceLT,↓reduceIte]
           refine msW fun w' m1 m2 m3=>?_
           simp +contextual only [gs,sZ,Nat.reduceEqDiff,↓reduceIte]
           refine ⟨i + 1,w',⟨Uh,next (fun j hj he=>?_) w' m1 m2 m3⟩,by omega,aE (by rw [ay i (by omega)]) rfl⟩
           rw [hu.st j j0 hj hj1 (he.trans hj2.symm),hj3]
          ·have d0:decide (¬ o=q)=true:=by simp [Xl]
           simp +contextual only [r1,r2,r3,r4,decide_false,d0,sZ,Nat.reduceEqDiff,Nat.reduceAdd,Nat.reduceLT,↓reduceIte,reduceCtorEq]
           exact ret60 _ fun h=>Xl (by rw [← hj3,← hq];exact h.2.2.st j0 i (by omega) Uh (hj2.trans hp.symm))
         ·simp +contextual only [r1,r2,r3,r4,decide_false,g0,sZ,Nat.reduceEqDiff,Nat.reduceAdd,Nat.reduceLT,↓reduceIte]
          refine msW fun w' m1 m2 m3=>?_
          simp +contextual only [gs,sZ,Nat.reduceEqDiff,↓reduceIte]
          refine ⟨i + 1,w',⟨Uh,next (fun j hj he=>?_) w' m1 m2 m3⟩,by omega,aE (by rw [ay i (by omega)]) rfl⟩
          obtain ⟨x,h1,h2⟩:=hw2 j hj
          exact absurd (h2.trans he) (jO x h1)
    ·have hii:i=ps.length:=by omega
     subst hii
     rw [Ug ⟨by omega,by omega,hu⟩]
     simp +contextual only [M7,decide_false,sZ,Nat.reduceEqDiff,↓reduceIte,reduceCtorEq]
     exact Lh rfl rfl
end Go.aJ
end
section
set_option maxRecDepth 100000
namespace Go.aJ
open Go Go.Proofs Go.eN
theorem XX (g:Nat) (cI:List AV) (cA:cI.map AV.ae=cI) (p:T→Bool) (l:List T) (hf:∀ x∈l,Pure Tryz.prog g ([x.av]++cI) (.bool (p x))) :
 Pure Tryz.prog 114 [.al 0 (bS l),.fn (.func g) [] cI] (.int .i64 (sU p l 0)):=by
 refine fun H=>CH.2.calls rfl ?_
 simp only [CH,aK]
 simp +contextual only [sZ,Nat.reduceEqDiff,Nat.reduceAdd,↓reduceIte,reduceCtorEq]
 intro hl
 refine aR l.length (fun i=>sU p (l.drop i) i=sU p l 0) (fun i=>[(0,.al 0 (bS l)),(1,.fn (.func g) [] cI),(7,.int .i64 l.length),(8,.int .i64 i)]) (fun _=>H) ⟨rfl,aD _ _ _⟩ fun i hi hI=>?_
 simp +contextual only [cA,sZ,Nat.reduceEqDiff,Nat.reduceAdd,↓reduceIte,reduceCtorEq]
 refine ⟨fun aS=>?_,fun iR=>?_⟩
 ·have aS:=bW aS
  rw [zh aS] at hI
  refine ⟨aS,af (hf _ (fV aS)) ?_⟩
  cases hb:p (l.getD i default) with
  | true=>
    rw [if_pos hb] at hI
    simp +contextual only [sZ,Nat.reduceEqDiff,↓reduceIte,reduceCtorEq]
    exact bf rfl (by rw [← hI])
  | false=>
    rw [if_neg (by rw [hb];simp)] at hI
    simp +contextual only [sZ,Nat.reduceEqDiff,↓reduceIte,reduceCtorEq]
    exact ⟨i + 1,⟨aS,hI⟩,by omega,aE (by rw [ay i (by omega)]) rfl⟩
 ·rw [aaZ (dg iR)] at hI
  exact bf rfl (by rw [← hI];rfl)
theorem XZ (g:Nat) (cI:List AV) (cA:cI.map AV.ae=cI) (p:T→Bool) (l:List T) (hf:∀ x∈l,Pure Tryz.prog g ([x.av]++cI) (.bool (p x))) :
 Pure Tryz.prog 53 [.al 0 (bS l),.fn (.func g) [] cI] (.bool (l.any p)):=by
 refine fun H=>Qu.2.calls rfl ?_
 simp only [Qu,aK]
 simp +contextual only [sZ,Nat.reduceEqDiff,Nat.reduceAdd,↓reduceIte,reduceCtorEq]
 refine af (XX g cI cA p l hf) ?_
 simp +contextual only [sZ,↓reduceIte,reduceCtorEq]
 exact bf rfl (by rw [wV p l 0 (by omega)])
theorem Ui (x:T):Pure Tryz.prog 130 [x.av] (.int .i64 (if x.tree=true then 0 else 4)):=by
 refine fun H=>NL.2.calls rfl ?_
 simp only [NL,aK]
 simp +contextual only [sZ,Nat.reduceEqDiff,Nat.reduceAdd,↓reduceIte]
 refine af (Xi x) ?_
 cases h:x.tree with
 | true=>simp +contextual only [Bool.not_true,sZ,↓reduceIte,reduceCtorEq];exact bf rfl rfl
 | false=>simp +contextual only [Bool.not_false,sZ,↓reduceIte,reduceCtorEq];exact bf rfl rfl
mutual
def DP (s:Sg):T→Bool
 | .mk k n l=>!(decide (k=2) && (decide ((s.ops.length:Int)≤n) || !decide ((l.length:Int)=((s.ops.getD n.toNat default).args.length:Nat)))) && ZJ s l
def ZJ (s:Sg):List T→Bool
 | []=>true
 | x::r=>DP s x && ZJ s r
end
theorem Bm (s:Sg):∀ l,ZJ s l=!(l.any fun x=>!DP s x)
 | []=>rfl
 | x::r=>by rw [ZJ,Bm s r,adX];cases DP s x <;> simp
theorem abx (s:Sg):∀ t:T,t.shaped=true→Pure Tryz.prog 131 [s.av,t.av] (.bool (DP s t)):=by
 suffices h:∀ N t,wt t≤N→t.shaped=true→Pure Tryz.prog 131 [s.av,t.av] (.bool (DP s t)) from fun t ht=>h _ t (yo _) ht
 intro N
 induction N with
 | zero=>intro t h;have:=fO t;omega
 | succ N ih=>
 intro t hN hs H
 have hk:=kD hs
 have c182:∀ x∈t.l,Pure Tryz.prog 182 ([x.av]++[.aj s.av]) (.bool (!DP s x)):=by
  intro x hx H
  refine Ws.2.calls rfl ?_
  simp only [Ws,aK]
  simp +contextual only [aZ,sZ,Nat.reduceEqDiff,Nat.reduceAdd,↓reduceIte,reduceCtorEq]
  refine af (ih x (by have:=bX hx;omega) (hk.2 x hx)) ?_
  simp +contextual only [sZ,↓reduceIte,reduceCtorEq]
  exact bf rfl rfl
 have hn:0≤t.n:=by
  rw [T.dZ] at hs
  simp only [yu,abr,acR,decide_eq_false_iff_not] at hs
  have:=hs.1.1.1.1
  omega
 obtain ⟨m,hm⟩:=ade hn
 refine V7.2.calls rfl ?_
 simp only [V7,aK]
 have e:DP s t=(!(decide (t.k=2) && (decide ((s.ops.length:Int)≤t.n) || !decide ((t.l.length:Int)=((s.ops.getD t.n.toNat default).args.length:Nat)))) && !(t.l.any fun x=>!DP s x)):=by
  rw [← Bm];cases t;rfl
 have fin:(!(decide (t.k=2) && (decide ((s.ops.length:Int)≤t.n) || !decide ((t.l.length:Int)=((s.ops.getD t.n.toNat default).args.length:Nat)))))=false→bV H.length [.t 4] [(4,.bool false)] H fun r H'=>r=.bool (DP s t)∧H'=H:=by
  intro h
  rw [e,h];exact bf rfl rfl
 by_cases h2:t.k=2
 ·by_cases h3:(s.ops.length:Int)≤t.n
  ·simp +contextual only [aZ,h2,h3,decide_true,sZ,Nat.reduceEqDiff,Nat.reduceAdd,↓reduceIte,reduceCtorEq]
   exact fin (by simp [h2,h3])
  ·have Uj:m < s.ops.length:=by omega
   have Zp:¬ (s.ops.length:Int)≤(m:Int):=by omega
   have em:t.n.toNat=m:=by omega
   by_cases h4:(t.l.length:Int)=((s.ops.getD m default).args.length:Nat)
   ·simp +contextual only [aZ,h2,Zp,h4,hm,Uj,ax,decide_true,decide_false,sZ,Nat.reduceEqDiff,Nat.reduceAdd,↓reduceIte,reduceCtorEq]
    refine af (XZ 182 [.aj s.av] rfl _ t.l c182) ?_
    simp +contextual only [sZ,↓reduceIte,reduceCtorEq]
    refine bf rfl ?_
    rw [e,em,h4]
    simp [h2,h3]
   ·simp +contextual only [aZ,h2,Zp,h4,hm,Uj,ax,decide_true,decide_false,sZ,Nat.reduceEqDiff,Nat.reduceAdd,↓reduceIte,reduceCtorEq]
    exact fin (by rw [em,decide_eq_true h2,decide_eq_false h3,decide_eq_false h4];rfl)
 ·simp +contextual only [aZ,h2,decide_false,sZ,Nat.reduceEqDiff,Nat.reduceAdd,↓reduceIte,reduceCtorEq]
  refine af (XZ 182 [.aj s.av] rfl _ t.l c182) ?_
  simp +contextual only [sZ,↓reduceIte,reduceCtorEq]
  refine bf rfl ?_
  rw [e]
  simp [h2]
noncomputable def iJ (s:Sg) (ps ss:List Int) (l:List T):Int:=if eT s ps ss=0 then (if (l.all fun t=>t.tree && DP s t)=true then 0 else 4) else eT s ps ss
theorem Je {p:T→Bool} {l:List T} {i:Nat} (h:i < l.length):(l.drop i).all p=(p (l.getD i default) && (l.drop (i + 1)).all p):=by
 have e:l.getD i default=l[i]:=by simp [h]
 rw [aaU h,List.all_cons,e]
theorem X0 (s:Sg) (ps ss:List Int) (l:List T):Pure Tryz.prog 74 [s.av,fa ps ss,.al 0 (bS l)] (.int .i64 (iJ s ps ss l)):=by
 refine fun H=>k74.2.calls rfl ?_
 simp only [k74,aK]
 obtain ⟨q1,q2,q3,q4,q5,q6⟩:=bi ps ss
 simp +contextual only [aZ,q1,q4,cW,sZ,Nat.reduceEqDiff,Nat.reduceAdd,↓reduceIte,reduceCtorEq]
 refine af (Vi s ps ss) ?_
 by_cases h0:eT s ps ss=0
 ·simp +contextual only [h0,sZ,Nat.reduceEqDiff,↓reduceIte]
  intro _
  refine aR l.length (fun i=>l.all (fun t=>t.tree && DP s t)=(l.drop i).all fun t=>t.tree && DP s t) (fun i=>[(3,.aj s.av),(16,.al 0 (bS l)),(17,.int .i64 l.length),(18,.int .i64 i)]) (fun _=>H) ⟨rfl,aD _ _ _⟩ fun i hi hI=>?_
  by_cases BJ:(i:Int) < l.length
  ·have aS:i < l.length:=by omega
   rw [Je aS] at hI
   simp +contextual only [BJ,decide_true,sZ,Nat.reduceEqDiff,Nat.reduceAdd,↓reduceIte]
   refine ⟨aS,af (Ui _) ?_⟩
   cases ht:(l.getD i default).tree with
   | false=>
     rw [ht,aec,aec] at hI
     simp +contextual only [sZ,Nat.reduceEqDiff,↓reduceIte,reduceCtorEq,Int.reduceEq]
     refine bf rfl ?_
     rw [iJ,if_pos h0,hI,if_neg (by simp)]
   | true=>
     rw [ht,adv] at hI
     simp +contextual only [aZ,sZ,Nat.reduceEqDiff,Nat.reduceAdd,↓reduceIte]
     refine af (abx s _ ((T.fp _).1 ht).2.2) ?_
     cases ho:DP s (l.getD i default) with
     | false=>
       rw [ho,aec] at hI
       simp +contextual only [Bool.not_false,sZ,Nat.reduceEqDiff,↓reduceIte,reduceCtorEq]
       refine bf rfl ?_
       rw [iJ,if_pos h0,hI,if_neg (by simp)]
     | true=>
       rw [ho,adv] at hI
       simp +contextual only [Bool.not_true,sZ,Nat.reduceEqDiff,↓reduceIte]
       exact ⟨i + 1,⟨aS,hI⟩,by omega,aE (by rw [ay i (by omega)]) rfl⟩
  ·simp +contextual only [BJ,decide_false,sZ,Nat.reduceEqDiff,↓reduceIte,reduceCtorEq]
   rw [aaZ (by omega)] at hI
   refine bf rfl ?_
   rw [iJ,if_pos h0,hI];rfl
 ·simp +contextual only [h0,sZ,Nat.reduceEqDiff,↓reduceIte,reduceCtorEq]
  refine bf rfl ?_
  rw [iJ,if_neg h0]
theorem Uk {s:Sg}:∀ t:T,t.shaped=true→DP s t=true→nE (fun n=>0≤n∧n < s.ops.length) t:=by
 suffices h:∀ N t,wt t≤N→t.shaped=true→DP s t=true→nE (fun n=>0≤n∧n < s.ops.length) t from fun t=>h _ t (yo _)
 intro N
 induction N with
 | zero=>intro t h;have:=fO t;omega
 | succ N ih=>
 intro t hN hs ho
 have hn:0≤t.n:=by
  rw [T.dZ] at hs
  simp only [yu,abr,acR,decide_eq_false_iff_not] at hs
  have:=hs.1.1.1.1
  omega
 have hk:=(kD hs).2
 obtain ⟨k,n,l⟩:=t
 rw [DP,Bm] at ho
 simp only [yu,abr,ad2,acR,decide_eq_false_iff_not,List.any_eq_false,Bool.not_eq_false'] at ho
 refine nE.mk k n l (fun Jw=>?_) fun x hx=>ih x (by have:=bX (a:=.mk k n l) hx;omega) (hk x hx) ?_
 ·rcases ho.1 with h | h
  ·exact absurd Jw h
  ·exact ⟨hn,by omega⟩
 ·have:=ho.2 x hx
  simpa using this
end Go.aJ
end
section
set_option maxRecDepth 100000
namespace Go.aJ
open Go Go.Proofs Go.eN
mutual
theorem LO:∀ t:T,(wt t:Int)=t.sz
 | .mk k n l=>by rw [wt,T.sz];have:=Hg l;omega
theorem Hg:∀ l:List T,(ij l:Int)=sd l
 | []=>rfl
 | x::r=>by rw [ij,sd];have:=LO x;have:=Hg r;omega
end
theorem mR {l:List T} (h:∀ t∈l,t.tree=true):ij l≤2000 * l.length:=by
 induction l with
 | nil=>simp [ij]
 | cons x r ih=>
   have:=ih fun t ht=>h t (aai _ ht)
   have h1:=((T.fp x).1 (h x aan)).1
   have h2:=LO x
   rw [ij,List.length_cons];omega
structure Rt0 (s:Sg) (ps ss:List Int) (l:List T):Prop where
 ord:kG s ps ss
 tree:∀ t∈l,t.tree=true
 all:∀ t∈l,nE (fun n=>0≤n∧n < ps.length) t
theorem lO {s:Sg} {ps ss:List Int}:eT s ps ss=0↔nv s=true∧kG s ps ss:=by
 unfold eT
 by_cases h:nv s=true
 ·by_cases h2:kG s ps ss
  ·rw [if_pos h,if_pos h2];simp [h,h2]
  ·rw [if_pos h,if_neg h2];simp [h2]
 ·rw [if_neg h];simp [h]
theorem rH {s:Sg} {ps ss:List Int} {l:List T} (h:iJ s ps ss l=0):Rt0 s ps ss l:=by
 unfold iJ at h
 split at h
 ·rename_i h0
  have h1:=(lO.1 h0).2
  split at h
  ·rename_i h2
   have h3:=aaL.1 h2
   refine ⟨h1,fun t ht=>?_,fun t ht=>?_⟩
   ·have:=h3 t ht;simp only [yu] at this;exact this.1
   ·have:=h3 t ht
    simp only [yu] at this
    rw [h1.1]
    exact Uk t ((T.fp t).1 this.1).2.2 this.2
  ·cases h
 ·rename_i h0;exact absurd h h0
theorem Rt0.cx {s:Sg} {ps ss:List Int} {l:List T} (h:Rt0 s ps ss l) (eU:l≠[]) (hl:l.length≤10000) (n:Nat):(gK ps ss l n).Ok:=
 Ra h.ord.va eU (by have:=mR h.tree;omega) h.all n
open Classical in
noncomputable def Jf (ps ss:List Int) (a b:T):Bool:=decide (R (ko ps ss) a b)
open Classical in
noncomputable def X1 (ps ss:List Int) (a b:T):Bool:=decide (E (ko ps ss) a b)
theorem vk {ps ss:List Int} {a b:T}:Jf ps ss a b=true↔R (ko ps ss) a b:=by simp [Jf]
theorem Hh {ps ss:List Int} {a b:T}:X1 ps ss a b=true↔E (ko ps ss) a b:=by simp [X1]
theorem PT (a b:T):bo (aY [a,b] 0)=.al 0 (ints (aY [a,b] 0)):=rfl
theorem Hi {Hs G:List aa} {n0 a b:Nat} {u v x y:AV} {R:AV→List aa→Prop} (Dv:b≠a) (hH:Hs.take n0=G) (hb:x.a8 n0=true∧y.a8 n0=true) (hx:u.ae=x) (hy:v.ae=y) (hR:R (.tuple [x,y]) G):bV n0 [.t a,.t b] [(a,u),(b,v)] Hs R:=by
 subst hH;subst hx;subst hy
 refine ⟨n0,yo _,[u.ae,v.ae],?_,by simp only [ak,hb.1,hb.2,ac2],hR⟩
 simp only [aA,if_neg Dv,if_true,List.map]
 exact b9 _
theorem Up.low {c:Cx} {H X G:List aa} (h:Up c (H++X) G) (he:H.length≤c.e) (hg:H.length≤c.g):G.take H.length=H:=by
 apply ab1
 intro j
 rw [aam]
 split
 ·rename_i hj
  rw [h.get j (by omega) (by omega),yp hj]
 ·rename_i hj
  rw [aby (by omega)]
theorem c20 (s:Sg) (ps ss:List Int) (a b:T):Pure Tryz.prog 20 [s.av,fa ps ss,a.av,b.av] (.tuple [.bool (if iJ s ps ss [a,b]=0 then Jf ps ss a b else false),.int .i64 (iJ s ps ss [a,b])]):=by
 refine fun H=>k20.2.calls rfl ?_
 simp only [k20,aK]
 obtain ⟨q1,q2,q3,q4,q5,q6⟩:=bi ps ss
 simp +contextual only [aZ,q1,q4,cW,sZ,Nat.reduceEqDiff,Nat.reduceAdd,↓reduceIte,reduceCtorEq]
 refine af (X0 s ps ss [a,b]) ?_
 by_cases h0:iJ s ps ss [a,b]=0
 ·rw [if_pos h0]
  have hr:=rH h0
  have hw:=mR hr.tree
  have hc:=hr.cx (by simp) (by simp) H.length
  have hd:=zC ps ss (ts:=[a,b]) (by simp) H
  simp +contextual only [q4,cW,h0,sZ,Nat.reduceEqDiff,Nat.reduceAdd,↓reduceIte]
  refine ag (Xy ps ss [a,b] H (by simp at hw;omega)) ?_
  rintro r G ⟨rfl,rfl⟩
  have a0:=uv (ps:=ps) (ss:=ss) (ts:=[a,b]) (n:=H.length) (j:=0) (by simp)
  have a1:=uv (ps:=ps) (ss:=ss) (ts:=[a,b]) (n:=H.length) (j:=1) (by simp)
  have hl:=cF [a,b] 0
  rw [PT]
  generalize aY [a,b] 0=ks at a0 a1 hl ⊢
  have pi:ks.length=2:=hl
  simp +contextual only [cH,pi,dh,sZ,Nat.reduceEqDiff,Nat.reduceAdd,Nat.reduceLT,↓reduceIte,reduceCtorEq]
  refine ⟨by decide,by decide,ag (kj hc a0.1 a1.1 _ hd) ?_⟩
  rintro r G ⟨x,rfl,hx,hU,hD⟩
  rw [a0.2,a1.2] at hx
  simp +contextual only [sZ,Nat.reduceEqDiff,↓reduceIte,reduceCtorEq]
  have ex:x=Jf ps ss a b:=by rw [ac0,vk];exact hx
  rw [ex]
  exact Hi (by decide) (hU.low (by simp [gK]) (by simp [gK])) ⟨rfl,rfl⟩ rfl rfl ⟨by rw [h0];rfl,rfl⟩
 ·rw [if_neg h0]
  simp +contextual only [h0,sZ,Nat.reduceEqDiff,↓reduceIte,reduceCtorEq]
  exact Hi (by decide) aa8 ⟨rfl,rfl⟩ rfl rfl ⟨rfl,rfl⟩
theorem c22 (s:Sg) (ps ss:List Int) (a b:T):Pure Tryz.prog 22 [s.av,fa ps ss,a.av,b.av] (.tuple [.bool (if iJ s ps ss [a,b]=0 then X1 ps ss a b else false),.int .i64 (iJ s ps ss [a,b])]):=by
 refine fun H=>k22.2.calls rfl ?_
 simp only [k22,aK]
 obtain ⟨q1,q2,q3,q4,q5,q6⟩:=bi ps ss
 simp +contextual only [aZ,q1,q4,cW,sZ,Nat.reduceEqDiff,Nat.reduceAdd,↓reduceIte,reduceCtorEq]
 refine af (X0 s ps ss [a,b]) ?_
 by_cases h0:iJ s ps ss [a,b]=0
 ·rw [if_pos h0]
  have hr:=rH h0
  have hw:=mR hr.tree
  have hc:=hr.cx (by simp) (by simp) H.length
  have hd:=zC ps ss (ts:=[a,b]) (by simp) H
  simp +contextual only [q4,cW,h0,sZ,Nat.reduceEqDiff,Nat.reduceAdd,↓reduceIte]
  refine ag (Xy ps ss [a,b] H (by simp at hw;omega)) ?_
  rintro r G ⟨rfl,rfl⟩
  have a0:=uv (ps:=ps) (ss:=ss) (ts:=[a,b]) (n:=H.length) (j:=0) (by simp)
  have a1:=uv (ps:=ps) (ss:=ss) (ts:=[a,b]) (n:=H.length) (j:=1) (by simp)
  have hl:=cF [a,b] 0
  rw [PT]
  generalize aY [a,b] 0=ks at a0 a1 hl ⊢
  have pi:ks.length=2:=hl
  simp +contextual only [cH,pi,dh,sZ,Nat.reduceEqDiff,Nat.reduceAdd,Nat.reduceLT,↓reduceIte,reduceCtorEq]
  refine ⟨by decide,by decide,ag (kh hc a0.1 a1.1 _ hd) ?_⟩
  rintro r G ⟨x,rfl,hx,hU,hD⟩
  rw [a0.2,a1.2] at hx
  simp +contextual only [sZ,Nat.reduceEqDiff,↓reduceIte,reduceCtorEq]
  have ex:x=X1 ps ss a b:=by rw [ac0,Hh];exact hx
  rw [ex]
  exact Hi (by decide) (hU.low (by simp [gK]) (by simp [gK])) ⟨rfl,rfl⟩ rfl rfl ⟨by rw [h0];rfl,rfl⟩
 ·rw [if_neg h0]
  simp +contextual only [h0,sZ,Nat.reduceEqDiff,↓reduceIte,reduceCtorEq]
  exact Hi (by decide) aa8 ⟨rfl,rfl⟩ rfl rfl ⟨rfl,rfl⟩
end Go.aJ
end
section
set_option maxRecDepth 100000
set_option maxHeartbeats 0
namespace Go.aJ
open Go Go.Proofs
noncomputable def Rb:=aK Tryz.call163 Tryz.func163 Tryz.ntmps163 [(0,0,1),(0,1,1),(1,4,1),(1,5,1),(4,2,1000),(5,0,1),(5,7,1),(8,6,2000)] [(0,[2,3]),(1,[2,3,5]),(2,[2,5,16,17,18]),(3,[2,5,16,17,18,19]),(4,[2,5,7,16,17,18]),(5,[2,5,16,17,18]),(6,[2,5,16,17,18]),(7,[8,9]),(8,[4])] [(8,(.take 0 true (.take 1 true (.take 2 true (.take 3 true (.take 4 true (.take 5 true (.br 6 (.take 7 true .done) .nil))))))))]
end Go.aJ
end
section
set_option maxRecDepth 100000
namespace Go.aJ
open Go Go.Proofs Go.eN
structure Cn where
 a:T
 b:T
deriving Inhabited
def Cn.av (c:Cn):AV:=.agg [.int .i64 c.a.k,.int .i64 c.a.n,.al 0 (bS c.a.l),.int .i64 c.b.k,.int .i64 c.b.n,.al 0 (bS c.b.l)]
def nw (l:List Cn):List AV:=l.map Cn.av
structure gL where
 vs:List Int
 cs:List Cn
 a:T
 b:T
deriving Inhabited
def gL.av (e:gL):AV:=.agg [.al 0 (ints e.vs),.al 0 (nw e.cs),.int .i64 e.a.k,.int .i64 e.a.n,.al 0 (bS e.a.l),.int .i64 e.b.k,.int .i64 e.b.n,.al 0 (bS e.b.l)]
def gL.rest (e:gL):List T:=e.b::e.cs.flatMap fun c=>[c.a,c.b]
theorem fX (l:List Cn):(nw l).length=l.length:=by simp [nw]
theorem LP (n:Nat) (l:List Cn):ak n (nw l)=true:=by
 rw [bb];intro x hx;obtain ⟨y,_,rfl⟩:=aag.1 hx
 simp [Cn.av,AV.a8,ak,dQ]
theorem gL.facts (e:gL):e.av.val=true∧e.av.cells.length=8∧e.av.cells.all AV.one=true∧e.av.ae=e.av∧e.av.drop=e.av∧∀ n,e.av.a8 n=true:=
 ⟨rfl,rfl,rfl,rfl,rfl,fun n=>by simp [gL.av,AV.a8,ak,dQ,aW,LP]⟩
theorem Cn.facts (e:Cn):e.av.val=true∧e.av.cells.length=6∧e.av.cells.all AV.one=true∧e.av.ae=e.av∧e.av.drop=e.av∧∀ n,e.av.a8 n=true:=
 ⟨rfl,rfl,rfl,rfl,rfl,fun n=>by simp [Cn.av,AV.a8,ak,dQ]⟩
theorem T.Bn (t:T):AV.agg [.int .i64 t.k,.int .i64 t.n,.al 0 (bS t.l)]=t.av:=by cases t;rfl
theorem Jg (e:gL) (φ:AV→Prop):aq 2 (some 3) (.aj e.av) φ=φ (.aj e.a.av):=by simp [aq,apart,gL.av,AV.cells,← T.Bn]
theorem PU (e:gL) (φ:AV→Prop):aq 5 (some 3) (.aj e.av) φ=φ (.aj e.b.av):=by simp [aq,apart,gL.av,AV.cells,← T.Bn]
theorem Na (e:gL) (φ:AV→Prop):aq 1 none (.aj e.av) φ=φ (.aj (.al 0 (nw e.cs))):=by simp [aq,apart,gL.av,AV.cells,AV.one]
theorem X2 (e:Cn) (φ:AV→Prop):aq 0 (some 3) (.aj e.av) φ=φ (.aj e.a.av):=by simp [aq,apart,Cn.av,AV.cells,← T.Bn]
theorem X3 (e:Cn) (φ:AV→Prop):aq 3 (some 3) (.aj e.av) φ=φ (.aj e.b.av):=by simp [aq,apart,Cn.av,AV.cells,← T.Bn]
theorem vn (o:Nat) (l:List Cn):(∀ (own:Nat) (xs:List AV),AV.al o (nw l)=AV.al own xs→∀ z∈xs,z.cells.length=6)=True:=by
 simp only [eq_iff_iff,iff_true]
 intro own xs e z hz
 cases e
 obtain ⟨y,_,rfl⟩:=aag.1 hz;rfl
theorem Bo (e o:Nat) (l:List Cn) (k:IntKind) (i:Nat) (φ:AV→Prop):aC e (.al o (nw l)) (.int k (i:Int)) φ=(i < l.length∧φ (.aj (l.getD i default).av)):=by
 simp only [aC,fX,aaa,eq_iff_iff]
 constructor
 ·rintro ⟨_,h,h2⟩;refine ⟨h,?_⟩;simpa [nw,h] using h2
 ·rintro ⟨h,h2⟩;refine ⟨by omega,h,?_⟩;simpa [nw,h] using h2
theorem Hj (e:Cn) (H:List aa) (φ:AV→Prop):aV (some 6) (.aj e.av) H φ=φ e.av:=by simp [aV,Cn.av,AV.cells]
def Jh (ps ss:List Int) (e:gL):Prop:=∀ y∈e.rest,R (ko ps ss) e.a y
def pJ (l:List Cn):List T:=l.flatMap fun c=>[c.a,c.b]
theorem DQ {l:List Cn} {i:Nat} (h:i < l.length):pJ (l.take (i + 1))=pJ (l.take i)++[(l.getD i default).a,(l.getD i default).b]:=by
 have e:l.getD i default=l[i]:=by simp [h]
 rw [ab8 h,e]
 unfold pJ
 rw [adr]
 rfl
theorem rI (l:List Cn):(pJ l).length=2 * l.length:=by
 induction l with
 | nil=>rfl
 | cons x r ih=>simp only [pJ,List.flatMap_cons,aab,List.length_cons,List.length_nil] at ih ⊢;omega
theorem Bp (a b:List T):bS (a++b)=bS a++bS b:=by
 induction a with
 | nil=>rfl
 | cons x r ih=>rw [List.cons_append,bS,bS,ih];rfl
theorem X4 (x:Int) (r:List Int) (φ:AV→Prop):bD 1 (.al 0 (ints (x::r))) (some (.int .i64 1)) none none φ=φ (.al 0 (ints r)):=by
 have er:dB (AV.al 0 (ints (x::r)))=some (ints (x::r)):=rfl
 have e1:(1:Int).toNat=1:=rfl
 have e2:((ints (x::r)).take (ints (x::r)).length).drop 1=ints r:=by rw [aa8];rfl
 simp only [bD,fN,er,dV,e1,e2,eq_iff_iff]
 constructor
 ·intro h;exact h.2.2.2.2
 ·intro h
  refine ⟨fun own xs he z hz=>?_,by omega,by simp [ax],yo _,h⟩
  cases he
  obtain ⟨y,_,rfl⟩:=aag.1 hz
  rfl
theorem abz (ps ss:List Int) (e:gL) (hv:Va ps ss) (hlen:e.cs.length≤1000) (ht:∀ t∈e.a::e.rest,t.tree=true) (cU:∀ t∈e.a::e.rest,nE (fun n=>0≤n∧n < ps.length) t) (H:List aa) :
 aw Tryz.prog 163 [fa ps ss,e.av] H fun r H'=>(∃ b:Bool,r=.bool b∧(b=true↔Jh ps ss e))∧H'=H:=by
 refine Rb.2.calls rfl ?_
 simp only [Rb,aK]
 obtain ⟨q1,q2,q3,q4,q5,q6⟩:=bi ps ss
 obtain ⟨e1,e2,e3,e4,e5,e6⟩:=gL.facts e
 have cf:=Cn.facts
 simp +contextual only [q1,e1,Jg,PU,Na,fX,sZ,Nat.reduceEqDiff,Nat.reduceAdd,↓reduceIte,reduceCtorEq]
 intro _
 have rest:e.rest=e.b::pJ e.cs:=rfl
 refine aR e.cs.length (fun i=>True) (fun i=>[(2,.aj (fa ps ss)),(5,.al 3 (bS (e.a::e.b::pJ (e.cs.take i)))),(16,.al 0 (nw e.cs)),(17,.int .i64 e.cs.length),(18,.int .i64 i)]) (fun _=>H) ⟨trivial,aD _ _ _⟩ fun i hi _=>?_
 by_cases BJ:(i:Int) < e.cs.length
 ·have aS:i < e.cs.length:=by omega
  obtain ⟨f1,f2,f3,f4,f5,f6⟩:=cf (e.cs.getD i default)
  have hl:(pJ (e.cs.take i)).length≤2000:=by rw [rI];simp;omega
  have Vj:=rn (e.a::e.b::pJ (e.cs.take i))
  have jv:sq 3 [(e.cs.getD i default).a.av,(e.cs.getD i default).b.av]:=of_eq_true (FG [_,_])
  simp +contextual only [BJ,decide_true,vn,Bo,Hj,f1,f2,f3,X2,X3,sZ,Nat.reduceEqDiff,Nat.reduceAdd,↓reduceIte]
  have e7:bS (e.a::e.b::pJ (e.cs.take i))++[(e.cs.getD i default).a.av,(e.cs.getD i default).b.av]=bS (e.a::e.b::pJ (e.cs.take (i + 1))):=by
   rw [DQ aS,← List.cons_append,← List.cons_append,Bp];rfl
  exact ⟨aS,by omega,jv,i + 1,aS,by omega,aE (by rw [ay i (by omega),e7]) rfl⟩
 ·have JP:i=e.cs.length:=by omega
  subst JP
  rw [aa8]
  have eU:e.a::e.b::pJ e.cs≠[]:=by simp
  have hl:(e.a::e.b::pJ e.cs).length≤10000:=by simp [rI];omega
  have hw:=mR (l:=e.a::e.b::pJ e.cs) ht
  have hc:=Ra hv eU (by omega) cU H.length
  have hd:=zC ps ss eU H
  simp +contextual only [BJ,decide_false,cW,q4,sZ,Nat.reduceEqDiff,Nat.reduceAdd,↓reduceIte]
  refine ag (Xy ps ss (e.a::e.b::pJ e.cs) H (by omega)) ?_
  rintro r G ⟨rfl,rfl⟩
  have hk:=(PO (e.a::e.b::pJ e.cs)).kids
  have ek:aY (e.a::e.b::pJ e.cs) 0=0::aY (e.b::pJ e.cs) (0 + wt e.a):=by rw [aY];rfl
  have Cg:=cF (e.b::pJ e.cs) (0 + wt e.a)
  rw [ek] at hk ⊢
  generalize aY (e.b::pJ e.cs) (0 + wt e.a)=tl at hk Cg ⊢
  obtain ⟨Ly,Jw⟩:=hk
  simp only [List.map_cons,List.cons.injEq] at Ly
  obtain ⟨ha,hb⟩:=Ly
  have e0:([(0:Int)]++tl).getD 0 0=0:=rfl
  have ZI:∀ φ:AV→Prop,aC 1 (.al 0 (ints (0::tl))) (.int .i64 0) φ=φ (.aj (.int .i64 0)):=fun φ=>by
   have:=cH 1 0 (0::tl) .i64 0 φ
   rw [this]
   simp
  simp +contextual only [bo,ZI,dh,Option.map_some,Option.map_none,X4,sZ,Nat.reduceEqDiff,Nat.reduceAdd,Nat.reduceLT,↓reduceIte,reduceCtorEq]
  have itl:IL (.al 0 (ints tl)) tl:=.inr rfl
  refine ag (T3 (c:=gK ps ss (e.a::e.b::pJ e.cs) H.length) (i:=0) itl (by rw [Cg];simp [rI];omega) (fun x hx=>kj hc (Jw 0 aan) (Jw x (aai _ hx))) hd) ?_
  rintro r G ⟨b,rfl,hbb,hU,hD⟩
  simp +contextual only [sZ,↓reduceIte,reduceCtorEq]
  refine aX H.length (yo _) (by rw [aA,if_pos rfl];rfl) ?_
  rw [aA,if_pos rfl]
  refine ⟨⟨b,rfl,?_⟩,hU.low (by simp [gK]) (by simp [gK])⟩
  rw [hbb,Jh,rest]
  have ha':(gK ps ss (e.a::e.b::pJ e.cs) H.length).tm 0=e.a:=ha
  have eu:tl.map (gK ps ss (e.a::e.b::pJ e.cs) H.length).tm=e.b::pJ e.cs:=hb
  rw [ha']
  generalize (gK ps ss (e.a::e.b::pJ e.cs) H.length).tm=f at eu
  rw [← eu]
  constructor
  ·intro h y hy
   obtain ⟨x,hx,rfl⟩:=aag.1 hy
   exact h x hx
  ·intro h x hx
   exact h _ (aag.2 ⟨x,hx,rfl⟩)
end Go.aJ
end
