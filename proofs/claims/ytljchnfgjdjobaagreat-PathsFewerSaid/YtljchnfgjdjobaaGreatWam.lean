/- Part 13 of 18 of the proof. -/
import Derived.Test.YtljchnfgjdjobaaGreatWal
import Derived.Test.YtljchnfgjdjobaaGreatWak
import Derived.Test.YtljchnfgjdjobaaGreatWai
import Derived.Test.YtljchnfgjdjobaaGreatWag
import Derived.KernelRfl
set_option linter.unusedVariables false
set_option linter.unusedSimpArgs false
set_option linter.defProp false
set_option linter.unusedSectionVars false
section
set_option maxRecDepth 100000
namespace Go.aH
open Go Go.Proofs Go.fm
def nf (c:Cx) (x:Int):T:=norm c.O (c.tm x)
def xq (c:Cx) (i k:Int):Prop:=tW c i k=true∧dD c i=3∧Mu (Gt c.O.sp) ((c.kd i).map (nf c)) ((c.kd k).map (nf c))
theorem ZS {c:Cx} {a b:List Int} {va vb:AV} (ha:IL va a) (hb:IL vb b) {p q:Nat} {x y:Int} (hx:0≤x∧x < a.length) (hy:0≤y∧y < b.length) (h:hJ c (a.getD x.toNat 0) (b.getD y.toNat 0)) {G:List aa} (hD:Du c G) (gp:G[p]?=some (.cells [va])) (gq:G[q]?=some (.cells [vb])) :
 aq Tryz.prog 222 [.int .i64 x,.ai (.ptr c.d 0),.ptr p 0,.ptr q 0,.ai (.int .i64 y)] G (iF c (R c.O (c.tm (a.getD x.toNat 0)) (c.tm (b.getD y.toNat 0))) G):=by
 refine Vw.2.calls rfl ?_
 simp only [Vw,aJ]
 obtain ⟨a1,a2,a3,a4⟩:=ha.one
 obtain ⟨b1,b2,b3,b4⟩:=hb.one
 simp +contextual only [gp,gq,a2,b2,ha.lens,hb.lens,ha.idx,hb.idx,sZ,Nat.reduceEqDiff,Nat.reduceAdd,Nat.reduceLT,↓reduceIte,reduceCtorEq]
 refine ⟨hx,hy,af (h G hD) ?_⟩
 rintro r G' ⟨z,rfl,hz,hU,jn⟩
 simp +contextual only [sZ,↓reduceIte,reduceCtorEq]
 exact eB rfl hz hU jn
theorem ZT {c:Cx} {a b l:List Int} {va vb vl:AV} (ha:IL va a) (hb:IL vb b) (hl:IL vl l) (ll:l.length≤1000000000) {p q:Nat} {y:Int} (hx:∀ x∈l,0≤x∧x < a.length) (hy:0≤y∧y < b.length) (h:∀ x∈l,hJ c (a.getD x.toNat 0) (b.getD y.toNat 0)) {G:List aa} (hD:Du c G)
 (gp:G[p]?=some (.cells [va])) (gq:G[q]?=some (.cells [vb])) (np:p≠c.e∧p≠c.g) (nq:q≠c.e∧q≠c.g) :
 aq Tryz.prog 221 [.int .i64 y,.ai vl,.ai (.ptr c.d 0),.ptr p 0,.ptr q 0] G (iF c (¬ ∃ x∈l,R c.O (c.tm (a.getD x.toNat 0)) (c.tm (b.getD y.toNat 0))) G):=by
 refine Vv.2.calls rfl ?_
 simp only [Vv,aJ]
 obtain ⟨a1,a2,a3,a4⟩:=hl.one
 have ld:∀ (H:List aa) (φ:AV→Prop),aR none (.ai vl) H φ=φ vl:=fun H φ=>by simp [aR,a1,a2]
 simp +contextual only [ld,a2,sZ,Nat.reduceEqDiff,Nat.reduceAdd,↓reduceIte,reduceCtorEq]
 refine af (CL (SD.Au c G) hl ll 222 [] [.ai (.ptr c.d 0),.ptr p 0,.ptr q 0,.ai (.int .i64 y)] rfl rfl (Q:=fun x=>R c.O (c.tm (a.getD x.toNat 0)) (c.tm (b.getD y.toNat 0)))
  (fun x wO G' ey=>(ZS ha hb (hx x wO) hy (h x wO) ey.1 (by rw [ey.2.get p np.1 np.2,gp]) (by rw [ey.2.get q nq.1 nq.2,gq])).mono fun r H' hr=>hr.sb ey) ⟨hD,Up.refl c G⟩) ?_
 rintro r G' ⟨z,rfl,hz,ey⟩
 simp +contextual only [sZ,↓reduceIte,reduceCtorEq]
 refine eB (b:=!z) rfl ?_ ey.2 ey.1
 rw [← hz];cases z <;> simp
theorem lB {P:Px} {t:DT} {f:AV→Env} {H:List aa} {o:Option aa} {off:Nat} {K1 K2:Env→List aa→Prop} (h:c8 o none off fun x=>jc P t (f x) H K1) (hk:∀ e G,K1 e G→K2 e G):c8 o none off fun x=>jc P t (f x) H K2:=by
 unfold c8 at *
 split at h
 ·exact ⟨h.1,dG h.2 hk⟩
 ·exact h.elim
theorem WB {c:Cx} (hc:c.Ok) {i k:Int} (hi:c.dP i) (hk:c.dP k) (h2:∀ x∈c.kd i,∀ y∈c.kd k,kx c x y) (h3:∀ x∈c.kd i,∀ y∈c.kd k,hJ c x y) {H:List aa} (hD:Du c H) :
 aq Tryz.prog 186 [.ptr c.d 0,.int .i64 i,.int .i64 k] H (iF c (xq c i k) H):=by
 refine P4.2.calls rfl ?_
 simp only [P4,aJ]
 have k2:∀ l,(bm l).ab=bm l:=fun l=>(aC l).2.1
 have l1:=hc.kl i hi
 have l2:=hc.kl k hk
 simp +contextual only [sZ,Nat.reduceEqDiff,Nat.reduceAdd,↓reduceIte,reduceCtorEq]
 refine af (ER hc hi hk hD) ?_
 rintro r H1 ⟨rfl,rfl⟩
 simp +contextual only [sZ,Nat.reduceEqDiff,Nat.reduceAdd,Nat.reduceLT,↓reduceIte]
 cases hl:tW c i k with
 | false=>
   simp +contextual only [Bool.not_false,sZ,Nat.reduceEqDiff,↓reduceIte,reduceCtorEq]
   exact eB rfl ⟨fun h=>by simp at h,fun h=>by have:=h.1;rw [hl] at this;simp at this⟩ (Up.refl c _) hD
 | true=>
   by_cases hs:dD c i=3
   ·have d3:decide (dD c i=3)=true:=decide_eq_true hs
    have d3':decide (¬dD c i=3)=false:=decide_eq_false (fun h=>h hs)
    simp +contextual only [Bool.not_true,hs,not_true_eq_false,decide_false,sZ,Nat.reduceEqDiff,Nat.reduceAdd,↓reduceIte]
    obtain ⟨l4,l5,l6⟩:=hD.lt
    have ed:∀ X:List aa,(H1++X)[c.d]?=H1[c.d]?:=fun X=>List.getElem?_append_left l4
    refine lB (K1:=fun e G=>get e 3=.ai (.ptr c.d 0)∧∃ p q X,get e 9=.ptr p 0∧get e 10=.ptr q 0∧H1.length≤p∧H1.length≤q∧G=H1++X∧G[p]?=some (.cells [bm (c.kd i)])∧G[q]?=some (.cells [bm (c.kd k)])) ?_ ?_
    ·obtain ⟨k1,k3,k4,k5,k6⟩:=aC (c.kd i)
     obtain ⟨m1,m3,m4,m5,m6⟩:=aC (c.kd k)
     have g0:∀ (x:aa) (l:List aa),(H1++x::l)[H1.length]?=some x:=fun x l=>by simp
     have g1:∀ (x y:aa),(H1++[x,y])[H1.length + 1]?=some y:=fun x y=>by simp
     have ei:(c.nd.getD i.toNat default).snd=c.kd i:=rfl
     have ek:(c.nd.getD k.toNat default).snd=c.kd k:=rfl
     have sp:∀ x:AV,ag [AV.ah] 0 [x]=[x]:=fun x=>rfl
     have A:∃ p q X,AV.ptr H1.length 0=AV.ptr p 0∧AV.ptr (H1.length + 1) 0=AV.ptr q 0∧H1.length≤p∧H1.length≤q∧H1++[.cells [bm (c.kd i)],.cells [bm (c.kd k)]]=H1++X∧(H1++[aa.cells [bm (c.kd i)],.cells [bm (c.kd k)]])[p]?=some (.cells [bm (c.kd i)])∧(H1++[aa.cells [bm (c.kd i)],.cells [bm (c.kd k)]])[q]?=some (.cells [bm (c.kd k)]):=
      ⟨_,_,_,rfl,rfl,Nat.le_refl _,Nat.le_succ _,rfl,g0 _ _,g1 _ _⟩
     have B:∃ p q X,AV.ptr (H1.length + 1) 0=AV.ptr p 0∧AV.ptr H1.length 0=AV.ptr q 0∧H1.length≤p∧H1.length≤q∧H1++[.cells [bm (c.kd k)],.cells [bm (c.kd i)]]=H1++X∧(H1++[aa.cells [bm (c.kd k)],.cells [bm (c.kd i)]])[p]?=some (.cells [bm (c.kd i)])∧(H1++[aa.cells [bm (c.kd k)],.cells [bm (c.kd i)]])[q]?=some (.cells [bm (c.kd k)]):=
      ⟨_,_,_,rfl,rfl,Nat.le_succ _,Nat.le_refl _,rfl,g1 _ _,g0 _ _⟩
     simp +contextual only [ed,hD.d,mE,Dv,cF,bT,k2,ei,ek,k1,k4,k5,k6,m1,m4,m5,m6,List.map_cons,List.map_nil,sp,List.all_cons,List.all_nil,Bool.and_true,bG,cZ,sZ,Nat.reduceEqDiff,Nat.reduceAdd,Nat.reduceLT,↓reduceIte]
     refine ⟨hi,?_⟩
     repeat' apply And.intro
     all_goals first | exact hk.1 | exact hk.2 | exact A | exact B
    ·rintro e G ⟨e3,p,q,X,e9,e10,hp,hq,rfl,gp,gq⟩
     simp +contextual only [e3,e9,e10,gp,gq,k2,sZ,Nat.reduceEqDiff,Nat.reduceAdd,Nat.reduceLT,↓reduceIte,reduceCtorEq]
     refine af (S2 (.inl rfl:IL (bm (c.kd i)) (c.kd i)) (.inl rfl:IL (bm (c.kd k)) (c.kd k)) (by omega) (by omega) h2 (hD.sn X)) ?_
     rintro r G' ⟨us,to,Ax,rfl,hU,jn⟩
     have Yl:=Pr.mu (f:=nf c) (G:=Gt c.O.sp) Ax
     have lbl:=jw (c.kd i).length fun i=>!us.getD i false
     have lbo:=jw (c.kd k).length fun j=>decide (to.getD j 0 < 0)
     have il:IL (bm (below (c.kd i).length fun i=>!us.getD i false)) (below (c.kd i).length fun i=>!us.getD i false):=.inl rfl
     have io:IL (bm (below (c.kd k).length fun j=>decide (to.getD j 0 < 0))) (below (c.kd k).length fun j=>decide (to.getD j 0 < 0)):=.inl rfl
     have ml:∀ x∈below (c.kd i).length (fun i=>!us.getD i false),0≤x∧x < (c.kd i).length:=by
      intro x hx;obtain ⟨j,rfl,hj,_⟩:=gr.1 hx;omega
     have mo:∀ x∈below (c.kd k).length (fun j=>decide (to.getD j 0 < 0)),0≤x∧x < (c.kd k).length:=by
      intro x hx;obtain ⟨j,rfl,hj,_⟩:=gr.1 hx;omega
     generalize (below (c.kd i).length fun i=>!us.getD i false)=L at *
     generalize (below (c.kd k).length fun j=>decide (to.getD j 0 < 0))=V at *
     obtain ⟨a1,a2,a3,a4⟩:=il.one
     obtain ⟨b1,b2,b3,b4⟩:=io.one
     have hG1:∀ G2,Up c (H1++X) G2→Du c G2→Up c H1 (G2.take H1.length)∧Du c (G2.take H1.length):=fun G2 u d=>⟨u.take,d.take l4 l5 l6⟩
     have fin:∀ G2 (b:Bool),Up c (H1++X) G2→Du c G2→(b=true↔xq c i k)→bR H1.length [.t 6] [(6,.bool b)] G2 (iF c (xq c i k) H1):=by
      intro G2 b u d hb
      refine aO H1.length (Nat.le_refl _) (by rw [au,if_pos rfl];rfl) ?_
      rw [au,if_pos rfl]
      exact ⟨b,rfl,hb,(hG1 G2 u d).1,(hG1 G2 u d).2⟩
     simp +contextual only [List.map_cons,List.map_nil,k2,a1,a3,a4,il.aL,il.len (by omega),bT,sZ,Nat.reduceEqDiff,Nat.reduceAdd,Nat.reduceLT,↓reduceIte,reduceCtorEq]
     refine ⟨fun hL=>?_,fun hL=>?_⟩
     ·have gp':G'[p]?=some (.cells [bm (c.kd i)]):=by rw [hU.get p (by omega) (by omega),gp]
      have gq':G'[q]?=some (.cells [bm (c.kd k)]):=by rw [hU.get q (by omega) (by omega),gq]
      have gm:∀ {x:Int} {l:List Int},0≤x∧x < l.length→l.getD x.toNat 0∈l:=fun h=>aN (by omega)
      refine af (CL (SD.Au c G') io (by omega) 221 [] [.ai (bm L),.ai (.ptr c.d 0),.ptr p 0,.ptr q 0] rfl rfl (Q:=fun y=>¬ ∃ x∈L,R c.O (c.tm ((c.kd i).getD x.toNat 0)) (c.tm ((c.kd k).getD y.toNat 0)))
       (fun y hy G2 S3=>(ZT (.inl rfl) (.inl rfl) il (by omega) ml (mo y hy) (fun x hx=>h3 _ (gm (ml x hx)) _ (gm (mo y hy))) S3.1 (by rw [S3.2.get p (by omega) (by omega),gp']) (by rw [S3.2.get q (by omega) (by omega),gq']) ⟨by omega,by omega⟩ ⟨by omega,by omega⟩).mono fun r H' hr=>hr.sb S3) ⟨jn,Up.refl c G'⟩) ?_
      rintro r G2 ⟨z,rfl,hz,S3⟩
      simp +contextual only [sZ,Nat.reduceEqDiff,↓reduceIte,reduceCtorEq]
      refine fin G2 (!z) (hU.trans S3.2) S3.1 ?_
      have hLn:L≠[]:=by intro e;rw [e] at hL;simp at hL
      rw [xq,Yl]
      cases z with
      | true=>
        obtain ⟨y,hy,hn⟩:=hz.1 rfl
        exact ⟨fun h=>by simp at h,fun ⟨_,_,_,h⟩=>absurd (h y hy) hn⟩
      | false=>
        refine ⟨fun _=>⟨hl,hs,hLn,fun y hy=>?_⟩,fun _=>rfl⟩
        by_cases GV:∃ x∈L,R c.O (c.tm ((c.kd i).getD x.toNat 0)) (c.tm ((c.kd k).getD y.toNat 0))
        ·exact GV
        ·exact absurd (hz.2 ⟨y,hy,GV⟩) (by simp)
     ·refine fin G' false hU jn ⟨fun h=>by simp at h,fun h=>?_⟩
      have:=(Yl.1 h.2.2).1
      exact absurd (List.length_eq_zero_iff.1 (by omega)) this
   ·have d3':decide (¬dD c i=3)=true:=decide_eq_true hs
    simp +contextual only [Bool.not_true,hs,decide_true,not_false_eq_true,sZ,Nat.reduceEqDiff,↓reduceIte,reduceCtorEq]
    exact eB rfl ⟨fun h=>by simp at h,fun h=>absurd h.2.1 hs⟩ (Up.refl c _) hD
theorem ur {c:Cx} (hc:c.Ok) {i:Int} (hi:c.dP i):(c.tm i).l.map (norm c.O)=(c.kd i).map (nf c):=by
 rw [← (hc.kids i hi).1,List.map_map];rfl
theorem ES {f:Int→T} {a b:List Int}:a.map f=b.map f↔a.length=b.length∧∀ j,j < a.length→f (a.getD j 0)=f (b.getD j 0):=by
 constructor
 ·intro h
  have hl:a.length=b.length:=by simpa using congrArg List.length h
  refine ⟨hl,fun j hj=>?_⟩
  have:=congrArg (fun l=>l[j]?) h
  have hb:j < b.length:=by omega
  simpa [hj,hb] using this
 ·rintro ⟨hl,h⟩
  apply List.ext_getElem
  ·simpa using hl
  ·intro j h1 h2
   have h3:j < a.length:=by simpa using h1
   have h4:j < b.length:=by simpa using h2
   simpa [h3,h4] using h j h3
theorem ZU {c:Cx} (hc:c.Ok) {i k:Int} (hi:c.dP i) (hk:c.dP k) (h2:∀ x∈c.kd i,∀ y∈c.kd k,kx c x y) {H:List aa} (hD:Du c H):aq Tryz.prog 138 (CK c i k) H (iF c (E c.O (c.tm i) (c.tm k)) H):=by
 refine UZ.2.calls rfl ?_
 simp only [UZ,aJ,CK]
 have k2:∀ l,(bm l).ab=bm l:=fun l=>(aC l).2.1
 have l1:=hc.kl i hi
 have l2:=hc.kl k hk
 simp +contextual only [sZ,Nat.reduceEqDiff,Nat.reduceAdd,↓reduceIte,reduceCtorEq]
 refine af (pI hc hi hD) ?_
 rintro r H1 ⟨rfl,rfl⟩
 simp +contextual only [dE,fA,fB,fC,sZ,Nat.reduceEqDiff,Nat.reduceAdd,↓reduceIte,reduceCtorEq]
 refine af (pI hc hk hD) ?_
 rintro r H1 ⟨rfl,rfl⟩
 simp +contextual only [dE,fA,fB,fC,sZ,Nat.reduceEqDiff,↓reduceIte,reduceCtorEq]
 have eqf:∀ b:Bool,cU false (.bool b) (.bool b)=fun φ=>φ (.bool true):=fun b=>by funext φ;cases b <;> simp [cU]
 have fT0:=F8
 have fT1:∀ (t:T) (φ:AV→Prop),ak 1 none (.ai t.av) φ=φ (.ai (.int .i64 t.n)):=fun t φ=>by cases t;simp [ak,T.av,apart,AV.cells,AV.one,T.n]
 have ei:(c.nd.getD i.toNat default).fst=c.tm i:=rfl
 have ek:(c.nd.getD k.toNat default).fst=c.tm k:=rfl
 have hE:=Wh (O:=c.O) (a:=c.tm i) (b:=c.tm k)
 rw [ur hc hi,ur hc hk] at hE
 cases Ym:rq c i with
 | false=>
   have ki:(c.tm i).k≠2:=of_decide_eq_false Ym
   cases ET:rq c k with
   | false=>
     have kk:(c.tm k).k≠2:=of_decide_eq_false ET
     simp +contextual only [Bool.not_false,hD.d,mE,ZI,fT1,cF,ei,ek,sZ,Nat.reduceEqDiff,Nat.reduceAdd,Nat.reduceLT,↓reduceIte,reduceCtorEq]
     refine ⟨hi,hk,eB rfl ?_ (Up.refl c _) hD⟩
     rw [hE,decide_eq_true_eq]
     exact ⟨fun h=>.inr ⟨ki,kk,h⟩,fun h=>by rcases h with h | h;exact absurd h.1 ki;exact h.2.2⟩
   | true=>
     have kk:(c.tm k).k=2:=of_decide_eq_true ET
     simp +contextual only [Bool.not_false,sZ,Nat.reduceEqDiff,↓reduceIte,reduceCtorEq]
     refine eB rfl ?_ (Up.refl c _) hD
     rw [hE]
     exact ⟨fun h=>by simp at h,fun h=>by rcases h with h | h;exact absurd h.1 ki;exact absurd kk h.2.1⟩
 | true=>
   have ki:(c.tm i).k=2:=of_decide_eq_true Ym
   cases ET:rq c k with
   | false=>
     have kk:(c.tm k).k≠2:=of_decide_eq_false ET
     simp +contextual only [Bool.not_false,Bool.not_true,sZ,Nat.reduceEqDiff,↓reduceIte,reduceCtorEq]
     refine eB rfl ?_ (Up.refl c _) hD
     rw [hE]
     exact ⟨fun h=>by simp at h,fun h=>by rcases h with h | h;exact absurd h.2.1 kk;exact absurd ki h.1⟩
   | true=>
     have kk:(c.tm k).k=2:=of_decide_eq_true ET
     have epi:pH c i=c.O.pl (c.tm i).n:=if_pos ki
     have epk:pH c k=c.O.pl (c.tm k).n:=if_pos kk
     have esi:dD c i=c.O.sp (c.O.pl (c.tm i).n):=if_pos ki
     have Yn:E c.O (c.tm i) (c.tm k)↔pH c i=pH c k∧(if dD c i=3 then ((c.kd i).map (nf c)).Perm ((c.kd k).map (nf c)) else (c.kd i).map (nf c)=(c.kd k).map (nf c)):=by
      rw [hE,epi,epk,esi]
      exact ⟨fun h=>by rcases h with h | h;exact h.2.2;exact absurd ki h.1,fun h=>.inl ⟨ki,kk,h⟩⟩
     have eki:(c.nd.getD i.toNat default).snd=c.kd i:=rfl
     have ekk:(c.nd.getD k.toNat default).snd=c.kd k:=rfl
     have ii:IL (bm (c.kd i)) (c.kd i):=.inl rfl
     have ik:IL (bm (c.kd k)) (c.kd k):=.inl rfl
     have hlen:E c.O (c.tm i) (c.tm k)→(c.kd i).length=(c.kd k).length:=by
      intro h
      have h:=(Yn.1 h).2
      split at h
      ·simpa using h.length_eq
      ·simpa using congrArg List.length h
     simp +contextual only [Bool.not_true,hD.d,mE,Dv,cF,bT,k2,eki,ekk,ii.aL,ik.aL,ii.len (by omega),ik.len (by omega),sZ,Nat.reduceEqDiff,Nat.reduceAdd,Nat.reduceLT,↓reduceIte,reduceCtorEq]
     refine ⟨hi,hk,fun hp=>⟨fun hn=>?_,fun hlk=>⟨fun h3=>?_,fun h3=>?_⟩⟩,fun hp=>?_⟩
     ·refine eB rfl ⟨fun h=>by simp at h,fun h=>absurd (hlen h) (by omega)⟩ (Up.refl c _) hD
     ·refine af (S2 ii ik (by omega) (by omega) h2 hD) ?_
      rintro r G ⟨us,to,Ax,rfl,hU,jn⟩
      have TR:=Pr.perm (f:=nf c) Ax (by omega)
      have lbl:=jw (c.kd i).length fun i=>!us.getD i false
      have il:IL (bm (below (c.kd i).length fun i=>!us.getD i false)) (below (c.kd i).length fun i=>!us.getD i false):=.inl rfl
      generalize (below (c.kd i).length fun i=>!us.getD i false)=L at *
      simp +contextual only [k2,il.aL,il.len (by omega),sZ,Nat.reduceEqDiff,Nat.reduceAdd,Nat.reduceLT,↓reduceIte,reduceCtorEq]
      refine eB rfl ?_ hU jn
      rw [Yn,if_pos h3,TR,decide_eq_true_eq]
      exact ⟨fun h=>⟨hp,List.length_eq_zero_iff.1 (by omega)⟩,fun h=>by rw [h.2];rfl⟩
     ·refine af (Wr (SD.Au c _) ii ik (by omega) (by omega) 79 [.ptr c.d 0] [] rfl rfl (Q:=fun x y=>E c.O (c.tm x) (c.tm y)) (fun x hx y hy G hG=>(h2 x hx y hy G hG.1).mono fun r H' hr=>hr.sb hG) ⟨hD,Up.refl c _⟩) ?_
      rintro r G ⟨b,rfl,hb,hG⟩
      simp +contextual only [sZ,↓reduceIte,reduceCtorEq]
      refine eB rfl ?_ hG.2 hG.1
      rw [Yn,if_neg h3,hb]
      have:=ES (f:=nf c) (a:=c.kd i) (b:=c.kd k)
      exact ⟨fun h=>⟨hp,this.2 h⟩,fun h=>this.1 h.2⟩
     ·exact eB rfl ⟨fun h=>by simp at h,fun h=>absurd (Yn.1 h).1 hp⟩ (Up.refl c _) hD
end Go.aH
end
section
set_option maxRecDepth 100000
namespace Go.aH
open Go Go.Proofs Go.fm
def dY:AV:=.agg [.fG,.fn (.func 183) [] [],.fn (.func 184) [] [],.fn (.func 185) [] [],.fn (.func 186) [] []]
theorem ZV (φ:AV→Prop):cu [.fG,.fG,.fG,.fG,.fG] [(1,1,.fn (.func 183) [] []),(2,1,.fn (.func 184) [] []),(3,1,.fn (.func 185) [] []),(4,1,.fn (.func 186) [] [])] φ=φ dY:=by
 simp only [cu,gI,eq_iff_iff]
 constructor
 ·rintro ⟨_,_,_,_,_,_,_,_,_,_,_,_,h⟩;exact h
 ·exact fun h=>⟨rfl,rfl,by decide,rfl,rfl,by decide,rfl,rfl,by decide,rfl,rfl,by decide,h⟩
theorem Az:dY.val=true∧dY.cells.length=5∧dY.cells.all AV.one=true∧(∀ n,aj n (dY.cells.map AV.ab)=true)∧ag [AV.fG,.fG,.fG,.fG,.fG] 0 (dY.cells.map AV.ab)=dY.cells:=⟨rfl,rfl,rfl,fun _=>rfl,rfl⟩
theorem KE:Pure Tryz.prog 136 [] dY:=by
 refine fun H=>UY.2.calls rfl ?_
 simp only [UY,aJ]
 obtain ⟨r1,r2,r3,r4,r5⟩:=Az
 simp +contextual only [ZV,r1,r2,r3,r4,r5,sZ,Nat.reduceAdd,↓reduceIte,reduceCtorEq]
 have e:c8 (some (aa.cells dY.cells)) (some 5) 0=fun φ=>(5≤5∧φ dY):=rfl
 rw [e]
 exact ⟨Nat.le_refl _,PO (n0:=H.length) (by simp) rfl rfl ⟨rfl,rfl⟩⟩
theorem T6 (j:Nat) (f:AV) (h:dY.cells[j]?=some f) (hj:j < 5) (φ:AV→Prop) (hd:f.drop=f):bP 5 dY (.int .i64 (j:Int)) φ=φ f:=by
 simp only [bP,dY,Int.toNat_natCast,eq_iff_iff]
 have e:[AV.fG,.fn (.func 183) [] [],.fn (.func 184) [] [],.fn (.func 185) [] [],.fn (.func 186) [] []].getD j .any=f:=by
  rw [List.getD_eq_getElem?_getD];show (dY.cells[j]?).getD .any=f;rw [h];rfl
 rw [e,hd]
 exact ⟨fun h=>h.2.2.2,fun h=>⟨rfl,by omega,hj,h⟩⟩
def KF (c:Cx) (i k:Int):Prop:=∃ x∈c.kd i,E c.O (c.tm x) (c.tm k)∨R c.O (c.tm x) (c.tm k)
def sx (c:Cx) (i k:Int):Prop:=rq c k=true∧pH c k < pH c i∧∀ x∈c.kd k,R c.O (c.tm i) (c.tm x)
def gR (c:Cx) (i k:Int) (n:Nat):Prop:=(n=1∧KF c i k)∨(n=2∧sx c i k)∨(n=3∧Av c i k)∨(n=4∧xq c i k)
structure F9 (c:Cx) (i k:Int):Prop where
 r1:∀ H,Du c H→aq Tryz.prog 183 [.ptr c.d 0,.int .i64 i,.int .i64 k] H (iF c (KF c i k) H)
 r2:∀ H,Du c H→aq Tryz.prog 184 [.ptr c.d 0,.int .i64 i,.int .i64 k] H (iF c (sx c i k) H)
 r3:∀ H,Du c H→aq Tryz.prog 185 [.ptr c.d 0,.int .i64 i,.int .i64 k] H (iF c (Av c i k) H)
 r4:∀ H,Du c H→aq Tryz.prog 186 [.ptr c.d 0,.int .i64 i,.int .i64 k] H (iF c (xq c i k) H)
theorem F9.at {c:Cx} {i k:Int} (h:F9 c i k) {n:Nat} (h1:0 < n) (h2:n < 5) {H:List aa} (hD:Du c H):aq Tryz.prog (182 + n) [.ptr c.d 0,.int .i64 i,.int .i64 k] H (iF c (gR c i k n) H):=by
 have:n=1∨n=2∨n=3∨n=4:=by omega
 have key:∀ {Q Q':Prop} {f:Nat},aq Tryz.prog f [.ptr c.d 0,.int .i64 i,.int .i64 k] H (iF c Q H)→(Q↔Q')→aq Tryz.prog f [.ptr c.d 0,.int .i64 i,.int .i64 k] H (iF c Q' H):=by
  intro Q Q' f h e
  refine h.mono ?_
  rintro r H' ⟨b,h1,h2,h3,h4⟩
  exact ⟨b,h1,h2.trans e,h3,h4⟩
 rcases this with rfl | rfl | rfl | rfl
 ·exact key (h.r1 H hD) (by simp [gR])
 ·exact key (h.r2 H hD) (by simp [gR])
 ·exact key (h.r3 H hD) (by simp [gR])
 ·exact key (h.r4 H hD) (by simp [gR])
theorem ZW {c:Cx} (hc:c.Ok) {i k:Int} (hi:c.dP i) (hr:F9 c i k) {H:List aa} (hD:Du c H):aq Tryz.prog 134 (CK c i k) H (iF c (rq c i=true∧∃ n,n < 5∧gR c i k n) H):=by
 refine UW.2.calls rfl ?_
 simp only [UW,aJ,CK]
 simp +contextual only [sZ,Nat.reduceEqDiff,Nat.reduceAdd,↓reduceIte,reduceCtorEq]
 refine af (pI hc hi hD) ?_
 rintro r H1 ⟨rfl,rfl⟩
 simp +contextual only [dE,fA,fB,fC,sZ,Nat.reduceEqDiff,↓reduceIte,reduceCtorEq]
 cases hb:rq c i with
 | false=>
   simp +contextual only [Bool.not_false,sZ,↓reduceIte,reduceCtorEq]
   exact eB rfl ⟨fun h=>by simp at h,fun h=>absurd h.1 (by simp)⟩ (Up.refl c _) hD
 | true=>
   simp +contextual only [Bool.not_true,sZ]
   refine ae KE ?_
   simp +contextual only [sZ,Nat.reduceEqDiff,↓reduceIte,reduceCtorEq]
   refine aE 5 (fun n (G:List aa)=>SD c H1 G∧∀ m,m < n→¬ gR c i k m)
    (fun n G=>[(0,.ai (.ptr c.d 0)),(1,.ai (.int .i64 i)),(2,.ai (.int .i64 k)),(18,dY),(19,.int .i64 n)]) (fun n G=>G) H1 ⟨⟨⟨hD,Up.refl c _⟩,fun m hm=>by omega⟩,aA _ _ _⟩ fun n G hn hI=>?_
   obtain ⟨hG,j3⟩:=hI
   by_cases h0:n=0
   ·subst h0
    have e0:=T6 0 .fG rfl (by decide)
    have d1:decide (((0:Nat):Int) < 5)=true:=rfl
    have d2:decide ((0:Int) < ((0:Nat):Int))=false:=rfl
    simp +contextual only [mq,e0 _ rfl,d1,d2,sZ,Nat.reduceEqDiff,↓reduceIte,reduceCtorEq]
    refine ⟨1,G,⟨by omega,hG,fun m hm=>?_⟩,by omega,aI rfl rfl⟩
    intro h
    simp only [gR] at h
    omega
   ·by_cases h5:n < 5
    ·have hf:dY.cells[n]?=some (.fn (.func (182 + n)) [] []):=by
      have:n=1∨n=2∨n=3∨n=4:=by omega
      rcases this with rfl | rfl | rfl | rfl <;> rfl
     have en:=T6 n _ hf h5
     have d1:decide ((n:Int) < 5)=true:=decide_eq_true (by omega)
     have d2:decide ((0:Int) < n)=true:=decide_eq_true (by omega)
     simp +contextual only [mq,en _ rfl,d1,d2,sZ,Nat.reduceEqDiff,Nat.reduceAdd,↓reduceIte,reduceCtorEq]
     refine af (hr.at (by omega) h5 hG.1) ?_
     rintro r G' ⟨b,rfl,eh,hU,jn⟩
     have ey:SD c H1 G':=⟨jn,hG.2.trans hU⟩
     cases b with
     | true=>
       simp +contextual only [sZ,Nat.reduceEqDiff,↓reduceIte,reduceCtorEq]
       exact eB rfl ⟨fun _=>⟨rfl,n,h5,eh.1 rfl⟩,fun _=>rfl⟩ ey.2 ey.1
     | false=>
       simp +contextual only [sZ,Nat.reduceEqDiff,↓reduceIte,reduceCtorEq]
       refine ⟨n + 1,G',⟨by omega,ey,fun m hm=>?_⟩,by omega,aI (by rw [ax n (by omega)]) rfl⟩
       by_cases e:m=n
       ·subst e;exact fun h=>absurd (eh.2 h) (by simp)
       ·exact j3 m (by omega)
    ·have d1:decide ((n:Int) < 5)=false:=decide_eq_false (by omega)
     simp +contextual only [d1,sZ,Nat.reduceEqDiff,↓reduceIte,reduceCtorEq]
     exact eB rfl ⟨fun h=>by simp at h,fun ⟨_,m,hm,h⟩=>absurd h (j3 m (by omega))⟩ hG.2 hG.1
theorem jy {f:Int→T} {s:Int} {l:List Int}:side s (l.map f)=(bC s l).map f:=by unfold side bC;split <;> simp
theorem IC.lx {f:Int→T} {G:T→T→Prop} (irr:∀ x,¬ G x x):∀ {a b:List Int} {n:Nat},IC (fun x y=>f x=f y) a b n→(Lx G (a.map f) (b.map f)↔n < a.length∧(n=b.length∨G (f (a.getD n 0)) (f (b.getD n 0))))
 | [],b,n,h=>by simp [Lx]
 | x::r,[],n,h=>by
   have:=h.lb
   simp at this
   subst this
   simp [Lx]
 | x::r,y::s,0,h=>by
   have eM:¬ f x=f y:=h.no (by simp) (by simp)
   simp [Lx,eM]
 | x::r,y::s,m + 1,h=>by
   have ZJ:f x=f y:=h.eq 0 (by omega)
   have ih:=IC.lx irr (a:=r) (b:=s) (n:=m) ⟨by have:=h.la;simp at this;omega,by have:=h.lb;simp at this;omega,fun j hj=>h.eq (j + 1) (by omega),fun h1 h2=>h.no (by simpa using h1) (by simpa using h2)⟩
   simp only [List.map_cons,Lx,ZJ,true_and,List.length_cons,List.getD_cons_succ,Nat.add_lt_add_iff_right,Nat.add_right_cancel_iff]
   rw [ih]
   exact ⟨fun h=>by rcases h with h | h;exact h;exact absurd h (irr _),fun h=>.inl h⟩
theorem wb {Q:Int→Int→Prop}:∀ (a b:List Int),∃ n,IC Q a b n
 | [],b=>⟨0,by simp,by simp,fun j h=>by omega,fun h=>by simp at h⟩
 | x::r,[]=>⟨0,by simp,by simp,fun j h=>by omega,fun _ h=>by simp at h⟩
 | x::r,y::s=>by
   by_cases hq:Q x y
   ·obtain ⟨n,h⟩:=wb (Q:=Q) r s
    refine ⟨n + 1,by have:=h.la;simp;omega,by have:=h.lb;simp;omega,fun j hj=>?_,fun h1 h2=>h.no (by simpa using h1) (by simpa using h2)⟩
    cases j with
    | zero=>exact hq
    | succ j=>exact h.eq j (by omega)
   ·exact ⟨0,by simp,by simp,fun j h=>by omega,fun _ _=>hq⟩
theorem sy {c:Cx} (hc:c.Ok) {i k:Int} (hi:c.dP i) (hk:c.dP k):(rq c i=true∧∃ n,n < 5∧gR c i k n)↔R c.O (c.tm i) (c.tm k):=by
 rw [qM,ur hc hi,ur hc hk]
 have Ym:rq c i=true↔(c.tm i).k=2:=by simp [rq]
 have ET:rq c k=true↔(c.tm k).k=2:=by simp [rq]
 rw [Ym]
 refine and_congr_right fun Yo=>?_
 have epi:pH c i=c.O.pl (c.tm i).n:=if_pos Yo
 have esi:dD c i=c.O.sp (c.O.pl (c.tm i).n):=if_pos Yo
 have lk:=(hc.kids k hk).1
 have li:=(hc.kids i hi).1
 have all:(∀ x∈c.kd k,R c.O (c.tm i) (c.tm x))↔∀ y∈(c.tm k).l,R c.O (c.tm i) y:=by rw [← lk];simp
 have sub:KF c i k↔∃ x∈(c.tm i).l,E c.O x (c.tm k)∨R c.O x (c.tm k):=by
  rw [← li];unfold KF
  constructor
  ·rintro ⟨x,hx,h⟩;exact ⟨_,List.mem_map.2 ⟨x,hx,rfl⟩,h⟩
  ·rintro ⟨y,hy,h⟩;obtain ⟨x,hx,rfl⟩:=List.mem_map.1 hy;exact ⟨x,hx,h⟩
 have lex:Av c i k↔(c.tm k).k=2∧c.O.pl (c.tm k).n=c.O.pl (c.tm i).n∧c.O.sp (c.O.pl (c.tm i).n)≠3∧(∀ y∈(c.tm k).l,R c.O (c.tm i) y)∧Lx (Gt c.O.sp) (side (c.O.sp (c.O.pl (c.tm i).n)) ((c.kd i).map (nf c))) (side (c.O.sp (c.O.pl (c.tm i).n)) ((c.kd k).map (nf c))):=by
  unfold Av
  rw [ky,all,← esi,jy,jy]
  obtain ⟨n,hn⟩:=wb (Q:=fun x y=>nf c x=nf c y) (bC (dD c i) (c.kd i)) (bC (dD c i) (c.kd k))
  have ZX:=IC.lx (G:=Gt c.O.sp) (fun x=>An x) hn
  rw [ZX]
  constructor
  ·rintro ⟨⟨_,h1,h2⟩,h3,h4,m,hm,h5⟩
   have:=hm.SY hn
   subst this
   exact ⟨h1,h2.symm,h3,h4,h5⟩
  ·rintro ⟨h1,h2,h3,h4,h5⟩
   exact ⟨⟨Yo,h1,h2.symm⟩,h3,h4,n,hn,h5⟩
 have mul:xq c i k↔(c.tm k).k=2∧c.O.pl (c.tm k).n=c.O.pl (c.tm i).n∧c.O.sp (c.O.pl (c.tm i).n)=3∧Mu (Gt c.O.sp) ((c.kd i).map (nf c)) ((c.kd k).map (nf c)):=by
  unfold xq
  rw [ky,← esi]
  exact ⟨fun ⟨⟨_,h1,h2⟩,h3⟩=>⟨h1,h2.symm,h3⟩,fun ⟨h1,h2,h3⟩=>⟨⟨Yo,h1,h2.symm⟩,h3⟩⟩
 have pla:sx c i k↔(c.tm k).k=2∧c.O.pl (c.tm k).n < c.O.pl (c.tm i).n∧∀ y∈(c.tm k).l,R c.O (c.tm i) y:=by
  unfold sx
  rw [all,ET,epi]
  refine and_congr_right fun h=>?_
  rw [show pH c k=c.O.pl (c.tm k).n from if_pos h]
 have e:(∃ n,n < 5∧gR c i k n)↔KF c i k∨sx c i k∨Av c i k∨xq c i k:=by
  constructor
  ·rintro ⟨n,_,h | h | h | h⟩
   ·exact .inl h.2
   ·exact .inr (.inl h.2)
   ·exact .inr (.inr (.inl h.2))
   ·exact .inr (.inr (.inr h.2))
  ·rintro (h | h | h | h)
   ·exact ⟨1,by omega,.inl ⟨rfl,h⟩⟩
   ·exact ⟨2,by omega,.inr (.inl ⟨rfl,h⟩)⟩
   ·exact ⟨3,by omega,.inr (.inr (.inl ⟨rfl,h⟩))⟩
   ·exact ⟨4,by omega,.inr (.inr (.inr ⟨rfl,h⟩))⟩
 rw [e,sub,pla,lex,mul]
 refine or_congr_right ?_
 constructor
 ·rintro (⟨h1,h2⟩ | ⟨h1,h2⟩ | ⟨h1,h2⟩)
  ·exact ⟨h1,.inl h2⟩
  ·exact ⟨h1,.inr (.inl h2)⟩
  ·exact ⟨h1,.inr (.inr h2)⟩
 ·rintro ⟨h1,h2 | h2 | h2⟩
  ·exact .inl ⟨h1,h2⟩
  ·exact .inr (.inl ⟨h1,h2⟩)
  ·exact .inr (.inr ⟨h1,h2⟩)
theorem iF.iff {c:Cx} {Q Q':Prop} {f:Nat} {args:List AV} {H:List aa} (h:aq Tryz.prog f args H (iF c Q H)) (e:Q↔Q'):aq Tryz.prog f args H (iF c Q' H):=by
 refine h.mono ?_
 rintro r H' ⟨b,h1,h2,h3,h4⟩
 exact ⟨b,h1,h2.trans e,h3,h4⟩
theorem CR {c:Cx} (hc:c.Ok):∀ (N:Nat) (i k:Int),c.dP i→c.dP k→wt (c.tm i) + wt (c.tm k)≤N→kx c i k∧hJ c i k:=by
 intro N
 induction N with
 | zero=>intro i k _ _ h;have:=gg (c.tm i);omega
 | succ N ih=>
 intro i k hi hk hN
 have hx:∀ {j:Int},c.dP j→∀ x∈c.kd j,c.dP x∧wt (c.tm x) < wt (c.tm j):=fun {j} hj x hx=>by
  have h1:=hc.kids j hj
  exact ⟨h1.2 x hx,cK (by rw [← h1.1];exact List.mem_map.2 ⟨x,hx,rfl⟩)⟩
 have s1:∀ x∈c.kd i,∀ y∈c.kd k,kx c x y:=fun x h y h'=>(ih x y (hx hi x h).1 (hx hk y h').1 (by have:=(hx hi x h).2;have:=(hx hk y h').2;omega)).1
 have m1:∀ x∈c.kd i,∀ y∈c.kd k,hJ c x y:=fun x h y h'=>(ih x y (hx hi x h).1 (hx hk y h').1 (by have:=(hx hi x h).2;have:=(hx hk y h').2;omega)).2
 have s2:∀ x∈c.kd i,kx c x k:=fun x h=>(ih x k (hx hi x h).1 hk (by have:=(hx hi x h).2;omega)).1
 have m2:∀ x∈c.kd i,hJ c x k:=fun x h=>(ih x k (hx hi x h).1 hk (by have:=(hx hi x h).2;omega)).2
 have m3:∀ y∈c.kd k,hJ c i y:=fun y h=>(ih i y hi (hx hk y h).1 (by have:=(hx hk y h).2;omega)).2
 refine ⟨c79 hc fun H hD=>ZU hc hi hk s1 hD,c76 hc fun H hD=>iF.iff (ZW hc hi ⟨fun H hD=>Ws hc hi s2 m2 hD,fun H hD=>Wt hc hi hk m3 hD,fun H hD=>Wv hc hi hk m3 s1 m1 hD,fun H hD=>WB hc hi hk s1 m1 hD⟩ hD) (sy hc hi hk)⟩
theorem jW {c:Cx} (hc:c.Ok) {i k:Int} (hi:c.dP i) (hk:c.dP k):kx c i k:=(CR hc _ i k hi hk (Nat.le_refl _)).1
theorem jX {c:Cx} (hc:c.Ok) {i k:Int} (hi:c.dP i) (hk:c.dP k):hJ c i k:=(CR hc _ i k hi hk (Nat.le_refl _)).2
end Go.aH
end
section
set_option maxRecDepth 100000
namespace Go.aH
open Go Go.Proofs Go.fm
def Yp (nd:List Nd) (t:T) (i:Nat):Prop:=∀ j,j < wt t→nd[i + j]?=(vZ t i)[j]?
def KG (nd:List Nd) (l:List T) (i:Nat):Prop:=∀ j,j < gW l→nd[i + j]?=(da l i)[j]?
theorem Yp.head {nd:List Nd} {t:T} {i:Nat} (h:Yp nd t i):nd[i]?=some (t,aT t.l (i + 1))∧KG nd t.l (i + 1):=by
 have hw:=CG t
 constructor
 ·have:=h 0 (gg t)
  rw [oG] at this
  simpa using this
 ·intro j hj
  have:=h (j + 1) (by omega)
  rw [oG,List.getElem?_cons_succ] at this
  rw [← this];congr 1;omega
theorem KG.cons {nd:List Nd} {x:T} {r:List T} {i:Nat} (h:KG nd (x::r) i):Yp nd x i∧KG nd r (i + wt x):=by
 constructor
 ·intro j hj
  have:=h j (by rw [gW];omega)
  rw [da,List.getElem?_append_left (by rw [qN];exact hj)] at this
  exact this
 ·intro j hj
  have:=h (wt x + j) (by rw [gW];omega)
  rw [da,List.getElem?_append_right (by rw [qN];omega),qN] at this
  rw [show wt x + j - wt x=j by omega] at this
  rw [← this];congr 1;omega
theorem KG.kids {nd:List Nd}:∀ {l:List T} {i:Nat},KG nd l i→(aT l i).map (fun k=>(nd.getD k.toNat default).1)=l∧∀ k∈aT l i,0≤k∧k < nd.length
 | [],i,_=>⟨rfl,fun k h=>by simp [aT] at h⟩
 | x::r,i,h=>by
   obtain ⟨h1,h2⟩:=h.cons
   obtain ⟨h3,h4⟩:=KG.kids h2
   have h5:=h1.head.1
   have h6:=(List.getElem?_eq_some_iff.1 h5).1
   refine ⟨?_,?_⟩
   ·rw [aT,List.map_cons,h3]
    congr 1
    rw [List.getD_eq_getElem?_getD,Int.toNat_natCast,h5];rfl
   ·intro k hk
    rw [aT] at hk
    rcases List.mem_cons.1 hk with rfl | hk
    ·omega
    ·exact h4 k hk
def Gd (nd:List Nd) (p:Int→Prop) (i:Nat):Prop:=∃ t,nd[i]?=some (t,aT t.l (i + 1))∧KG nd t.l (i + 1)∧um p t
mutual
theorem gdT {nd:List Nd} {p:Int→Prop}:∀ (t:T) (i:Nat),Yp nd t i→um p t→∀ j,j < wt t→Gd nd p (i + j)
 | .mk k n l,i,h,ha,j,hj=>by
   obtain ⟨h1,h2⟩:=h.head
   cases j with
   | zero=>exact ⟨_,h1,h2,ha⟩
   | succ j=>
     have:=ZY l (i + 1) h2 (fun x hx=>ha.mem hx) j (by rw [wt] at hj;omega)
     rw [show i + (j + 1)=i + 1 + j by omega];exact this
theorem ZY {nd:List Nd} {p:Int→Prop}:∀ (l:List T) (i:Nat),KG nd l i→(∀ x∈l,um p x)→∀ j,j < gW l→Gd nd p (i + j)
 | [],i,h,ha,j,hj=>by simp [gW] at hj
 | x::r,i,h,ha,j,hj=>by
   obtain ⟨h1,h2⟩:=h.cons
   by_cases hx:j < wt x
   ·exact gdT x i h1 (ha x List.mem_cons_self) j hx
   ·have:=ZY r (i + wt x) h2 (fun y hy=>ha y (List.mem_cons_of_mem _ hy)) (j - wt x) (by rw [gW] at hj;omega)
    rw [show i + j=i + wt x + (j - wt x) by omega];exact this
end
def gE (ps ss:List Int) (ts:List T) (n:Nat):Cx:=⟨ps,ss,da ts 0,n + 2,n,n + 1⟩
theorem OA (ts:List T):KG (da ts 0) ts 0:=fun j _=>by rw [Nat.zero_add]
theorem P5 {ps ss:List Int} (hv:Va ps ss) {ts:List T} (eM:ts≠[]) (hw:gW ts≤100000000) (ha:∀ t∈ts,um (fun n=>0≤n∧n < ps.length) t) (n:Nat):(gE ps ss ts n).Ok:=by
 have hl:(da ts 0).length=gW ts:=gQ ts 0
 have gd:∀ i,(gE ps ss ts n).dP i→∃ t,(da ts 0).getD i.toNat default=(t,aT t.l (i.toNat + 1))∧KG (da ts 0) t.l (i.toNat + 1)∧um (fun n=>0≤n∧n < ps.length) t:=by
  intro i hi
  have mY:i.toNat < gW ts:=by have:=hi.1;have:=hi.2;simp only [gE] at *;omega
  obtain ⟨t,h1,h2,h3⟩:=ZY ts 0 (OA ts) ha i.toNat mY
  rw [Nat.zero_add] at h1 h2
  exact ⟨t,by rw [List.getD_eq_getElem?_getD,h1];rfl,h2,h3⟩
 refine ⟨hv,?_,by simp [gE],by simp [gE],by simp [gE],fun i hi=>?_,fun i hi=>?_,fun i hi hk=>?_⟩
 ·intro e
  have e:da ts 0=[]:=e
  rw [e] at hl
  have:=iE ts
  have h0:ts.length=0:=by simp at hl;omega
  exact eM (List.length_eq_zero_iff.1 h0)
 ·obtain ⟨t,h1,h2,h3⟩:=gd i hi
  show ((da ts 0).getD i.toNat default).2.length≤_
  rw [h1,cE]
  by_cases h0:t.l=[]
  ·rw [h0];simp
  ·have:gW t.l≤(da ts 0).length:=by
    have hp:0 < gW t.l:=by
     have:=iE t.l
     have:=List.length_pos_iff.2 h0
     omega
    have:=h2 (gW t.l - 1) (by omega)
    have h4:(da t.l (i.toNat + 1))[gW t.l - 1]?≠none:=by rw [List.getElem?_eq_getElem (by rw [gQ];omega)];simp
    rw [← this] at h4
    have h5:i.toNat + 1 + (gW t.l - 1) < (da ts 0).length:=by
     apply Decidable.byContradiction
     intro hc
     exact h4 (List.getElem?_eq_none (by omega))
    omega
   have:=iE t.l
   omega
 ·obtain ⟨t,h1,h2,h3⟩:=gd i hi
  have hk:=h2.kids
  have e1:(gE ps ss ts n).kd i=aT t.l (i.toNat + 1):=by show ((da ts 0).getD i.toNat default).2=_;rw [h1]
  have e2:(gE ps ss ts n).tm i=t:=by show ((da ts 0).getD i.toNat default).1=_;rw [h1]
  rw [e1,e2]
  exact hk
 ·obtain ⟨t,h1,h2,h3⟩:=gd i hi
  have e2:(gE ps ss ts n).tm i=t:=by show ((da ts 0).getD i.toNat default).1=_;rw [h1]
  rw [e2] at hk ⊢
  exact h3.op hk
theorem yG (ps ss:List Int) {ts:List T} (eM:ts≠[]) (H:List aa):Du (gE ps ss ts H.length) (H++[.map [],.map [],jV ps ss (da ts 0) H.length (H.length + 1)]):=by
 have hn:da ts 0≠[]:=by
  intro e
  have hl:(da ts 0).length=gW ts:=gQ ts 0
  have:=iE ts
  rw [e] at hl
  have h0:ts.length=0:=by simp at hl;omega
  exact eM (List.length_eq_zero_iff.1 h0)
 refine ⟨?_,⟨[],?_,fun p hp=>by simp at hp⟩,⟨[],?_,fun p hp=>by simp at hp⟩⟩
 ·show (H++[aa.map [],.map [],jV ps ss (da ts 0) H.length (H.length + 1)])[H.length + 2]?=_
  rw [jV,nV,if_neg hn]
  simp [gE]
 ·show (H++[aa.map [],.map [],jV ps ss (da ts 0) H.length (H.length + 1)])[H.length]?=_
  simp [mD]
 ·show (H++[aa.map [],.map [],jV ps ss (da ts 0) H.length (H.length + 1)])[H.length + 1]?=_
  simp [mD]
theorem tG {ps ss:List Int} {ts:List T} {n j:Nat} (hj:j < ts.length):(gE ps ss ts n).dP ((aT ts 0).getD j 0)∧(gE ps ss ts n).tm ((aT ts 0).getD j 0)=ts.getD j default:=by
 obtain ⟨h1,h2⟩:=(OA ts).kids
 have hl:=cE ts 0
 refine ⟨h2 _ (aN (by omega)),?_⟩
 have:=congrArg (fun l=>l[j]?) h1
 have uq:j < (aT ts 0).length:=by omega
 simp only [List.getElem?_map,List.getElem?_eq_getElem uq,List.getElem?_eq_getElem hj,Option.map_some,Option.some.injEq] at this
 have e1:(aT ts 0).getD j 0=(aT ts 0)[j]:=by simp [uq]
 have e2:ts.getD j default=ts[j]:=by simp [hj]
 rw [e1,e2]
 exact this
end Go.aH
end
section
set_option maxRecDepth 100000
namespace Go.aH
open Go Go.Proofs
theorem ixs (s:ByteArray) (k:IntKind) (i:Nat) (φ:AV→Prop):bH (.str s) (.int k (i:Int)) φ=(i < s.size∧φ (.int .u8 (s.data.toList.getD i 0).toNat)):=by
 simp only [bH,Int.toNat_natCast,eq_iff_iff]
 exact ⟨fun h=>h.2,fun h=>⟨by omega,h⟩⟩
theorem KH (a b:ByteArray) (φ:AV→Prop):de .eql (.str a) (.str b) φ=φ (.bool (decide (a=b))):=by
 simp [de]
theorem Ga {g:Nat} {f:List AV→Option AV} (h:tw Tryz.prog g (.vD f)) {xs:List AV} {r:AV} (hr:f xs=some r):Pure Tryz.prog g xs r:=fun H=>h xs r H hr
theorem ZZ (s:ByteArray) (c:Int):Pure Tryz.prog 238 [.str s,.int .u8 c] (.int .i64 (firstIdx s c.toNat.toUInt8)):=Ga VD rfl
def pJ (s:ByteArray) (c:Int):Int:=s.foldl (fun (n:Int) x=>if x == c.toNat.toUInt8 then n + 1 else n) ((0:Nat):Int)
theorem Z0 (s:ByteArray) (c:Int):Pure Tryz.prog 231 [.str s,.int .u8 c] (.int .i64 (pJ s c)):=Ga VE (by simp only [countP,pJ])
theorem WC (s:ByteArray) (c:Int):Pure Tryz.prog 228 [.str s,.int .u8 c] (.int .i64 (firstIdx s c.toNat.toUInt8)):=by
 refine fun H=>MY.2.calls rfl ?_
 simp only [MY,aJ]
 simp +contextual only [z5,sZ,Nat.reduceEqDiff,Nat.reduceAdd,↓reduceIte,reduceCtorEq]
 refine ae (ZZ s c) ?_
 simp +contextual only [sZ,↓reduceIte,reduceCtorEq]
 exact bh rfl rfl
theorem Z1 (s:ByteArray) (c:Int):Pure Tryz.prog 190 [.str s,.int .u8 c] (.int .i64 (firstIdx s c.toNat.toUInt8)):=by
 refine fun H=>ML.2.calls rfl ?_
 simp only [ML,aJ]
 simp +contextual only [z5,sZ,Nat.reduceEqDiff,Nat.reduceAdd,↓reduceIte,reduceCtorEq]
 refine ae (WC s c) ?_
 simp +contextual only [sZ,↓reduceIte,reduceCtorEq]
 exact bh rfl rfl
def us:ByteArray:=⟨#[95]⟩
theorem Yq (k:IntKind) (φ:AV→Prop):bH (.str us) (.int k 0) φ=φ (.int .u8 95):=by
 simp only [bH,eq_iff_iff]
 exact ⟨fun h=>h.2.2,fun h=>⟨by omega,by decide,h⟩⟩
def S4 (s:ByteArray):Int:=if s=us then 0 else firstIdx s 95
theorem Z2 (s:ByteArray):Pure Tryz.prog 229 [.str s,.str us] (.int .i64 (S4 s)):=by
 refine fun H=>MZ.2.calls rfl ?_
 simp only [MZ,aJ]
 unfold S4
 have df:((us.size:Nat):Int)=1:=rfl
 by_cases hs:s=us
 ·rw [if_pos hs]
  simp +contextual only [KH,df,hs,Int.reduceEq,sZ,Nat.reduceEqDiff,Nat.reduceAdd,↓reduceIte,reduceCtorEq,Int.reduceEq]
  exact bh rfl rfl
 ·rw [if_neg hs]
  have Ur:¬ us=s:=fun e=>hs e.symm
  simp +contextual only [KH,df,Ur,Yq,Int.reduceEq,sZ,Nat.reduceEqDiff,Nat.reduceAdd,↓reduceIte,reduceCtorEq,Int.reduceEq]
  refine ae (WC s 95) ?_
  simp +contextual only [sZ,↓reduceIte,reduceCtorEq]
  exact bh rfl rfl
theorem Z3 (s:ByteArray):Pure Tryz.prog 191 [.str s,.str us] (.int .i64 (S4 s)):=by
 refine fun H=>MM.2.calls rfl ?_
 simp only [MM,aJ]
 simp +contextual only [sZ,Nat.reduceEqDiff,Nat.reduceAdd,↓reduceIte,reduceCtorEq]
 refine ae (Z2 s) ?_
 simp +contextual only [sZ,↓reduceIte,reduceCtorEq]
 exact bh rfl rfl
theorem Z4 (s:ByteArray):Pure Tryz.prog 142 [.str s,.str us] (.bool (decide (0≤S4 s))):=by
 refine fun H=>MC.2.calls rfl ?_
 simp only [MC,aJ]
 simp +contextual only [sZ,Nat.reduceEqDiff,Nat.reduceAdd,↓reduceIte,reduceCtorEq]
 refine ae (Z3 s) ?_
 simp +contextual only [sZ,↓reduceIte,reduceCtorEq]
 exact bh rfl rfl
theorem Z5 (s:ByteArray):Pure Tryz.prog 193 [.str s,.str us] (.int .i64 (pJ s 95)):=by
 refine fun H=>MO.2.calls rfl ?_
 simp only [MO,aJ]
 have df:((us.size:Nat):Int)=1:=rfl
 simp +contextual only [df,Yq,Int.reduceEq,sZ,Nat.reduceEqDiff,Nat.reduceAdd,↓reduceIte,reduceCtorEq,Int.reduceEq]
 refine ae (Z0 s 95) ?_
 simp +contextual only [sZ,↓reduceIte,reduceCtorEq]
 exact bh rfl rfl
def EU (c:UInt8):Bool:=decide (((c.toNat:Nat):Int) < 33) || decide ((126:Int) < ((c.toNat:Nat):Int)) || decide (0≤firstIdx ⟨#[40,41,44]⟩ ((c.toNat:Nat):Int).toNat.toUInt8)
def tH (s:ByteArray):Bool:=!decide (((s.size:Nat):Int) < 1) && !decide ((32:Int) < ((s.size:Nat):Int)) && s.data.toList.all fun c=>!EU c
theorem yH {p:UInt8→Bool} {l:List UInt8} {i:Nat} (h:i < l.length):(l.drop i).all p=(p (l.getD i 0) && (l.drop (i + 1)).all p):=by
 rw [List.drop_eq_getElem_cons h,List.all_cons]
 simp [h]
theorem WD (s:ByteArray):Pure Tryz.prog 141 [.str s] (.bool (tH s)):=by
 refine fun H=>Pl.calls rfl ?_
 simp only [Jt,Pk]
 have hl:s.data.toList.length=s.size:=rfl
 unfold tH
 simp +contextual only [sZ,Nat.reduceEqDiff,Nat.reduceAdd,↓reduceIte,reduceCtorEq]
 refine ⟨fun h1=>⟨fun h2=>?_,fun h2=>?_⟩,fun h1=>?_⟩
 ·exact bh rfl (by simp [h2])
 ·refine aP s.size (fun i=>((s.data.toList.drop i).all fun c=>!EU c)=(s.data.toList.all fun c=>!EU c))
   (fun i=>[(0,.str s),(13,.int .i64 s.size),(14,.int .i64 i)]) (fun i=>H) ⟨rfl,aA _ _ _⟩ fun i hi hI=>?_
  simp +contextual only [ixs,sZ,Nat.reduceEqDiff,Nat.reduceAdd,↓reduceIte,reduceCtorEq]
  have fin:∀ (aX:i < s.size),EU (s.data.toList.getD i 0)=true→(s.data.toList.all fun c=>!EU c)=false:=fun aX hb=>by
   rw [← hI,yH (by omega),hb];rfl
  refine ⟨fun aX=>?_,fun jh=>?_⟩
  ·have aX:=bS aX
   have fin:=fin aX
   rw [yH (by omega)] at hI
   have P1:EU (s.data.toList.getD i 0)=(decide ((((s.data.toList.getD i 0).toNat:Nat):Int) < 33) || decide ((126:Int) < (((s.data.toList.getD i 0).toNat:Nat):Int)) || decide (0≤firstIdx ⟨#[40,41,44]⟩ (((s.data.toList.getD i 0).toNat:Nat):Int).toNat.toUInt8)):=rfl
   generalize s.data.toList.getD i 0=c at *
   refine ⟨aX,fun a=>⟨aX,fun b=>⟨aX,ae (Z1 _ _) ?_⟩,fun b=>?_⟩,fun a=>?_⟩
   ·simp +contextual only [sZ,Nat.reduceEqDiff,↓reduceIte,reduceCtorEq]
    refine ⟨fun d=>?_,fun d=>?_⟩
    ·exact bh rfl (by rw [fin (by rw [P1];simp only [decide_eq_true d,Bool.or_true])];simp)
    ·refine ⟨i + 1,⟨aX,?_⟩,by omega,aI (by rw [ax i (by omega)]) rfl⟩
     rw [← hI]
     have:EU c=false:=by
      rw [P1]
      simp only [Bool.or_eq_false_iff,decide_eq_false_iff_not]
      omega
     rw [this];simp
   ·exact bh rfl (by rw [fin (by rw [P1];simp only [decide_eq_true b,Bool.or_true,Bool.true_or])];simp)
   ·exact bh rfl (by rw [fin (by rw [P1];simp only [decide_eq_true a,Bool.true_or])];simp)
  ·rw [List.drop_of_length_le (by have:=dd jh;omega)] at hI
   exact bh rfl (by rw [← hI];simp;omega)
 ·exact bh rfl (by simp [h1])
end Go.aH
end
section
set_option maxRecDepth 100000
namespace Go.aH
open Go Go.Proofs
structure jd where
 name:ByteArray
 args:List Int
 LU:Int
 deriving Inhabited
structure Sg where
 eF:List ByteArray
 ops:List jd
 deriving Inhabited
def jd.av (o:jd):AV:=.agg [.str o.name,.ap 0 (ints o.args),.int .i64 o.LU]
def mG (l:List jd):List AV:=l.map jd.av
def strs (l:List ByteArray):List AV:=l.map AV.str
def Sg.av (s:Sg):AV:=.agg [.ap 0 (strs s.eF),.ap 0 (mG s.ops)]
theorem wc (l:List jd):(mG l).length=l.length:=by simp [mG]
theorem CU (l:List ByteArray):(strs l).length=l.length:=by simp [strs]
theorem qS (n:Nat) (l:List jd):aj n (mG l)=true:=by
 rw [ba];intro x hx;obtain ⟨y,_,rfl⟩:=List.mem_map.1 hx
 simp [jd.av,AV.aZ,aj,aY]
theorem qT (n:Nat) (l:List ByteArray):aj n (strs l)=true:=by
 rw [ba];intro x hx;obtain ⟨y,_,rfl⟩:=List.mem_map.1 hx;rfl
theorem jd.kP (n:Nat) (o:jd):o.av.aZ n=true:=by simp [jd.av,AV.aZ,aj,aY]
theorem jd.vR (o:jd):o.av.val=true:=rfl
theorem jd.pE (o:jd):o.av.cells.all AV.one=true:=rfl
theorem jd.nT (o:jd):o.av.ab=o.av:=rfl
theorem jd.qJ (o:jd):o.av.drop=o.av:=rfl
theorem jd.gN (o:jd):o.av.cells.length=3:=rfl
theorem Sg.kP (n:Nat) (o:Sg):o.av.aZ n=true:=by simp [Sg.av,AV.aZ,aj,qT,qS]
theorem Sg.vR (o:Sg):o.av.val=true:=rfl
theorem Sg.pE (o:Sg):o.av.cells.all AV.one=true:=rfl
theorem Sg.nT (o:Sg):o.av.ab=o.av:=rfl
theorem Sg.qJ (o:Sg):o.av.drop=o.av:=rfl
theorem Sg.gN (o:Sg):o.av.cells.length=2:=rfl
theorem H5 (o:Nat) (l:List jd):(∀ (own:Nat) (xs:List AV),AV.ap o (mG l)=AV.ap own xs→∀ z∈xs,z.cells.length=3)=True:=by
 simp only [eq_iff_iff,iff_true]
 intro own xs e z hz
 cases e
 obtain ⟨y,_,rfl⟩:=List.mem_map.1 hz
 rfl
theorem H6 (o:Nat) (l:List ByteArray):(∀ (own:Nat) (xs:List AV),AV.ap o (strs l)=AV.ap own xs→∀ z∈xs,z.cells.length=1)=True:=by
 simp only [eq_iff_iff,iff_true]
 intro own xs e z hz
 cases e
 obtain ⟨y,_,rfl⟩:=List.mem_map.1 hz
 rfl
theorem KI (e o:Nat) (l:List jd) (k:IntKind) (i:Nat) (φ:AV→Prop):ay e (.ap o (mG l)) (.int k (i:Int)) φ=(i < l.length∧φ (.ai (l.getD i default).av)):=by
 simp only [ay,wc,Int.toNat_natCast,eq_iff_iff]
 constructor
 ·rintro ⟨_,h,h2⟩;refine ⟨h,?_⟩;simpa [mG,h] using h2
 ·rintro ⟨h,h2⟩;refine ⟨by omega,h,?_⟩;simpa [mG,h] using h2
theorem KJ (e o:Nat) (l:List ByteArray) (k:IntKind) (i:Nat) (φ:AV→Prop):ay e (.ap o (strs l)) (.int k (i:Int)) φ=(i < l.length∧φ (.ai (.str (l.getD i default)))):=by
 simp only [ay,CU,Int.toNat_natCast,eq_iff_iff]
 constructor
 ·rintro ⟨_,h,h2⟩;refine ⟨h,?_⟩;simpa [strs,h] using h2
 ·rintro ⟨h,h2⟩;refine ⟨by omega,h,?_⟩;simpa [strs,h] using h2
theorem WE (o:jd) (H:List aa) (φ:AV→Prop):aR (some 3) (.ai o.av) H φ=φ o.av:=by simp [aR,jd.av,AV.cells]
theorem qU (o:Sg) (H:List aa) (φ:AV→Prop):aR (some 2) (.ai o.av) H φ=φ o.av:=by simp [aR,Sg.av,AV.cells]
theorem fo0 (x:jd) (φ:AV→Prop):ak 0 none (.ai x.av) φ=φ (.ai (.str x.name)):=by simp [ak,apart,jd.av,AV.cells,AV.one]
theorem fo1 (x:jd) (φ:AV→Prop):ak 1 none (.ai x.av) φ=φ (.ai (.ap 0 (ints x.args))):=by simp [ak,apart,jd.av,AV.cells,AV.one]
theorem fo2 (x:jd) (φ:AV→Prop):ak 2 none (.ai x.av) φ=φ (.ai (.int .i64 x.LU)):=by simp [ak,apart,jd.av,AV.cells,AV.one]
theorem fs0 (x:Sg) (φ:AV→Prop):ak 0 none (.ai x.av) φ=φ (.ai (.ap 0 (strs x.eF))):=by simp [ak,apart,Sg.av,AV.cells,AV.one]
theorem fs1 (x:Sg) (φ:AV→Prop):ak 1 none (.ai x.av) φ=φ (.ai (.ap 0 (mG x.ops))):=by simp [ak,apart,Sg.av,AV.cells,AV.one]
def aU:=(And.intro (And.intro (And.intro (And.intro @wc @CU) (And.intro @qS @qT)) (And.intro (And.intro @jd.kP @jd.vR) (And.intro (And.intro @jd.pE @jd.nT) (And.intro @jd.qJ @jd.gN)))) (And.intro (And.intro (And.intro (And.intro @Sg.kP @Sg.vR) (And.intro (And.intro @Sg.pE @Sg.nT) (And.intro @Sg.qJ @Sg.gN))) (And.intro (And.intro @H5 @H6) (And.intro @KI @KJ))) (And.intro (And.intro @WE @qU) (And.intro (And.intro @fo0 @fo1) (And.intro @fo2 (And.intro @fs0 @fs1))))))
def xr (p:Int→Bool):List Int→Int→Int
 | [],_=>-1
 | x::r,k=>if p x=true then k else xr p r (k + 1)
theorem CV (p:Int→Bool):∀ (l:List Int) (k:Int),0≤k→(decide (0≤xr p l k)=l.any p)
 | [],k,_=>by simp [xr]
 | x::r,k,h=>by
   simp only [xr,List.any_cons]
   split
   ·rename_i hp;simp [hp,h]
   ·rename_i hp;simp [hp,CV p r (k + 1) (by omega)]
theorem H7 {p:Int→Bool} {l:List Int} {i:Nat} {k:Int} (h:i < l.length):xr p (l.drop i) k=if p (l.getD i 0)=true then k else xr p (l.drop (i + 1)) (k + 1):=by
 rw [List.drop_eq_getElem_cons h]
 simp [xr,h]
theorem Z6 (g:Nat) (cap:List AV) (b9:cap.map AV.ab=cap) (hb:aj 0 cap=true) (p:Int→Bool) (l:List Int) (hf:∀ x∈l,Pure Tryz.prog g ([.int .i64 x]++cap) (.bool (p x))) :
 Pure Tryz.prog 100 [.ap 0 (ints l),.fn (.func g) [] cap] (.int .i64 (xr p l 0)):=by
 refine fun H=>BT.2.calls rfl ?_
 simp only [BT,aJ]
 simp +contextual only [sZ,Nat.reduceEqDiff,Nat.reduceAdd,↓reduceIte,reduceCtorEq]
 intro hl
 refine aP l.length (fun i=>xr p (l.drop i) i=xr p l 0) (fun i=>[(0,.ap 0 (ints l)),(1,.fn (.func g) [] cap),(7,.int .i64 l.length),(8,.int .i64 i)]) (fun _=>H) ⟨rfl,aA _ _ _⟩ fun i hi hI=>?_
 simp +contextual only [b9,sZ,Nat.reduceEqDiff,Nat.reduceAdd,↓reduceIte,reduceCtorEq]
 refine ⟨fun aX=>?_,fun jh=>?_⟩
 ·have aX:=bS aX
  rw [H7 aX] at hI
  refine ⟨aX,ae (hf _ ?_) ?_⟩
  ·simp [aX]
  simp +contextual only [sZ,Nat.reduceEqDiff,↓reduceIte,reduceCtorEq]
  refine qD (fun hb=>?_) (fun hb=>?_) <;> simp +contextual only [sZ,Nat.reduceEqDiff,↓reduceIte,reduceCtorEq]
  ·rw [if_pos hb] at hI
   exact bh rfl (by rw [← hI])
  ·rw [if_neg (by rw [hb];simp)] at hI
   exact ⟨i + 1,⟨aX,hI⟩,by omega,aI (by rw [ax i (by omega)]) rfl⟩
 ·rw [List.drop_of_length_le (dd jh)] at hI
  exact bh rfl (by rw [← hI];rfl)
theorem WG (g:Nat) (cap:List AV) (b9:cap.map AV.ab=cap) (hb:aj 0 cap=true) (p:Int→Bool) (l:List Int) (hf:∀ x∈l,Pure Tryz.prog g ([.int .i64 x]++cap) (.bool (p x))) :
 Pure Tryz.prog 102 [.ap 0 (ints l),.fn (.func g) [] cap] (.bool (l.any p)):=by
 refine fun H=>BU.2.calls rfl ?_
 simp only [BU,aJ]
 simp +contextual only [sZ,Nat.reduceEqDiff,Nat.reduceAdd,↓reduceIte,reduceCtorEq]
 refine ae (Z6 g cap b9 hb p l hf) ?_
 simp +contextual only [sZ,↓reduceIte,reduceCtorEq]
 exact bh rfl (by rw [CV p l 0 (by omega)])
end Go.aH
end
section
set_option maxRecDepth 100000
namespace Go.aH
open Go Go.Proofs
def KK (n a:Int):Bool:=decide (0≤a) && decide (a < n)
theorem WH (n a:Int):Pure Tryz.prog 192 [.int .i64 a,.ai (.int .i64 n)] (.bool (KK n a)):=by
 refine fun H=>MN.2.calls rfl ?_
 simp only [MN,aJ]
 unfold KK
 simp +contextual only [sZ,Nat.reduceEqDiff,Nat.reduceAdd,↓reduceIte,reduceCtorEq]
 refine ⟨fun h=>bh rfl (by simp [h]),fun h=>bh rfl (by simp;omega)⟩
theorem Z7 (n a:Int):Pure Tryz.prog 194 [.int .i64 a,.ai (.fn (.func 192) [] [.ai (.int .i64 n)])] (.bool (!KK n a)):=by
 refine fun H=>MP.2.calls rfl ?_
 simp only [MP,aJ]
 simp +contextual only [sZ,Nat.reduceEqDiff,Nat.reduceAdd,↓reduceIte,reduceCtorEq]
 refine ae (WH n a) ?_
 simp +contextual only [sZ,↓reduceIte,reduceCtorEq]
 exact bh rfl rfl
def we (o:jd) (n:Int):Bool:=
 tH o.name && (decide (pJ o.name 95 < o.name.size) && ((decide (pJ o.name 95=0) || decide (pJ o.name 95=o.args.length)) && (decide ((o.args.length:Int)≤8) && (KK n o.LU && !o.args.any fun a=>!KK n a))))
theorem Z8 (o:jd) (n:Int):Pure Tryz.prog 143 [o.av,.int .i64 n] (.bool (we o n)):=by
 refine fun H=>Pn.calls rfl ?_
 simp only [Ju,Pm]
 unfold we
 simp +contextual only [aU,sZ,Nat.reduceEqDiff,Nat.reduceAdd,↓reduceIte,reduceCtorEq]
 refine ae (Z5 o.name) ?_
 simp +contextual only [aU,sZ,Nat.reduceEqDiff,Nat.reduceAdd,↓reduceIte]
 refine ae (WD o.name) ?_
 cases hn:tH o.name with
 | false=>
   simp +contextual only [sZ,Nat.reduceEqDiff,↓reduceIte,reduceCtorEq]
   exact bh rfl rfl
 | true=>
   have Z9:=WG 194 [.ai (.fn (.func 192) [] [.ai (.int .i64 n)])] rfl rfl (fun a=>!KK n a) o.args (fun a _=>Z7 n a)
   have KL:=WH n o.LU
   generalize KK n o.LU=q at KL ⊢
   generalize (o.args.any fun a=>!KK n a)=z at Z9 ⊢
   by_cases h1:pJ o.name 95 < o.name.size
   ·have e1:decide (pJ o.name 95 < o.name.size)=true:=decide_eq_true h1
    simp +contextual only [aU,h1,sZ,Nat.reduceEqDiff,Nat.reduceAdd,↓reduceIte,reduceCtorEq]
    refine ⟨fun h20 _=>⟨fun h21=>?_,fun h21=>?_⟩,fun h20 _=>?_⟩
    ·have e2:(decide (pJ o.name 95=0) || decide (pJ o.name 95=(o.args.length:Int)))=true:=by simp [h21]
     refine ⟨fun h3=>ae KL ?_,fun h3=>?_⟩
     ·have e903:decide ((o.args.length:Int)≤8)=true:=decide_eq_true h3
      rw [e1,e2,e903]
      cases q with
      | false=>
        simp +contextual only [sZ,Nat.reduceEqDiff,↓reduceIte,reduceCtorEq]
        exact bh rfl (by simp)
      | true=>
        simp +contextual only [aU,sZ,Nat.reduceEqDiff,Nat.reduceAdd,↓reduceIte,reduceCtorEq]
        refine ae Z9 ?_
        simp +contextual only [sZ,Nat.reduceEqDiff,↓reduceIte,reduceCtorEq]
        exact bh rfl (by simp)
     ·have e903:decide ((o.args.length:Int)≤8)=false:=decide_eq_false (by omega)
      exact bh rfl (by rw [e903];simp)
    ·have e2:(decide (pJ o.name 95=0) || decide (pJ o.name 95=(o.args.length:Int)))=false:=by simp [h20,h21]
     exact bh rfl (by rw [e2];simp)
    ·have e2:(decide (pJ o.name 95=0) || decide (pJ o.name 95=(o.args.length:Int)))=true:=by simp [h20]
     refine ⟨fun h3=>ae KL ?_,fun h3=>?_⟩
     ·have e903:decide ((o.args.length:Int)≤8)=true:=decide_eq_true h3
      rw [e1,e2,e903]
      cases q with
      | false=>
        simp +contextual only [sZ,Nat.reduceEqDiff,↓reduceIte,reduceCtorEq]
        exact bh rfl (by simp)
      | true=>
        simp +contextual only [aU,sZ,Nat.reduceEqDiff,Nat.reduceAdd,↓reduceIte,reduceCtorEq]
        refine ae Z9 ?_
        simp +contextual only [sZ,Nat.reduceEqDiff,↓reduceIte,reduceCtorEq]
        exact bh rfl (by simp)
     ·have e903:decide ((o.args.length:Int)≤8)=false:=decide_eq_false (by omega)
      exact bh rfl (by rw [e903];simp)
   ·have e1:decide (pJ o.name 95 < o.name.size)=false:=decide_eq_false h1
    rw [e1]
    simp +contextual only [aU,h1,sZ,Nat.reduceEqDiff,↓reduceIte,reduceCtorEq]
    exact bh rfl (by simp)
end Go.aH
end
section
set_option maxRecDepth 100000
namespace Go.aH
open Go Go.Proofs
theorem WI (l:List Int) (hl:l.length * 8≤140737488355328):Pure Tryz.prog 118 [.ap 0 (ints l)] (.ap 1 (ints l)):=fun H=>
 vG 0 (ints l) H (of_eq_true (ms l)) (by rw [aw];exact hl) (aY _ _)
def T7 (a:Int):UInt8:=UInt8.ofNat (IntKind.u8.wrap a).toNat
theorem S5 (a:Int):AV.int .u8 (IntKind.u8.wrap a)=.int .u8 (T7 a).toNat:=by
 have h:0≤IntKind.u8.wrap a∧IntKind.u8.wrap a < 256:=by
  simp only [IntKind.wrap]
  have h1:IntKind.u8.bits=8:=rfl
  have h2:IntKind.u8.signed=false:=rfl
  rw [h1,h2]
  simp
  omega
 congr 1
 unfold T7
 rw [UInt8.toNat_ofNat']
 omega
def WJ (o:jd):List UInt8:=(o.name++⟨#[40]⟩).data.toList++(o.args++[o.LU]).map T7
def AA (o:jd):ByteArray:=⟨(WJ o).toArray⟩
theorem EV (l:List UInt8) (a:Int):bj l++[.int .u8 (IntKind.u8.wrap a)]=bj (l++[T7 a]):=by
 rw [S5];simp [bj]
theorem H8 (l:List UInt8):(bj l).length=l.length:=by simp [bj]
theorem S6 (s:ByteArray) (φ:AV→Prop):fc 1 (.str s) φ=(s.size < 9223372036854775808∧φ (.ap 1 (bj s.data.toList))):=_root_.id rfl
theorem S7 (o:Nat) (l:List UInt8) (φ:AV→Prop) (h:φ (.str ⟨l.toArray⟩)):jE (.ap o (bj l)) φ:=⟨l,rfl,h⟩
theorem S8 (k k':IntKind) (n:Int) (φ:AV→Prop):cA k (.int k' n) φ=φ (.int k (k.wrap n)):=_root_.id rfl
theorem WK (o:jd) (h1:o.name.size≤32) (h2:o.args.length≤8):Pure Tryz.prog 144 [o.av] (.str (AA o)):=by
 refine fun H=>Pp.calls rfl ?_
 simp only [Jv,Po]
 have df:(⟨#[40]⟩:ByteArray).size=1:=rfl
 have hs2:(o.name++⟨#[40]⟩:ByteArray).size=o.name.size + 1:=by rw [ByteArray.size_append,df]
 have hln:(o.name++⟨#[40]⟩:ByteArray).data.toList.length=o.name.size + 1:=hs2
 simp +contextual only [aU,S6,df,hs2,sZ,Nat.reduceEqDiff,Nat.reduceAdd,↓reduceIte]
 refine ⟨by omega,by omega,aF (WI o.args (by omega)) ?_⟩
 simp +contextual only [aU,kM,ok_int,sc,sZ,Nat.reduceEqDiff,Nat.reduceAdd,↓reduceIte]
 refine ⟨by omega,?_⟩
 generalize hv:o.args++[o.LU]=vs
 have pP:vs.length≤9:=by rw [← hv];simp;omega
 have hk:AA o=⟨((o.name++⟨#[40]⟩:ByteArray).data.toList++vs.map T7).toArray⟩:=by rw [AA,WJ,hv]
 rw [hk]
 generalize (o.name++⟨#[40]⟩:ByteArray).data.toList=nm at *
 refine aP vs.length (fun _=>True)
  (fun i=>[(3,.ap 1 (bj (nm++(vs.take i).map T7))),(16,.ap 1 (ints vs)),(17,.int .i64 vs.length),(18,.int .i64 i)]) (fun _=>H) ⟨trivial,aI (by simp) rfl⟩ fun i hi hI=>?_
 simp +contextual only [sZ,Nat.reduceEqDiff,↓reduceIte,reduceCtorEq]
 refine ⟨fun aX=>⟨bS aX,?_⟩,fun jh=>?_⟩
 ·have aX:=bS aX
  simp +contextual only [S8,kM,ok_int,EV,H8,sZ,Nat.reduceEqDiff,Nat.reduceAdd,↓reduceIte]
  refine ⟨by simp;omega,i + 1,aX,by omega,aI ?_ rfl⟩
  rw [ax i (by omega),List.take_add_one,List.map_append,← List.append_assoc]
  simp [aX]
 ·rw [List.take_of_length_le (dd jh)]
  refine S7 0 _ _ ?_
  simp +contextual only [sZ]
  exact bh rfl rfl
instance:LawfulBEq ByteArray where
 rfl:=by intro a;rw [zi];simp
 eq_of_beq:=by intro a b h;rw [zi] at h;exact of_decide_eq_true h
def pe (vs:List ByteArray):List (AV×AV):=vs.map fun v=>(.str v,.bool true)
theorem nX (n:ByteArray):∀ (vs:List ByteArray) (i:Nat),(n∈vs→∃ j,di 1 (.str n) (pe vs) i=some (some (j,.bool true)))∧(n∉vs→di 1 (.str n) (pe vs) i=some none)
 | [],i=>⟨fun h=>(by cases h),fun _=>rfl⟩
 | v::r,i=>by
   have ih:=nX n r (i + 1)
   simp only [pe,List.map_cons,di,cC]
   by_cases hv:n=v
   ·subst hv
    simp
   ·simp only [List.mem_cons,hv,false_or]
    exact ih
theorem qV (n:ByteArray) (vs:List ByteArray) (φ:AV→Prop):fP (some (.map (pe vs))) 1 (.bool false) (.str n) false φ=φ (.bool (decide (n∈vs))):=by
 have h:=nX n vs 0
 unfold fP
 by_cases hn:n∈vs
 ·obtain ⟨j,hj⟩:=h.1 hn
  simp [hj,hn,mi]
 ·simp [h.2 hn,hn,cC,aM,bi.aM,mi]
theorem CW {n:ByteArray} {vs:List ByteArray} (hn:n∉vs) (id:Nat) (H:List aa) (K:List aa→Prop):eT (some (.map (pe vs))) 1 id (.str n) (.bool true) H K=K (H.set id (.map (pe (vs++[n])))):=by
 have h:=(nX n vs 0).2 hn
 unfold eT
 simp only [h]
 simp [cC,JA,qC,uk,pe,aM,bi.aM,mi]
def nY:List ByteArray→List ByteArray→Bool
 | [],_=>true
 | s::r,seen=>if tH s=true∧¬ 0≤S4 s∧s∉seen then nY r (seen++[s]) else false
def CX (n:Int):List jd→List ByteArray→Bool
 | [],_=>true
 | o::r,seen=>if we o n=true∧AA o∉seen then CX n r (seen++[AA o]) else false
def m9 (s:Sg):Bool:=decide ((s.eF.length:Int)≤64) && decide ((s.ops.length:Int)≤256) && nY s.eF [] && CX s.eF.length s.ops []
theorem CY {l:List ByteArray} {i:Nat} (h:i < l.length) (seen:List ByteArray):nY (l.drop i) seen=if tH (l.getD i default)=true∧¬ 0≤S4 (l.getD i default)∧l.getD i default∉seen then nY (l.drop (i + 1)) (seen++[l.getD i default]) else false:=by
 rw [List.drop_eq_getElem_cons h,nY]
 have e:l.getD i default=l[i]:=by simp [h]
 rw [e]
theorem H9 {n:Int} {l:List jd} {i:Nat} (h:i < l.length) (seen:List ByteArray):CX n (l.drop i) seen=if we (l.getD i default) n=true∧AA (l.getD i default)∉seen then CX n (l.drop (i + 1)) (seen++[AA (l.getD i default)]) else false:=by
 rw [List.drop_eq_getElem_cons h,CX]
 have e:l.getD i default=l[i]:=by simp [h]
 rw [e]
theorem EW {o:jd} {n:Int} (h:we o n=true):o.name.size≤32∧o.args.length≤8∧KK n o.LU=true∧∀ a∈o.args,KK n a=true:=by
 simp only [we,tH,Bool.and_eq_true,Bool.not_eq_true',decide_eq_false_iff_not,decide_eq_true_eq] at h
 obtain ⟨⟨⟨_,h1⟩,_⟩,_,_,h2,h3,h4⟩:=h
 refine ⟨by omega,by omega,h3,fun a ha=>?_⟩
 cases hx:KK n a with
 | true=>rfl
 | false=>
   rw [Bool.eq_false_iff] at h4
   exact absurd (List.any_eq_true.2 ⟨a,ha,by rw [hx];rfl⟩) h4
theorem c81 (s:Sg):Pure Tryz.prog 81 [s.av] (.int .i64 (if m9 s=true then 0 else 40)):=by
 refine fun H=>UJ.calls rfl ?_
 simp only [QV,UI]
 have bad:∀ {G:List aa} {e:Bool},e=false→G.take H.length=H→m9 s=e→bR H.length [RX.t 2] [(2,AV.int IntKind.i64 40)] G fun r H'=>r=AV.int IntKind.i64 (if m9 s=true then 0 else 40)∧H'=H:=by
  intro G e he hG hc
  rw [hc,he]
  exact Oe hG rfl rfl ⟨rfl,rfl⟩
 simp +contextual only [aU,sZ,Nat.reduceEqDiff,Nat.reduceAdd,↓reduceIte,reduceCtorEq]
 refine fun _=>⟨fun h1 _=>⟨fun h2=>?_,fun h2=>?_⟩,fun h1=>?_⟩
 ·have h2':¬ (s.ops.length:Int)≤256:=by omega
  exact bad rfl (by simp) (by rw [m9,decide_eq_false h2'];simp)
 ·refine aE s.eF.length (fun i (seen:List ByteArray)=>nY (s.eF.drop i) seen=nY s.eF [])
   (fun i seen=>[(1,.ai s.av),(3,.map H.length),(21,.ap 0 (strs s.eF)),(22,.int .i64 s.eF.length),(23,.int .i64 i)]) (fun i seen=>H++[.map (pe seen)]) [] ⟨rfl,aA _ _ _⟩ fun i seen hi hI=>?_
  simp +contextual only [aU,sZ,Nat.reduceEqDiff,Nat.reduceAdd,↓reduceIte]
  refine ⟨fun aX=>⟨bS aX,?_⟩,fun jh=>?_⟩
  ·have aX:=bS aX
   rw [CY aX] at hI
   generalize s.eF.getD i default=x at *
   refine ae (WD x) ?_
   cases hn:tH x with
   | false=>
     rw [hn,if_neg (by simp)] at hI
     simp +contextual only [sZ,Nat.reduceEqDiff,↓reduceIte,reduceCtorEq]
     exact bad rfl (by simp) (by simp [m9,← hI])
   | true=>
     rw [hn] at hI
     simp +contextual only [sZ,Nat.reduceEqDiff,Nat.reduceAdd,↓reduceIte]
     refine ae (Z4 x) ?_
     by_cases hu:0≤S4 x
     ·rw [if_neg (fun h=>h.2.1 hu)] at hI
      simp +contextual only [hu,sZ,Nat.reduceEqDiff,↓reduceIte,reduceCtorEq]
      exact bad rfl (by simp) (by simp [m9,← hI])
     ·by_cases hm:x∈seen
      ·rw [if_neg (fun h=>h.2.2 hm)] at hI
       simp +contextual only [hu,qV,hm,sZ,Nat.reduceEqDiff,↓reduceIte,reduceCtorEq]
       exact bad rfl (by simp) (by simp [m9,← hI])
      ·rw [if_pos ⟨rfl,hu,hm⟩] at hI
       simp +contextual only [hu,qV,hm,CW hm,sZ,Nat.reduceEqDiff,↓reduceIte]
       exact ⟨i + 1,seen++[x],⟨aX,hI⟩,by omega,aI (by rw [ax i (by omega)]) rfl⟩
  ·have hs:nY s.eF []=true:=by
    rw [← hI,List.drop_of_length_le (dd jh)];rfl
   have hc:m9 s=CX s.eF.length s.ops []:=by simp [m9,h1,h2,hs]
   clear hI
   simp +contextual only [sZ]
   refine fun _=>aE s.ops.length (fun i (seen2:List ByteArray)=>CX s.eF.length (s.ops.drop i) seen2=CX s.eF.length s.ops [])
    (fun i seen2=>[(1,.ai s.av),(6,.map (H.length + 1)),(44,.ap 0 (mG s.ops)),(45,.int .i64 s.ops.length),(46,.int .i64 i)]) (fun i seen2=>H++[.map (pe seen),.map (pe seen2)]) [] ⟨rfl,aA _ _ _⟩ fun i seen2 hi hI=>?_
   simp +contextual only [aU,sZ,Nat.reduceEqDiff,Nat.reduceAdd,↓reduceIte,reduceCtorEq]
   refine ⟨fun aX=>⟨bS aX,?_⟩,fun jh=>?_⟩
   ·have aX:=bS aX
    rw [H9 aX] at hI
    generalize s.ops.getD i default=x at *
    refine fun _=>ae (Z8 x _) ?_
    cases hg:we x s.eF.length with
    | false=>
      rw [hg,if_neg (by simp)] at hI
      simp +contextual only [sZ,Nat.reduceEqDiff,↓reduceIte,reduceCtorEq]
      exact bad rfl (by simp) (by rw [hc,← hI])
    | true=>
      rw [hg] at hI
      have Yr:=EW hg
      simp +contextual only [aU,sZ,Nat.reduceEqDiff,Nat.reduceAdd,↓reduceIte]
      refine ae (WK x Yr.1 Yr.2.1) ?_
      by_cases hm:AA x∈seen2
      ·rw [if_neg (fun h=>h.2 hm)] at hI
       simp +contextual only [qV,hm,sZ,Nat.reduceEqDiff,↓reduceIte,reduceCtorEq]
       exact bad rfl (by simp) (by rw [hc,← hI])
      ·rw [if_pos ⟨rfl,hm⟩] at hI
       simp +contextual only [aU,qV,hm,sZ,Nat.reduceEqDiff,Nat.reduceAdd,↓reduceIte]
       refine ae (WK x Yr.1 Yr.2.1) ?_
       simp +contextual only [CW hm,sZ,Nat.reduceEqDiff,↓reduceIte]
       exact ⟨i + 1,seen2++[AA x],⟨aX,hI⟩,by omega,aI (by rw [ax i (by omega)]) rfl⟩
   ·rw [List.drop_of_length_le (dd jh)] at hI
    exact Oe (by simp) rfl rfl ⟨by rw [hc,← hI];rfl,rfl⟩
 ·have Y5:¬ (s.eF.length:Int)≤64:=by omega
  exact bad rfl (by simp) (by rw [m9,decide_eq_false Y5];simp)
end Go.aH
end
section
set_option maxRecDepth 100000
namespace Go.aH
open Go Go.Proofs Go.fm
def hZ (w:List (Int×Int)):List (AV×AV):=w.map fun p=>(.int .i64 p.1,.int .i64 p.2)
theorem EX (n:Int):∀ (w:List (Int×Int)) (i:Nat),(∃ j s,w[j]?=some (n,s)∧di 0 (.int .i64 n) (hZ w) i=some (some (i + j,.int .i64 s)))∨((∀ p∈w,p.1≠n)∧di 0 (.int .i64 n) (hZ w) i=some none)
 | [],i=>.inr ⟨(fun p h=>by cases h),rfl⟩
 | (a,b)::r,i=>by
   have ih:=EX n r (i + 1)
   simp only [hZ,List.map_cons,di,cC,if_true]
   by_cases h:n=a
   ·subst h
    exact .inl ⟨0,b,rfl,by simp⟩
   ·simp only [decide_eq_false h]
    rcases ih with ⟨j,s,h1,h2⟩ | ⟨h1,h2⟩
    ·exact .inl ⟨j + 1,s,h1,by rw [show i + (j + 1)=i + 1 + j by omega];exact h2⟩
    ·refine .inr ⟨fun p hp=>?_,h2⟩
     rcases List.mem_cons.1 hp with rfl | hp
     ·exact fun e=>h e.symm
     ·exact h1 p hp
theorem WL {n:Int} {w:List (Int×Int)} {φ:AV→Prop} (h1:∀ s,(n,s)∈w→φ (.tuple [.int .i64 s,.bool true])) (h2:(∀ p∈w,p.1≠n)→φ (.tuple [.int .i64 0,.bool false])):fP (some (.map (hZ w))) 0 (.int .i64 0) (.int .i64 n) true φ:=by
 unfold fP
 rcases EX n w 0 with ⟨j,s,h3,h4⟩ | ⟨h3,h4⟩
 ·simp only [h4];exact h1 s (List.mem_of_getElem? h3)
 ·simp only [h4];exact ⟨by simp [cC],h2 h3⟩
theorem msW {n s:Int} {w:List (Int×Int)} {id:Nat} {H:List aa} {K:List aa→Prop} (h:∀ w',(∀ p∈w',p∈w∨p=(n,s))→(∀ p∈w,∃ q∈w',q.1=p.1)→(n,s)∈w'→K (H.set id (.map (hZ w')))):eT (some (.map (hZ w))) 0 id (.int .i64 n) (.int .i64 s) H K:=by
 unfold eT
 refine ⟨rfl,rfl,rfl,?_⟩
 have ec:aM (.int .i64 s)=.int .i64 s:=rfl
 rcases EX n w 0 with ⟨j,x,h3,h4⟩ | ⟨h3,h4⟩
 ·simp only [h4,ec,Nat.zero_add]
  have e:(hZ w).set j (.int .i64 n,.int .i64 s)=hZ (w.set j (n,s)):=by simp [hZ,List.map_set]
  rw [e]
  have hj:=(List.getElem?_eq_some_iff.1 h3).1
  refine h _ (fun p hp=>List.mem_or_eq_of_mem_set hp) (fun p hp=>?_) (List.mem_iff_getElem?.2 ⟨j,by rw [List.getElem?_set_self hj]⟩)
  obtain ⟨m,hm⟩:=List.mem_iff_getElem?.1 hp
  by_cases e:j=m
  ·subst e
   rw [h3] at hm;cases hm
   exact ⟨(n,s),List.mem_iff_getElem?.2 ⟨j,by rw [List.getElem?_set_self hj]⟩,rfl⟩
  ·exact ⟨p,List.mem_iff_getElem?.2 ⟨m,by rw [List.getElem?_set_ne e];exact hm⟩,rfl⟩
 ·simp only [h4,ec]
  refine ⟨by simp [cC],?_⟩
  have e:hZ w++[(AV.int .i64 n,AV.int .i64 s)]=hZ (w++[(n,s)]):=by simp [hZ]
  rw [e]
  exact h _ (fun p hp=>by simpa using hp) (fun p hp=>⟨p,List.mem_append.2 (.inl hp),rfl⟩) (by simp)
structure S9 (ps ss:List Int) (i:Nat):Prop where
 Qs:∀ j,j < i→0≤ps.getD j 0∧ps.getD j 0≤255∧1≤ss.getD j 0∧ss.getD j 0≤3
 st:∀ j k,j < i→k < i→ps.getD j 0=ps.getD k 0→ss.getD j 0=ss.getD k 0
def lC (s:Sg) (ps ss:List Int):Prop:=ps.length=s.ops.length∧ss.length=s.ops.length∧S9 ps ss ps.length
theorem lC.va {s:Sg} {ps ss:List Int} (h:lC s ps ss):Va ps ss:=⟨by rw [h.2.1,h.1],h.2.2.st⟩
open Classical in
noncomputable def je (s:Sg) (ps ss:List Int):Int:=if m9 s=true then (if lC s ps ss then 0 else 60) else 40
theorem Ta (ps ss:List Int) (φ:AV→Prop):ak 0 none (.ai (gn ps ss)) φ=φ (.ai (.ap 0 (ints ps))):=by simp [ak,apart,gn,AV.cells,AV.one]
theorem OB (ps ss:List Int) (φ:AV→Prop):ak 1 none (.ai (gn ps ss)) φ=φ (.ai (.ap 0 (ints ss))):=by simp [ak,apart,gn,AV.cells,AV.one]
theorem bF (ps ss:List Int):(gn ps ss).val=true∧(gn ps ss).cells.length=2∧(gn ps ss).cells.all AV.one=true∧(gn ps ss).ab=gn ps ss∧(gn ps ss).drop=gn ps ss∧∀ n,(gn ps ss).aZ n=true:=
 ⟨rfl,rfl,rfl,rfl,rfl,fun n=>by simp [gn,vI,bG,cZ,b8,aY]⟩
theorem bU (ps ss:List Int) (H:List aa) (φ:AV→Prop):aR (some 2) (.ai (gn ps ss)) H φ=φ (gn ps ss):=Ow _ _ _ _
theorem c24 (s:Sg) (ps ss:List Int):Pure Tryz.prog 24 [s.av,gn ps ss] (.int .i64 (je s ps ss)):=by
 refine fun H=>k24.2.calls rfl ?_
 simp only [k24,aJ]
 obtain ⟨q1,q2,q3,q4,q5,q6⟩:=bF ps ss
 simp +contextual only [aU,q1,sZ,Nat.reduceEqDiff,Nat.reduceAdd,↓reduceIte,reduceCtorEq]
 refine ae (c81 s) ?_
 cases hs:m9 s with
 | false=>
   have e:je s ps ss=40:=by rw [je,if_neg (by rw [hs];simp)]
   rw [e]
   simp +contextual only [Bool.false_eq_true,sZ,Nat.reduceEqDiff,↓reduceIte,reduceCtorEq,Int.reduceEq]
   exact bh rfl rfl
 | true=>
   simp +contextual only [aU,Ta,OB,aw,sZ,Nat.reduceEqDiff,↓reduceIte,reduceCtorEq]
   have bad:¬ lC s ps ss→je s ps ss=60:=fun h=>by rw [je,if_pos hs,if_neg h]
   have Tb:lC s ps ss→je s ps ss=0:=fun h=>by rw [je,if_pos hs,if_pos h]
   have ret60:∀ (X:List aa),¬ lC s ps ss→bR H.length [.t 4] [(4,.int .i64 60)] (H++X) fun r H'=>r=.int .i64 (je s ps ss)∧H'=H:=fun X h=>by rw [bad h];exact Kh rfl rfl
   have ret60':¬ lC s ps ss→bR H.length [.t 4] [(4,.int .i64 60)] H fun r H'=>r=.int .i64 (je s ps ss)∧H'=H:=fun h=>by rw [bad h];exact bh rfl rfl
   refine fun _ _=>⟨fun hl=>?_,fun hl=>?_⟩
   rotate_left
   ·first | exact ret60' fun h=>hl (by omega) | (refine ret60' fun h=>?_;have:=h.1;omega)
   refine fun _=>⟨fun rn=>ret60' fun h=>rn (by have:=h.2.1;omega),fun rn=>?_⟩
   have g0:∀ w,(H++[aa.map (hZ w)])[H.length]?=some (.map (hZ w)):=fun w=>by simp
   have gs:∀ w w',(H++[aa.map (hZ w)]).set H.length (.map (hZ w'))=H++[.map (hZ w')]:=fun w w'=>by simp
   refine aE ps.length (fun i (w:List (Int×Int))=>S9 ps ss i∧(∀ p∈w,∃ j,j < i∧ps.getD j 0=p.1∧ss.getD j 0=p.2)∧∀ j,j < i→∃ p∈w,p.1=ps.getD j 0)
    (fun i w=>[(3,.ai (gn ps ss)),(6,.map H.length),(35,.ap 0 (ints ps)),(36,.int .i64 s.ops.length),(37,.int .i64 i)]) (fun i w=>H++[.map (hZ w)]) []
    ⟨⟨⟨fun j h=>by omega,fun j k h=>by omega⟩,(fun p h=>by cases h),fun j h=>by omega⟩,aA _ _ _⟩ fun i w hi hI=>?_
   ·obtain ⟨hu,hw1,hw2⟩:=hI
    have nbad:∀ j,j < ps.length→¬ (0≤ps.getD j 0∧ps.getD j 0≤255∧1≤ss.getD j 0∧ss.getD j 0≤3)→¬ lC s ps ss:=fun j hj h h'=>h (h'.2.2.Qs j hj)
    by_cases LS:(i:Int) < s.ops.length
    ·have Tc:i < ps.length:=by omega
     simp +contextual only [OB,cG,Int.toNat_natCast,g0,LS,decide_true,sZ,Nat.reduceEqDiff,↓reduceIte]
     generalize hp:ps.getD i 0=p
     generalize hq:ss.getD i 0=q
     refine ⟨by omega,⟨by omega,by omega⟩,?_⟩
     by_cases r1:p < 0
     ·refine WL (fun o _=>?_) (fun _=>?_)
      all_goals
       simp +contextual only [r1,decide_true,sZ,Nat.reduceEqDiff,Nat.reduceAdd,Nat.reduceLT,↓reduceIte,reduceCtorEq]
       exact ret60 _ (nbad i Tc (by rw [hp];omega))
     ·by_cases r2:255 < p
      ·refine WL (fun o _=>?_) (fun _=>?_)
       all_goals
        simp +contextual only [r1,r2,decide_true,decide_false,sZ,Nat.reduceEqDiff,Nat.reduceAdd,Nat.reduceLT,↓reduceIte,reduceCtorEq]
        exact ret60 _ (nbad i Tc (by rw [hp];omega))
      ·by_cases r3:q < 1
       ·refine WL (fun o _=>?_) (fun _=>?_)
        all_goals
         simp +contextual only [r1,r2,r3,decide_true,decide_false,sZ,Nat.reduceEqDiff,Nat.reduceAdd,Nat.reduceLT,↓reduceIte,reduceCtorEq]
         exact ret60 _ (nbad i Tc (by rw [hq];omega))
       ·by_cases r4:3 < q
        ·refine WL (fun o _=>?_) (fun _=>?_)
         all_goals
          simp +contextual only [r1,r2,r3,r4,decide_true,decide_false,sZ,Nat.reduceEqDiff,Nat.reduceAdd,Nat.reduceLT,↓reduceIte,reduceCtorEq]
          exact ret60 _ (nbad i Tc (by rw [hq];omega))
        ·have aad:0≤p∧p≤255∧1≤q∧q≤3:=⟨by omega,by omega,by omega,by omega⟩
         have next:(∀ j,j < i→ps.getD j 0=p→ss.getD j 0=q)→∀ w':List (Int×Int),(∀ x∈w',x∈w∨x=(p,q))→(∀ x∈w,∃ y∈w',y.1=x.1)→(p,q)∈w'→S9 ps ss (i + 1)∧(∀ x∈w',∃ j,j < i + 1∧ps.getD j 0=x.1∧ss.getD j 0=x.2)∧∀ j,j < i + 1→∃ x∈w',x.1=ps.getD j 0:=by
          intro hsame w' m1 m2 m3
          refine ⟨⟨fun j hj=>?_,fun j k hj hk he=>?_⟩,fun x hx=>?_,fun j hj=>?_⟩
          ·by_cases e:j=i
           ·subst e;rw [hp,hq];exact aad
           ·exact hu.Qs j (by omega)
          ·by_cases e:j=i
           ·by_cases e':k=i
            ·rw [e,e']
            ·subst e;rw [hp] at he;rw [hq];exact (hsame k (by omega) he.symm).symm
           ·by_cases e':k=i
            ·subst e';rw [hp] at he;rw [hq];exact hsame j (by omega) he
            ·exact hu.st j k (by omega) (by omega) he
          ·rcases m1 x hx with h | rfl
           ·obtain ⟨j,h1,h2,h3⟩:=hw1 x h;exact ⟨j,by omega,h2,h3⟩
           ·exact ⟨i,by omega,hp,hq⟩
          ·by_cases e:j=i
           ·subst e;rw [hp];exact ⟨_,m3,rfl⟩
           ·obtain ⟨x,h1,h2⟩:=hw2 j (by omega)
            obtain ⟨y,h3,h4⟩:=m2 x h1
            exact ⟨y,h3,h4.trans h2⟩
         refine WL (fun o ho=>?_) (fun j3=>?_)
         ·obtain ⟨j0,hj1,hj2,hj3⟩:=hw1 _ ho
          simp only at hj2 hj3
          by_cases V8:o=q
          ·subst V8
           have d0:decide (¬ o=o)=false:=by simp
           simp +contextual only [r1,r2,r3,r4,decide_false,g0,sZ,Nat.reduceEqDiff,Nat.reduceAdd,Nat.reduceLT,↓reduceIte]
           refine msW fun w' m1 m2 m3=>?_
           simp +contextual only [gs,sZ,Nat.reduceEqDiff,↓reduceIte]
           refine ⟨i + 1,w',⟨Tc,next (fun j hj he=>?_) w' m1 m2 m3⟩,by omega,aI (by rw [ax i (by omega)]) rfl⟩
           rw [hu.st j j0 hj hj1 (he.trans hj2.symm),hj3]
          ·have d0:decide (¬ o=q)=true:=by simp [V8]
           simp +contextual only [r1,r2,r3,r4,decide_false,d0,sZ,Nat.reduceEqDiff,Nat.reduceAdd,Nat.reduceLT,↓reduceIte,reduceCtorEq]
           exact ret60 _ fun h=>V8 (by rw [← hj3,← hq];exact h.2.2.st j0 i (by omega) Tc (hj2.trans hp.symm))
         ·simp +contextual only [r1,r2,r3,r4,decide_false,g0,sZ,Nat.reduceEqDiff,Nat.reduceAdd,Nat.reduceLT,↓reduceIte]
          refine msW fun w' m1 m2 m3=>?_
          simp +contextual only [gs,sZ,Nat.reduceEqDiff,↓reduceIte]
          refine ⟨i + 1,w',⟨Tc,next (fun j hj he=>?_) w' m1 m2 m3⟩,by omega,aI (by rw [ax i (by omega)]) rfl⟩
          obtain ⟨x,h1,h2⟩:=hw2 j hj
          exact absurd (h2.trans he) (j3 x h1)
    ·have ZR:i=ps.length:=by omega
     subst ZR
     rw [Tb ⟨by omega,by omega,hu⟩]
     simp +contextual only [LS,decide_false,sZ,Nat.reduceEqDiff,↓reduceIte,reduceCtorEq]
     exact Kh rfl rfl
end Go.aH
end
section
set_option maxRecDepth 100000
namespace Go.aH
open Go Go.Proofs Go.fm
theorem WM (g:Nat) (cH:List AV) (b9:cH.map AV.ab=cH) (p:T→Bool) (l:List T) (hf:∀ x∈l,Pure Tryz.prog g ([x.av]++cH) (.bool (p x))) :
 Pure Tryz.prog 114 [.ap 0 (bW l),.fn (.func g) [] cH] (.int .i64 (sf p l 0)):=by
 refine fun H=>BV.2.calls rfl ?_
 simp only [BV,aJ]
 simp +contextual only [sZ,Nat.reduceEqDiff,Nat.reduceAdd,↓reduceIte,reduceCtorEq]
 intro hl
 refine aP l.length (fun i=>sf p (l.drop i) i=sf p l 0) (fun i=>[(0,.ap 0 (bW l)),(1,.fn (.func g) [] cH),(7,.int .i64 l.length),(8,.int .i64 i)]) (fun _=>H) ⟨rfl,aA _ _ _⟩ fun i hi hI=>?_
 simp +contextual only [b9,sZ,Nat.reduceEqDiff,Nat.reduceAdd,↓reduceIte,reduceCtorEq]
 refine ⟨fun aX=>?_,fun jh=>?_⟩
 ·have aX:=bS aX
  rw [yp aX] at hI
  refine ⟨aX,ae (hf _ (gO aX)) ?_⟩
  cases hb:p (l.getD i default) with
  | true=>
    rw [if_pos hb] at hI
    simp +contextual only [sZ,Nat.reduceEqDiff,↓reduceIte,reduceCtorEq]
    exact bh rfl (by rw [← hI])
  | false=>
    rw [if_neg (by rw [hb];simp)] at hI
    simp +contextual only [sZ,Nat.reduceEqDiff,↓reduceIte,reduceCtorEq]
    exact ⟨i + 1,⟨aX,hI⟩,by omega,aI (by rw [ax i (by omega)]) rfl⟩
 ·rw [List.drop_of_length_le (dd jh)] at hI
  exact bh rfl (by rw [← hI];rfl)
theorem WN (g:Nat) (cH:List AV) (b9:cH.map AV.ab=cH) (p:T→Bool) (l:List T) (hf:∀ x∈l,Pure Tryz.prog g ([x.av]++cH) (.bool (p x))) :
 Pure Tryz.prog 53 [.ap 0 (bW l),.fn (.func g) [] cH] (.bool (l.any p)):=by
 refine fun H=>Pj.2.calls rfl ?_
 simp only [Pj,aJ]
 simp +contextual only [sZ,Nat.reduceEqDiff,Nat.reduceAdd,↓reduceIte,reduceCtorEq]
 refine ae (WM g cH b9 p l hf) ?_
 simp +contextual only [sZ,↓reduceIte,reduceCtorEq]
 exact bh rfl (by rw [vU p l 0 (by omega)])
theorem Td (x:T):Pure Tryz.prog 130 [x.av] (.int .i64 (if x.tree=true then 0 else 4)):=by
 refine fun H=>MB.2.calls rfl ?_
 simp only [MB,aJ]
 simp +contextual only [sZ,Nat.reduceEqDiff,Nat.reduceAdd,↓reduceIte]
 refine ae (V5 x) ?_
 cases h:x.tree with
 | true=>simp +contextual only [Bool.not_true,sZ,↓reduceIte,reduceCtorEq];exact bh rfl rfl
 | false=>simp +contextual only [Bool.not_false,sZ,↓reduceIte,reduceCtorEq];exact bh rfl rfl
mutual
def CZ (s:Sg):T→Bool
 | .mk k n l=>!(decide (k=2) && (decide ((s.ops.length:Int)≤n) || !decide ((l.length:Int)=((s.ops.getD n.toNat default).args.length:Nat)))) && Ys s l
def Ys (s:Sg):List T→Bool
 | []=>true
 | x::r=>CZ s x && Ys s r
end
theorem AB (s:Sg):∀ l,Ys s l=!(l.any fun x=>!CZ s x)
 | []=>rfl
 | x::r=>by rw [Ys,AB s r,List.any_cons];cases CZ s x <;> simp
theorem aag (s:Sg):∀ t:T,t.shaped=true→Pure Tryz.prog 131 [s.av,t.av] (.bool (CZ s t)):=by
 suffices h:∀ N t,wt t≤N→t.shaped=true→Pure Tryz.prog 131 [s.av,t.av] (.bool (CZ s t)) from fun t ht=>h _ t (Nat.le_refl _) ht
 intro N
 induction N with
 | zero=>intro t h;have:=gg t;omega
 | succ N ih=>
 intro t hN hs H
 have hk:=kw hs
 have c182:∀ x∈t.l,Pure Tryz.prog 182 ([x.av]++[.ai s.av]) (.bool (!CZ s x)):=by
  intro x hx H
  refine Vi.2.calls rfl ?_
  simp only [Vi,aJ]
  simp +contextual only [aU,sZ,Nat.reduceEqDiff,Nat.reduceAdd,↓reduceIte,reduceCtorEq]
  refine ae (ih x (by have:=cK hx;omega) (hk.2 x hx)) ?_
  simp +contextual only [sZ,↓reduceIte,reduceCtorEq]
  exact bh rfl rfl
 have hn:0≤t.n:=by
  rw [T.dX] at hs
  simp only [Bool.and_eq_true,Bool.not_eq_true',Bool.or_eq_false_iff,decide_eq_false_iff_not] at hs
  have:=hs.1.1.1.1
  omega
 obtain ⟨m,hm⟩:=Int.eq_ofNat_of_zero_le hn
 refine UT.2.calls rfl ?_
 simp only [UT,aJ]
 have e:CZ s t=(!(decide (t.k=2) && (decide ((s.ops.length:Int)≤t.n) || !decide ((t.l.length:Int)=((s.ops.getD t.n.toNat default).args.length:Nat)))) && !(t.l.any fun x=>!CZ s x)):=by
  rw [← AB];cases t;rfl
 have fin:(!(decide (t.k=2) && (decide ((s.ops.length:Int)≤t.n) || !decide ((t.l.length:Int)=((s.ops.getD t.n.toNat default).args.length:Nat)))))=false→bR H.length [.t 4] [(4,.bool false)] H fun r H'=>r=.bool (CZ s t)∧H'=H:=by
  intro h
  rw [e,h];exact bh rfl rfl
 by_cases h2:t.k=2
 ·by_cases h3:(s.ops.length:Int)≤t.n
  ·simp +contextual only [aU,h2,h3,decide_true,sZ,Nat.reduceEqDiff,Nat.reduceAdd,↓reduceIte,reduceCtorEq]
   exact fin (by simp [h2,h3])
  ·have Te:m < s.ops.length:=by omega
   have X8:¬ (s.ops.length:Int)≤(m:Int):=by omega
   have em:t.n.toNat=m:=by omega
   by_cases h4:(t.l.length:Int)=((s.ops.getD m default).args.length:Nat)
   ·simp +contextual only [aU,h2,X8,h4,hm,Te,aw,decide_true,decide_false,sZ,Nat.reduceEqDiff,Nat.reduceAdd,↓reduceIte,reduceCtorEq]
    refine ae (WN 182 [.ai s.av] rfl _ t.l c182) ?_
    simp +contextual only [sZ,↓reduceIte,reduceCtorEq]
    refine bh rfl ?_
    rw [e,em,h4]
    simp [h2,h3]
   ·simp +contextual only [aU,h2,X8,h4,hm,Te,aw,decide_true,decide_false,sZ,Nat.reduceEqDiff,Nat.reduceAdd,↓reduceIte,reduceCtorEq]
    exact fin (by rw [em,decide_eq_true h2,decide_eq_false h3,decide_eq_false h4];rfl)
 ·simp +contextual only [aU,h2,decide_false,sZ,Nat.reduceEqDiff,Nat.reduceAdd,↓reduceIte,reduceCtorEq]
  refine ae (WN 182 [.ai s.av] rfl _ t.l c182) ?_
  simp +contextual only [sZ,↓reduceIte,reduceCtorEq]
  refine bh rfl ?_
  rw [e]
  simp [h2]
noncomputable def iA (s:Sg) (ps ss:List Int) (l:List T):Int:=if je s ps ss=0 then (if (l.all fun t=>t.tree && CZ s t)=true then 0 else 4) else je s ps ss
theorem Ia {p:T→Bool} {l:List T} {i:Nat} (h:i < l.length):(l.drop i).all p=(p (l.getD i default) && (l.drop (i + 1)).all p):=by
 have e:l.getD i default=l[i]:=by simp [h]
 rw [List.drop_eq_getElem_cons h,List.all_cons,e]
theorem WO (s:Sg) (ps ss:List Int) (l:List T):Pure Tryz.prog 74 [s.av,gn ps ss,.ap 0 (bW l)] (.int .i64 (iA s ps ss l)):=by
 refine fun H=>k74.2.calls rfl ?_
 simp only [k74,aJ]
 obtain ⟨q1,q2,q3,q4,q5,q6⟩:=bF ps ss
 simp +contextual only [aU,q1,q4,bU,sZ,Nat.reduceEqDiff,Nat.reduceAdd,↓reduceIte,reduceCtorEq]
 refine ae (c24 s ps ss) ?_
 by_cases h0:je s ps ss=0
 ·simp +contextual only [h0,sZ,Nat.reduceEqDiff,↓reduceIte]
  intro _
  refine aP l.length (fun i=>l.all (fun t=>t.tree && CZ s t)=(l.drop i).all fun t=>t.tree && CZ s t) (fun i=>[(3,.ai s.av),(16,.ap 0 (bW l)),(17,.int .i64 l.length),(18,.int .i64 i)]) (fun _=>H) ⟨rfl,aA _ _ _⟩ fun i hi hI=>?_
  by_cases A4:(i:Int) < l.length
  ·have aX:i < l.length:=by omega
   rw [Ia aX] at hI
   simp +contextual only [A4,decide_true,sZ,Nat.reduceEqDiff,Nat.reduceAdd,↓reduceIte]
   refine ⟨aX,ae (Td _) ?_⟩
   cases ht:(l.getD i default).tree with
   | false=>
     rw [ht,Bool.false_and,Bool.false_and] at hI
     simp +contextual only [sZ,Nat.reduceEqDiff,↓reduceIte,reduceCtorEq,Int.reduceEq]
     refine bh rfl ?_
     rw [iA,if_pos h0,hI,if_neg (by simp)]
   | true=>
     rw [ht,Bool.true_and] at hI
     simp +contextual only [aU,sZ,Nat.reduceEqDiff,Nat.reduceAdd,↓reduceIte]
     refine ae (aag s _ ((T.ff _).1 ht).2.2) ?_
     cases ho:CZ s (l.getD i default) with
     | false=>
       rw [ho,Bool.false_and] at hI
       simp +contextual only [Bool.not_false,sZ,Nat.reduceEqDiff,↓reduceIte,reduceCtorEq]
       refine bh rfl ?_
       rw [iA,if_pos h0,hI,if_neg (by simp)]
     | true=>
       rw [ho,Bool.true_and] at hI
       simp +contextual only [Bool.not_true,sZ,Nat.reduceEqDiff,↓reduceIte]
       exact ⟨i + 1,⟨aX,hI⟩,by omega,aI (by rw [ax i (by omega)]) rfl⟩
  ·simp +contextual only [A4,decide_false,sZ,Nat.reduceEqDiff,↓reduceIte,reduceCtorEq]
   rw [List.drop_of_length_le (by omega)] at hI
   refine bh rfl ?_
   rw [iA,if_pos h0,hI];rfl
 ·simp +contextual only [h0,sZ,Nat.reduceEqDiff,↓reduceIte,reduceCtorEq]
  refine bh rfl ?_
  rw [iA,if_neg h0]
theorem Tf {s:Sg}:∀ t:T,t.shaped=true→CZ s t=true→um (fun n=>0≤n∧n < s.ops.length) t:=by
 suffices h:∀ N t,wt t≤N→t.shaped=true→CZ s t=true→um (fun n=>0≤n∧n < s.ops.length) t from fun t=>h _ t (Nat.le_refl _)
 intro N
 induction N with
 | zero=>intro t h;have:=gg t;omega
 | succ N ih=>
 intro t hN hs ho
 have hn:0≤t.n:=by
  rw [T.dX] at hs
  simp only [Bool.and_eq_true,Bool.not_eq_true',Bool.or_eq_false_iff,decide_eq_false_iff_not] at hs
  have:=hs.1.1.1.1
  omega
 have hk:=(kw hs).2
 obtain ⟨k,n,l⟩:=t
 rw [CZ,AB] at ho
 simp only [Bool.and_eq_true,Bool.not_eq_true',Bool.and_eq_false_iff,Bool.or_eq_false_iff,decide_eq_false_iff_not,List.any_eq_false,Bool.not_eq_false'] at ho
 refine um.mk k n l (fun Iv=>?_) fun x hx=>ih x (by have:=cK (a:=.mk k n l) hx;omega) (hk x hx) ?_
 ·rcases ho.1 with h | h
  ·exact absurd Iv h
  ·exact ⟨hn,by omega⟩
 ·have:=ho.2 x hx
  simpa using this
end Go.aH
end
section
set_option maxRecDepth 100000
namespace Go.aH
open Go Go.Proofs Go.fm
mutual
theorem KM:∀ t:T,(wt t:Int)=t.sz
 | .mk k n l=>by rw [wt,T.sz];have:=Gb l;omega
theorem Gb:∀ l:List T,(gW l:Int)=rp l
 | []=>rfl
 | x::r=>by rw [gW,rp];have:=KM x;have:=Gb r;omega
end
theorem mH {l:List T} (h:∀ t∈l,t.tree=true):gW l≤2000 * l.length:=by
 induction l with
 | nil=>simp [gW]
 | cons x r ih=>
   have:=ih fun t ht=>h t (List.mem_cons_of_mem _ ht)
   have h1:=((T.ff x).1 (h x List.mem_cons_self)).1
   have h2:=KM x
   rw [gW,List.length_cons];omega
structure Rt0 (s:Sg) (ps ss:List Int) (l:List T):Prop where
 ord:lC s ps ss
 tree:∀ t∈l,t.tree=true
 all:∀ t∈l,um (fun n=>0≤n∧n < ps.length) t
theorem wg {s:Sg} {ps ss:List Int}:je s ps ss=0↔m9 s=true∧lC s ps ss:=by
 unfold je
 by_cases h:m9 s=true
 ·by_cases h2:lC s ps ss
  ·rw [if_pos h,if_pos h2];simp [h,h2]
  ·rw [if_pos h,if_neg h2];simp [h2]
 ·rw [if_neg h];simp [h]
theorem qW {s:Sg} {ps ss:List Int} {l:List T} (h:iA s ps ss l=0):Rt0 s ps ss l:=by
 unfold iA at h
 split at h
 ·rename_i h0
  have h1:=(wg.1 h0).2
  split at h
  ·rename_i h2
   have h3:=List.all_eq_true.1 h2
   refine ⟨h1,fun t ht=>?_,fun t ht=>?_⟩
   ·have:=h3 t ht;simp only [Bool.and_eq_true] at this;exact this.1
   ·have:=h3 t ht
    simp only [Bool.and_eq_true] at this
    rw [h1.1]
    exact Tf t ((T.ff t).1 this.1).2.2 this.2
  ·cases h
 ·rename_i h0;exact absurd h h0
theorem Rt0.cx {s:Sg} {ps ss:List Int} {l:List T} (h:Rt0 s ps ss l) (eM:l≠[]) (hl:l.length≤10000) (n:Nat):(gE ps ss l n).Ok:=
 P5 h.ord.va eM (by have:=mH h.tree;omega) h.all n
open Classical in
noncomputable def Ib (ps ss:List Int) (a b:T):Bool:=decide (R (lm ps ss) a b)
open Classical in
noncomputable def WQ (ps ss:List Int) (a b:T):Bool:=decide (E (lm ps ss) a b)
theorem uv {ps ss:List Int} {a b:T}:Ib ps ss a b=true↔R (lm ps ss) a b:=by simp [Ib]
theorem Gc {ps ss:List Int} {a b:T}:WQ ps ss a b=true↔E (lm ps ss) a b:=by simp [WQ]
theorem OC (a b:T):bm (aT [a,b] 0)=.ap 0 (ints (aT [a,b] 0)):=rfl
theorem Ge {Hs G:List aa} {n0 a b:Nat} {u v x y:AV} {R:AV→List aa→Prop} (CD:b≠a) (hH:Hs.take n0=G) (hb:x.aZ n0=true∧y.aZ n0=true) (hx:u.ab=x) (hy:v.ab=y) (hR:R (.tuple [x,y]) G):bR n0 [.t a,.t b] [(a,u),(b,v)] Hs R:=by
 subst hH;subst hx;subst hy
 refine ⟨n0,Nat.le_refl _,[u.ab,v.ab],?_,by simp only [aj,hb.1,hb.2,Bool.and_self],hR⟩
 simp only [au,if_neg CD,if_true,List.map]
 exact cp _
theorem Up.low {c:Cx} {H X G:List aa} (h:Up c (H++X) G) (he:H.length≤c.e) (hg:H.length≤c.g):G.take H.length=H:=by
 apply List.ext_getElem?
 intro j
 rw [List.getElem?_take]
 split
 ·rename_i hj
  rw [h.get j (by omega) (by omega),List.getElem?_append_left hj]
 ·rename_i hj
  rw [List.getElem?_eq_none (by omega)]
theorem c20 (s:Sg) (ps ss:List Int) (a b:T):Pure Tryz.prog 20 [s.av,gn ps ss,a.av,b.av] (.tuple [.bool (if iA s ps ss [a,b]=0 then Ib ps ss a b else false),.int .i64 (iA s ps ss [a,b])]):=by
 refine fun H=>k20.2.calls rfl ?_
 simp only [k20,aJ]
 obtain ⟨q1,q2,q3,q4,q5,q6⟩:=bF ps ss
 simp +contextual only [aU,q1,q4,bU,sZ,Nat.reduceEqDiff,Nat.reduceAdd,↓reduceIte,reduceCtorEq]
 refine ae (WO s ps ss [a,b]) ?_
 by_cases h0:iA s ps ss [a,b]=0
 ·rw [if_pos h0]
  have hr:=qW h0
  have hw:=mH hr.tree
  have hc:=hr.cx (by simp) (by simp) H.length
  have hd:=yG ps ss (ts:=[a,b]) (by simp) H
  simp +contextual only [q4,bU,h0,sZ,Nat.reduceEqDiff,Nat.reduceAdd,↓reduceIte]
  refine af (Wm ps ss [a,b] H (by simp at hw;omega)) ?_
  rintro r G ⟨rfl,rfl⟩
  have a0:=tG (ps:=ps) (ss:=ss) (ts:=[a,b]) (n:=H.length) (j:=0) (by simp)
  have a1:=tG (ps:=ps) (ss:=ss) (ts:=[a,b]) (n:=H.length) (j:=1) (by simp)
  have hl:=cE [a,b] 0
  rw [OC]
  generalize aT [a,b] 0=ks at a0 a1 hl ⊢
  have rn:ks.length=2:=hl
  simp +contextual only [cG,rn,dH,sZ,Nat.reduceEqDiff,Nat.reduceAdd,Nat.reduceLT,↓reduceIte,reduceCtorEq]
  refine ⟨by decide,by decide,af (jX hc a0.1 a1.1 _ hd) ?_⟩
  rintro r G ⟨x,rfl,hx,hU,hD⟩
  rw [a0.2,a1.2] at hx
  simp +contextual only [sZ,Nat.reduceEqDiff,↓reduceIte,reduceCtorEq]
  have ex:x=Ib ps ss a b:=by rw [Bool.eq_iff_iff,uv];exact hx
  rw [ex]
  exact Ge (by decide) (hU.low (by simp [gE]) (by simp [gE])) ⟨rfl,rfl⟩ rfl rfl ⟨by rw [h0];rfl,rfl⟩
 ·rw [if_neg h0]
  simp +contextual only [h0,sZ,Nat.reduceEqDiff,↓reduceIte,reduceCtorEq]
  exact Ge (by decide) List.take_length ⟨rfl,rfl⟩ rfl rfl ⟨rfl,rfl⟩
theorem c22 (s:Sg) (ps ss:List Int) (a b:T):Pure Tryz.prog 22 [s.av,gn ps ss,a.av,b.av] (.tuple [.bool (if iA s ps ss [a,b]=0 then WQ ps ss a b else false),.int .i64 (iA s ps ss [a,b])]):=by
 refine fun H=>k22.2.calls rfl ?_
 simp only [k22,aJ]
 obtain ⟨q1,q2,q3,q4,q5,q6⟩:=bF ps ss
 simp +contextual only [aU,q1,q4,bU,sZ,Nat.reduceEqDiff,Nat.reduceAdd,↓reduceIte,reduceCtorEq]
 refine ae (WO s ps ss [a,b]) ?_
 by_cases h0:iA s ps ss [a,b]=0
 ·rw [if_pos h0]
  have hr:=qW h0
  have hw:=mH hr.tree
  have hc:=hr.cx (by simp) (by simp) H.length
  have hd:=yG ps ss (ts:=[a,b]) (by simp) H
  simp +contextual only [q4,bU,h0,sZ,Nat.reduceEqDiff,Nat.reduceAdd,↓reduceIte]
  refine af (Wm ps ss [a,b] H (by simp at hw;omega)) ?_
  rintro r G ⟨rfl,rfl⟩
  have a0:=tG (ps:=ps) (ss:=ss) (ts:=[a,b]) (n:=H.length) (j:=0) (by simp)
  have a1:=tG (ps:=ps) (ss:=ss) (ts:=[a,b]) (n:=H.length) (j:=1) (by simp)
  have hl:=cE [a,b] 0
  rw [OC]
  generalize aT [a,b] 0=ks at a0 a1 hl ⊢
  have rn:ks.length=2:=hl
  simp +contextual only [cG,rn,dH,sZ,Nat.reduceEqDiff,Nat.reduceAdd,Nat.reduceLT,↓reduceIte,reduceCtorEq]
  refine ⟨by decide,by decide,af (jW hc a0.1 a1.1 _ hd) ?_⟩
  rintro r G ⟨x,rfl,hx,hU,hD⟩
  rw [a0.2,a1.2] at hx
  simp +contextual only [sZ,Nat.reduceEqDiff,↓reduceIte,reduceCtorEq]
  have ex:x=WQ ps ss a b:=by rw [Bool.eq_iff_iff,Gc];exact hx
  rw [ex]
  exact Ge (by decide) (hU.low (by simp [gE]) (by simp [gE])) ⟨rfl,rfl⟩ rfl rfl ⟨by rw [h0];rfl,rfl⟩
 ·rw [if_neg h0]
  simp +contextual only [h0,sZ,Nat.reduceEqDiff,↓reduceIte,reduceCtorEq]
  exact Ge (by decide) List.take_length ⟨rfl,rfl⟩ rfl rfl ⟨rfl,rfl⟩
end Go.aH
end
section
set_option maxRecDepth 100000
set_option maxHeartbeats 0
namespace Go.aH
open Go Go.Proofs
noncomputable def P6:=aJ Tryz.call163 Tryz.func163 Tryz.ntmps163 [(0,0,1),(0,1,1),(1,4,1),(1,5,1),(4,2,1000),(5,0,1),(5,7,1),(8,6,2000)] [(0,[2,3]),(1,[2,3,5]),(2,[2,5,16,17,18]),(3,[2,5,16,17,18,19]),(4,[2,5,7,16,17,18]),(5,[2,5,16,17,18]),(6,[2,5,16,17,18]),(7,[8,9]),(8,[4])] [(8,(.take 0 true (.take 1 true (.take 2 true (.take 3 true (.take 4 true (.take 5 true (.br 6 (.take 7 true .done) .nil))))))))]
end Go.aH
end
section
set_option maxRecDepth 100000
namespace Go.aH
open Go Go.Proofs Go.fm
structure Cn where
 a:T
 b:T
deriving Inhabited
def Cn.av (c:Cn):AV:=.agg [.int .i64 c.a.k,.int .i64 c.a.n,.ap 0 (bW c.a.l),.int .i64 c.b.k,.int .i64 c.b.n,.ap 0 (bW c.b.l)]
def qX (l:List Cn):List AV:=l.map Cn.av
structure gv where
 vs:List Int
 cs:List Cn
 a:T
 b:T
deriving Inhabited
def gv.av (e:gv):AV:=.agg [.ap 0 (ints e.vs),.ap 0 (qX e.cs),.int .i64 e.a.k,.int .i64 e.a.n,.ap 0 (bW e.a.l),.int .i64 e.b.k,.int .i64 e.b.n,.ap 0 (bW e.b.l)]
def gv.rest (e:gv):List T:=e.b::e.cs.flatMap fun c=>[c.a,c.b]
theorem gS (l:List Cn):(qX l).length=l.length:=by simp [qX]
theorem C0 (n:Nat) (l:List Cn):aj n (qX l)=true:=by
 rw [ba];intro x hx;obtain ⟨y,_,rfl⟩:=List.mem_map.1 hx
 simp [Cn.av,AV.aZ,aj,dI]
theorem gv.facts (e:gv):e.av.val=true∧e.av.cells.length=8∧e.av.cells.all AV.one=true∧e.av.ab=e.av∧e.av.drop=e.av∧∀ n,e.av.aZ n=true:=
 ⟨rfl,rfl,rfl,rfl,rfl,fun n=>by simp [gv.av,AV.aZ,aj,dI,aY,C0]⟩
theorem Cn.facts (e:Cn):e.av.val=true∧e.av.cells.length=6∧e.av.cells.all AV.one=true∧e.av.ab=e.av∧e.av.drop=e.av∧∀ n,e.av.aZ n=true:=
 ⟨rfl,rfl,rfl,rfl,rfl,fun n=>by simp [Cn.av,AV.aZ,aj,dI]⟩
theorem T.AD (t:T):AV.agg [.int .i64 t.k,.int .i64 t.n,.ap 0 (bW t.l)]=t.av:=by cases t;rfl
theorem OD (e:gv) (φ:AV→Prop):ak 2 (some 3) (.ai e.av) φ=φ (.ai e.a.av):=by simp [ak,apart,gv.av,AV.cells,← T.AD]
theorem Tg (e:gv) (φ:AV→Prop):ak 5 (some 3) (.ai e.av) φ=φ (.ai e.b.av):=by simp [ak,apart,gv.av,AV.cells,← T.AD]
theorem P7 (e:gv) (φ:AV→Prop):ak 1 none (.ai e.av) φ=φ (.ai (.ap 0 (qX e.cs))):=by simp [ak,apart,gv.av,AV.cells,AV.one]
theorem Yt (e:Cn) (φ:AV→Prop):ak 0 (some 3) (.ai e.av) φ=φ (.ai e.a.av):=by simp [ak,apart,Cn.av,AV.cells,← T.AD]
theorem Yu (e:Cn) (φ:AV→Prop):ak 3 (some 3) (.ai e.av) φ=φ (.ai e.b.av):=by simp [ak,apart,Cn.av,AV.cells,← T.AD]
theorem AE (o:Nat) (l:List Cn):(∀ (own:Nat) (xs:List AV),AV.ap o (qX l)=AV.ap own xs→∀ z∈xs,z.cells.length=6)=True:=by
 simp only [eq_iff_iff,iff_true]
 intro own xs e z hz
 cases e
 obtain ⟨y,_,rfl⟩:=List.mem_map.1 hz;rfl
theorem EY (e o:Nat) (l:List Cn) (k:IntKind) (i:Nat) (φ:AV→Prop):ay e (.ap o (qX l)) (.int k (i:Int)) φ=(i < l.length∧φ (.ai (l.getD i default).av)):=by
 simp only [ay,gS,Int.toNat_natCast,eq_iff_iff]
 constructor
 ·rintro ⟨_,h,h2⟩;refine ⟨h,?_⟩;simpa [qX,h] using h2
 ·rintro ⟨h,h2⟩;refine ⟨by omega,h,?_⟩;simpa [qX,h] using h2
theorem KN (e:Cn) (H:List aa) (φ:AV→Prop):aR (some 6) (.ai e.av) H φ=φ e.av:=by simp [aR,Cn.av,AV.cells]
def OE (ps ss:List Int) (e:gv):Prop:=∀ y∈e.rest,R (lm ps ss) e.a y
def pf (l:List Cn):List T:=l.flatMap fun c=>[c.a,c.b]
theorem C1 {l:List Cn} {i:Nat} (h:i < l.length):pf (l.take (i + 1))=pf (l.take i)++[(l.getD i default).a,(l.getD i default).b]:=by
 have e:l.getD i default=l[i]:=by simp [h]
 rw [List.take_succ_eq_append_getElem h,e]
 unfold pf
 rw [List.flatMap_append]
 rfl
theorem qY (l:List Cn):(pf l).length=2 * l.length:=by
 induction l with
 | nil=>rfl
 | cons x r ih=>simp only [pf,List.flatMap_cons,List.length_append,List.length_cons,List.length_nil] at ih ⊢;omega
theorem AF (a b:List T):bW (a++b)=bW a++bW b:=by
 induction a with
 | nil=>rfl
 | cons x r ih=>rw [List.cons_append,bW,bW,ih];rfl
theorem WR (x:Int) (r:List Int) (φ:AV→Prop):aV 1 (.ap 0 (ints (x::r))) (some (.int .i64 1)) none none φ=φ (.ap 0 (ints r)):=by
 have er:dw (AV.ap 0 (ints (x::r)))=some (ints (x::r)):=rfl
 have e1:(1:Int).toNat=1:=rfl
 have e2:((ints (x::r)).take (ints (x::r)).length).drop 1=ints r:=by rw [List.take_length];rfl
 simp only [aV,eJ,er,dx,e1,e2,eq_iff_iff]
 constructor
 ·intro h;exact h.2.2.2.2
 ·intro h
  refine ⟨fun own xs he z hz=>?_,by omega,by simp [aw],Nat.le_refl _,h⟩
  cases he
  obtain ⟨y,_,rfl⟩:=List.mem_map.1 hz
  rfl
theorem aai (ps ss:List Int) (e:gv) (hv:Va ps ss) (hlen:e.cs.length≤1000) (ht:∀ t∈e.a::e.rest,t.tree=true) (cR:∀ t∈e.a::e.rest,um (fun n=>0≤n∧n < ps.length) t) (H:List aa) :
 aq Tryz.prog 163 [gn ps ss,e.av] H fun r H'=>(∃ b:Bool,r=.bool b∧(b=true↔OE ps ss e))∧H'=H:=by
 refine P6.2.calls rfl ?_
 simp only [P6,aJ]
 obtain ⟨q1,q2,q3,q4,q5,q6⟩:=bF ps ss
 obtain ⟨e1,e2,e3,e4,e5,e6⟩:=gv.facts e
 have cf:=Cn.facts
 simp +contextual only [q1,e1,OD,Tg,P7,gS,sZ,Nat.reduceEqDiff,Nat.reduceAdd,↓reduceIte,reduceCtorEq]
 intro _
 have rest:e.rest=e.b::pf e.cs:=rfl
 refine aP e.cs.length (fun i=>True) (fun i=>[(2,.ai (gn ps ss)),(5,.ap 3 (bW (e.a::e.b::pf (e.cs.take i)))),(16,.ap 0 (qX e.cs)),(17,.int .i64 e.cs.length),(18,.int .i64 i)]) (fun _=>H) ⟨trivial,aA _ _ _⟩ fun i hi _=>?_
 by_cases A4:(i:Int) < e.cs.length
 ·have aX:i < e.cs.length:=by omega
  obtain ⟨f1,f2,f3,f4,f5,f6⟩:=cf (e.cs.getD i default)
  have hl:(pf (e.cs.take i)).length≤2000:=by rw [qY];simp;omega
  have Yv:=qI (e.a::e.b::pf (e.cs.take i))
  have jr:sR 3 [(e.cs.getD i default).a.av,(e.cs.getD i default).b.av]:=of_eq_true (EK [_,_])
  simp +contextual only [A4,decide_true,AE,EY,KN,f1,f2,f3,Yt,Yu,sZ,Nat.reduceEqDiff,Nat.reduceAdd,↓reduceIte]
  have e7:bW (e.a::e.b::pf (e.cs.take i))++[(e.cs.getD i default).a.av,(e.cs.getD i default).b.av]=bW (e.a::e.b::pf (e.cs.take (i + 1))):=by
   rw [C1 aX,← List.cons_append,← List.cons_append,AF];rfl
  exact ⟨aX,by omega,jr,i + 1,aX,by omega,aI (by rw [ax i (by omega),e7]) rfl⟩
 ·have IQ:i=e.cs.length:=by omega
  subst IQ
  rw [List.take_length]
  have eM:e.a::e.b::pf e.cs≠[]:=by simp
  have hl:(e.a::e.b::pf e.cs).length≤10000:=by simp [qY];omega
  have hw:=mH (l:=e.a::e.b::pf e.cs) ht
  have hc:=P5 hv eM (by omega) cR H.length
  have hd:=yG ps ss eM H
  simp +contextual only [A4,decide_false,bU,q4,sZ,Nat.reduceEqDiff,Nat.reduceAdd,↓reduceIte]
  refine af (Wm ps ss (e.a::e.b::pf e.cs) H (by omega)) ?_
  rintro r G ⟨rfl,rfl⟩
  have hk:=(OA (e.a::e.b::pf e.cs)).kids
  have ek:aT (e.a::e.b::pf e.cs) 0=0::aT (e.b::pf e.cs) (0 + wt e.a):=by rw [aT];rfl
  have Bw:=cE (e.b::pf e.cs) (0 + wt e.a)
  rw [ek] at hk ⊢
  generalize aT (e.b::pf e.cs) (0 + wt e.a)=tl at hk Bw ⊢
  obtain ⟨Kx,Iv⟩:=hk
  simp only [List.map_cons,List.cons.injEq] at Kx
  obtain ⟨ha,hb⟩:=Kx
  have e0:([(0:Int)]++tl).getD 0 0=0:=rfl
  have Yq:∀ φ:AV→Prop,ay 1 (.ap 0 (ints (0::tl))) (.int .i64 0) φ=φ (.ai (.int .i64 0)):=fun φ=>by
   have:=cG 1 0 (0::tl) .i64 0 φ
   rw [this]
   simp
  simp +contextual only [bm,Yq,dH,Option.map_some,Option.map_none,WR,sZ,Nat.reduceEqDiff,Nat.reduceAdd,Nat.reduceLT,↓reduceIte,reduceCtorEq]
  have itl:IL (.ap 0 (ints tl)) tl:=.inr rfl
  refine af (SX (c:=gE ps ss (e.a::e.b::pf e.cs) H.length) (i:=0) itl (by rw [Bw];simp [qY];omega) (fun x hx=>jX hc (Iv 0 List.mem_cons_self) (Iv x (List.mem_cons_of_mem _ hx))) hd) ?_
  rintro r G ⟨b,rfl,hbb,hU,hD⟩
  simp +contextual only [sZ,↓reduceIte,reduceCtorEq]
  refine aO H.length (Nat.le_refl _) (by rw [au,if_pos rfl];rfl) ?_
  rw [au,if_pos rfl]
  refine ⟨⟨b,rfl,?_⟩,hU.low (by simp [gE]) (by simp [gE])⟩
  rw [hbb,OE,rest]
  have ha':(gE ps ss (e.a::e.b::pf e.cs) H.length).tm 0=e.a:=ha
  have eh:tl.map (gE ps ss (e.a::e.b::pf e.cs) H.length).tm=e.b::pf e.cs:=hb
  rw [ha']
  generalize (gE ps ss (e.a::e.b::pf e.cs) H.length).tm=f at eh
  rw [← eh]
  constructor
  ·intro h y hy
   obtain ⟨x,hx,rfl⟩:=List.mem_map.1 hy
   exact h x hx
  ·intro h x hx
   exact h _ (List.mem_map.2 ⟨x,hx,rfl⟩)
end Go.aH
end
