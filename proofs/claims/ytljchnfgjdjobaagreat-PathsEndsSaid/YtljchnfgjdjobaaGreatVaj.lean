/- Part 10 of 15 of the proof. -/
import Derived.Test.YtljchnfgjdjobaaGreatVai
import Derived.Test.YtljchnfgjdjobaaGreatVag
import Derived.KernelRfl
import Derived.Test.YtljchnfgjdjobaaGreatVah
set_option linter.unusedVariables false
set_option linter.unusedSimpArgs false
set_option linter.defProp false
set_option linter.unusedSectionVars false
section
namespace Go.aL
open Go Go.Proofs Go.fN
theorem Jn {β:Type} (f:Int→β) (a:List Int):a.map f=(List.range a.length).map fun i=>f (a.getD i 0):=by
 apply List.ext_getElem
 ·simp
 ·intro i h1 h2
  have:i < a.length:=by simpa using h1
  simp [this]
theorem DV {β:Type} (f:Int→β) (a:List Int) (p:Nat→Bool):(a.map f).Perm (((List.range a.length).filter p).map (fun i=>f (a.getD i 0))++((List.range a.length).filter fun i=>!p i).map fun i=>f (a.getD i 0)):=by
 rw [Jn,← List.map_append]
 exact (List.filter_append_perm p (List.range a.length)).symm.map _
theorem rI (n:Nat) (p:Nat→Bool):((List.range n).filter p).Nodup:=List.Pairwise.filter p List.nodup_range
def ug (f:Int→T) (a:List Int) (us:List Bool):List T:=((List.range a.length).filter fun i=>!us.getD i false).map fun i=>f (a.getD i 0)
def DW (f:Int→T) (b to:List Int):List T:=((List.range b.length).filter fun j=>decide (to.getD j 0 < 0)).map fun j=>f (b.getD j 0)
theorem Pr.parts {f:Int→T} {a b:List Int} {us:List Bool} {to:List Int} (h:Pr (fun x y=>f x=f y) a b b.length us to) :
 ∃ C,(a.map f).Perm (ug f a us++C)∧(b.map f).Perm (DW f b to++C)∧Qd (ug f a us) (DW f b to):=by
 refine ⟨((List.range b.length).filter fun j=>!decide (to.getD j 0 < 0)).map fun j=>f (b.getD j 0),?_,DV f b _,?_⟩
 ·have h1:=DV f a (fun i=>!us.getD i false)
  refine h1.trans (List.Perm.append_left _ ?_)
  have hp:(((List.range b.length).filter fun j=>!decide (to.getD j 0 < 0)).map fun j=>(to.getD j 0).toNat).Perm ((List.range a.length).filter fun i=>!!us.getD i false):=by
   rw [List.perm_ext_iff_of_nodup]
   ·intro i
    simp only [List.mem_map,List.mem_filter,List.mem_range,Bool.not_eq_true',decide_eq_false_iff_not,Bool.not_not]
    constructor
    ·rintro ⟨j,⟨hj,hn⟩,rfl⟩
     rcases h.t1 j hj with h2 | ⟨i,h2,h3,h4,_⟩
     ·omega
     ·rw [h2];exact ⟨by simpa using h3,by simpa using h4⟩
    ·rintro ⟨hi,hu⟩
     obtain ⟨j,h2,h3⟩:=h.uu i hi hu
     exact ⟨j,⟨h2,by omega⟩,by omega⟩
   ·rw [List.Nodup,List.pairwise_map]
    refine List.Pairwise.imp_of_mem ?_ (rI _ _)
    intro j j' hj vg dW he
    simp only [List.mem_filter,List.mem_range,Bool.not_eq_true',decide_eq_false_iff_not] at hj vg
    exact dW (h.inj j j' hj.1 vg.1 (by omega) (by omega))
   ·exact rI _ _
  refine (hp.map fun i=>f (a.getD i 0)).symm.trans ?_
  rw [List.map_map]
  refine List.Perm.of_eq (List.map_congr_left fun j hj=>?_)
  simp only [List.mem_filter,List.mem_range,Bool.not_eq_true',decide_eq_false_iff_not] at hj
  rcases h.t1 j hj.1 with h2 | ⟨i,h2,h3,h4,h5⟩
  ·omega
  ·show f (a.getD (to.getD j 0).toNat 0)=f (b.getD j 0)
   rw [h2];exact h5
 ·intro z hz JR
  simp only [ug,DW,List.mem_map,List.mem_filter,List.mem_range,decide_eq_true_eq,Bool.not_eq_true'] at hz JR
  obtain ⟨i,⟨hi,hu⟩,rfl⟩:=hz
  obtain ⟨j,⟨hj,hn⟩,he⟩:=JR
  refine h.free j hj ?_ i hi hu he.symm
  rcases h.t1 j hj with h2 | ⟨i',h2,_⟩
  ·exact h2
  ·omega
theorem s7 {f:Int→T} {a:List Int} {us:List Bool}:ug f a us=[]↔below a.length (fun i=>!us.getD i false)=[]:=by
 simp [ug,below]
theorem Pr.mu {f:Int→T} {G:T→T→Prop} {a b:List Int} {us:List Bool} {to:List Int} (h:Pr (fun x y=>f x=f y) a b b.length us to) :
 Mu G (a.map f) (b.map f)↔below a.length (fun i=>!us.getD i false)≠[]∧∀ y∈below b.length (fun j=>decide (to.getD j 0 < 0)),∃ x∈below a.length (fun i=>!us.getD i false),G (f (a.getD x.toNat 0)) (f (b.getD y.toNat 0)):=by
 obtain ⟨C,h1,h2,h3⟩:=h.parts
 rw [L9 h1 h2 h3,Ne,s7]
 refine and_congr Iff.rfl ⟨fun hh y hy=>?_,fun hh y hy=>?_⟩
 ·obtain ⟨j,rfl,hj,hn⟩:=gH.1 hy
  obtain ⟨x,hx,hg⟩:=hh (f (b.getD j 0)) (by simp only [DW,List.mem_map,List.mem_filter,List.mem_range];exact ⟨j,⟨hj,hn⟩,rfl⟩)
  simp only [ug,List.mem_map,List.mem_filter,List.mem_range] at hx
  obtain ⟨i,⟨hi,hu⟩,rfl⟩:=hx
  exact ⟨i,gH.2 ⟨i,rfl,hi,hu⟩,hg⟩
 ·simp only [DW,List.mem_map,List.mem_filter,List.mem_range] at hy
  obtain ⟨j,⟨hj,hn⟩,rfl⟩:=hy
  obtain ⟨x,hx,hg⟩:=hh j (gH.2 ⟨j,rfl,hj,hn⟩)
  obtain ⟨i,rfl,hi,hu⟩:=gH.1 hx
  refine ⟨f (a.getD i 0),?_,hg⟩
  simp only [ug,List.mem_map,List.mem_filter,List.mem_range]
  exact ⟨i,⟨hi,hu⟩,rfl⟩
theorem Pr.perm {f:Int→T} {a b:List Int} {us:List Bool} {to:List Int} (h:Pr (fun x y=>f x=f y) a b b.length us to) (hl:a.length=b.length) :
 (a.map f).Perm (b.map f)↔below a.length (fun i=>!us.getD i false)=[]:=by
 obtain ⟨C,h1,h2,h3⟩:=h.parts
 rw [ym h1 h2 h3,s7 (f:=f)]
 constructor
 ·exact fun h=>h.1
 ·intro h0
  refine ⟨h0,?_⟩
  have e1:=h1.length_eq
  have e2:=h2.length_eq
  have e3:(ug f a us).length=0:=by rw [(s7 (f:=f)).2 h0];rfl
  simp only [List.length_append,List.length_map] at e1 e2
  exact List.length_eq_zero_iff.1 (by omega)
end Go.aL
end
section
set_option maxRecDepth 100000
set_option maxHeartbeats 0
namespace Go.aL
open Go Go.Proofs
noncomputable def RV:=aF Tryz.call186 Tryz.func186 Tryz.ntmps186 [(0,0,1),(5,3,2000),(5,8,1000),(6,6,2000)] [(0,[1,2,3]),(1,[1,2,3,7,8]),(2,[1,2,3,26]),(3,[6]),(4,[3,9,10]),(5,[3,9,10,11,12]),(6,[6])] [(4,(.take 0 true (.take 1 true (.take 2 true (.take 3 true (.take 4 true (.take 5 true (.take 6 true (.take 7 true (.take 8 false (.take 9 false (.take 10 false (.take 12 false (.br 11 (.take 13 false (.take 14 false (.take 15 false (.br 16 (.br 17 (.br 18 (.br 19 .done .nil) .nil) .nil) (.br 17 (.br 16 (.br 18 (.br 19 .done .nil) .nil) .nil) .nil))))) (.br 16 (.br 11 (.take 13 false (.take 14 false (.take 15 false (.br 17 (.br 18 (.br 19 .done .nil) .nil) .nil)))) (.br 17 (.br 11 (.take 13 false (.take 14 false (.take 15 false (.br 18 (.br 19 .done .nil) .nil)))) (.br 18 (.take 11 true (.take 13 true (.take 14 true (.take 15 true (.br 19 .done .nil))))) .nil)) .nil)) (.br 17 (.br 11 (.take 13 false (.take 14 false (.take 15 false (.br 16 (.br 18 (.br 19 .done .nil) .nil) .nil)))) (.br 16 (.br 11 (.take 13 false (.take 14 false (.take 15 false (.br 18 (.br 19 .done .nil) .nil)))) (.br 18 (.take 11 true (.take 13 true (.take 14 true (.take 15 true (.br 19 .done .nil))))) .nil)) .nil)) .nil))))))))))))))))]
end Go.aL
end
section
set_option maxRecDepth 100000
namespace Go.aL
open Go Go.Proofs Go.fN
def nf (c:Cx) (x:Int):T:=norm c.O (c.tm x)
def yn (c:Cx) (i k:Int):Prop:=uE c i k=true∧dG c i=3∧Mu (Gt c.O.sp) ((c.kd i).map (nf c)) ((c.kd k).map (nf c))
theorem acr {c:Cx} {a b:List Int} {va vb:AV} (ha:IL va a) (hb:IL vb b) {p q:Nat} {x y:Int} (hx:0≤x∧x < a.length) (hy:0≤y∧y < b.length) (h:iz c (a.getD x.toNat 0) (b.getD y.toNat 0)) {G:List aa} (hD:Du c G) (gp:G[p]?=some (.cells [va])) (gq:G[q]?=some (.cells [vb])) :
 aq Tryz.prog 222 [.int .i64 x,.ai (.ptr c.d 0),.ptr p 0,.ptr q 0,.ai (.int .i64 y)] G (iS c (R c.O (c.tm (a.getD x.toNat 0)) (c.tm (b.getD y.toNat 0))) G):=by
 refine Yg.2.calls rfl ?_
 simp only [Yg,aF]
 obtain ⟨a1,a2,a3,a4⟩:=ha.one
 obtain ⟨b1,b2,b3,b4⟩:=hb.one
 simp +contextual only [gp,gq,a2,b2,ha.lens,hb.lens,ha.idx,hb.idx,sZ,Nat.reduceEqDiff,Nat.reduceAdd,Nat.reduceLT,↓reduceIte,reduceCtorEq]
 refine ⟨hx,hy,af (h G hD) ?_⟩
 rintro r G' ⟨z,rfl,hz,hU,jH⟩
 simp +contextual only [sZ,↓reduceIte,reduceCtorEq]
 exact eG rfl hz hU jH
theorem acs {c:Cx} {a b l:List Int} {va vb vl:AV} (ha:IL va a) (hb:IL vb b) (hl:IL vl l) (ll:l.length≤1000000000) {p q:Nat} {y:Int} (hx:∀ x∈l,0≤x∧x < a.length) (hy:0≤y∧y < b.length) (h:∀ x∈l,iz c (a.getD x.toNat 0) (b.getD y.toNat 0)) {G:List aa} (hD:Du c G)
 (gp:G[p]?=some (.cells [va])) (gq:G[q]?=some (.cells [vb])) (np:p≠c.e∧p≠c.g) (nq:q≠c.e∧q≠c.g) :
 aq Tryz.prog 221 [.int .i64 y,.ai vl,.ai (.ptr c.d 0),.ptr p 0,.ptr q 0] G (iS c (¬ ∃ x∈l,R c.O (c.tm (a.getD x.toNat 0)) (c.tm (b.getD y.toNat 0))) G):=by
 refine Yf.2.calls rfl ?_
 simp only [Yf,aF]
 obtain ⟨a1,a2,a3,a4⟩:=hl.one
 have ld:∀ (H:List aa) (φ:AV→Prop),aQ none (.ai vl) H φ=φ vl:=fun H φ=>by simp [aQ,a1,a2]
 simp +contextual only [ld,a2,sZ,Nat.reduceEqDiff,Nat.reduceAdd,↓reduceIte,reduceCtorEq]
 refine af (DQ (SD.Bu c G) hl ll 222 [] [.ai (.ptr c.d 0),.ptr p 0,.ptr q 0,.ai (.int .i64 y)] rfl rfl (Q:=fun x=>R c.O (c.tm (a.getD x.toNat 0)) (c.tm (b.getD y.toNat 0)))
  (fun x xH G' dN=>(acr ha hb (hx x xH) hy (h x xH) dN.1 (by rw [dN.2.get p np.1 np.2,gp]) (by rw [dN.2.get q nq.1 nq.2,gq])).mono fun r H' hr=>hr.sb dN) ⟨hD,Up.refl c G⟩) ?_
 rintro r G' ⟨z,rfl,hz,dN⟩
 simp +contextual only [sZ,↓reduceIte,reduceCtorEq]
 refine eG (b:=!z) rfl ?_ dN.2 dN.1
 rw [← hz];cases z <;> simp
theorem lR {P:Px} {t:DT} {f:AV→Env} {H:List aa} {o:Option aa} {off:Nat} {K1 K2:Env→List aa→Prop} (h:dm o none off fun x=>jq P t (f x) H K1) (hk:∀ e G,K1 e G→K2 e G):dm o none off fun x=>jq P t (f x) H K2:=by
 unfold dm at *
 split at h
 ·exact ⟨h.1,dJ h.2 hk⟩
 ·exact h.elim
theorem Zb {c:Cx} (hc:c.Ok) {i k:Int} (hi:c.dV i) (hk:c.dV k) (h2:∀ x∈c.kd i,∀ y∈c.kd k,kM c x y) (h3:∀ x∈c.kd i,∀ y∈c.kd k,iz c x y) {H:List aa} (hD:Du c H) :
 aq Tryz.prog 186 [.ptr c.d 0,.int .i64 i,.int .i64 k] H (iS c (yn c i k) H):=by
 refine RV.2.calls rfl ?_
 simp only [RV,aF]
 have k2:∀ l,(bu l).ab=bu l:=fun l=>(aH l).2.1
 have l1:=hc.kl i hi
 have l2:=hc.kl k hk
 simp +contextual only [sZ,Nat.reduceEqDiff,Nat.reduceAdd,↓reduceIte,reduceCtorEq]
 refine af (F5 hc hi hk hD) ?_
 rintro r H1 ⟨rfl,rfl⟩
 simp +contextual only [sZ,Nat.reduceEqDiff,Nat.reduceAdd,Nat.reduceLT,↓reduceIte]
 cases hl:uE c i k with
 | false=>
   simp +contextual only [Bool.not_false,sZ,Nat.reduceEqDiff,↓reduceIte,reduceCtorEq]
   exact eG rfl ⟨fun h=>by simp at h,fun h=>by have:=h.1;rw [hl] at this;simp at this⟩ (Up.refl c _) hD
 | true=>
   by_cases hs:dG c i=3
   ·have d3:decide (dG c i=3)=true:=decide_eq_true hs
    have d3':decide (¬dG c i=3)=false:=decide_eq_false (fun h=>h hs)
    simp +contextual only [Bool.not_true,hs,not_true_eq_false,decide_false,sZ,Nat.reduceEqDiff,Nat.reduceAdd,↓reduceIte]
    obtain ⟨l4,l5,l6⟩:=hD.lt
    have ed:∀ X:List aa,(H1++X)[c.d]?=H1[c.d]?:=fun X=>List.getElem?_append_left l4
    refine lR (K1:=fun e G=>get e 3=.ai (.ptr c.d 0)∧∃ p q X,get e 9=.ptr p 0∧get e 10=.ptr q 0∧H1.length≤p∧H1.length≤q∧G=H1++X∧G[p]?=some (.cells [bu (c.kd i)])∧G[q]?=some (.cells [bu (c.kd k)])) ?_ ?_
    ·obtain ⟨k1,k3,k4,k5,k6⟩:=aH (c.kd i)
     obtain ⟨m1,m3,m4,m5,m6⟩:=aH (c.kd k)
     have g0:∀ (x:aa) (l:List aa),(H1++x::l)[H1.length]?=some x:=fun x l=>by simp
     have g1:∀ (x y:aa),(H1++[x,y])[H1.length + 1]?=some y:=fun x y=>by simp
     have ei:(c.nd.getD i.toNat default).snd=c.kd i:=rfl
     have ek:(c.nd.getD k.toNat default).snd=c.kd k:=rfl
     have sp:∀ x:AV,ag [AV.ah] 0 [x]=[x]:=fun x=>rfl
     have A:∃ p q X,AV.ptr H1.length 0=AV.ptr p 0∧AV.ptr (H1.length + 1) 0=AV.ptr q 0∧H1.length≤p∧H1.length≤q∧H1++[.cells [bu (c.kd i)],.cells [bu (c.kd k)]]=H1++X∧(H1++[aa.cells [bu (c.kd i)],.cells [bu (c.kd k)]])[p]?=some (.cells [bu (c.kd i)])∧(H1++[aa.cells [bu (c.kd i)],.cells [bu (c.kd k)]])[q]?=some (.cells [bu (c.kd k)]):=
      ⟨_,_,_,rfl,rfl,Nat.le_refl _,Nat.le_succ _,rfl,g0 _ _,g1 _ _⟩
     have B:∃ p q X,AV.ptr (H1.length + 1) 0=AV.ptr p 0∧AV.ptr H1.length 0=AV.ptr q 0∧H1.length≤p∧H1.length≤q∧H1++[.cells [bu (c.kd k)],.cells [bu (c.kd i)]]=H1++X∧(H1++[aa.cells [bu (c.kd k)],.cells [bu (c.kd i)]])[p]?=some (.cells [bu (c.kd i)])∧(H1++[aa.cells [bu (c.kd k)],.cells [bu (c.kd i)]])[q]?=some (.cells [bu (c.kd k)]):=
      ⟨_,_,_,rfl,rfl,Nat.le_succ _,Nat.le_refl _,rfl,g1 _ _,g0 _ _⟩
     simp +contextual only [ed,hD.d,mS,Ev,cJ,bV,k2,ei,ek,k1,k4,k5,k6,m1,m4,m5,m6,List.map_cons,List.map_nil,sp,List.all_cons,List.all_nil,Bool.and_true,bH,cP,sZ,Nat.reduceEqDiff,Nat.reduceAdd,Nat.reduceLT,↓reduceIte]
     refine ⟨hi,?_⟩
     repeat' apply And.intro
     all_goals first | exact hk.1 | exact hk.2 | exact A | exact B
    ·rintro e G ⟨e3,p,q,X,e9,e10,hp,hq,rfl,gp,gq⟩
     simp +contextual only [e3,e9,e10,gp,gq,k2,sZ,Nat.reduceEqDiff,Nat.reduceAdd,Nat.reduceLT,↓reduceIte,reduceCtorEq]
     refine af (U6 (.inl rfl:IL (bu (c.kd i)) (c.kd i)) (.inl rfl:IL (bu (c.kd k)) (c.kd k)) (by omega) (by omega) h2 (hD.rp X)) ?_
     rintro r G' ⟨us,to,Bx,rfl,hU,jH⟩
     have hmu:=Pr.mu (f:=nf c) (G:=Gt c.O.sp) Bx
     have lbl:=jN (c.kd i).length fun i=>!us.getD i false
     have lbo:=jN (c.kd k).length fun j=>decide (to.getD j 0 < 0)
     have il:IL (bu (below (c.kd i).length fun i=>!us.getD i false)) (below (c.kd i).length fun i=>!us.getD i false):=.inl rfl
     have io:IL (bu (below (c.kd k).length fun j=>decide (to.getD j 0 < 0))) (below (c.kd k).length fun j=>decide (to.getD j 0 < 0)):=.inl rfl
     have ml:∀ x∈below (c.kd i).length (fun i=>!us.getD i false),0≤x∧x < (c.kd i).length:=by
      intro x hx;obtain ⟨j,rfl,hj,_⟩:=gH.1 hx;omega
     have mo:∀ x∈below (c.kd k).length (fun j=>decide (to.getD j 0 < 0)),0≤x∧x < (c.kd k).length:=by
      intro x hx;obtain ⟨j,rfl,hj,_⟩:=gH.1 hx;omega
     generalize (below (c.kd i).length fun i=>!us.getD i false)=L at *
     generalize (below (c.kd k).length fun j=>decide (to.getD j 0 < 0))=V at *
     obtain ⟨a1,a2,a3,a4⟩:=il.one
     obtain ⟨b1,b2,b3,b4⟩:=io.one
     have hG1:∀ G2,Up c (H1++X) G2→Du c G2→Up c H1 (G2.take H1.length)∧Du c (G2.take H1.length):=fun G2 u d=>⟨u.take,d.take l4 l5 l6⟩
     have fin:∀ G2 (b:Bool),Up c (H1++X) G2→Du c G2→(b=true↔yn c i k)→bW H1.length [.t 6] [(6,.bool b)] G2 (iS c (yn c i k) H1):=by
      intro G2 b u d hb
      refine aX H1.length (Nat.le_refl _) (by rw [ay,if_pos rfl];rfl) ?_
      rw [ay,if_pos rfl]
      exact ⟨b,rfl,hb,(hG1 G2 u d).1,(hG1 G2 u d).2⟩
     simp +contextual only [List.map_cons,List.map_nil,k2,a1,a3,a4,il.aN,il.len (by omega),bV,sZ,Nat.reduceEqDiff,Nat.reduceAdd,Nat.reduceLT,↓reduceIte,reduceCtorEq]
     refine ⟨fun hL=>?_,fun hL=>?_⟩
     ·have gp':G'[p]?=some (.cells [bu (c.kd i)]):=by rw [hU.get p (by omega) (by omega),gp]
      have gq':G'[q]?=some (.cells [bu (c.kd k)]):=by rw [hU.get q (by omega) (by omega),gq]
      have gm:∀ {x:Int} {l:List Int},0≤x∧x < l.length→l.getD x.toNat 0∈l:=fun h=>aP (by omega)
      refine af (DQ (SD.Bu c G') io (by omega) 221 [] [.ai (bu L),.ai (.ptr c.d 0),.ptr p 0,.ptr q 0] rfl rfl (Q:=fun y=>¬ ∃ x∈L,R c.O (c.tm ((c.kd i).getD x.toNat 0)) (c.tm ((c.kd k).getD y.toNat 0)))
       (fun y hy G2 U7=>(acs (.inl rfl) (.inl rfl) il (by omega) ml (mo y hy) (fun x hx=>h3 _ (gm (ml x hx)) _ (gm (mo y hy))) U7.1 (by rw [U7.2.get p (by omega) (by omega),gp']) (by rw [U7.2.get q (by omega) (by omega),gq']) ⟨by omega,by omega⟩ ⟨by omega,by omega⟩).mono fun r H' hr=>hr.sb U7) ⟨jH,Up.refl c G'⟩) ?_
      rintro r G2 ⟨z,rfl,hz,U7⟩
      simp +contextual only [sZ,Nat.reduceEqDiff,↓reduceIte,reduceCtorEq]
      refine fin G2 (!z) (hU.trans U7.2) U7.1 ?_
      have hLn:L≠[]:=by intro e;rw [e] at hL;simp at hL
      rw [yn,hmu]
      cases z with
      | true=>
        obtain ⟨y,hy,hn⟩:=hz.1 rfl
        exact ⟨fun h=>by simp at h,fun ⟨_,_,_,h⟩=>absurd (h y hy) hn⟩
      | false=>
        refine ⟨fun _=>⟨hl,hs,hLn,fun y hy=>?_⟩,fun _=>rfl⟩
        by_cases Ij:∃ x∈L,R c.O (c.tm ((c.kd i).getD x.toNat 0)) (c.tm ((c.kd k).getD y.toNat 0))
        ·exact Ij
        ·exact absurd (hz.2 ⟨y,hy,Ij⟩) (by simp)
     ·refine fin G' false hU jH ⟨fun h=>by simp at h,fun h=>?_⟩
      have:=(hmu.1 h.2.2).1
      exact absurd (List.length_eq_zero_iff.1 (by omega)) this
   ·have d3':decide (¬dG c i=3)=true:=decide_eq_true hs
    simp +contextual only [Bool.not_true,hs,decide_true,not_false_eq_true,sZ,Nat.reduceEqDiff,↓reduceIte,reduceCtorEq]
    exact eG rfl ⟨fun h=>by simp at h,fun h=>absurd h.2.1 hs⟩ (Up.refl c _) hD
theorem vh {c:Cx} (hc:c.Ok) {i:Int} (hi:c.dV i):(c.tm i).l.map (norm c.O)=(c.kd i).map (nf c):=by
 rw [← (hc.kids i hi).1,List.map_map];rfl
theorem F6 {f:Int→T} {a b:List Int}:a.map f=b.map f↔a.length=b.length∧∀ j,j < a.length→f (a.getD j 0)=f (b.getD j 0):=by
 constructor
 ·intro h
  have hl:a.length=b.length:=by simpa using congrArg List.length h
  refine ⟨hl,fun j hj=>?_⟩
  have:=congrArg (fun l=>l[j]?) h
  have hb:j < b.length:=by omega
  simpa [hj,hb] using this
 ·rintro ⟨hl,h⟩
  apply List.ext_getElem
  ·simpa using hl
  ·intro j h1 h2
   have h3:j < a.length:=by simpa using h1
   have h4:j < b.length:=by simpa using h2
   simpa [h3,h4] using h j h3
theorem acu {c:Cx} (hc:c.Ok) {i k:Int} (hi:c.dV i) (hk:c.dV k) (h2:∀ x∈c.kd i,∀ y∈c.kd k,kM c x y) {H:List aa} (hD:Du c H):aq Tryz.prog 138 (DP c i k) H (iS c (E c.O (c.tm i) (c.tm k)) H):=by
 refine Xw.2.calls rfl ?_
 simp only [Xw,aF,DP]
 have k2:∀ l,(bu l).ab=bu l:=fun l=>(aH l).2.1
 have l1:=hc.kl i hi
 have l2:=hc.kl k hk
 simp +contextual only [sZ,Nat.reduceEqDiff,Nat.reduceAdd,↓reduceIte,reduceCtorEq]
 refine af (qg hc hi hD) ?_
 rintro r H1 ⟨rfl,rfl⟩
 simp +contextual only [dH,fG,fH,fI,sZ,Nat.reduceEqDiff,Nat.reduceAdd,↓reduceIte,reduceCtorEq]
 refine af (qg hc hk hD) ?_
 rintro r H1 ⟨rfl,rfl⟩
 simp +contextual only [dH,fG,fH,fI,sZ,Nat.reduceEqDiff,↓reduceIte,reduceCtorEq]
 have eqf:∀ b:Bool,cV false (.bool b) (.bool b)=fun φ=>φ (.bool true):=fun b=>by funext φ;cases b <;> simp [cV]
 have fT0:=Hu
 have fT1:∀ (t:T) (φ:AV→Prop),ak 1 none (.ai t.av) φ=φ (.ai (.int .i64 t.n)):=fun t φ=>by cases t;simp [ak,T.av,apart,AV.cells,AV.one,T.n]
 have ei:(c.nd.getD i.toNat default).fst=c.tm i:=rfl
 have ek:(c.nd.getD k.toNat default).fst=c.tm k:=rfl
 have hE:=YR (O:=c.O) (a:=c.tm i) (b:=c.tm k)
 rw [vh hc hi,vh hc hk] at hE
 cases hbi:sc c i with
 | false=>
   have ki:(c.tm i).k≠2:=of_decide_eq_false hbi
   cases F7:sc c k with
   | false=>
     have kk:(c.tm k).k≠2:=of_decide_eq_false F7
     simp +contextual only [Bool.not_false,hD.d,mS,fN0,fT1,cJ,ei,ek,sZ,Nat.reduceEqDiff,Nat.reduceAdd,Nat.reduceLT,↓reduceIte,reduceCtorEq]
     refine ⟨hi,hk,eG rfl ?_ (Up.refl c _) hD⟩
     rw [hE,decide_eq_true_eq]
     exact ⟨fun h=>.inr ⟨ki,kk,h⟩,fun h=>by rcases h with h | h;exact absurd h.1 ki;exact h.2.2⟩
   | true=>
     have kk:(c.tm k).k=2:=of_decide_eq_true F7
     simp +contextual only [Bool.not_false,sZ,Nat.reduceEqDiff,↓reduceIte,reduceCtorEq]
     refine eG rfl ?_ (Up.refl c _) hD
     rw [hE]
     exact ⟨fun h=>by simp at h,fun h=>by rcases h with h | h;exact absurd h.1 ki;exact absurd kk h.2.1⟩
 | true=>
   have ki:(c.tm i).k=2:=of_decide_eq_true hbi
   cases F7:sc c k with
   | false=>
     have kk:(c.tm k).k≠2:=of_decide_eq_false F7
     simp +contextual only [Bool.not_false,Bool.not_true,sZ,Nat.reduceEqDiff,↓reduceIte,reduceCtorEq]
     refine eG rfl ?_ (Up.refl c _) hD
     rw [hE]
     exact ⟨fun h=>by simp at h,fun h=>by rcases h with h | h;exact absurd h.2.1 kk;exact absurd ki h.1⟩
   | true=>
     have kk:(c.tm k).k=2:=of_decide_eq_true F7
     have epi:qf c i=c.O.pl (c.tm i).n:=if_pos ki
     have epk:qf c k=c.O.pl (c.tm k).n:=if_pos kk
     have esi:dG c i=c.O.sp (c.O.pl (c.tm i).n):=if_pos ki
     have hE2:E c.O (c.tm i) (c.tm k)↔qf c i=qf c k∧(if dG c i=3 then ((c.kd i).map (nf c)).Perm ((c.kd k).map (nf c)) else (c.kd i).map (nf c)=(c.kd k).map (nf c)):=by
      rw [hE,epi,epk,esi]
      exact ⟨fun h=>by rcases h with h | h;exact h.2.2;exact absurd ki h.1,fun h=>.inl ⟨ki,kk,h⟩⟩
     have eki:(c.nd.getD i.toNat default).snd=c.kd i:=rfl
     have ekk:(c.nd.getD k.toNat default).snd=c.kd k:=rfl
     have ii:IL (bu (c.kd i)) (c.kd i):=.inl rfl
     have ik:IL (bu (c.kd k)) (c.kd k):=.inl rfl
     have hlen:E c.O (c.tm i) (c.tm k)→(c.kd i).length=(c.kd k).length:=by
      intro h
      have h:=(hE2.1 h).2
      split at h
      ·simpa using h.length_eq
      ·simpa using congrArg List.length h
     simp +contextual only [Bool.not_true,hD.d,mS,Ev,cJ,bV,k2,eki,ekk,ii.aN,ik.aN,ii.len (by omega),ik.len (by omega),sZ,Nat.reduceEqDiff,Nat.reduceAdd,Nat.reduceLT,↓reduceIte,reduceCtorEq]
     refine ⟨hi,hk,fun hp=>⟨fun hn=>?_,fun hlk=>⟨fun h3=>?_,fun h3=>?_⟩⟩,fun hp=>?_⟩
     ·refine eG rfl ⟨fun h=>by simp at h,fun h=>absurd (hlen h) (by omega)⟩ (Up.refl c _) hD
     ·refine af (U6 ii ik (by omega) (by omega) h2 hD) ?_
      rintro r G ⟨us,to,Bx,rfl,hU,jH⟩
      have VT:=Pr.perm (f:=nf c) Bx (by omega)
      have lbl:=jN (c.kd i).length fun i=>!us.getD i false
      have il:IL (bu (below (c.kd i).length fun i=>!us.getD i false)) (below (c.kd i).length fun i=>!us.getD i false):=.inl rfl
      generalize (below (c.kd i).length fun i=>!us.getD i false)=L at *
      simp +contextual only [k2,il.aN,il.len (by omega),sZ,Nat.reduceEqDiff,Nat.reduceAdd,Nat.reduceLT,↓reduceIte,reduceCtorEq]
      refine eG rfl ?_ hU jH
      rw [hE2,if_pos h3,VT,decide_eq_true_eq]
      exact ⟨fun h=>⟨hp,List.length_eq_zero_iff.1 (by omega)⟩,fun h=>by rw [h.2];rfl⟩
     ·refine af (Y1 (SD.Bu c _) ii ik (by omega) (by omega) 79 [.ptr c.d 0] [] rfl rfl (Q:=fun x y=>E c.O (c.tm x) (c.tm y)) (fun x hx y hy G hG=>(h2 x hx y hy G hG.1).mono fun r H' hr=>hr.sb hG) ⟨hD,Up.refl c _⟩) ?_
      rintro r G ⟨b,rfl,hb,hG⟩
      simp +contextual only [sZ,↓reduceIte,reduceCtorEq]
      refine eG rfl ?_ hG.2 hG.1
      rw [hE2,if_neg h3,hb]
      have:=F6 (f:=nf c) (a:=c.kd i) (b:=c.kd k)
      exact ⟨fun h=>⟨hp,this.2 h⟩,fun h=>this.1 h.2⟩
     ·exact eG rfl ⟨fun h=>by simp at h,fun h=>absurd (hE2.1 h).1 hp⟩ (Up.refl c _) hD
end Go.aL
end
section
set_option maxRecDepth 100000
namespace Go.aL
open Go Go.Proofs Go.fN
def ew:AV:=.agg [.fQ,.fn (.func 183) [] [],.fn (.func 184) [] [],.fn (.func 185) [] [],.fn (.func 186) [] []]
theorem acv (φ:AV→Prop):cA [.fQ,.fQ,.fQ,.fQ,.fQ] [(1,1,.fn (.func 183) [] []),(2,1,.fn (.func 184) [] []),(3,1,.fn (.func 185) [] []),(4,1,.fn (.func 186) [] [])] φ=φ ew:=by
 simp only [cA,gO,eq_iff_iff]
 constructor
 ·rintro ⟨_,_,_,_,_,_,_,_,_,_,_,_,h⟩;exact h
 ·exact fun h=>⟨rfl,rfl,by decide,rfl,rfl,by decide,rfl,rfl,by decide,rfl,rfl,by decide,h⟩
theorem Bz:ew.val=true∧ew.cells.length=5∧ew.cells.all AV.one=true∧(∀ n,aj n (ew.cells.map AV.ab)=true)∧ag [AV.fQ,.fQ,.fQ,.fQ,.fQ] 0 (ew.cells.map AV.ab)=ew.cells:=⟨rfl,rfl,rfl,fun _=>rfl,rfl⟩
theorem Mm:Pure Tryz.prog 136 [] ew:=by
 refine fun H=>Xv.2.calls rfl ?_
 simp only [Xv,aF]
 obtain ⟨r1,r2,r3,r4,r5⟩:=Bz
 simp +contextual only [acv,r1,r2,r3,r4,r5,sZ,Nat.reduceAdd,↓reduceIte,reduceCtorEq]
 have e:dm (some (aa.cells ew.cells)) (some 5) 0=fun φ=>(5≤5∧φ ew):=rfl
 rw [e]
 exact ⟨Nat.le_refl _,Ro (n0:=H.length) (by simp) rfl rfl ⟨rfl,rfl⟩⟩
theorem V7 (j:Nat) (f:AV) (h:ew.cells[j]?=some f) (hj:j < 5) (φ:AV→Prop) (hd:f.drop=f):bT 5 ew (.int .i64 (j:Int)) φ=φ f:=by
 simp only [bT,ew,Int.toNat_natCast,eq_iff_iff]
 have e:[AV.fQ,.fn (.func 183) [] [],.fn (.func 184) [] [],.fn (.func 185) [] [],.fn (.func 186) [] []].getD j .any=f:=by
  rw [List.getD_eq_getElem?_getD];show (ew.cells[j]?).getD .any=f;rw [h];rfl
 rw [e,hd]
 exact ⟨fun h=>h.2.2.2,fun h=>⟨rfl,by omega,hj,h⟩⟩
def Mn (c:Cx) (i k:Int):Prop:=∃ x∈c.kd i,E c.O (c.tm x) (c.tm k)∨R c.O (c.tm x) (c.tm k)
def s8 (c:Cx) (i k:Int):Prop:=sc c k=true∧qf c k < qf c i∧∀ x∈c.kd k,R c.O (c.tm i) (c.tm x)
def g9 (c:Cx) (i k:Int) (n:Nat):Prop:=(n=1∧Mn c i k)∨(n=2∧s8 c i k)∨(n=3∧Bv c i k)∨(n=4∧yn c i k)
structure Hv (c:Cx) (i k:Int):Prop where
 r1:∀ H,Du c H→aq Tryz.prog 183 [.ptr c.d 0,.int .i64 i,.int .i64 k] H (iS c (Mn c i k) H)
 r2:∀ H,Du c H→aq Tryz.prog 184 [.ptr c.d 0,.int .i64 i,.int .i64 k] H (iS c (s8 c i k) H)
 r3:∀ H,Du c H→aq Tryz.prog 185 [.ptr c.d 0,.int .i64 i,.int .i64 k] H (iS c (Bv c i k) H)
 r4:∀ H,Du c H→aq Tryz.prog 186 [.ptr c.d 0,.int .i64 i,.int .i64 k] H (iS c (yn c i k) H)
theorem Hv.at {c:Cx} {i k:Int} (h:Hv c i k) {n:Nat} (h1:0 < n) (h2:n < 5) {H:List aa} (hD:Du c H):aq Tryz.prog (182 + n) [.ptr c.d 0,.int .i64 i,.int .i64 k] H (iS c (g9 c i k n) H):=by
 have:n=1∨n=2∨n=3∨n=4:=by omega
 have key:∀ {Q Q':Prop} {f:Nat},aq Tryz.prog f [.ptr c.d 0,.int .i64 i,.int .i64 k] H (iS c Q H)→(Q↔Q')→aq Tryz.prog f [.ptr c.d 0,.int .i64 i,.int .i64 k] H (iS c Q' H):=by
  intro Q Q' f h e
  refine h.mono ?_
  rintro r H' ⟨b,h1,h2,h3,h4⟩
  exact ⟨b,h1,h2.trans e,h3,h4⟩
 rcases this with rfl | rfl | rfl | rfl
 ·exact key (h.r1 H hD) (by simp [g9])
 ·exact key (h.r2 H hD) (by simp [g9])
 ·exact key (h.r3 H hD) (by simp [g9])
 ·exact key (h.r4 H hD) (by simp [g9])
theorem acw {c:Cx} (hc:c.Ok) {i k:Int} (hi:c.dV i) (hr:Hv c i k) {H:List aa} (hD:Du c H):aq Tryz.prog 134 (DP c i k) H (iS c (sc c i=true∧∃ n,n < 5∧g9 c i k n) H):=by
 refine Xt.2.calls rfl ?_
 simp only [Xt,aF,DP]
 simp +contextual only [sZ,Nat.reduceEqDiff,Nat.reduceAdd,↓reduceIte,reduceCtorEq]
 refine af (qg hc hi hD) ?_
 rintro r H1 ⟨rfl,rfl⟩
 simp +contextual only [dH,fG,fH,fI,sZ,Nat.reduceEqDiff,↓reduceIte,reduceCtorEq]
 cases hb:sc c i with
 | false=>
   simp +contextual only [Bool.not_false,sZ,↓reduceIte,reduceCtorEq]
   exact eG rfl ⟨fun h=>by simp at h,fun h=>absurd h.1 (by simp)⟩ (Up.refl c _) hD
 | true=>
   simp +contextual only [Bool.not_true,sZ]
   refine ae Mm ?_
   simp +contextual only [sZ,Nat.reduceEqDiff,↓reduceIte,reduceCtorEq]
   refine aJ 5 (fun n (G:List aa)=>SD c H1 G∧∀ m,m < n→¬ g9 c i k m)
    (fun n G=>[(0,.ai (.ptr c.d 0)),(1,.ai (.int .i64 i)),(2,.ai (.int .i64 k)),(18,ew),(19,.int .i64 n)]) (fun n G=>G) H1 ⟨⟨⟨hD,Up.refl c _⟩,fun m hm=>by omega⟩,aA _ _ _⟩ fun n G hn hI=>?_
   obtain ⟨hG,jW⟩:=hI
   by_cases h0:n=0
   ·subst h0
    have e0:=V7 0 .fQ rfl (by decide)
    have d1:decide (((0:Nat):Int) < 5)=true:=rfl
    have d2:decide ((0:Int) < ((0:Nat):Int))=false:=rfl
    simp +contextual only [mJ,e0 _ rfl,d1,d2,sZ,Nat.reduceEqDiff,↓reduceIte,reduceCtorEq]
    refine ⟨1,G,⟨by omega,hG,fun m hm=>?_⟩,by omega,aC rfl rfl⟩
    intro h
    simp only [g9] at h
    omega
   ·by_cases h5:n < 5
    ·have hf:ew.cells[n]?=some (.fn (.func (182 + n)) [] []):=by
      have:n=1∨n=2∨n=3∨n=4:=by omega
      rcases this with rfl | rfl | rfl | rfl <;> rfl
     have en:=V7 n _ hf h5
     have d1:decide ((n:Int) < 5)=true:=decide_eq_true (by omega)
     have d2:decide ((0:Int) < n)=true:=decide_eq_true (by omega)
     simp +contextual only [mJ,en _ rfl,d1,d2,sZ,Nat.reduceEqDiff,Nat.reduceAdd,↓reduceIte,reduceCtorEq]
     refine af (hr.at (by omega) h5 hG.1) ?_
     rintro r G' ⟨b,rfl,dU,hU,jH⟩
     have dN:SD c H1 G':=⟨jH,hG.2.trans hU⟩
     cases b with
     | true=>
       simp +contextual only [sZ,Nat.reduceEqDiff,↓reduceIte,reduceCtorEq]
       exact eG rfl ⟨fun _=>⟨rfl,n,h5,dU.1 rfl⟩,fun _=>rfl⟩ dN.2 dN.1
     | false=>
       simp +contextual only [sZ,Nat.reduceEqDiff,↓reduceIte,reduceCtorEq]
       refine ⟨n + 1,G',⟨by omega,dN,fun m hm=>?_⟩,by omega,aC (by rw [au n (by omega)]) rfl⟩
       by_cases e:m=n
       ·subst e;exact fun h=>absurd (dU.2 h) (by simp)
       ·exact jW m (by omega)
    ·have d1:decide ((n:Int) < 5)=false:=decide_eq_false (by omega)
     simp +contextual only [d1,sZ,Nat.reduceEqDiff,↓reduceIte,reduceCtorEq]
     exact eG rfl ⟨fun h=>by simp at h,fun ⟨_,m,hm,h⟩=>absurd h (jW m (by omega))⟩ hG.2 hG.1
theorem jO {f:Int→T} {s:Int} {l:List Int}:side s (l.map f)=(bG s l).map f:=by unfold side bG;split <;> simp
theorem JQ.lx {f:Int→T} {G:T→T→Prop} (irr:∀ x,¬ G x x):∀ {a b:List Int} {n:Nat},JQ (fun x y=>f x=f y) a b n→(Lx G (a.map f) (b.map f)↔n < a.length∧(n=b.length∨G (f (a.getD n 0)) (f (b.getD n 0))))
 | [],b,n,h=>by simp [Lx]
 | x::r,[],n,h=>by
   have:=h.lb
   simp at this
   subst this
   simp [Lx]
 | x::r,y::s,0,h=>by
   have dW:¬ f x=f y:=h.no (by simp) (by simp)
   simp [Lx,dW]
 | x::r,y::s,m + 1,h=>by
   have heq:f x=f y:=h.eq 0 (by omega)
   have ih:=JQ.lx irr (a:=r) (b:=s) (n:=m) ⟨by have:=h.la;simp at this;omega,by have:=h.lb;simp at this;omega,fun j hj=>h.eq (j + 1) (by omega),fun h1 h2=>h.no (by simpa using h1) (by simpa using h2)⟩
   simp only [List.map_cons,Lx,heq,true_and,List.length_cons,List.getD_cons_succ,Nat.add_lt_add_iff_right,Nat.add_right_cancel_iff]
   rw [ih]
   exact ⟨fun h=>by rcases h with h | h;exact h;exact absurd h (irr _),fun h=>.inl h⟩
theorem xc {Q:Int→Int→Prop}:∀ (a b:List Int),∃ n,JQ Q a b n
 | [],b=>⟨0,by simp,by simp,fun j h=>by omega,fun h=>by simp at h⟩
 | x::r,[]=>⟨0,by simp,by simp,fun j h=>by omega,fun _ h=>by simp at h⟩
 | x::r,y::s=>by
   by_cases hq:Q x y
   ·obtain ⟨n,h⟩:=xc (Q:=Q) r s
    refine ⟨n + 1,by have:=h.la;simp;omega,by have:=h.lb;simp;omega,fun j hj=>?_,fun h1 h2=>h.no (by simpa using h1) (by simpa using h2)⟩
    cases j with
    | zero=>exact hq
    | succ j=>exact h.eq j (by omega)
   ·exact ⟨0,by simp,by simp,fun j h=>by omega,fun _ _=>hq⟩
theorem s9 {c:Cx} (hc:c.Ok) {i k:Int} (hi:c.dV i) (hk:c.dV k):(sc c i=true∧∃ n,n < 5∧g9 c i k n)↔R c.O (c.tm i) (c.tm k):=by
 rw [rD,vh hc hi,vh hc hk]
 have hbi:sc c i=true↔(c.tm i).k=2:=by simp [sc]
 have F7:sc c k=true↔(c.tm k).k=2:=by simp [sc]
 rw [hbi]
 refine and_congr_right fun hki=>?_
 have epi:qf c i=c.O.pl (c.tm i).n:=if_pos hki
 have esi:dG c i=c.O.sp (c.O.pl (c.tm i).n):=if_pos hki
 have lk:=(hc.kids k hk).1
 have li:=(hc.kids i hi).1
 have all:(∀ x∈c.kd k,R c.O (c.tm i) (c.tm x))↔∀ y∈(c.tm k).l,R c.O (c.tm i) y:=by rw [← lk];simp
 have sub:Mn c i k↔∃ x∈(c.tm i).l,E c.O x (c.tm k)∨R c.O x (c.tm k):=by
  rw [← li];unfold Mn
  constructor
  ·rintro ⟨x,hx,h⟩;exact ⟨_,List.mem_map.2 ⟨x,hx,rfl⟩,h⟩
  ·rintro ⟨y,hy,h⟩;obtain ⟨x,hx,rfl⟩:=List.mem_map.1 hy;exact ⟨x,hx,h⟩
 have lex:Bv c i k↔(c.tm k).k=2∧c.O.pl (c.tm k).n=c.O.pl (c.tm i).n∧c.O.sp (c.O.pl (c.tm i).n)≠3∧(∀ y∈(c.tm k).l,R c.O (c.tm i) y)∧Lx (Gt c.O.sp) (side (c.O.sp (c.O.pl (c.tm i).n)) ((c.kd i).map (nf c))) (side (c.O.sp (c.O.pl (c.tm i).n)) ((c.kd k).map (nf c))):=by
  unfold Bv
  rw [kN,all,← esi,jO,jO]
  obtain ⟨n,hn⟩:=xc (Q:=fun x y=>nf c x=nf c y) (bG (dG c i) (c.kd i)) (bG (dG c i) (c.kd k))
  have hlx:=JQ.lx (G:=Gt c.O.sp) (fun x=>Bn x) hn
  rw [hlx]
  constructor
  ·rintro ⟨⟨_,h1,h2⟩,h3,h4,m,hm,h5⟩
   have:=hm.U1 hn
   subst this
   exact ⟨h1,h2.symm,h3,h4,h5⟩
  ·rintro ⟨h1,h2,h3,h4,h5⟩
   exact ⟨⟨hki,h1,h2.symm⟩,h3,h4,n,hn,h5⟩
 have mul:yn c i k↔(c.tm k).k=2∧c.O.pl (c.tm k).n=c.O.pl (c.tm i).n∧c.O.sp (c.O.pl (c.tm i).n)=3∧Mu (Gt c.O.sp) ((c.kd i).map (nf c)) ((c.kd k).map (nf c)):=by
  unfold yn
  rw [kN,← esi]
  exact ⟨fun ⟨⟨_,h1,h2⟩,h3⟩=>⟨h1,h2.symm,h3⟩,fun ⟨h1,h2,h3⟩=>⟨⟨hki,h1,h2.symm⟩,h3⟩⟩
 have pla:s8 c i k↔(c.tm k).k=2∧c.O.pl (c.tm k).n < c.O.pl (c.tm i).n∧∀ y∈(c.tm k).l,R c.O (c.tm i) y:=by
  unfold s8
  rw [all,F7,epi]
  refine and_congr_right fun h=>?_
  rw [show qf c k=c.O.pl (c.tm k).n from if_pos h]
 have e:(∃ n,n < 5∧g9 c i k n)↔Mn c i k∨s8 c i k∨Bv c i k∨yn c i k:=by
  constructor
  ·rintro ⟨n,_,h | h | h | h⟩
   ·exact .inl h.2
   ·exact .inr (.inl h.2)
   ·exact .inr (.inr (.inl h.2))
   ·exact .inr (.inr (.inr h.2))
  ·rintro (h | h | h | h)
   ·exact ⟨1,by omega,.inl ⟨rfl,h⟩⟩
   ·exact ⟨2,by omega,.inr (.inl ⟨rfl,h⟩)⟩
   ·exact ⟨3,by omega,.inr (.inr (.inl ⟨rfl,h⟩))⟩
   ·exact ⟨4,by omega,.inr (.inr (.inr ⟨rfl,h⟩))⟩
 rw [e,sub,pla,lex,mul]
 refine or_congr_right ?_
 constructor
 ·rintro (⟨h1,h2⟩ | ⟨h1,h2⟩ | ⟨h1,h2⟩)
  ·exact ⟨h1,.inl h2⟩
  ·exact ⟨h1,.inr (.inl h2)⟩
  ·exact ⟨h1,.inr (.inr h2)⟩
 ·rintro ⟨h1,h2 | h2 | h2⟩
  ·exact .inl ⟨h1,h2⟩
  ·exact .inr (.inl ⟨h1,h2⟩)
  ·exact .inr (.inr ⟨h1,h2⟩)
theorem iS.iff {c:Cx} {Q Q':Prop} {f:Nat} {args:List AV} {H:List aa} (h:aq Tryz.prog f args H (iS c Q H)) (e:Q↔Q'):aq Tryz.prog f args H (iS c Q' H):=by
 refine h.mono ?_
 rintro r H' ⟨b,h1,h2,h3,h4⟩
 exact ⟨b,h1,h2.trans e,h3,h4⟩
theorem DX {c:Cx} (hc:c.Ok):∀ (N:Nat) (i k:Int),c.dV i→c.dV k→wt (c.tm i) + wt (c.tm k)≤N→kM c i k∧iz c i k:=by
 intro N
 induction N with
 | zero=>intro i k _ _ h;have:=fO (c.tm i);omega
 | succ N ih=>
 intro i k hi hk hN
 have hx:∀ {j:Int},c.dV j→∀ x∈c.kd j,c.dV x∧wt (c.tm x) < wt (c.tm j):=fun {j} hj x hx=>by
  have h1:=hc.kids j hj
  exact ⟨h1.2 x hx,bP (by rw [← h1.1];exact List.mem_map.2 ⟨x,hx,rfl⟩)⟩
 have s1:∀ x∈c.kd i,∀ y∈c.kd k,kM c x y:=fun x h y h'=>(ih x y (hx hi x h).1 (hx hk y h').1 (by have:=(hx hi x h).2;have:=(hx hk y h').2;omega)).1
 have m1:∀ x∈c.kd i,∀ y∈c.kd k,iz c x y:=fun x h y h'=>(ih x y (hx hi x h).1 (hx hk y h').1 (by have:=(hx hi x h).2;have:=(hx hk y h').2;omega)).2
 have s2:∀ x∈c.kd i,kM c x k:=fun x h=>(ih x k (hx hi x h).1 hk (by have:=(hx hi x h).2;omega)).1
 have m2:∀ x∈c.kd i,iz c x k:=fun x h=>(ih x k (hx hi x h).1 hk (by have:=(hx hi x h).2;omega)).2
 have m3:∀ y∈c.kd k,iz c i y:=fun y h=>(ih i y hi (hx hk y h).1 (by have:=(hx hk y h).2;omega)).2
 refine ⟨c79 hc fun H hD=>acu hc hi hk s1 hD,c76 hc fun H hD=>iS.iff (acw hc hi ⟨fun H hD=>Y2 hc hi s2 m2 hD,fun H hD=>Y3 hc hi hk m3 hD,fun H hD=>Y5 hc hi hk m3 s1 m1 hD,fun H hD=>Zb hc hi hk s1 m1 hD⟩ hD) (s9 hc hi hk)⟩
theorem ku {c:Cx} (hc:c.Ok) {i k:Int} (hi:c.dV i) (hk:c.dV k):kM c i k:=(DX hc _ i k hi hk (Nat.le_refl _)).1
theorem kv {c:Cx} (hc:c.Ok) {i k:Int} (hi:c.dV i) (hk:c.dV k):iz c i k:=(DX hc _ i k hi hk (Nat.le_refl _)).2
end Go.aL
end
section
set_option maxRecDepth 100000
namespace Go.aL
open Go Go.Proofs Go.fN
def EmT (nd:List Nd) (t:T) (i:Nat):Prop:=∀ j,j < wt t→nd[i + j]?=(wZ t i)[j]?
def Mo (nd:List Nd) (l:List T) (i:Nat):Prop:=∀ j,j < ij l→nd[i + j]?=(da l i)[j]?
theorem EmT.head {nd:List Nd} {t:T} {i:Nat} (h:EmT nd t i):nd[i]?=some (t,aU t.l (i + 1))∧Mo nd t.l (i + 1):=by
 have hw:=DM t
 constructor
 ·have:=h 0 (fO t)
  rw [o6] at this
  simpa using this
 ·intro j hj
  have:=h (j + 1) (by omega)
  rw [o6,List.getElem?_cons_succ] at this
  rw [← this];congr 1;omega
theorem Mo.cons {nd:List Nd} {x:T} {r:List T} {i:Nat} (h:Mo nd (x::r) i):EmT nd x i∧Mo nd r (i + wt x):=by
 constructor
 ·intro j hj
  have:=h j (by rw [ij];omega)
  rw [da,List.getElem?_append_left (by rw [rE];exact hj)] at this
  exact this
 ·intro j hj
  have:=h (wt x + j) (by rw [ij];omega)
  rw [da,List.getElem?_append_right (by rw [rE];omega),rE] at this
  rw [show wt x + j - wt x=j by omega] at this
  rw [← this];congr 1;omega
theorem Mo.kids {nd:List Nd}:∀ {l:List T} {i:Nat},Mo nd l i→(aU l i).map (fun k=>(nd.getD k.toNat default).1)=l∧∀ k∈aU l i,0≤k∧k < nd.length
 | [],i,_=>⟨rfl,fun k h=>by simp [aU] at h⟩
 | x::r,i,h=>by
   obtain ⟨h1,h2⟩:=h.cons
   obtain ⟨h3,h4⟩:=Mo.kids h2
   have h5:=h1.head.1
   have h6:=(List.getElem?_eq_some_iff.1 h5).1
   refine ⟨?_,?_⟩
   ·rw [aU,List.map_cons,h3]
    congr 1
    rw [List.getD_eq_getElem?_getD,Int.toNat_natCast,h5];rfl
   ·intro k hk
    rw [aU] at hk
    rcases List.mem_cons.1 hk with rfl | hk
    ·omega
    ·exact h4 k hk
def Gd (nd:List Nd) (p:Int→Prop) (i:Nat):Prop:=∃ t,nd[i]?=some (t,aU t.l (i + 1))∧Mo nd t.l (i + 1)∧zJ p t
mutual
theorem gdT {nd:List Nd} {p:Int→Prop}:∀ (t:T) (i:Nat),EmT nd t i→zJ p t→∀ j,j < wt t→Gd nd p (i + j)
 | .mk k n l,i,h,ha,j,hj=>by
   obtain ⟨h1,h2⟩:=h.head
   cases j with
   | zero=>exact ⟨_,h1,h2,ha⟩
   | succ j=>
     have:=gdL l (i + 1) h2 (fun x hx=>ha.mem hx) j (by rw [wt] at hj;omega)
     rw [show i + (j + 1)=i + 1 + j by omega];exact this
theorem gdL {nd:List Nd} {p:Int→Prop}:∀ (l:List T) (i:Nat),Mo nd l i→(∀ x∈l,zJ p x)→∀ j,j < ij l→Gd nd p (i + j)
 | [],i,h,ha,j,hj=>by simp [ij] at hj
 | x::r,i,h,ha,j,hj=>by
   obtain ⟨h1,h2⟩:=h.cons
   by_cases hx:j < wt x
   ·exact gdT x i h1 (ha x List.mem_cons_self) j hx
   ·have:=gdL r (i + wt x) h2 (fun y hy=>ha y (List.mem_cons_of_mem _ hy)) (j - wt x) (by rw [ij] at hj;omega)
    rw [show i + j=i + wt x + (j - wt x) by omega];exact this
end
def gK (ps ss:List Int) (ts:List T) (n:Nat):Cx:=⟨ps,ss,da ts 0,n + 2,n,n + 1⟩
theorem Qk (ts:List T):Mo (da ts 0) ts 0:=fun j _=>by rw [Nat.zero_add]
theorem RW {ps ss:List Int} (hv:Va ps ss) {ts:List T} (dW:ts≠[]) (hw:ij ts≤100000000) (ha:∀ t∈ts,zJ (fun n=>0≤n∧n < ps.length) t) (n:Nat):(gK ps ss ts n).Ok:=by
 have hl:(da ts 0).length=ij ts:=gZ ts 0
 have gd:∀ i,(gK ps ss ts n).dV i→∃ t,(da ts 0).getD i.toNat default=(t,aU t.l (i.toNat + 1))∧Mo (da ts 0) t.l (i.toNat + 1)∧zJ (fun n=>0≤n∧n < ps.length) t:=by
  intro i hi
  have me:i.toNat < ij ts:=by have:=hi.1;have:=hi.2;simp only [gK] at *;omega
  obtain ⟨t,h1,h2,h3⟩:=gdL ts 0 (Qk ts) ha i.toNat me
  rw [Nat.zero_add] at h1 h2
  exact ⟨t,by rw [List.getD_eq_getElem?_getD,h1];rfl,h2,h3⟩
 refine ⟨hv,?_,by simp [gK],by simp [gK],by simp [gK],fun i hi=>?_,fun i hi=>?_,fun i hi hk=>?_⟩
 ·intro e
  have e:da ts 0=[]:=e
  rw [e] at hl
  have:=iR ts
  have h0:ts.length=0:=by simp at hl;omega
  exact dW (List.length_eq_zero_iff.1 h0)
 ·obtain ⟨t,h1,h2,h3⟩:=gd i hi
  show ((da ts 0).getD i.toNat default).2.length≤_
  rw [h1,cI]
  by_cases h0:t.l=[]
  ·rw [h0];simp
  ·have:ij t.l≤(da ts 0).length:=by
    have hp:0 < ij t.l:=by
     have:=iR t.l
     have:=List.length_pos_iff.2 h0
     omega
    have:=h2 (ij t.l - 1) (by omega)
    have h4:(da t.l (i.toNat + 1))[ij t.l - 1]?≠none:=by rw [List.getElem?_eq_getElem (by rw [gZ];omega)];simp
    rw [← this] at h4
    have h5:i.toNat + 1 + (ij t.l - 1) < (da ts 0).length:=by
     apply Decidable.byContradiction
     intro hc
     exact h4 (List.getElem?_eq_none (by omega))
    omega
   have:=iR t.l
   omega
 ·obtain ⟨t,h1,h2,h3⟩:=gd i hi
  have hk:=h2.kids
  have e1:(gK ps ss ts n).kd i=aU t.l (i.toNat + 1):=by show ((da ts 0).getD i.toNat default).2=_;rw [h1]
  have e2:(gK ps ss ts n).tm i=t:=by show ((da ts 0).getD i.toNat default).1=_;rw [h1]
  rw [e1,e2]
  exact hk
 ·obtain ⟨t,h1,h2,h3⟩:=gd i hi
  have e2:(gK ps ss ts n).tm i=t:=by show ((da ts 0).getD i.toNat default).1=_;rw [h1]
  rw [e2] at hk ⊢
  exact h3.op hk
theorem zP (ps ss:List Int) {ts:List T} (dW:ts≠[]) (H:List aa):Du (gK ps ss ts H.length) (H++[.map [],.map [],kr ps ss (da ts 0) H.length (H.length + 1)]):=by
 have hn:da ts 0≠[]:=by
  intro e
  have hl:(da ts 0).length=ij ts:=gZ ts 0
  have:=iR ts
  rw [e] at hl
  have h0:ts.length=0:=by simp at hl;omega
  exact dW (List.length_eq_zero_iff.1 h0)
 refine ⟨?_,⟨[],?_,fun p hp=>by simp at hp⟩,⟨[],?_,fun p hp=>by simp at hp⟩⟩
 ·show (H++[aa.map [],.map [],kr ps ss (da ts 0) H.length (H.length + 1)])[H.length + 2]?=_
  rw [kr,ou,if_neg hn]
  simp [gK]
 ·show (H++[aa.map [],.map [],kr ps ss (da ts 0) H.length (H.length + 1)])[H.length]?=_
  simp [mR]
 ·show (H++[aa.map [],.map [],kr ps ss (da ts 0) H.length (H.length + 1)])[H.length + 1]?=_
  simp [mR]
theorem uh {ps ss:List Int} {ts:List T} {n j:Nat} (hj:j < ts.length):(gK ps ss ts n).dV ((aU ts 0).getD j 0)∧(gK ps ss ts n).tm ((aU ts 0).getD j 0)=ts.getD j default:=by
 obtain ⟨h1,h2⟩:=(Qk ts).kids
 have hl:=cI ts 0
 refine ⟨h2 _ (aP (by omega)),?_⟩
 have:=congrArg (fun l=>l[j]?) h1
 have vg:j < (aU ts 0).length:=by omega
 simp only [List.getElem?_map,List.getElem?_eq_getElem vg,List.getElem?_eq_getElem hj,Option.map_some,Option.some.injEq] at this
 have e1:(aU ts 0).getD j 0=(aU ts 0)[j]:=by simp [vg]
 have e2:ts.getD j default=ts[j]:=by simp [hj]
 rw [e1,e2]
 exact this
end Go.aL
end
section
set_option maxRecDepth 100000
namespace Go.aL
open Go Go.Proofs
theorem ixs (s:ByteArray) (k:IntKind) (i:Nat) (φ:AV→Prop):bK (.str s) (.int k (i:Int)) φ=(i < s.size∧φ (.int .u8 (s.data.toList.getD i 0).toNat)):=by
 simp only [bK,Int.toNat_natCast,eq_iff_iff]
 exact ⟨fun h=>h.2,fun h=>⟨by omega,h⟩⟩
theorem qh (a b:ByteArray) (φ:AV→Prop):dg .eql (.str a) (.str b) φ=φ (.bool (decide (a=b))):=by
 simp [dg]
theorem Hw {g:Nat} {f:List AV→Option AV} (h:tZ Tryz.prog g (.wu f)) {xs:List AV} {r:AV} (hr:f xs=some r):Pure Tryz.prog g xs r:=fun H=>h xs r H hr
theorem acA (s:ByteArray) (c:Int):Pure Tryz.prog 238 [.str s,.int .u8 c] (.int .i64 (firstIdx s c.toNat.toUInt8)):=Hw YL rfl
def nw (s:ByteArray) (c:Int):Int:=s.foldl (fun (n:Int) x=>if x == c.toNat.toUInt8 then n + 1 else n) ((0:Nat):Int)
theorem acB (s:ByteArray) (c:Int):Pure Tryz.prog 231 [.str s,.int .u8 c] (.int .i64 (nw s c)):=Hw YM (by simp only [countP,nw])
theorem Zc (s:ByteArray) (c:Int):Pure Tryz.prog 228 [.str s,.int .u8 c] (.int .i64 (firstIdx s c.toNat.toUInt8)):=by
 refine fun H=>PV.2.calls rfl ?_
 simp only [PV,aF]
 simp +contextual only [AZ,sZ,Nat.reduceEqDiff,Nat.reduceAdd,↓reduceIte,reduceCtorEq]
 refine ae (acA s c) ?_
 simp +contextual only [sZ,↓reduceIte,reduceCtorEq]
 exact aZ rfl rfl
theorem acC (s:ByteArray) (c:Int):Pure Tryz.prog 190 [.str s,.int .u8 c] (.int .i64 (firstIdx s c.toNat.toUInt8)):=by
 refine fun H=>PJ.2.calls rfl ?_
 simp only [PJ,aF]
 simp +contextual only [AZ,sZ,Nat.reduceEqDiff,Nat.reduceAdd,↓reduceIte,reduceCtorEq]
 refine ae (Zc s c) ?_
 simp +contextual only [sZ,↓reduceIte,reduceCtorEq]
 exact aZ rfl rfl
def us:ByteArray:=⟨#[95]⟩
theorem ix0 (k:IntKind) (φ:AV→Prop):bK (.str us) (.int k 0) φ=φ (.int .u8 95):=by
 simp only [bK,eq_iff_iff]
 exact ⟨fun h=>h.2.2,fun h=>⟨by omega,by decide,h⟩⟩
def Ql (s:ByteArray):Int:=if s=us then 0 else firstIdx s 95
theorem acD (s:ByteArray):Pure Tryz.prog 229 [.str s,.str us] (.int .i64 (Ql s)):=by
 refine fun H=>PW.2.calls rfl ?_
 simp only [PW,aF]
 unfold Ql
 have dc:((us.size:Nat):Int)=1:=rfl
 by_cases hs:s=us
 ·rw [if_pos hs]
  simp +contextual only [qh,dc,hs,Int.reduceEq,sZ,Nat.reduceEqDiff,Nat.reduceAdd,↓reduceIte,reduceCtorEq,Int.reduceEq]
  exact aZ rfl rfl
 ·rw [if_neg hs]
  have Ws:¬ us=s:=fun e=>hs e.symm
  simp +contextual only [qh,dc,Ws,ix0,Int.reduceEq,sZ,Nat.reduceEqDiff,Nat.reduceAdd,↓reduceIte,reduceCtorEq,Int.reduceEq]
  refine ae (Zc s 95) ?_
  simp +contextual only [sZ,↓reduceIte,reduceCtorEq]
  exact aZ rfl rfl
theorem acE (s:ByteArray):Pure Tryz.prog 191 [.str s,.str us] (.int .i64 (Ql s)):=by
 refine fun H=>PK.2.calls rfl ?_
 simp only [PK,aF]
 simp +contextual only [sZ,Nat.reduceEqDiff,Nat.reduceAdd,↓reduceIte,reduceCtorEq]
 refine ae (acD s) ?_
 simp +contextual only [sZ,↓reduceIte,reduceCtorEq]
 exact aZ rfl rfl
theorem acF (s:ByteArray):Pure Tryz.prog 142 [.str s,.str us] (.bool (decide (0≤Ql s))):=by
 refine fun H=>PD.2.calls rfl ?_
 simp only [PD,aF]
 simp +contextual only [sZ,Nat.reduceEqDiff,Nat.reduceAdd,↓reduceIte,reduceCtorEq]
 refine ae (acE s) ?_
 simp +contextual only [sZ,↓reduceIte,reduceCtorEq]
 exact aZ rfl rfl
theorem acG (s:ByteArray):Pure Tryz.prog 193 [.str s,.str us] (.int .i64 (nw s 95)):=by
 refine fun H=>PM.2.calls rfl ?_
 simp only [PM,aF]
 have dc:((us.size:Nat):Int)=1:=rfl
 simp +contextual only [dc,ix0,Int.reduceEq,sZ,Nat.reduceEqDiff,Nat.reduceAdd,↓reduceIte,reduceCtorEq,Int.reduceEq]
 refine ae (acB s 95) ?_
 simp +contextual only [sZ,↓reduceIte,reduceCtorEq]
 exact aZ rfl rfl
def BA (c:UInt8):Bool:=decide (((c.toNat:Nat):Int) < 33) || decide ((126:Int) < ((c.toNat:Nat):Int)) || decide (0≤firstIdx ⟨#[40,41,44]⟩ ((c.toNat:Nat):Int).toNat.toUInt8)
def pG (s:ByteArray):Bool:=!decide (((s.size:Nat):Int) < 1) && !decide ((32:Int) < ((s.size:Nat):Int)) && s.data.toList.all fun c=>!BA c
theorem zQ {p:UInt8→Bool} {l:List UInt8} {i:Nat} (h:i < l.length):(l.drop i).all p=(p (l.getD i 0) && (l.drop (i + 1)).all p):=by
 rw [List.drop_eq_getElem_cons h,List.all_cons]
 simp [h]
theorem Zd (s:ByteArray):Pure Tryz.prog 141 [.str s] (.bool (pG s)):=by
 refine fun H=>Rr.calls rfl ?_
 simp only [LD,Rq]
 have hl:s.data.toList.length=s.size:=rfl
 unfold pG
 simp +contextual only [sZ,Nat.reduceEqDiff,Nat.reduceAdd,↓reduceIte,reduceCtorEq]
 refine ⟨fun h1=>⟨fun h2=>?_,fun h2=>?_⟩,fun h1=>?_⟩
 ·exact aZ rfl (by simp [h2])
 ·refine aD s.size (fun i=>((s.data.toList.drop i).all fun c=>!BA c)=(s.data.toList.all fun c=>!BA c))
   (fun i=>[(0,.str s),(13,.int .i64 s.size),(14,.int .i64 i)]) (fun i=>H) ⟨rfl,aA _ _ _⟩ fun i hi hI=>?_
  simp +contextual only [ixs,sZ,Nat.reduceEqDiff,Nat.reduceAdd,↓reduceIte,reduceCtorEq]
  have fin:∀ (aK:i < s.size),BA (s.data.toList.getD i 0)=true→(s.data.toList.all fun c=>!BA c)=false:=fun aK hb=>by
   rw [← hI,zQ (by omega),hb];rfl
  refine ⟨fun aK=>?_,fun gr=>?_⟩
  ·have aK:=bi aK
   have fin:=fin aK
   rw [zQ (by omega)] at hI
   have RR:BA (s.data.toList.getD i 0)=(decide ((((s.data.toList.getD i 0).toNat:Nat):Int) < 33) || decide ((126:Int) < (((s.data.toList.getD i 0).toNat:Nat):Int)) || decide (0≤firstIdx ⟨#[40,41,44]⟩ (((s.data.toList.getD i 0).toNat:Nat):Int).toNat.toUInt8)):=rfl
   generalize s.data.toList.getD i 0=c at *
   refine ⟨aK,fun a=>⟨aK,fun b=>⟨aK,ae (acC _ _) ?_⟩,fun b=>?_⟩,fun a=>?_⟩
   ·simp +contextual only [sZ,Nat.reduceEqDiff,↓reduceIte,reduceCtorEq]
    refine ⟨fun d=>?_,fun d=>?_⟩
    ·exact aZ rfl (by rw [fin (by rw [RR];simp only [decide_eq_true d,Bool.or_true])];simp)
    ·refine ⟨i + 1,⟨aK,?_⟩,by omega,aC (by rw [au i (by omega)]) rfl⟩
     rw [← hI]
     have:BA c=false:=by
      rw [RR]
      simp only [Bool.or_eq_false_iff,decide_eq_false_iff_not]
      omega
     rw [this];simp
   ·exact aZ rfl (by rw [fin (by rw [RR];simp only [decide_eq_true b,Bool.or_true,Bool.true_or])];simp)
   ·exact aZ rfl (by rw [fin (by rw [RR];simp only [decide_eq_true a,Bool.true_or])];simp)
  ·rw [List.drop_of_length_le (by have:=cb gr;omega)] at hI
   exact aZ rfl (by rw [← hI];simp;omega)
 ·exact aZ rfl (by simp [h1])
end Go.aL
end
section
set_option maxRecDepth 100000
namespace Go.aL
open Go Go.Proofs
structure hJ where
 name:ByteArray
 args:List Int
 B6:Int
 deriving Inhabited
structure Sg where
 a9:List ByteArray
 ops:List hJ
 deriving Inhabited
def hJ.av (o:hJ):AV:=.agg [.str o.name,.al 0 (ints o.args),.int .i64 o.B6]
def pj (l:List hJ):List AV:=l.map hJ.av
def strs (l:List ByteArray):List AV:=l.map AV.str
def Sg.av (s:Sg):AV:=.agg [.al 0 (strs s.a9),.al 0 (pj s.ops)]
theorem xd (l:List hJ):(pj l).length=l.length:=by simp [pj]
theorem DY (l:List ByteArray):(strs l).length=l.length:=by simp [strs]
theorem xe (n:Nat) (l:List hJ):aj n (pj l)=true:=by
 rw [a8];intro x hx;obtain ⟨y,_,rfl⟩:=List.mem_map.1 hx
 simp [hJ.av,AV.aV,aj,bb]
theorem xf (n:Nat) (l:List ByteArray):aj n (strs l)=true:=by
 rw [a8];intro x hx;obtain ⟨y,_,rfl⟩:=List.mem_map.1 hx;rfl
theorem hJ.bY (n:Nat) (o:hJ):o.av.aV n=true:=by simp [hJ.av,AV.aV,aj,bb]
theorem hJ.sM (o:hJ):o.av.val=true:=rfl
theorem hJ.mL (o:hJ):o.av.cells.all AV.one=true:=rfl
theorem hJ.fj (o:hJ):o.av.ab=o.av:=rfl
theorem hJ.rv (o:hJ):o.av.drop=o.av:=rfl
theorem hJ.cw (o:hJ):o.av.cells.length=3:=rfl
theorem Sg.bY (n:Nat) (o:Sg):o.av.aV n=true:=by simp [Sg.av,AV.aV,aj,xf,xe]
theorem Sg.sM (o:Sg):o.av.val=true:=rfl
theorem Sg.mL (o:Sg):o.av.cells.all AV.one=true:=rfl
theorem Sg.fj (o:Sg):o.av.ab=o.av:=rfl
theorem Sg.rv (o:Sg):o.av.drop=o.av:=rfl
theorem Sg.cw (o:Sg):o.av.cells.length=2:=rfl
theorem Jo (o:Nat) (l:List hJ):(∀ (own:Nat) (xs:List AV),AV.al o (pj l)=AV.al own xs→∀ z∈xs,z.cells.length=3)=True:=by
 simp only [eq_iff_iff,iff_true]
 intro own xs e z hz
 cases e
 obtain ⟨y,_,rfl⟩:=List.mem_map.1 hz
 rfl
theorem Jp (o:Nat) (l:List ByteArray):(∀ (own:Nat) (xs:List AV),AV.al o (strs l)=AV.al own xs→∀ z∈xs,z.cells.length=1)=True:=by
 simp only [eq_iff_iff,iff_true]
 intro own xs e z hz
 cases e
 obtain ⟨y,_,rfl⟩:=List.mem_map.1 hz
 rfl
theorem Mq (e o:Nat) (l:List hJ) (k:IntKind) (i:Nat) (φ:AV→Prop):ax e (.al o (pj l)) (.int k (i:Int)) φ=(i < l.length∧φ (.ai (l.getD i default).av)):=by
 simp only [ax,xd,Int.toNat_natCast,eq_iff_iff]
 constructor
 ·rintro ⟨_,h,h2⟩;refine ⟨h,?_⟩;simpa [pj,h] using h2
 ·rintro ⟨h,h2⟩;refine ⟨by omega,h,?_⟩;simpa [pj,h] using h2
theorem Mr (e o:Nat) (l:List ByteArray) (k:IntKind) (i:Nat) (φ:AV→Prop):ax e (.al o (strs l)) (.int k (i:Int)) φ=(i < l.length∧φ (.ai (.str (l.getD i default)))):=by
 simp only [ax,DY,Int.toNat_natCast,eq_iff_iff]
 constructor
 ·rintro ⟨_,h,h2⟩;refine ⟨h,?_⟩;simpa [strs,h] using h2
 ·rintro ⟨h,h2⟩;refine ⟨by omega,h,?_⟩;simpa [strs,h] using h2
theorem Ze (o:hJ) (H:List aa) (φ:AV→Prop):aQ (some 3) (.ai o.av) H φ=φ o.av:=by simp [aQ,hJ.av,AV.cells]
theorem rJ (o:Sg) (H:List aa) (φ:AV→Prop):aQ (some 2) (.ai o.av) H φ=φ o.av:=by simp [aQ,Sg.av,AV.cells]
theorem fo0 (x:hJ) (φ:AV→Prop):ak 0 none (.ai x.av) φ=φ (.ai (.str x.name)):=by simp [ak,apart,hJ.av,AV.cells,AV.one]
theorem fo1 (x:hJ) (φ:AV→Prop):ak 1 none (.ai x.av) φ=φ (.ai (.al 0 (ints x.args))):=by simp [ak,apart,hJ.av,AV.cells,AV.one]
theorem fo2 (x:hJ) (φ:AV→Prop):ak 2 none (.ai x.av) φ=φ (.ai (.int .i64 x.B6)):=by simp [ak,apart,hJ.av,AV.cells,AV.one]
theorem fs0 (x:Sg) (φ:AV→Prop):ak 0 none (.ai x.av) φ=φ (.ai (.al 0 (strs x.a9))):=by simp [ak,apart,Sg.av,AV.cells,AV.one]
theorem fs1 (x:Sg) (φ:AV→Prop):ak 1 none (.ai x.av) φ=φ (.ai (.al 0 (pj x.ops))):=by simp [ak,apart,Sg.av,AV.cells,AV.one]
def aB:=(And.intro (And.intro (And.intro (And.intro @xd @DY) (And.intro @xe @xf)) (And.intro (And.intro @hJ.bY @hJ.sM) (And.intro (And.intro @hJ.mL @hJ.fj) (And.intro @hJ.rv @hJ.cw)))) (And.intro (And.intro (And.intro (And.intro @Sg.bY @Sg.sM) (And.intro (And.intro @Sg.mL @Sg.fj) (And.intro @Sg.rv @Sg.cw))) (And.intro (And.intro @Jo @Jp) (And.intro @Mq @Mr))) (And.intro (And.intro @Ze @rJ) (And.intro (And.intro @fo0 @fo1) (And.intro @fo2 (And.intro @fs0 @fs1))))))
def yp (p:Int→Bool):List Int→Int→Int
 | [],_=>-1
 | x::r,k=>if p x=true then k else yp p r (k + 1)
theorem DZ (p:Int→Bool):∀ (l:List Int) (k:Int),0≤k→(decide (0≤yp p l k)=l.any p)
 | [],k,_=>by simp [yp]
 | x::r,k,h=>by
   simp only [yp,List.any_cons]
   split
   ·rename_i hp;simp [hp,h]
   ·rename_i hp;simp [hp,DZ p r (k + 1) (by omega)]
theorem Jq {p:Int→Bool} {l:List Int} {i:Nat} {k:Int} (h:i < l.length):yp p (l.drop i) k=if p (l.getD i 0)=true then k else yp p (l.drop (i + 1)) (k + 1):=by
 rw [List.drop_eq_getElem_cons h]
 simp [yp,h]
theorem acH (g:Nat) (cap:List AV) (cj:cap.map AV.ab=cap) (hb:aj 0 cap=true) (p:Int→Bool) (l:List Int) (hf:∀ x∈l,Pure Tryz.prog g ([.int .i64 x]++cap) (.bool (p x))) :
 Pure Tryz.prog 100 [.al 0 (ints l),.fn (.func g) [] cap] (.int .i64 (yp p l 0)):=by
 refine fun H=>Dn.2.calls rfl ?_
 simp only [Dn,aF]
 simp +contextual only [sZ,Nat.reduceEqDiff,Nat.reduceAdd,↓reduceIte,reduceCtorEq]
 intro hl
 refine aD l.length (fun i=>yp p (l.drop i) i=yp p l 0) (fun i=>[(0,.al 0 (ints l)),(1,.fn (.func g) [] cap),(7,.int .i64 l.length),(8,.int .i64 i)]) (fun _=>H) ⟨rfl,aA _ _ _⟩ fun i hi hI=>?_
 simp +contextual only [cj,sZ,Nat.reduceEqDiff,Nat.reduceAdd,↓reduceIte,reduceCtorEq]
 refine ⟨fun aK=>?_,fun gr=>?_⟩
 ·have aK:=bi aK
  rw [Jq aK] at hI
  refine ⟨aK,ae (hf _ ?_) ?_⟩
  ·simp [aK]
  simp +contextual only [sZ,Nat.reduceEqDiff,↓reduceIte,reduceCtorEq]
  refine uW (fun hb=>?_) (fun hb=>?_) <;> simp +contextual only [sZ,Nat.reduceEqDiff,↓reduceIte,reduceCtorEq]
  ·rw [if_pos hb] at hI
   exact aZ rfl (by rw [← hI])
  ·rw [if_neg (by rw [hb];simp)] at hI
   exact ⟨i + 1,⟨aK,hI⟩,by omega,aC (by rw [au i (by omega)]) rfl⟩
 ·rw [List.drop_of_length_le (cb gr)] at hI
  exact aZ rfl (by rw [← hI];rfl)
theorem acI (g:Nat) (cap:List AV) (cj:cap.map AV.ab=cap) (hb:aj 0 cap=true) (p:Int→Bool) (l:List Int) (hf:∀ x∈l,Pure Tryz.prog g ([.int .i64 x]++cap) (.bool (p x))) :
 Pure Tryz.prog 102 [.al 0 (ints l),.fn (.func g) [] cap] (.bool (l.any p)):=by
 refine fun H=>Dp.2.calls rfl ?_
 simp only [Dp,aF]
 simp +contextual only [sZ,Nat.reduceEqDiff,Nat.reduceAdd,↓reduceIte,reduceCtorEq]
 refine ae (acH g cap cj hb p l hf) ?_
 simp +contextual only [sZ,↓reduceIte,reduceCtorEq]
 exact aZ rfl (by rw [DZ p l 0 (by omega)])
end Go.aL
end
section
set_option maxRecDepth 100000
namespace Go.aL
open Go Go.Proofs
def Jr (n a:Int):Bool:=decide (0≤a) && decide (a < n)
theorem Zf (n a:Int):Pure Tryz.prog 192 [.int .i64 a,.ai (.int .i64 n)] (.bool (Jr n a)):=by
 refine fun H=>PL.2.calls rfl ?_
 simp only [PL,aF]
 unfold Jr
 simp +contextual only [sZ,Nat.reduceEqDiff,Nat.reduceAdd,↓reduceIte,reduceCtorEq]
 refine ⟨fun h=>aZ rfl (by simp [h]),fun h=>aZ rfl (by simp;omega)⟩
theorem acJ (n a:Int):Pure Tryz.prog 194 [.int .i64 a,.ai (.fn (.func 192) [] [.ai (.int .i64 n)])] (.bool (!Jr n a)):=by
 refine fun H=>PN.2.calls rfl ?_
 simp only [PN,aF]
 simp +contextual only [sZ,Nat.reduceEqDiff,Nat.reduceAdd,↓reduceIte,reduceCtorEq]
 refine ae (Zf n a) ?_
 simp +contextual only [sZ,↓reduceIte,reduceCtorEq]
 exact aZ rfl rfl
def rK (o:hJ) (n:Int):Bool:=
 pG o.name && (decide (nw o.name 95 < o.name.size) && ((decide (nw o.name 95=0) || decide (nw o.name 95=o.args.length)) && (decide ((o.args.length:Int)≤8) && (Jr n o.B6 && !o.args.any fun a=>!Jr n a))))
theorem acK (o:hJ) (n:Int):Pure Tryz.prog 143 [o.av,.int .i64 n] (.bool (rK o n)):=by
 refine fun H=>Rv.calls rfl ?_
 simp only [LF,Ru]
 unfold rK
 simp +contextual only [aB,sZ,Nat.reduceEqDiff,Nat.reduceAdd,↓reduceIte,reduceCtorEq]
 refine ae (acG o.name) ?_
 simp +contextual only [aB,sZ,Nat.reduceEqDiff,Nat.reduceAdd,↓reduceIte]
 refine ae (Zd o.name) ?_
 cases hn:pG o.name with
 | false=>
   simp +contextual only [sZ,Nat.reduceEqDiff,↓reduceIte,reduceCtorEq]
   exact aZ rfl rfl
 | true=>
   have h66:=acI 194 [.ai (.fn (.func 192) [] [.ai (.int .i64 n)])] rfl rfl (fun a=>!Jr n a) o.args (fun a _=>acJ n a)
   have Ms:=Zf n o.B6
   generalize Jr n o.B6=q at Ms ⊢
   generalize (o.args.any fun a=>!Jr n a)=z at h66 ⊢
   by_cases h1:nw o.name 95 < o.name.size
   ·have e1:decide (nw o.name 95 < o.name.size)=true:=decide_eq_true h1
    simp +contextual only [aB,h1,sZ,Nat.reduceEqDiff,Nat.reduceAdd,↓reduceIte,reduceCtorEq]
    refine ⟨fun h20 _=>⟨fun h21=>?_,fun h21=>?_⟩,fun h20 _=>?_⟩
    ·have e2:(decide (nw o.name 95=0) || decide (nw o.name 95=(o.args.length:Int)))=true:=by simp [h21]
     refine ⟨fun h3=>ae Ms ?_,fun h3=>?_⟩
     ·have e903:decide ((o.args.length:Int)≤8)=true:=decide_eq_true h3
      rw [e1,e2,e903]
      cases q with
      | false=>
        simp +contextual only [sZ,Nat.reduceEqDiff,↓reduceIte,reduceCtorEq]
        exact aZ rfl (by simp)
      | true=>
        simp +contextual only [aB,sZ,Nat.reduceEqDiff,Nat.reduceAdd,↓reduceIte,reduceCtorEq]
        refine ae h66 ?_
        simp +contextual only [sZ,Nat.reduceEqDiff,↓reduceIte,reduceCtorEq]
        exact aZ rfl (by simp)
     ·have e903:decide ((o.args.length:Int)≤8)=false:=decide_eq_false (by omega)
      exact aZ rfl (by rw [e903];simp)
    ·have e2:(decide (nw o.name 95=0) || decide (nw o.name 95=(o.args.length:Int)))=false:=by simp [h20,h21]
     exact aZ rfl (by rw [e2];simp)
    ·have e2:(decide (nw o.name 95=0) || decide (nw o.name 95=(o.args.length:Int)))=true:=by simp [h20]
     refine ⟨fun h3=>ae Ms ?_,fun h3=>?_⟩
     ·have e903:decide ((o.args.length:Int)≤8)=true:=decide_eq_true h3
      rw [e1,e2,e903]
      cases q with
      | false=>
        simp +contextual only [sZ,Nat.reduceEqDiff,↓reduceIte,reduceCtorEq]
        exact aZ rfl (by simp)
      | true=>
        simp +contextual only [aB,sZ,Nat.reduceEqDiff,Nat.reduceAdd,↓reduceIte,reduceCtorEq]
        refine ae h66 ?_
        simp +contextual only [sZ,Nat.reduceEqDiff,↓reduceIte,reduceCtorEq]
        exact aZ rfl (by simp)
     ·have e903:decide ((o.args.length:Int)≤8)=false:=decide_eq_false (by omega)
      exact aZ rfl (by rw [e903];simp)
   ·have e1:decide (nw o.name 95 < o.name.size)=false:=decide_eq_false h1
    rw [e1]
    simp +contextual only [aB,h1,sZ,Nat.reduceEqDiff,↓reduceIte,reduceCtorEq]
    exact aZ rfl (by simp)
end Go.aL
end
section
set_option maxRecDepth 100000
namespace Go.aL
open Go Go.Proofs
theorem Zg (l:List Int) (hl:l.length * 8≤140737488355328):Pure Tryz.prog 118 [.al 0 (ints l)] (.al 1 (ints l)):=fun H=>
 ru 0 (ints l) H (of_eq_true (kL l)) (by rw [aw];exact hl) (bb _ _)
def Js (a:Int):UInt8:=UInt8.ofNat (IntKind.u8.wrap a).toNat
theorem U8 (a:Int):AV.int .u8 (IntKind.u8.wrap a)=.int .u8 (Js a).toNat:=by
 have h:0≤IntKind.u8.wrap a∧IntKind.u8.wrap a < 256:=by
  simp only [IntKind.wrap]
  have h1:IntKind.u8.bits=8:=rfl
  have h2:IntKind.u8.signed=false:=rfl
  rw [h1,h2]
  simp
  omega
 congr 1
 unfold Js
 rw [UInt8.toNat_ofNat']
 omega
def Jt (o:hJ):List UInt8:=(o.name++⟨#[40]⟩).data.toList++(o.args++[o.B6]).map Js
def nz (o:hJ):ByteArray:=⟨(Jt o).toArray⟩
theorem F8 (l:List UInt8) (a:Int):bk l++[.int .u8 (IntKind.u8.wrap a)]=bk (l++[Js a]):=by
 rw [U8];simp [bk]
theorem Ju (l:List UInt8):(bk l).length=l.length:=by simp [bk]
theorem U9 (s:ByteArray) (φ:AV→Prop):fe 1 (.str s) φ=(s.size < 9223372036854775808∧φ (.al 1 (bk s.data.toList))):=_root_.id rfl
theorem Vb (o:Nat) (l:List UInt8) (φ:AV→Prop) (h:φ (.str ⟨l.toArray⟩)):jV (.al o (bk l)) φ:=⟨l,rfl,h⟩
theorem Vc (k k':IntKind) (n:Int) (φ:AV→Prop):cF k (.int k' n) φ=φ (.int k (k.wrap n)):=_root_.id rfl
theorem Zh (o:hJ) (h1:o.name.size≤32) (h2:o.args.length≤8):Pure Tryz.prog 144 [o.av] (.str (nz o)):=by
 refine fun H=>Rx.calls rfl ?_
 simp only [LG,Rw]
 have dc:(⟨#[40]⟩:ByteArray).size=1:=rfl
 have hs2:(o.name++⟨#[40]⟩:ByteArray).size=o.name.size + 1:=by rw [ByteArray.size_append,dc]
 have hln:(o.name++⟨#[40]⟩:ByteArray).data.toList.length=o.name.size + 1:=hs2
 simp +contextual only [aB,U9,dc,hs2,sZ,Nat.reduceEqDiff,Nat.reduceAdd,↓reduceIte]
 refine ⟨by omega,by omega,aE (Zg o.args (by omega)) ?_⟩
 simp +contextual only [aB,mI,ok_int,sN,sZ,Nat.reduceEqDiff,Nat.reduceAdd,↓reduceIte]
 refine ⟨by omega,?_⟩
 generalize hv:o.args++[o.B6]=vs
 have qz:vs.length≤9:=by rw [← hv];simp;omega
 have hk:nz o=⟨((o.name++⟨#[40]⟩:ByteArray).data.toList++vs.map Js).toArray⟩:=by rw [nz,Jt,hv]
 rw [hk]
 generalize (o.name++⟨#[40]⟩:ByteArray).data.toList=nm at *
 refine aD vs.length (fun _=>True)
  (fun i=>[(3,.al 1 (bk (nm++(vs.take i).map Js))),(16,.al 1 (ints vs)),(17,.int .i64 vs.length),(18,.int .i64 i)]) (fun _=>H) ⟨trivial,aC (by simp) rfl⟩ fun i hi hI=>?_
 simp +contextual only [sZ,Nat.reduceEqDiff,↓reduceIte,reduceCtorEq]
 refine ⟨fun aK=>⟨bi aK,?_⟩,fun gr=>?_⟩
 ·have aK:=bi aK
  simp +contextual only [Vc,mI,ok_int,F8,Ju,sZ,Nat.reduceEqDiff,Nat.reduceAdd,↓reduceIte]
  refine ⟨by simp;omega,i + 1,aK,by omega,aC ?_ rfl⟩
  rw [au i (by omega),List.take_add_one,List.map_append,← List.append_assoc]
  simp [aK]
 ·rw [List.take_of_length_le (cb gr)]
  refine Vb 0 _ _ ?_
  simp +contextual only [sZ]
  exact aZ rfl rfl
instance:LawfulBEq ByteArray where
 rfl:=by intro a;rw [Aq];simp
 eq_of_beq:=by intro a b h;rw [Aq] at h;exact of_decide_eq_true h
def pH (vs:List ByteArray):List (AV×AV):=vs.map fun v=>(.str v,.bool true)
theorem ox (n:ByteArray):∀ (vs:List ByteArray) (i:Nat),(n∈vs→∃ j,eh 1 (.str n) (pH vs) i=some (some (j,.bool true)))∧(n∉vs→eh 1 (.str n) (pH vs) i=some none)
 | [],i=>⟨fun h=>(by cases h),fun _=>rfl⟩
 | v::r,i=>by
   have ih:=ox n r (i + 1)
   simp only [pH,List.map_cons,eh,c8]
   by_cases hv:n=v
   ·subst hv
    simp
   ·simp only [List.mem_cons,hv,false_or]
    exact ih
theorem rL (n:ByteArray) (vs:List ByteArray) (φ:AV→Prop):iN (some (.map (pH vs))) 1 (.bool false) (.str n) false φ=φ (.bool (decide (n∈vs))):=by
 have h:=ox n vs 0
 unfold iN
 by_cases hn:n∈vs
 ·obtain ⟨j,hj⟩:=h.1 hn
  simp [hj,hn,uV]
 ·simp [h.2 hn,hn,c8,aT,bj.aT,uV]
theorem D0 {n:ByteArray} {vs:List ByteArray} (hn:n∉vs) (id:Nat) (H:List aa) (K:List aa→Prop):iO (some (.map (pH vs))) 1 id (.str n) (.bool true) H K=K (H.set id (.map (pH (vs++[n])))):=by
 have h:=(ox n vs 0).2 hn
 unfold iO
 simp only [h]
 simp [c8,KG,A0,G9,pH,aT,bj.aT,uV]
def mU:List ByteArray→List ByteArray→Bool
 | [],_=>true
 | s::r,seen=>if pG s=true∧¬ 0≤Ql s∧s∉seen then mU r (seen++[s]) else false
def BB (n:Int):List hJ→List ByteArray→Bool
 | [],_=>true
 | o::r,seen=>if rK o n=true∧nz o∉seen then BB n r (seen++[nz o]) else false
def oz (s:Sg):Bool:=decide ((s.a9.length:Int)≤64) && decide ((s.ops.length:Int)≤256) && mU s.a9 [] && BB s.a9.length s.ops []
theorem ui {l:List ByteArray} {i:Nat} (h:i < l.length) (seen:List ByteArray):mU (l.drop i) seen=if pG (l.getD i default)=true∧¬ 0≤Ql (l.getD i default)∧l.getD i default∉seen then mU (l.drop (i + 1)) (seen++[l.getD i default]) else false:=by
 rw [List.drop_eq_getElem_cons h,mU]
 have e:l.getD i default=l[i]:=by simp [h]
 rw [e]
theorem zR {n:Int} {l:List hJ} {i:Nat} (h:i < l.length) (seen:List ByteArray):BB n (l.drop i) seen=if rK (l.getD i default) n=true∧nz (l.getD i default)∉seen then BB n (l.drop (i + 1)) (seen++[nz (l.getD i default)]) else false:=by
 rw [List.drop_eq_getElem_cons h,BB]
 have e:l.getD i default=l[i]:=by simp [h]
 rw [e]
theorem F9 {o:hJ} {n:Int} (h:rK o n=true):o.name.size≤32∧o.args.length≤8∧Jr n o.B6=true∧∀ a∈o.args,Jr n a=true:=by
 simp only [rK,pG,Bool.and_eq_true,Bool.not_eq_true',decide_eq_false_iff_not,decide_eq_true_eq] at h
 obtain ⟨⟨⟨_,h1⟩,_⟩,_,_,h2,h3,h4⟩:=h
 refine ⟨by omega,by omega,h3,fun a ha=>?_⟩
 cases hx:Jr n a with
 | true=>rfl
 | false=>
   rw [Bool.eq_false_iff] at h4
   exact absurd (List.any_eq_true.2 ⟨a,ha,by rw [hx];rfl⟩) h4
theorem c81 (s:Sg):Pure Tryz.prog 81 [s.av] (.int .i64 (if oz s=true then 0 else 40)):=by
 refine fun H=>W7.calls rfl ?_
 simp only [Uu,W6]
 have bad:∀ {G:List aa} {e:Bool},e=false→G.take H.length=H→oz s=e→bW H.length [RX.t 2] [(2,AV.int IntKind.i64 40)] G fun r H'=>r=AV.int IntKind.i64 (if oz s=true then 0 else 40)∧H'=H:=by
  intro G e he hG hc
  rw [hc,he]
  exact Pq hG rfl rfl ⟨rfl,rfl⟩
 simp +contextual only [aB,sZ,Nat.reduceEqDiff,Nat.reduceAdd,↓reduceIte,reduceCtorEq]
 refine fun _=>⟨fun h1 _=>⟨fun h2=>?_,fun h2=>?_⟩,fun h1=>?_⟩
 ·have h2':¬ (s.ops.length:Int)≤256:=by omega
  exact bad rfl (by simp) (by rw [oz,decide_eq_false h2'];simp)
 ·refine aJ s.a9.length (fun i (seen:List ByteArray)=>mU (s.a9.drop i) seen=mU s.a9 [])
   (fun i seen=>[(1,.ai s.av),(3,.map H.length),(21,.al 0 (strs s.a9)),(22,.int .i64 s.a9.length),(23,.int .i64 i)]) (fun i seen=>H++[.map (pH seen)]) [] ⟨rfl,aA _ _ _⟩ fun i seen hi hI=>?_
  simp +contextual only [aB,sZ,Nat.reduceEqDiff,Nat.reduceAdd,↓reduceIte]
  refine ⟨fun aK=>⟨bi aK,?_⟩,fun gr=>?_⟩
  ·have aK:=bi aK
   rw [ui aK] at hI
   generalize s.a9.getD i default=x at *
   refine ae (Zd x) ?_
   cases hn:pG x with
   | false=>
     rw [hn,if_neg (by simp)] at hI
     simp +contextual only [sZ,Nat.reduceEqDiff,↓reduceIte,reduceCtorEq]
     exact bad rfl (by simp) (by simp [oz,← hI])
   | true=>
     rw [hn] at hI
     simp +contextual only [sZ,Nat.reduceEqDiff,Nat.reduceAdd,↓reduceIte]
     refine ae (acF x) ?_
     by_cases hu:0≤Ql x
     ·rw [if_neg (fun h=>h.2.1 hu)] at hI
      simp +contextual only [hu,sZ,Nat.reduceEqDiff,↓reduceIte,reduceCtorEq]
      exact bad rfl (by simp) (by simp [oz,← hI])
     ·by_cases hm:x∈seen
      ·rw [if_neg (fun h=>h.2.2 hm)] at hI
       simp +contextual only [hu,rL,hm,sZ,Nat.reduceEqDiff,↓reduceIte,reduceCtorEq]
       exact bad rfl (by simp) (by simp [oz,← hI])
      ·rw [if_pos ⟨rfl,hu,hm⟩] at hI
       simp +contextual only [hu,rL,hm,D0 hm,sZ,Nat.reduceEqDiff,↓reduceIte]
       exact ⟨i + 1,seen++[x],⟨aK,hI⟩,by omega,aC (by rw [au i (by omega)]) rfl⟩
  ·have hs:mU s.a9 []=true:=by
    rw [← hI,List.drop_of_length_le (cb gr)];rfl
   have hc:oz s=BB s.a9.length s.ops []:=by simp [oz,h1,h2,hs]
   clear hI
   simp +contextual only [sZ]
   refine fun _=>aJ s.ops.length (fun i (seen2:List ByteArray)=>BB s.a9.length (s.ops.drop i) seen2=BB s.a9.length s.ops [])
    (fun i seen2=>[(1,.ai s.av),(6,.map (H.length + 1)),(44,.al 0 (pj s.ops)),(45,.int .i64 s.ops.length),(46,.int .i64 i)]) (fun i seen2=>H++[.map (pH seen),.map (pH seen2)]) [] ⟨rfl,aA _ _ _⟩ fun i seen2 hi hI=>?_
   simp +contextual only [aB,sZ,Nat.reduceEqDiff,Nat.reduceAdd,↓reduceIte,reduceCtorEq]
   refine ⟨fun aK=>⟨bi aK,?_⟩,fun gr=>?_⟩
   ·have aK:=bi aK
    rw [zR aK] at hI
    generalize s.ops.getD i default=x at *
    refine fun _=>ae (acK x _) ?_
    cases hg:rK x s.a9.length with
    | false=>
      rw [hg,if_neg (by simp)] at hI
      simp +contextual only [sZ,Nat.reduceEqDiff,↓reduceIte,reduceCtorEq]
      exact bad rfl (by simp) (by rw [hc,← hI])
    | true=>
      rw [hg] at hI
      have hsm:=F9 hg
      simp +contextual only [aB,sZ,Nat.reduceEqDiff,Nat.reduceAdd,↓reduceIte]
      refine ae (Zh x hsm.1 hsm.2.1) ?_
      by_cases hm:nz x∈seen2
      ·rw [if_neg (fun h=>h.2 hm)] at hI
       simp +contextual only [rL,hm,sZ,Nat.reduceEqDiff,↓reduceIte,reduceCtorEq]
       exact bad rfl (by simp) (by rw [hc,← hI])
      ·rw [if_pos ⟨rfl,hm⟩] at hI
       simp +contextual only [aB,rL,hm,sZ,Nat.reduceEqDiff,Nat.reduceAdd,↓reduceIte]
       refine ae (Zh x hsm.1 hsm.2.1) ?_
       simp +contextual only [D0 hm,sZ,Nat.reduceEqDiff,↓reduceIte]
       exact ⟨i + 1,seen2++[nz x],⟨aK,hI⟩,by omega,aC (by rw [au i (by omega)]) rfl⟩
   ·rw [List.drop_of_length_le (cb gr)] at hI
    exact Pq (by simp) rfl rfl ⟨by rw [hc,← hI];rfl,rfl⟩
 ·have h1':¬ (s.a9.length:Int)≤64:=by omega
  exact bad rfl (by simp) (by rw [oz,decide_eq_false h1'];simp)
end Go.aL
end
section
set_option maxRecDepth 100000
namespace Go.aL
open Go Go.Proofs Go.fN
def iA (w:List (Int×Int)):List (AV×AV):=w.map fun p=>(.int .i64 p.1,.int .i64 p.2)
theorem Ga (n:Int):∀ (w:List (Int×Int)) (i:Nat),(∃ j s,w[j]?=some (n,s)∧eh 0 (.int .i64 n) (iA w) i=some (some (i + j,.int .i64 s)))∨((∀ p∈w,p.1≠n)∧eh 0 (.int .i64 n) (iA w) i=some none)
 | [],i=>.inr ⟨(fun p h=>by cases h),rfl⟩
 | (a,b)::r,i=>by
   have ih:=Ga n r (i + 1)
   simp only [iA,List.map_cons,eh,c8,if_true]
   by_cases h:n=a
   ·subst h
    exact .inl ⟨0,b,rfl,by simp⟩
   ·simp only [decide_eq_false h]
    rcases ih with ⟨j,s,h1,h2⟩ | ⟨h1,h2⟩
    ·exact .inl ⟨j + 1,s,h1,by rw [show i + (j + 1)=i + 1 + j by omega];exact h2⟩
    ·refine .inr ⟨fun p hp=>?_,h2⟩
     rcases List.mem_cons.1 hp with rfl | hp
     ·exact fun e=>h e.symm
     ·exact h1 p hp
theorem Zi {n:Int} {w:List (Int×Int)} {φ:AV→Prop} (h1:∀ s,(n,s)∈w→φ (.tuple [.int .i64 s,.bool true])) (h2:(∀ p∈w,p.1≠n)→φ (.tuple [.int .i64 0,.bool false])):iN (some (.map (iA w))) 0 (.int .i64 0) (.int .i64 n) true φ:=by
 unfold iN
 rcases Ga n w 0 with ⟨j,s,h3,h4⟩ | ⟨h3,h4⟩
 ·simp only [h4];exact h1 s (List.mem_of_getElem? h3)
 ·simp only [h4];exact ⟨by simp [c8],h2 h3⟩
theorem msW {n s:Int} {w:List (Int×Int)} {id:Nat} {H:List aa} {K:List aa→Prop} (h:∀ w',(∀ p∈w',p∈w∨p=(n,s))→(∀ p∈w,∃ q∈w',q.1=p.1)→(n,s)∈w'→K (H.set id (.map (iA w')))):iO (some (.map (iA w))) 0 id (.int .i64 n) (.int .i64 s) H K:=by
 unfold iO
 refine ⟨rfl,rfl,rfl,?_⟩
 have ec:aT (.int .i64 s)=.int .i64 s:=rfl
 rcases Ga n w 0 with ⟨j,x,h3,h4⟩ | ⟨h3,h4⟩
 ·simp only [h4,ec,Nat.zero_add]
  have e:(iA w).set j (.int .i64 n,.int .i64 s)=iA (w.set j (n,s)):=by simp [iA,List.map_set]
  rw [e]
  have hj:=(List.getElem?_eq_some_iff.1 h3).1
  refine h _ (fun p hp=>List.mem_or_eq_of_mem_set hp) (fun p hp=>?_) (List.mem_iff_getElem?.2 ⟨j,by rw [List.getElem?_set_self hj]⟩)
  obtain ⟨m,hm⟩:=List.mem_iff_getElem?.1 hp
  by_cases e:j=m
  ·subst e
   rw [h3] at hm;cases hm
   exact ⟨(n,s),List.mem_iff_getElem?.2 ⟨j,by rw [List.getElem?_set_self hj]⟩,rfl⟩
  ·exact ⟨p,List.mem_iff_getElem?.2 ⟨m,by rw [List.getElem?_set_ne e];exact hm⟩,rfl⟩
 ·simp only [h4,ec]
  refine ⟨by simp [c8],?_⟩
  have e:iA w++[(AV.int .i64 n,AV.int .i64 s)]=iA (w++[(n,s)]):=by simp [iA]
  rw [e]
  exact h _ (fun p hp=>by simpa using hp) (fun p hp=>⟨p,List.mem_append.2 (.inl hp),rfl⟩) (by simp)
structure Qm (ps ss:List Int) (i:Nat):Prop where
 QT:∀ j,j < i→0≤ps.getD j 0∧ps.getD j 0≤255∧1≤ss.getD j 0∧ss.getD j 0≤3
 st:∀ j k,j < i→k < i→ps.getD j 0=ps.getD k 0→ss.getD j 0=ss.getD k 0
def eK (s:Sg) (ps ss:List Int):Prop:=ps.length=s.ops.length∧ss.length=s.ops.length∧Qm ps ss ps.length
theorem eK.va {s:Sg} {ps ss:List Int} (h:eK s ps ss):Va ps ss:=⟨by rw [h.2.1,h.1],h.2.2.st⟩
open Classical in
noncomputable def ju (s:Sg) (ps ss:List Int):Int:=if oz s=true then (if eK s ps ss then 0 else 60) else 40
theorem xg (ps ss:List Int) (φ:AV→Prop):ak 0 none (.ai (eX ps ss)) φ=φ (.ai (.al 0 (ints ps))):=by simp [ak,apart,eX,AV.cells,AV.one]
theorem yq (ps ss:List Int) (φ:AV→Prop):ak 1 none (.ai (eX ps ss)) φ=φ (.ai (.al 0 (ints ss))):=by simp [ak,apart,eX,AV.cells,AV.one]
theorem bo (ps ss:List Int):(eX ps ss).val=true∧(eX ps ss).cells.length=2∧(eX ps ss).cells.all AV.one=true∧(eX ps ss).ab=eX ps ss∧(eX ps ss).drop=eX ps ss∧∀ n,(eX ps ss).aV n=true:=
 ⟨rfl,rfl,rfl,rfl,rfl,fun n=>by simp [eX,og,bH,cP,b9,bb]⟩
theorem bZ (ps ss:List Int) (H:List aa) (φ:AV→Prop):aQ (some 2) (.ai (eX ps ss)) H φ=φ (eX ps ss):=Qg _ _ _ _
theorem c24 (s:Sg) (ps ss:List Int):Pure Tryz.prog 24 [s.av,eX ps ss] (.int .i64 (ju s ps ss)):=by
 refine fun H=>k24.2.calls rfl ?_
 simp only [k24,aF]
 obtain ⟨q1,q2,q3,q4,q5,q6⟩:=bo ps ss
 simp +contextual only [aB,q1,sZ,Nat.reduceEqDiff,Nat.reduceAdd,↓reduceIte,reduceCtorEq]
 refine ae (c81 s) ?_
 cases hs:oz s with
 | false=>
   have e:ju s ps ss=40:=by rw [ju,if_neg (by rw [hs];simp)]
   rw [e]
   simp +contextual only [Bool.false_eq_true,sZ,Nat.reduceEqDiff,↓reduceIte,reduceCtorEq,Int.reduceEq]
   exact aZ rfl rfl
 | true=>
   simp +contextual only [aB,xg,yq,aw,sZ,Nat.reduceEqDiff,↓reduceIte,reduceCtorEq]
   have bad:¬ eK s ps ss→ju s ps ss=60:=fun h=>by rw [ju,if_pos hs,if_neg h]
   have Vd:eK s ps ss→ju s ps ss=0:=fun h=>by rw [ju,if_pos hs,if_pos h]
   have ret60:∀ (X:List aa),¬ eK s ps ss→bW H.length [.t 4] [(4,.int .i64 60)] (H++X) fun r H'=>r=.int .i64 (ju s ps ss)∧H'=H:=fun X h=>by rw [bad h];exact Lt rfl rfl
   have ret60':¬ eK s ps ss→bW H.length [.t 4] [(4,.int .i64 60)] H fun r H'=>r=.int .i64 (ju s ps ss)∧H'=H:=fun h=>by rw [bad h];exact aZ rfl rfl
   refine fun _ _=>⟨fun hl=>?_,fun hl=>?_⟩
   rotate_left
   ·first | exact ret60' fun h=>hl (by omega) | (refine ret60' fun h=>?_;have:=h.1;omega)
   refine fun _=>⟨fun nE=>ret60' fun h=>nE (by have:=h.2.1;omega),fun nE=>?_⟩
   have g0:∀ w,(H++[aa.map (iA w)])[H.length]?=some (.map (iA w)):=fun w=>by simp
   have gs:∀ w w',(H++[aa.map (iA w)]).set H.length (.map (iA w'))=H++[.map (iA w')]:=fun w w'=>by simp
   refine aJ ps.length (fun i (w:List (Int×Int))=>Qm ps ss i∧(∀ p∈w,∃ j,j < i∧ps.getD j 0=p.1∧ss.getD j 0=p.2)∧∀ j,j < i→∃ p∈w,p.1=ps.getD j 0)
    (fun i w=>[(3,.ai (eX ps ss)),(6,.map H.length),(35,.al 0 (ints ps)),(36,.int .i64 s.ops.length),(37,.int .i64 i)]) (fun i w=>H++[.map (iA w)]) []
    ⟨⟨⟨fun j h=>by omega,fun j k h=>by omega⟩,(fun p h=>by cases h),fun j h=>by omega⟩,aA _ _ _⟩ fun i w hi hI=>?_
   ·obtain ⟨hu,hw1,hw2⟩:=hI
    have nbad:∀ j,j < ps.length→¬ (0≤ps.getD j 0∧ps.getD j 0≤255∧1≤ss.getD j 0∧ss.getD j 0≤3)→¬ eK s ps ss:=fun j hj h h'=>h (h'.2.2.QT j hj)
    by_cases NF:(i:Int) < s.ops.length
    ·have Ve:i < ps.length:=by omega
     simp +contextual only [yq,cK,Int.toNat_natCast,g0,NF,decide_true,sZ,Nat.reduceEqDiff,↓reduceIte]
     generalize hp:ps.getD i 0=p
     generalize hq:ss.getD i 0=q
     refine ⟨by omega,⟨by omega,by omega⟩,?_⟩
     by_cases r1:p < 0
     ·refine Zi (fun o _=>?_) (fun _=>?_)
      all_goals
       simp +contextual only [r1,decide_true,sZ,Nat.reduceEqDiff,Nat.reduceAdd,Nat.reduceLT,↓reduceIte,reduceCtorEq]
       exact ret60 _ (nbad i Ve (by rw [hp];omega))
     ·by_cases r2:255 < p
      ·refine Zi (fun o _=>?_) (fun _=>?_)
       all_goals
        simp +contextual only [r1,r2,decide_true,decide_false,sZ,Nat.reduceEqDiff,Nat.reduceAdd,Nat.reduceLT,↓reduceIte,reduceCtorEq]
        exact ret60 _ (nbad i Ve (by rw [hp];omega))
      ·by_cases r3:q < 1
       ·refine Zi (fun o _=>?_) (fun _=>?_)
        all_goals
         simp +contextual only [r1,r2,r3,decide_true,decide_false,sZ,Nat.reduceEqDiff,Nat.reduceAdd,Nat.reduceLT,↓reduceIte,reduceCtorEq]
         exact ret60 _ (nbad i Ve (by rw [hq];omega))
       ·by_cases r4:3 < q
        ·refine Zi (fun o _=>?_) (fun _=>?_)
         all_goals
          simp +contextual only [r1,r2,r3,r4,decide_true,decide_false,sZ,Nat.reduceEqDiff,Nat.reduceAdd,Nat.reduceLT,↓reduceIte,reduceCtorEq]
          exact ret60 _ (nbad i Ve (by rw [hq];omega))
        ·have acP:0≤p∧p≤255∧1≤q∧q≤3:=⟨by omega,by omega,by omega,by omega⟩
         have next:(∀ j,j < i→ps.getD j 0=p→ss.getD j 0=q)→∀ w':List (Int×Int),(∀ x∈w',x∈w∨x=(p,q))→(∀ x∈w,∃ y∈w',y.1=x.1)→(p,q)∈w'→Qm ps ss (i + 1)∧(∀ x∈w',∃ j,j < i + 1∧ps.getD j 0=x.1∧ss.getD j 0=x.2)∧∀ j,j < i + 1→∃ x∈w',x.1=ps.getD j 0:=by
          intro hsame w' m1 m2 m3
          refine ⟨⟨fun j hj=>?_,fun j k hj hk he=>?_⟩,fun x hx=>?_,fun j hj=>?_⟩
          ·by_cases e:j=i
           ·subst e;rw [hp,hq];exact acP
           ·exact hu.QT j (by omega)
          ·by_cases e:j=i
           ·by_cases e':k=i
            ·rw [e,e']
            ·subst e;rw [hp] at he;rw [hq];exact (hsame k (by omega) he.symm).symm
           ·by_cases e':k=i
            ·subst e';rw [hp] at he;rw [hq];exact hsame j (by omega) he
            ·exact hu.st j k (by omega) (by omega) he
          ·rcases m1 x hx with h | rfl
           ·obtain ⟨j,h1,h2,h3⟩:=hw1 x h;exact ⟨j,by omega,h2,h3⟩
           ·exact ⟨i,by omega,hp,hq⟩
          ·by_cases e:j=i
           ·subst e;rw [hp];exact ⟨_,m3,rfl⟩
           ·obtain ⟨x,h1,h2⟩:=hw2 j (by omega)
            obtain ⟨y,h3,h4⟩:=m2 x h1
            exact ⟨y,h3,h4.trans h2⟩
         refine Zi (fun o ho=>?_) (fun jW=>?_)
         ·obtain ⟨j0,hj1,hj2,hj3⟩:=hw1 _ ho
          simp only at hj2 hj3
          by_cases Yv:o=q
          ·subst Yv
           have d0:decide (¬ o=o)=false:=by simp
           simp +contextual only [r1,r2,r3,r4,decide_false,g0,sZ,Nat.reduceEqDiff,Nat.reduceAdd,Nat.reduceLT,↓reduceIte]
           refine msW fun w' m1 m2 m3=>?_
           simp +contextual only [gs,sZ,Nat.reduceEqDiff,↓reduceIte]
           refine ⟨i + 1,w',⟨Ve,next (fun j hj he=>?_) w' m1 m2 m3⟩,by omega,aC (by rw [au i (by omega)]) rfl⟩
           rw [hu.st j j0 hj hj1 (he.trans hj2.symm),hj3]
          ·have d0:decide (¬ o=q)=true:=by simp [Yv]
           simp +contextual only [r1,r2,r3,r4,decide_false,d0,sZ,Nat.reduceEqDiff,Nat.reduceAdd,Nat.reduceLT,↓reduceIte,reduceCtorEq]
           exact ret60 _ fun h=>Yv (by rw [← hj3,← hq];exact h.2.2.st j0 i (by omega) Ve (hj2.trans hp.symm))
         ·simp +contextual only [r1,r2,r3,r4,decide_false,g0,sZ,Nat.reduceEqDiff,Nat.reduceAdd,Nat.reduceLT,↓reduceIte]
          refine msW fun w' m1 m2 m3=>?_
          simp +contextual only [gs,sZ,Nat.reduceEqDiff,↓reduceIte]
          refine ⟨i + 1,w',⟨Ve,next (fun j hj he=>?_) w' m1 m2 m3⟩,by omega,aC (by rw [au i (by omega)]) rfl⟩
          obtain ⟨x,h1,h2⟩:=hw2 j hj
          exact absurd (h2.trans he) (jW x h1)
    ·have hii:i=ps.length:=by omega
     subst hii
     rw [Vd ⟨by omega,by omega,hu⟩]
     simp +contextual only [NF,decide_false,sZ,Nat.reduceEqDiff,↓reduceIte,reduceCtorEq]
     exact Lt rfl rfl
end Go.aL
end
section
set_option maxRecDepth 100000
namespace Go.aL
open Go Go.Proofs Go.fN
theorem Zj (g:Nat) (cL:List AV) (cj:cL.map AV.ab=cL) (p:T→Bool) (l:List T) (hf:∀ x∈l,Pure Tryz.prog g ([x.av]++cL) (.bool (p x))) :
 Pure Tryz.prog 114 [.al 0 (bC l),.fn (.func g) [] cL] (.int .i64 (sP p l 0)):=by
 refine fun H=>Dq.2.calls rfl ?_
 simp only [Dq,aF]
 simp +contextual only [sZ,Nat.reduceEqDiff,Nat.reduceAdd,↓reduceIte,reduceCtorEq]
 intro hl
 refine aD l.length (fun i=>sP p (l.drop i) i=sP p l 0) (fun i=>[(0,.al 0 (bC l)),(1,.fn (.func g) [] cL),(7,.int .i64 l.length),(8,.int .i64 i)]) (fun _=>H) ⟨rfl,aA _ _ _⟩ fun i hi hI=>?_
 simp +contextual only [cj,sZ,Nat.reduceEqDiff,Nat.reduceAdd,↓reduceIte,reduceCtorEq]
 refine ⟨fun aK=>?_,fun gr=>?_⟩
 ·have aK:=bi aK
  rw [zm aK] at hI
  refine ⟨aK,ae (hf _ (cq aK)) ?_⟩
  cases hb:p (l.getD i default) with
  | true=>
    rw [if_pos hb] at hI
    simp +contextual only [sZ,Nat.reduceEqDiff,↓reduceIte,reduceCtorEq]
    exact aZ rfl (by rw [← hI])
  | false=>
    rw [if_neg (by rw [hb];simp)] at hI
    simp +contextual only [sZ,Nat.reduceEqDiff,↓reduceIte,reduceCtorEq]
    exact ⟨i + 1,⟨aK,hI⟩,by omega,aC (by rw [au i (by omega)]) rfl⟩
 ·rw [List.drop_of_length_le (cb gr)] at hI
  exact aZ rfl (by rw [← hI];rfl)
theorem Qn (g:Nat) (cL:List AV) (cj:cL.map AV.ab=cL) (p:T→Bool) (l:List T) (hf:∀ x∈l,Pure Tryz.prog g ([x.av]++cL) (.bool (p x))) :
 Pure Tryz.prog 53 [.al 0 (bC l),.fn (.func g) [] cL] (.bool (l.any p)):=by
 refine fun H=>Rp.2.calls rfl ?_
 simp only [Rp,aF]
 simp +contextual only [sZ,Nat.reduceEqDiff,Nat.reduceAdd,↓reduceIte,reduceCtorEq]
 refine ae (Zj g cL cj p l hf) ?_
 simp +contextual only [sZ,↓reduceIte,reduceCtorEq]
 exact aZ rfl (by rw [wM p l 0 (by omega)])
theorem acS (x:T):Pure Tryz.prog 130 [x.av] (.int .i64 (if x.tree=true then 0 else 4)):=by
 refine fun H=>Pz.2.calls rfl ?_
 simp only [Pz,aF]
 simp +contextual only [sZ,Nat.reduceEqDiff,Nat.reduceAdd,↓reduceIte]
 refine ae (Jf x) ?_
 cases h:x.tree with
 | true=>simp +contextual only [Bool.not_true,sZ,↓reduceIte,reduceCtorEq];exact aZ rfl rfl
 | false=>simp +contextual only [Bool.not_false,sZ,↓reduceIte,reduceCtorEq];exact aZ rfl rfl
mutual
def iB (s:Sg):T→Bool
 | .mk k n l=>!(decide (k=2) && (decide ((s.ops.length:Int)≤n) || !decide ((l.length:Int)=((s.ops.getD n.toNat default).args.length:Nat)))) && Zk s l
def Zk (s:Sg):List T→Bool
 | []=>true
 | x::r=>iB s x && Zk s r
end
theorem mV (s:Sg):∀ l,Zk s l=!(l.any fun x=>!iB s x)
 | []=>rfl
 | x::r=>by rw [Zk,mV s r,List.any_cons];cases iB s x <;> simp
theorem acT (s:Sg):∀ t:T,t.shaped=true→Pure Tryz.prog 131 [s.av,t.av] (.bool (iB s t)):=by
 suffices h:∀ N t,wt t≤N→t.shaped=true→Pure Tryz.prog 131 [s.av,t.av] (.bool (iB s t)) from fun t ht=>h _ t (Nat.le_refl _) ht
 intro N
 induction N with
 | zero=>intro t h;have:=fO t;omega
 | succ N ih=>
 intro t hN hs H
 have hk:=ct hs
 have c182:∀ x∈t.l,Pure Tryz.prog 182 ([x.av]++[.ai s.av]) (.bool (!iB s x)):=by
  intro x hx H
  refine XT.2.calls rfl ?_
  simp only [XT,aF]
  simp +contextual only [aB,sZ,Nat.reduceEqDiff,Nat.reduceAdd,↓reduceIte,reduceCtorEq]
  refine ae (ih x (by have:=bP hx;omega) (hk.2 x hx)) ?_
  simp +contextual only [sZ,↓reduceIte,reduceCtorEq]
  exact aZ rfl rfl
 have hn:0≤t.n:=by
  rw [T.de] at hs
  simp only [Bool.and_eq_true,Bool.not_eq_true',Bool.or_eq_false_iff,decide_eq_false_iff_not] at hs
  have:=hs.1.1.1.1
  omega
 obtain ⟨m,hm⟩:=Int.eq_ofNat_of_zero_le hn
 refine Xr.2.calls rfl ?_
 simp only [Xr,aF]
 have e:iB s t=(!(decide (t.k=2) && (decide ((s.ops.length:Int)≤t.n) || !decide ((t.l.length:Int)=((s.ops.getD t.n.toNat default).args.length:Nat)))) && !(t.l.any fun x=>!iB s x)):=by
  rw [← mV];cases t;rfl
 have fin:(!(decide (t.k=2) && (decide ((s.ops.length:Int)≤t.n) || !decide ((t.l.length:Int)=((s.ops.getD t.n.toNat default).args.length:Nat)))))=false→bW H.length [.t 4] [(4,.bool false)] H fun r H'=>r=.bool (iB s t)∧H'=H:=by
  intro h
  rw [e,h];exact aZ rfl rfl
 by_cases h2:t.k=2
 ·by_cases h3:(s.ops.length:Int)≤t.n
  ·simp +contextual only [aB,h2,h3,decide_true,sZ,Nat.reduceEqDiff,Nat.reduceAdd,↓reduceIte,reduceCtorEq]
   exact fin (by simp [h2,h3])
  ·have V2:m < s.ops.length:=by omega
   have VR:¬ (s.ops.length:Int)≤(m:Int):=by omega
   have em:t.n.toNat=m:=by omega
   by_cases h4:(t.l.length:Int)=((s.ops.getD m default).args.length:Nat)
   ·simp +contextual only [aB,h2,VR,h4,hm,V2,aw,decide_true,decide_false,sZ,Nat.reduceEqDiff,Nat.reduceAdd,↓reduceIte,reduceCtorEq]
    refine ae (Qn 182 [.ai s.av] rfl _ t.l c182) ?_
    simp +contextual only [sZ,↓reduceIte,reduceCtorEq]
    refine aZ rfl ?_
    rw [e,em,h4]
    simp [h2,h3]
   ·simp +contextual only [aB,h2,VR,h4,hm,V2,aw,decide_true,decide_false,sZ,Nat.reduceEqDiff,Nat.reduceAdd,↓reduceIte,reduceCtorEq]
    exact fin (by rw [em,decide_eq_true h2,decide_eq_false h3,decide_eq_false h4];rfl)
 ·simp +contextual only [aB,h2,decide_false,sZ,Nat.reduceEqDiff,Nat.reduceAdd,↓reduceIte,reduceCtorEq]
  refine ae (Qn 182 [.ai s.av] rfl _ t.l c182) ?_
  simp +contextual only [sZ,↓reduceIte,reduceCtorEq]
  refine aZ rfl ?_
  rw [e]
  simp [h2]
noncomputable def gE (s:Sg) (ps ss:List Int) (l:List T):Int:=if ju s ps ss=0 then (if (l.all fun t=>t.tree && iB s t)=true then 0 else 4) else ju s ps ss
theorem Jv {p:T→Bool} {l:List T} {i:Nat} (h:i < l.length):(l.drop i).all p=(p (l.getD i default) && (l.drop (i + 1)).all p):=by
 have e:l.getD i default=l[i]:=by simp [h]
 rw [List.drop_eq_getElem_cons h,List.all_cons,e]
theorem Zl (s:Sg) (ps ss:List Int) (l:List T):Pure Tryz.prog 74 [s.av,eX ps ss,.al 0 (bC l)] (.int .i64 (gE s ps ss l)):=by
 refine fun H=>k74.2.calls rfl ?_
 simp only [k74,aF]
 obtain ⟨q1,q2,q3,q4,q5,q6⟩:=bo ps ss
 simp +contextual only [aB,q1,q4,bZ,sZ,Nat.reduceEqDiff,Nat.reduceAdd,↓reduceIte,reduceCtorEq]
 refine ae (c24 s ps ss) ?_
 by_cases h0:ju s ps ss=0
 ·simp +contextual only [h0,sZ,Nat.reduceEqDiff,↓reduceIte]
  intro _
  refine aD l.length (fun i=>l.all (fun t=>t.tree && iB s t)=(l.drop i).all fun t=>t.tree && iB s t) (fun i=>[(3,.ai s.av),(16,.al 0 (bC l)),(17,.int .i64 l.length),(18,.int .i64 i)]) (fun _=>H) ⟨rfl,aA _ _ _⟩ fun i hi hI=>?_
  by_cases xP:(i:Int) < l.length
  ·have aK:i < l.length:=by omega
   rw [Jv aK] at hI
   simp +contextual only [xP,decide_true,sZ,Nat.reduceEqDiff,Nat.reduceAdd,↓reduceIte]
   refine ⟨aK,ae (acS _) ?_⟩
   cases ht:(l.getD i default).tree with
   | false=>
     rw [ht,Bool.false_and,Bool.false_and] at hI
     simp +contextual only [sZ,Nat.reduceEqDiff,↓reduceIte,reduceCtorEq,Int.reduceEq]
     refine aZ rfl ?_
     rw [gE,if_pos h0,hI,if_neg (by simp)]
   | true=>
     rw [ht,Bool.true_and] at hI
     simp +contextual only [aB,sZ,Nat.reduceEqDiff,Nat.reduceAdd,↓reduceIte]
     refine ae (acT s _ ((T.cr _).1 ht).2.2) ?_
     cases ho:iB s (l.getD i default) with
     | false=>
       rw [ho,Bool.false_and] at hI
       simp +contextual only [Bool.not_false,sZ,Nat.reduceEqDiff,↓reduceIte,reduceCtorEq]
       refine aZ rfl ?_
       rw [gE,if_pos h0,hI,if_neg (by simp)]
     | true=>
       rw [ho,Bool.true_and] at hI
       simp +contextual only [Bool.not_true,sZ,Nat.reduceEqDiff,↓reduceIte]
       exact ⟨i + 1,⟨aK,hI⟩,by omega,aC (by rw [au i (by omega)]) rfl⟩
  ·simp +contextual only [xP,decide_false,sZ,Nat.reduceEqDiff,↓reduceIte,reduceCtorEq]
   rw [List.drop_of_length_le (by omega)] at hI
   refine aZ rfl ?_
   rw [gE,if_pos h0,hI];rfl
 ·simp +contextual only [h0,sZ,Nat.reduceEqDiff,↓reduceIte,reduceCtorEq]
  refine aZ rfl ?_
  rw [gE,if_neg h0]
theorem Vf {s:Sg}:∀ t:T,t.shaped=true→iB s t=true→zJ (fun n=>0≤n∧n < s.ops.length) t:=by
 suffices h:∀ N t,wt t≤N→t.shaped=true→iB s t=true→zJ (fun n=>0≤n∧n < s.ops.length) t from fun t=>h _ t (Nat.le_refl _)
 intro N
 induction N with
 | zero=>intro t h;have:=fO t;omega
 | succ N ih=>
 intro t hN hs ho
 have hn:0≤t.n:=by
  rw [T.de] at hs
  simp only [Bool.and_eq_true,Bool.not_eq_true',Bool.or_eq_false_iff,decide_eq_false_iff_not] at hs
  have:=hs.1.1.1.1
  omega
 have hk:=(ct hs).2
 obtain ⟨k,n,l⟩:=t
 rw [iB,mV] at ho
 simp only [Bool.and_eq_true,Bool.not_eq_true',Bool.and_eq_false_iff,Bool.or_eq_false_iff,decide_eq_false_iff_not,List.any_eq_false,Bool.not_eq_false'] at ho
 refine zJ.mk k n l (fun JK=>?_) fun x hx=>ih x (by have:=bP (a:=.mk k n l) hx;omega) (hk x hx) ?_
 ·rcases ho.1 with h | h
  ·exact absurd JK h
  ·exact ⟨hn,by omega⟩
 ·have:=ho.2 x hx
  simpa using this
end Go.aL
end
section
set_option maxRecDepth 100000
namespace Go.aL
open Go Go.Proofs Go.fN
mutual
theorem Mt:∀ t:T,(wt t:Int)=t.sz
 | .mk k n l=>by rw [wt,T.sz];have:=Hy l;omega
theorem Hy:∀ l:List T,(ij l:Int)=nF l
 | []=>rfl
 | x::r=>by rw [ij,nF];have:=Mt x;have:=Hy r;omega
end
theorem mW {l:List T} (h:∀ t∈l,t.tree=true):ij l≤2000 * l.length:=by
 induction l with
 | nil=>simp [ij]
 | cons x r ih=>
   have:=ih fun t ht=>h t (List.mem_cons_of_mem _ ht)
   have h1:=((T.cr x).1 (h x List.mem_cons_self)).1
   have h2:=Mt x
   rw [ij,List.length_cons];omega
structure Rt0 (s:Sg) (ps ss:List Int) (l:List T):Prop where
 ord:eK s ps ss
 tree:∀ t∈l,t.tree=true
 all:∀ t∈l,zJ (fun n=>0≤n∧n < ps.length) t
theorem xh {s:Sg} {ps ss:List Int}:ju s ps ss=0↔oz s=true∧eK s ps ss:=by
 unfold ju
 by_cases h:oz s=true
 ·by_cases h2:eK s ps ss
  ·rw [if_pos h,if_pos h2];simp [h,h2]
  ·rw [if_pos h,if_neg h2];simp [h2]
 ·rw [if_neg h];simp [h]
theorem rM {s:Sg} {ps ss:List Int} {l:List T} (h:gE s ps ss l=0):Rt0 s ps ss l:=by
 unfold gE at h
 split at h
 ·rename_i h0
  have h1:=(xh.1 h0).2
  split at h
  ·rename_i h2
   have h3:=List.all_eq_true.1 h2
   refine ⟨h1,fun t ht=>?_,fun t ht=>?_⟩
   ·have:=h3 t ht;simp only [Bool.and_eq_true] at this;exact this.1
   ·have:=h3 t ht
    simp only [Bool.and_eq_true] at this
    rw [h1.1]
    exact Vf t ((T.cr t).1 this.1).2.2 this.2
  ·cases h
 ·rename_i h0;exact absurd h h0
theorem Rt0.cx {s:Sg} {ps ss:List Int} {l:List T} (h:Rt0 s ps ss l) (dW:l≠[]) (hl:l.length≤10000) (n:Nat):(gK ps ss l n).Ok:=
 RW h.ord.va dW (by have:=mW h.tree;omega) h.all n
open Classical in
noncomputable def uj (ps ss:List Int) (a b:T):Bool:=decide (R (ky ps ss) a b)
open Classical in
noncomputable def Zm (ps ss:List Int) (a b:T):Bool:=decide (E (ky ps ss) a b)
theorem gf {ps ss:List Int} {a b:T}:uj ps ss a b=true↔R (ky ps ss) a b:=by simp [uj]
theorem Hz {ps ss:List Int} {a b:T}:Zm ps ss a b=true↔E (ky ps ss) a b:=by simp [Zm]
theorem Qo (a b:T):bu (aU [a,b] 0)=.al 0 (ints (aU [a,b] 0)):=rfl
theorem HA {Hs G:List aa} {n0 a b:Nat} {u v x y:AV} {R:AV→List aa→Prop} (xK:b≠a) (hH:Hs.take n0=G) (hb:x.aV n0=true∧y.aV n0=true) (hx:u.ab=x) (hy:v.ab=y) (hR:R (.tuple [x,y]) G):bW n0 [.t a,.t b] [(a,u),(b,v)] Hs R:=by
 subst hH;subst hx;subst hy
 refine ⟨n0,Nat.le_refl _,[u.ab,v.ab],?_,by simp only [aj,hb.1,hb.2,Bool.and_self],hR⟩
 simp only [ay,if_neg xK,if_true,List.map]
 exact b8 _
theorem Up.low {c:Cx} {H X G:List aa} (h:Up c (H++X) G) (he:H.length≤c.e) (hg:H.length≤c.g):G.take H.length=H:=by
 apply List.ext_getElem?
 intro j
 rw [List.getElem?_take]
 split
 ·rename_i hj
  rw [h.get j (by omega) (by omega),List.getElem?_append_left hj]
 ·rename_i hj
  rw [List.getElem?_eq_none (by omega)]
theorem c20 (s:Sg) (ps ss:List Int) (a b:T):Pure Tryz.prog 20 [s.av,eX ps ss,a.av,b.av] (.tuple [.bool (if gE s ps ss [a,b]=0 then uj ps ss a b else false),.int .i64 (gE s ps ss [a,b])]):=by
 refine fun H=>k20.2.calls rfl ?_
 simp only [k20,aF]
 obtain ⟨q1,q2,q3,q4,q5,q6⟩:=bo ps ss
 simp +contextual only [aB,q1,q4,bZ,sZ,Nat.reduceEqDiff,Nat.reduceAdd,↓reduceIte,reduceCtorEq]
 refine ae (Zl s ps ss [a,b]) ?_
 by_cases h0:gE s ps ss [a,b]=0
 ·rw [if_pos h0]
  have hr:=rM h0
  have hw:=mW hr.tree
  have hc:=hr.cx (by simp) (by simp) H.length
  have hd:=zP ps ss (ts:=[a,b]) (by simp) H
  simp +contextual only [q4,bZ,h0,sZ,Nat.reduceEqDiff,Nat.reduceAdd,↓reduceIte]
  refine af (YW ps ss [a,b] H (by simp at hw;omega)) ?_
  rintro r G ⟨rfl,rfl⟩
  have a0:=uh (ps:=ps) (ss:=ss) (ts:=[a,b]) (n:=H.length) (j:=0) (by simp)
  have a1:=uh (ps:=ps) (ss:=ss) (ts:=[a,b]) (n:=H.length) (j:=1) (by simp)
  have hl:=cI [a,b] 0
  rw [Qo]
  generalize aU [a,b] 0=ks at a0 a1 hl ⊢
  have nE:ks.length=2:=hl
  simp +contextual only [cK,nE,dK,sZ,Nat.reduceEqDiff,Nat.reduceAdd,Nat.reduceLT,↓reduceIte,reduceCtorEq]
  refine ⟨by decide,by decide,af (kv hc a0.1 a1.1 _ hd) ?_⟩
  rintro r G ⟨x,rfl,hx,hU,hD⟩
  rw [a0.2,a1.2] at hx
  simp +contextual only [sZ,Nat.reduceEqDiff,↓reduceIte,reduceCtorEq]
  have ex:x=uj ps ss a b:=by rw [Bool.eq_iff_iff,gf];exact hx
  rw [ex]
  exact HA (by decide) (hU.low (by simp [gK]) (by simp [gK])) ⟨rfl,rfl⟩ rfl rfl ⟨by rw [h0];rfl,rfl⟩
 ·rw [if_neg h0]
  simp +contextual only [h0,sZ,Nat.reduceEqDiff,↓reduceIte,reduceCtorEq]
  exact HA (by decide) List.take_length ⟨rfl,rfl⟩ rfl rfl ⟨rfl,rfl⟩
theorem c22 (s:Sg) (ps ss:List Int) (a b:T):Pure Tryz.prog 22 [s.av,eX ps ss,a.av,b.av] (.tuple [.bool (if gE s ps ss [a,b]=0 then Zm ps ss a b else false),.int .i64 (gE s ps ss [a,b])]):=by
 refine fun H=>k22.2.calls rfl ?_
 simp only [k22,aF]
 obtain ⟨q1,q2,q3,q4,q5,q6⟩:=bo ps ss
 simp +contextual only [aB,q1,q4,bZ,sZ,Nat.reduceEqDiff,Nat.reduceAdd,↓reduceIte,reduceCtorEq]
 refine ae (Zl s ps ss [a,b]) ?_
 by_cases h0:gE s ps ss [a,b]=0
 ·rw [if_pos h0]
  have hr:=rM h0
  have hw:=mW hr.tree
  have hc:=hr.cx (by simp) (by simp) H.length
  have hd:=zP ps ss (ts:=[a,b]) (by simp) H
  simp +contextual only [q4,bZ,h0,sZ,Nat.reduceEqDiff,Nat.reduceAdd,↓reduceIte]
  refine af (YW ps ss [a,b] H (by simp at hw;omega)) ?_
  rintro r G ⟨rfl,rfl⟩
  have a0:=uh (ps:=ps) (ss:=ss) (ts:=[a,b]) (n:=H.length) (j:=0) (by simp)
  have a1:=uh (ps:=ps) (ss:=ss) (ts:=[a,b]) (n:=H.length) (j:=1) (by simp)
  have hl:=cI [a,b] 0
  rw [Qo]
  generalize aU [a,b] 0=ks at a0 a1 hl ⊢
  have nE:ks.length=2:=hl
  simp +contextual only [cK,nE,dK,sZ,Nat.reduceEqDiff,Nat.reduceAdd,Nat.reduceLT,↓reduceIte,reduceCtorEq]
  refine ⟨by decide,by decide,af (ku hc a0.1 a1.1 _ hd) ?_⟩
  rintro r G ⟨x,rfl,hx,hU,hD⟩
  rw [a0.2,a1.2] at hx
  simp +contextual only [sZ,Nat.reduceEqDiff,↓reduceIte,reduceCtorEq]
  have ex:x=Zm ps ss a b:=by rw [Bool.eq_iff_iff,Hz];exact hx
  rw [ex]
  exact HA (by decide) (hU.low (by simp [gK]) (by simp [gK])) ⟨rfl,rfl⟩ rfl rfl ⟨by rw [h0];rfl,rfl⟩
 ·rw [if_neg h0]
  simp +contextual only [h0,sZ,Nat.reduceEqDiff,↓reduceIte,reduceCtorEq]
  exact HA (by decide) List.take_length ⟨rfl,rfl⟩ rfl rfl ⟨rfl,rfl⟩
end Go.aL
end
section
set_option maxRecDepth 100000
set_option maxHeartbeats 0
namespace Go.aL
open Go Go.Proofs
noncomputable def RY:=aF Tryz.call163 Tryz.func163 Tryz.ntmps163 [(0,0,1),(0,1,1),(1,4,1),(1,5,1),(4,2,1000),(5,0,1),(5,7,1),(8,6,2000)] [(0,[2,3]),(1,[2,3,5]),(2,[2,5,16,17,18]),(3,[2,5,16,17,18,19]),(4,[2,5,7,16,17,18]),(5,[2,5,16,17,18]),(6,[2,5,16,17,18]),(7,[8,9]),(8,[4])] [(8,(.take 0 true (.take 1 true (.take 2 true (.take 3 true (.take 4 true (.take 5 true (.br 6 (.take 7 true .done) .nil))))))))]
end Go.aL
end
section
set_option maxRecDepth 100000
namespace Go.aL
open Go Go.Proofs Go.fN
structure Cn where
 a:T
 b:T
deriving Inhabited
def Cn.av (c:Cn):AV:=.agg [.int .i64 c.a.k,.int .i64 c.a.n,.al 0 (bC c.a.l),.int .i64 c.b.k,.int .i64 c.b.n,.al 0 (bC c.b.l)]
def yr (l:List Cn):List AV:=l.map Cn.av
structure nG where
 vs:List Int
 cs:List Cn
 a:T
 b:T
deriving Inhabited
def nG.av (e:nG):AV:=.agg [.al 0 (ints e.vs),.al 0 (yr e.cs),.int .i64 e.a.k,.int .i64 e.a.n,.al 0 (bC e.a.l),.int .i64 e.b.k,.int .i64 e.b.n,.al 0 (bC e.b.l)]
def nG.rest (e:nG):List T:=e.b::e.cs.flatMap fun c=>[c.a,c.b]
theorem D1 (l:List Cn):(yr l).length=l.length:=by simp [yr]
theorem Mv (n:Nat) (l:List Cn):aj n (yr l)=true:=by
 rw [a8];intro x hx;obtain ⟨y,_,rfl⟩:=List.mem_map.1 hx
 simp [Cn.av,AV.aV,aj,dq]
theorem nG.facts (e:nG):e.av.val=true∧e.av.cells.length=8∧e.av.cells.all AV.one=true∧e.av.ab=e.av∧e.av.drop=e.av∧∀ n,e.av.aV n=true:=
 ⟨rfl,rfl,rfl,rfl,rfl,fun n=>by simp [nG.av,AV.aV,aj,dq,bb,Mv]⟩
theorem Cn.facts (e:Cn):e.av.val=true∧e.av.cells.length=6∧e.av.cells.all AV.one=true∧e.av.ab=e.av∧e.av.drop=e.av∧∀ n,e.av.aV n=true:=
 ⟨rfl,rfl,rfl,rfl,rfl,fun n=>by simp [Cn.av,AV.aV,aj,dq]⟩
theorem T.BC (t:T):AV.agg [.int .i64 t.k,.int .i64 t.n,.al 0 (bC t.l)]=t.av:=by cases t;rfl
theorem feA (e:nG) (φ:AV→Prop):ak 2 (some 3) (.ai e.av) φ=φ (.ai e.a.av):=by simp [ak,apart,nG.av,AV.cells,← T.BC]
theorem feB (e:nG) (φ:AV→Prop):ak 5 (some 3) (.ai e.av) φ=φ (.ai e.b.av):=by simp [ak,apart,nG.av,AV.cells,← T.BC]
theorem feC (e:nG) (φ:AV→Prop):ak 1 none (.ai e.av) φ=φ (.ai (.al 0 (yr e.cs))):=by simp [ak,apart,nG.av,AV.cells,AV.one]
theorem fcA (e:Cn) (φ:AV→Prop):ak 0 (some 3) (.ai e.av) φ=φ (.ai e.a.av):=by simp [ak,apart,Cn.av,AV.cells,← T.BC]
theorem fcB (e:Cn) (φ:AV→Prop):ak 3 (some 3) (.ai e.av) φ=φ (.ai e.b.av):=by simp [ak,apart,Cn.av,AV.cells,← T.BC]
theorem Qp (o:Nat) (l:List Cn):(∀ (own:Nat) (xs:List AV),AV.al o (yr l)=AV.al own xs→∀ z∈xs,z.cells.length=6)=True:=by
 simp only [eq_iff_iff,iff_true]
 intro own xs e z hz
 cases e
 obtain ⟨y,_,rfl⟩:=List.mem_map.1 hz;rfl
theorem Vg (e o:Nat) (l:List Cn) (k:IntKind) (i:Nat) (φ:AV→Prop):ax e (.al o (yr l)) (.int k (i:Int)) φ=(i < l.length∧φ (.ai (l.getD i default).av)):=by
 simp only [ax,D1,Int.toNat_natCast,eq_iff_iff]
 constructor
 ·rintro ⟨_,h,h2⟩;refine ⟨h,?_⟩;simpa [yr,h] using h2
 ·rintro ⟨h,h2⟩;refine ⟨by omega,h,?_⟩;simpa [yr,h] using h2
theorem Zn (e:Cn) (H:List aa) (φ:AV→Prop):aQ (some 6) (.ai e.av) H φ=φ e.av:=by simp [aQ,Cn.av,AV.cells]
def Qq (ps ss:List Int) (e:nG):Prop:=∀ y∈e.rest,R (ky ps ss) e.a y
def uF (l:List Cn):List T:=l.flatMap fun c=>[c.a,c.b]
theorem Mw {l:List Cn} {i:Nat} (h:i < l.length):uF (l.take (i + 1))=uF (l.take i)++[(l.getD i default).a,(l.getD i default).b]:=by
 have e:l.getD i default=l[i]:=by simp [h]
 rw [List.take_succ_eq_append_getElem h,e]
 unfold uF
 rw [List.flatMap_append]
 rfl
theorem BD (l:List Cn):(uF l).length=2 * l.length:=by
 induction l with
 | nil=>rfl
 | cons x r ih=>simp only [uF,List.flatMap_cons,List.length_append,List.length_cons,List.length_nil] at ih ⊢;omega
theorem Qr (a b:List T):bC (a++b)=bC a++bC b:=by
 induction a with
 | nil=>rfl
 | cons x r ih=>rw [List.cons_append,bC,bC,ih];rfl
theorem Zo (x:Int) (r:List Int) (φ:AV→Prop):bm 1 (.al 0 (ints (x::r))) (some (.int .i64 1)) none none φ=φ (.al 0 (ints r)):=by
 have er:dl (AV.al 0 (ints (x::r)))=some (ints (x::r)):=rfl
 have e1:(1:Int).toNat=1:=rfl
 have e2:((ints (x::r)).take (ints (x::r)).length).drop 1=ints r:=by rw [List.take_length];rfl
 simp only [bm,eR,er,dQ,e1,e2,eq_iff_iff]
 constructor
 ·intro h;exact h.2.2.2.2
 ·intro h
  refine ⟨fun own xs he z hz=>?_,by omega,by simp [aw],Nat.le_refl _,h⟩
  cases he
  obtain ⟨y,_,rfl⟩:=List.mem_map.1 hz
  rfl
theorem acW (ps ss:List Int) (e:nG) (hv:Va ps ss) (hlen:e.cs.length≤1000) (ht:∀ t∈e.a::e.rest,t.tree=true) (cS:∀ t∈e.a::e.rest,zJ (fun n=>0≤n∧n < ps.length) t) (H:List aa) :
 aq Tryz.prog 163 [eX ps ss,e.av] H fun r H'=>(∃ b:Bool,r=.bool b∧(b=true↔Qq ps ss e))∧H'=H:=by
 refine RY.2.calls rfl ?_
 simp only [RY,aF]
 obtain ⟨q1,q2,q3,q4,q5,q6⟩:=bo ps ss
 obtain ⟨e1,e2,e3,e4,e5,e6⟩:=nG.facts e
 have cf:=Cn.facts
 simp +contextual only [q1,e1,feA,feB,feC,D1,sZ,Nat.reduceEqDiff,Nat.reduceAdd,↓reduceIte,reduceCtorEq]
 intro _
 have rest:e.rest=e.b::uF e.cs:=rfl
 refine aD e.cs.length (fun i=>True) (fun i=>[(2,.ai (eX ps ss)),(5,.al 3 (bC (e.a::e.b::uF (e.cs.take i)))),(16,.al 0 (yr e.cs)),(17,.int .i64 e.cs.length),(18,.int .i64 i)]) (fun _=>H) ⟨trivial,aA _ _ _⟩ fun i hi _=>?_
 by_cases xP:(i:Int) < e.cs.length
 ·have aK:i < e.cs.length:=by omega
  obtain ⟨f1,f2,f3,f4,f5,f6⟩:=cf (e.cs.getD i default)
  have hl:(uF (e.cs.take i)).length≤2000:=by rw [BD];simp;omega
  have hal:=oX (e.a::e.b::uF (e.cs.take i))
  have jy:qB 3 [(e.cs.getD i default).a.av,(e.cs.getD i default).b.av]:=of_eq_true (FR [_,_])
  simp +contextual only [xP,decide_true,Qp,Vg,Zn,f1,f2,f3,fcA,fcB,sZ,Nat.reduceEqDiff,Nat.reduceAdd,↓reduceIte]
  have e7:bC (e.a::e.b::uF (e.cs.take i))++[(e.cs.getD i default).a.av,(e.cs.getD i default).b.av]=bC (e.a::e.b::uF (e.cs.take (i + 1))):=by
   rw [Mw aK,← List.cons_append,← List.cons_append,Qr];rfl
  exact ⟨aK,by omega,jy,i + 1,aK,by omega,aC (by rw [au i (by omega),e7]) rfl⟩
 ·have J3:i=e.cs.length:=by omega
  subst J3
  rw [List.take_length]
  have dW:e.a::e.b::uF e.cs≠[]:=by simp
  have hl:(e.a::e.b::uF e.cs).length≤10000:=by simp [BD];omega
  have hw:=mW (l:=e.a::e.b::uF e.cs) ht
  have hc:=RW hv dW (by omega) cS H.length
  have hd:=zP ps ss dW H
  simp +contextual only [xP,decide_false,bZ,q4,sZ,Nat.reduceEqDiff,Nat.reduceAdd,↓reduceIte]
  refine af (YW ps ss (e.a::e.b::uF e.cs) H (by omega)) ?_
  rintro r G ⟨rfl,rfl⟩
  have hk:=(Qk (e.a::e.b::uF e.cs)).kids
  have ek:aU (e.a::e.b::uF e.cs) 0=0::aU (e.b::uF e.cs) (0 + wt e.a):=by rw [aU];rfl
  have GF:=cI (e.b::uF e.cs) (0 + wt e.a)
  rw [ek] at hk ⊢
  generalize aU (e.b::uF e.cs) (0 + wt e.a)=tl at hk GF ⊢
  obtain ⟨LR,JK⟩:=hk
  simp only [List.map_cons,List.cons.injEq] at LR
  obtain ⟨ha,hb⟩:=LR
  have e0:([(0:Int)]++tl).getD 0 0=0:=rfl
  have ix0:∀ φ:AV→Prop,ax 1 (.al 0 (ints (0::tl))) (.int .i64 0) φ=φ (.ai (.int .i64 0)):=fun φ=>by
   have:=cK 1 0 (0::tl) .i64 0 φ
   rw [this]
   simp
  simp +contextual only [bu,ix0,dK,Option.map_some,Option.map_none,Zo,sZ,Nat.reduceEqDiff,Nat.reduceAdd,Nat.reduceLT,↓reduceIte,reduceCtorEq]
  have itl:IL (.al 0 (ints tl)) tl:=.inr rfl
  refine af (U0 (c:=gK ps ss (e.a::e.b::uF e.cs) H.length) (i:=0) itl (by rw [GF];simp [BD];omega) (fun x hx=>kv hc (JK 0 List.mem_cons_self) (JK x (List.mem_cons_of_mem _ hx))) hd) ?_
  rintro r G ⟨b,rfl,hbb,hU,hD⟩
  simp +contextual only [sZ,↓reduceIte,reduceCtorEq]
  refine aX H.length (Nat.le_refl _) (by rw [ay,if_pos rfl];rfl) ?_
  rw [ay,if_pos rfl]
  refine ⟨⟨b,rfl,?_⟩,hU.low (by simp [gK]) (by simp [gK])⟩
  rw [hbb,Qq,rest]
  have ha':(gK ps ss (e.a::e.b::uF e.cs) H.length).tm 0=e.a:=ha
  have dU:tl.map (gK ps ss (e.a::e.b::uF e.cs) H.length).tm=e.b::uF e.cs:=hb
  rw [ha']
  generalize (gK ps ss (e.a::e.b::uF e.cs) H.length).tm=f at dU
  rw [← dU]
  constructor
  ·intro h y hy
   obtain ⟨x,hx,rfl⟩:=List.mem_map.1 hy
   exact h x hx
  ·intro h x hx
   exact h _ (List.mem_map.2 ⟨x,hx,rfl⟩)
end Go.aL
end
