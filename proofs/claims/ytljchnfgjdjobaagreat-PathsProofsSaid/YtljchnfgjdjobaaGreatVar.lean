/- Part 18 of 20 of the proof. -/
import Derived.Test.YtljchnfgjdjobaaGreatVaq
import Derived.Test.YtljchnfgjdjobaaGreatVag
import Derived.KernelRfl
import Derived.Test.YtljchnfgjdjobaaGreatVak
import Derived.Test.YtljchnfgjdjobaaGreatVaj
import Derived.Test.YtljchnfgjdjobaaGreatVap
import Derived.Test.YtljchnfgjdjobaaGreatVam
import Derived.Test.YtljchnfgjdjobaaGreatVan
import Derived.Test.YtljchnfgjdjobaaGreatProg
import Derived.Test.YtljchnfgjdjobaaGreatVaf
set_option linter.unusedVariables false
set_option linter.unusedSimpArgs false
set_option linter.defProp false
set_option linter.unusedSectionVars false
section
set_option maxRecDepth 100000
namespace Go.aK
open Go Go.Proofs Go.eI
theorem Tb.Ok.Ww {c:Tb} (hc:c.Ok) {i k:Int} (hi:0≤i∧i < c.a.length) (hk:0≤k∧k < c.b.length):c.tR i k↔(nt c.a i).k=2∧((∃ x∈nk c.a i,c.tE x k∨c.tR x k)∨(nt c.b k).k=2∧(
 (c.O.pl (nt c.b k).n < c.O.pl (nt c.a i).n∧∀ y∈nk c.b k,c.tR i y)∨
 (c.O.pl (nt c.b k).n=c.O.pl (nt c.a i).n∧c.O.sp (c.O.pl (nt c.a i).n)≠3∧(∀ y∈nk c.b k,c.tR i y)∧Lx (Gt c.O.sp) ((bt (c.O.sp (c.O.pl (nt c.a i).n)) (nk c.a i)).map c.f) ((bt (c.O.sp (c.O.pl (nt c.a i).n)) (nk c.b k)).map c.g))∨
 (c.O.pl (nt c.b k).n=c.O.pl (nt c.a i).n∧c.O.sp (c.O.pl (nt c.a i).n)=3∧Mu (Gt c.O.sp) ((nk c.a i).map c.f) ((nk c.b k).map c.g)))):=by
 have h:c.tR i k↔R c.O (nt c.a i) (nt c.b k):=Iff.rfl
 have e1:(∃ x∈(nt c.a i).l,E c.O x (nt c.b k)∨R c.O x (nt c.b k))↔∃ x∈nk c.a i,c.tE x k∨c.tR x k:=by
  rw [← (hc.a.kids hi.1 hi.2).1]
  constructor
  ·rintro ⟨x,hx,h⟩;obtain ⟨y,hy,rfl⟩:=aal.1 hx;exact ⟨y,hy,h⟩
  ·rintro ⟨y,hy,h⟩;exact ⟨_,aal.2 ⟨y,hy,rfl⟩,h⟩
 have e2:(∀ y∈(nt c.b k).l,R c.O (nt c.a i) y)↔∀ y∈nk c.b k,c.tR i y:=by
  rw [← (hc.b.kids hk.1 hk.2).1]
  constructor
  ·intro h y hy;exact h _ (aal.2 ⟨y,hy,rfl⟩)
  ·intro h y hy;obtain ⟨z,hz,rfl⟩:=aal.1 hy;exact h z hz
 rw [h,qE,e1,e2,hc.abn hi,hc.abo hk,ij,ij]
theorem rv {P:Program} {lo:Option Nat} {g:FuncId} {xs:List AV} {H:List aa} {Q:Prop} {K:AV→Prop} (hc:ax P g xs H fun r H'=>(∃ u:Bool,r=.bool u∧(u=true↔Q))∧H'=H) (hk:∀ u:Bool,(u=true↔Q)→K (.bool u)):Aq ⟨P,lo⟩ true g xs H K:=by
 refine ⟨.bool (@decide Q (Classical.propDecidable Q)),⟨xs,b8 _,hc.mono ?_⟩,hk _ (by simp)⟩
 rintro r H' ⟨⟨u,rfl,hu⟩,rfl⟩
 refine ⟨?_,rfl⟩
 congr 1
 rw [abY,hu];simp
theorem afr {c:Tb} (hc:c.Ok) {x:Nat} {i k:Int} {H:List aa} (hT:Tn c x i k H) (hi:0≤i∧i < c.a.length) (hk:0≤k∧k < c.b.length) :
 ax Tryz.prog 189 [.ptr x 0,.int .i64 i,.int .i64 k] H fun r H'=>(∃ u:Bool,r=.bool u∧(u=true↔c.tR i k))∧H'=H:=by
 have hR:=hc.Ww hi hk
 have k8:=hc.ins hi hk
 have iU:=afm hc hT hi hk
 have hmul:=afp hT k8
 have afs {l m:List Int} (h:KY c i l m):=afo hT h
 obtain ⟨ak,ao⟩:=hc.a.kind hi.1 hi.2
 obtain ⟨bk,bo⟩:=hc.b.kind hk.1 hk.2
 obtain ⟨ie,ne,ce,ese,ig,ng,cg,esg,h⟩:=hT
 have S2:=k8.la
 have OK:=k8.lb
 have dJ:=h.ne
 have hng:=h.ng
 refine YE.2.calls rfl ?_
 simp only [YE,aG]
 obtain ⟨q1,q2,q3,q4,q5,q6⟩:=aQ c.ps c.ss
 simp +contextual only [h.x,I8,pY,I9,Fi,CW,uz,RJ,ko,List.getD_cons_succ,List.getD_cons_zero,sZ,Nat.reduceEqDiff,Nat.reduceAdd,Nat.reduceLT,↓reduceIte,reduceCtorEq]
 refine ⟨hi,hk,fun vf=>fq ⟨false,rfl,fun h=>absurd h (by simp),fun hh=>absurd (hR.1 hh).1 vf⟩,fun ON=>?_⟩
 have hR:c.tR i k↔_:=hR.trans ⟨fun h=>h.2,fun h=>⟨ON,h⟩⟩
 have hss:c.ss.length=c.ps.length:=hc.va.len
 have ao2:=ao ON
 have HP:=hc.va.sp (i:=(nt c.a i).n.toNat) (by omega)
 have ta:c.O.pl (nt c.a i).n=c.ps.getD (nt c.a i).n.toNat 0:=rfl
 rw [show c.O.sp (c.O.pl (nt c.a i).n)=c.ss.getD (nt c.a i).n.toNat 0 from HP] at hR
 refine aD (nk c.a i).length (fun n=>∀ s,s < n→¬ (c.tE ((nk c.a i).getD s 0) k∨c.tR ((nk c.a i).getD s 0) k)) (fun n=>[(0,.ptr x 0),(1,.int .i64 i),(2,.int .i64 k),(7,.ai (kj (c.a.getD i.toNat default))),(8,.ai (kj (c.b.getD k.toNat default))),(9,.int .i64 n)]) (fun _=>H) ⟨fun s hs=>(by cases hs),aB _ _ _⟩ fun n hn hI=>?_
 by_cases h1:n < (nk c.a i).length
 ·have l1:decide ((n:Int) < (nk c.a i).length)=true:=decide_eq_true (by omega)
  obtain ⟨a0,a1⟩:=k8.ia _ (cu h1)
  obtain ⟨⟨r,bs,xb,e1,e2,e3,e4,e5,e6⟩,r',bs',xb',e1',e2',e3',e4',e5',e6'⟩:=h.rows ((nk c.a i).getD n 0) k a0 hk.1 hk.2 (.inl a1)
  have yes (hx:c.tE ((nk c.a i).getD n 0) k∨c.tR ((nk c.a i).getD n 0) k):c.tR i k:=hR.2 (.inl ⟨_,cu h1,hx⟩)
  cases xb with
  | true=>
    simp +contextual only [h.x,h.e,KX,gK,aM,sX,e1,e3,e5,l1,List.getD_cons_succ,List.getD_cons_zero,abR,yP,sZ,Nat.reduceEqDiff,Nat.reduceAdd,Nat.reduceLT,↓reduceIte,reduceCtorEq]
    exact fun _=>⟨⟨by omega,by omega⟩,⟨a0,by omega⟩,e2,hk,e4,fq ⟨true,rfl,fun _=>yes (.inl (e6.1 rfl)),fun _=>rfl⟩⟩
  | false=>
    simp +contextual only [h.x,h.e,h.g,KX,gK,aM,sX,e1,e3,e5,e1',e3',e5',l1,List.getD_cons_succ,List.getD_cons_zero,abR,yP,sZ,Nat.reduceEqDiff,Nat.reduceAdd,Nat.reduceLT,↓reduceIte,reduceCtorEq]
    refine fun _=>⟨⟨by omega,by omega⟩,⟨a0,by omega⟩,e2,hk,e4,⟨by omega,by omega⟩,⟨a0,by omega⟩,e2',hk,e4',?_⟩
    cases xb' with
    | true=>
      simp +contextual only [sZ,↓reduceIte,reduceCtorEq]
      exact fq ⟨true,rfl,fun _=>yes (.inr (e6'.1 rfl)),fun _=>rfl⟩
    | false=>
      simp +contextual only [sZ,Nat.reduceEqDiff,↓reduceIte,reduceCtorEq]
      refine ⟨n + 1,⟨h1,fun s hs=>?_⟩,by omega,aE (by rw [au n (by omega)]) rfl⟩
      by_cases e:s=n
      ·subst e
       rintro (hh | hh)
       ·exact absurd (e6.2 hh) (by simp)
       ·exact absurd (e6'.2 hh) (by simp)
      ·exact hI s (by omega)
 ·have l1:decide ((n:Int) < (nk c.a i).length)=false:=decide_eq_false (by omega)
  have no:¬ ∃ x∈nk c.a i,c.tE x k∨c.tR x k:=by
   rintro ⟨x,hx,hh⟩
   obtain ⟨s,hs,rfl⟩:=pZ hx
   exact hI s (by omega) hh
  have hR:c.tR i k↔_:=hR.trans ⟨fun h=>h.resolve_left no,.inr⟩
  simp +contextual only [KX,RJ,gK,ko,l1,h.x,aM,List.getD_cons_zero,sZ,Nat.reduceEqDiff,Nat.reduceAdd,Nat.reduceLT,↓reduceIte,reduceCtorEq]
  refine fun _=>⟨fun vf=>fq ⟨false,rfl,fun h=>absurd h (by simp),fun hh=>absurd (hR.1 hh).1 vf⟩,fun vf=>⟨ao2,bo vf,fun R4=>?_,fun R4=>?_⟩⟩
  ·refine af iU ?_
   rintro r G ⟨⟨u,rfl,hu⟩,rfl⟩
   simp +contextual only [sZ,↓reduceIte,reduceCtorEq]
   refine fq ⟨u,rfl,hu.trans ⟨fun h=>hR.2 ⟨vf,.inl ⟨R4,h⟩⟩,fun hh=>?_⟩⟩
   rcases (hR.1 hh).2 with h | h | h
   ·exact h.2
   ·have:=h.1
    exact absurd R4 (by rw [show c.ps.getD (nt c.b k).n.toNat 0=c.ps.getD (nt c.a i).n.toNat 0 from this];omega)
   ·have:=h.1
    exact absurd R4 (by rw [show c.ps.getD (nt c.b k).n.toNat 0=c.ps.getD (nt c.a i).n.toNat 0 from this];omega)
  have hR:c.tR i k↔_:=hR.trans ⟨fun h=>h.2.resolve_left fun h2=>absurd h2.1 (by rw [← Int.not_lt] at R4;exact R4),fun h=>⟨vf,.inr h⟩⟩
  simp +contextual only [sY,q4,RJ,ko,sZ,Nat.reduceEqDiff,↓reduceIte,reduceCtorEq]
  refine ay (Wv c.ps c.ss _ _ (ao ON) (bo vf)) ?_
  rw [show (b9 c.ps c.ss)=c.O from rfl]
  by_cases hp:c.O.pl (nt c.a i).n=c.O.pl (nt c.b k).n
  rotate_left
  ·simp +contextual only [decide_eq_false hp,sZ,Nat.reduceEqDiff,↓reduceIte,reduceCtorEq]
   exact fq ⟨false,rfl,fun h=>absurd h (by simp),fun hh=>by rcases hR.1 hh with h | h <;> exact absurd h.1.symm hp⟩
  simp +contextual only [decide_eq_true hp,h.x,RJ,KX,ko,gK,aM,List.getD_cons_succ,List.getD_cons_zero,sZ,Nat.reduceEqDiff,Nat.reduceAdd,Nat.reduceLT,↓reduceIte,reduceCtorEq]
  refine ⟨⟨ao2.1,by omega⟩,fun h3=>?_,fun h3=>?_⟩
  ·refine af hmul ?_
   rintro r G ⟨⟨u,rfl,hu⟩,rfl⟩
   simp +contextual only [sZ,↓reduceIte,reduceCtorEq]
   refine fq ⟨u,rfl,hu.trans ⟨fun h=>hR.2 (.inr ⟨hp.symm,h3,h⟩),fun hh=>?_⟩⟩
   rcases hR.1 hh with h | h
   ·exact absurd h3 h.2.1
   ·exact h.2.2
  ·have hside {l m:List Int} (h1:KY c i l m) (s:Int):KY c i (bt s l) (bt s m):=⟨fun x hx=>h1.ia x (kv.1 hx),fun y hy=>h1.ib y (kv.1 hy),by rw [hZ];exact h1.la,by rw [hZ];exact h1.lb⟩
   simp +contextual only [sY,q4,RJ,KX,ko,gK,sZ,Nat.reduceEqDiff,↓reduceIte,reduceCtorEq]
   refine ay (abj c.ps c.ss _ _ S2 ⟨ao2.1,by omega⟩) ?_
   simp +contextual only [h.x,sY,q4,RJ,KX,ko,gK,sZ,Nat.reduceEqDiff,Nat.reduceAdd,↓reduceIte,reduceCtorEq]
   refine ay (abj c.ps c.ss _ _ OK ⟨ao2.1,by omega⟩) ?_
   simp +contextual only [sZ,Nat.reduceEqDiff,↓reduceIte,reduceCtorEq]
   refine rv (afs (hside k8 (c.ss.getD (nt c.a i).n.toNat 0))) fun u hu=>?_
   cases u with
   | false=>
     simp +contextual only [sZ,Nat.reduceEqDiff,↓reduceIte,reduceCtorEq]
     refine fq ⟨false,rfl,fun h=>absurd h (by simp),fun hh=>?_⟩
     rcases hR.1 hh with h | h
     ·exact absurd (hu.2 h.2.2.2) (by simp)
     ·exact absurd h.2.1 h3
   | true=>
     simp +contextual only [sZ,Nat.reduceEqDiff,Nat.reduceAdd,↓reduceIte,reduceCtorEq]
     refine af iU ?_
     rintro r G ⟨⟨v,rfl,hv⟩,rfl⟩
     simp +contextual only [sZ,Nat.reduceEqDiff,↓reduceIte,reduceCtorEq]
     refine fq ⟨v,rfl,hv.trans ⟨fun h=>hR.2 (.inl ⟨hp.symm,h3,h,hu.1 rfl⟩),fun hh=>?_⟩⟩
     rcases hR.1 hh with h | h
     ·exact h.2.2.1
     ·exact absurd h.2.1 h3
end Go.aK
end
section
set_option maxRecDepth 100000
set_option maxHeartbeats 0
namespace Go.aK
open Go Go.Proofs
noncomputable def To:=aG Tryz.call137 Tryz.func137 Tryz.ntmps137 [(0,0,1),(0,1,1),(0,2,1),(1,2,1),(1,4,1),(5,12,3),(5,15,2),(6,12,3),(6,15,2)] [(0,[3,4,5]),(1,[7]),(2,[7,8]),(3,[7,8,23]),(4,[7,8]),(5,[7,8]),(6,[7,8]),(7,[7,8,9]),(8,[7,8,9,62]),(9,[7,8,9]),(10,[7,8,9]),(11,[7,8,9]),(12,[6])] [(1,(.take 1 true (.take 0 false (.take 3 false (.br 2 (.br 4 (.take 5 true (.br 6 (.take 7 true .done) .nil)) .nil) .nil))))),(5,(.take 5 true (.take 6 true (.take 7 true (.take 8 true (.take 9 true (.take 0 false (.take 1 false (.take 2 false (.take 3 false (.br 4 (.br 10 (.take 11 true (.br 12 (.take 13 true (.take 14 true (.br 15 .done .nil))) .nil)) .nil) (.br 10 (.take 4 true (.take 11 true (.br 12 (.take 13 true (.take 14 true (.br 15 .done .nil))) .nil))) .nil)))))))))))),(6,(.take 5 true (.take 6 true (.take 7 true (.take 8 true (.take 9 true (.take 0 false (.take 1 false (.take 2 false (.take 3 false (.br 4 (.br 10 (.take 11 true (.br 12 (.take 13 true (.take 14 true (.br 15 .done .nil))) .nil)) .nil) (.br 10 (.take 4 true (.take 11 true (.br 12 (.take 13 true (.take 14 true (.br 15 .done .nil))) .nil))) .nil)))))))))))),(10,(.take 8 true (.take 9 true (.take 10 true (.take 11 true (.take 0 true (.take 1 true (.take 2 true (.take 3 true (.take 4 true (.take 5 true (.take 6 true (.take 7 true (.take 12 true (.br 13 .done .nil))))))))))))))),(11,(.take 8 true (.take 9 true (.take 10 true (.take 11 true (.take 0 true (.take 1 true (.take 2 true (.take 3 true (.take 4 true (.take 5 true (.take 6 true (.take 7 true (.take 12 true (.br 13 .done .nil)))))))))))))))]
end Go.aK
end
section
set_option maxRecDepth 100000
namespace Go.aK
open Go Go.Proofs Go.eI
structure CY {τ:Type} (n0:Nat) (G:List aa) (ad:τ→Nat) (ct:τ→Option aa):Prop where
 get:∀ t o,ct t=some o→G[ad t]?=some o
 inj:∀ s t,ct s≠none→ct t≠none→ad s=ad t→s=t
 lo:∀ t,ct t≠none→n0≤ad t
section
variable {τ:Type} [DecidableEq τ] {n0:Nat} {G:List aa} {ad:τ→Nat} {ct:τ→Option aa}
theorem CY.lt (h:CY n0 G ad ct) {t:τ} (ht:ct t≠none):ad t < G.length:=by
 cases e:ct t with
 | none=>exact absurd e ht
 | some o=>exact (aaJ.1 (h.get t o e)).1
theorem CY.set (h:CY n0 G ad ct) {t:τ} (ht:ct t≠none) (o:aa):CY n0 (G.set (ad t) o) ad (fun s=>if s=t then some o else ct s):=by
 refine ⟨fun s p hs=>?_,fun s u hs hu e=>?_,fun s hs=>?_⟩
 ·by_cases e:s=t
  ·subst e
   rw [if_pos rfl] at hs;cases hs
   rw [yS (h.lt ht)]
  ·rw [if_neg e] at hs
   rw [yQ (fun e2=>e (h.inj s t (by rw [hs];simp) ht e2.symm))]
   exact h.get s p hs
 ·refine h.inj s u (fun e2=>hs ?_) (fun e2=>hu ?_) e
  ·by_cases e3:s=t
   ·subst e3;exact absurd e2 ht
   ·rw [if_neg e3];exact e2
  ·by_cases e3:u=t
   ·subst e3;exact absurd e2 ht
   ·rw [if_neg e3];exact e2
 ·by_cases e3:s=t
  ·subst e3;exact h.lo s ht
  ·rw [if_neg e3] at hs;exact h.lo s hs
theorem CY.new (h:CY n0 G ad ct) (hn:n0≤G.length) (t:τ) (o:aa):CY n0 (G++[o]) (fun s=>if s=t then G.length else ad s) (fun s=>if s=t then some o else ct s):=by
 refine ⟨fun s p hs=>?_,fun s u hs hu e=>?_,fun s hs=>?_⟩
 ·by_cases e:s=t
  ·simp only [if_pos e] at hs ⊢;cases hs;simp
  ·simp only [if_neg e] at hs ⊢
   rw [yO (h.lt (by rw [hs];simp))]
   exact h.get s p hs
 ·by_cases e1:s=t <;> by_cases e2:u=t
  ·rw [e1,e2]
  ·simp only [if_pos e1,if_neg e2] at hs hu e
   have:=h.lt hu;omega
  ·simp only [if_neg e1,if_pos e2] at hs hu e
   have:=h.lt hs;omega
  ·simp only [if_neg e1,if_neg e2] at hs hu e
   exact h.inj s u hs hu e
 ·by_cases e1:s=t
  ·simp only [if_pos e1];exact hn
  ·simp only [if_neg e1] at hs ⊢;exact h.lo s hs
theorem CY.congr {ad':τ→Nat} {ct':τ→Option aa} (h:CY n0 G ad ct) (hc:∀ t,ct' t=ct t) (ha:∀ t,ct t≠none→ad' t=ad t):CY n0 G ad' ct':=by
 refine ⟨fun t o ht=>?_,fun s t hs ht e=>?_,fun t ht=>?_⟩
 ·rw [hc] at ht
  rw [ha t (by rw [ht];simp)];exact h.get t o ht
 ·rw [hc] at hs ht
  rw [ha s hs,ha t ht] at e
  exact h.inj s t hs ht e
 ·rw [hc] at ht
  rw [ha t ht];exact h.lo t ht
noncomputable def yJ (n0:Nat) (ad:τ→Nat) (ct:τ→Option aa) (G:List aa):List aa:=
 G.mapIdx fun j o=>@ite _ (j < n0∨∃ t,ct t≠none∧ad t=j) (Classical.propDecidable _) o .dead
theorem uA (j:Nat):(yJ n0 ad ct G)[j]?=(G[j]?).map fun o=>@ite _ (j < n0∨∃ t,ct t≠none∧ad t=j) (Classical.propDecidable _) o .dead:=by simp [yJ]
theorem uB:(yJ n0 ad ct G).length=G.length:=by simp [yJ]
theorem HI:(yJ n0 ad ct G).take n0=G.take n0:=by
 apply abU
 intro j
 rw [aax,aax]
 split
 ·rename_i hj
  rw [uA]
  cases G[j]? with
  | none=>rfl
  | some o=>simp [hj]
 ·rfl
theorem CY.ky (h:CY n0 G ad ct):CY n0 (yJ n0 ad ct G) ad ct:=by
 refine ⟨fun t o ht=>?_,h.inj,h.lo⟩
 rw [uA,h.get t o ht,Option.map_some,if_pos (.inr ⟨t,by rw [ht];simp,rfl⟩)]
theorem CY.shut (h:CY n0 G ad ct) (hb:∀ t o,ct t=some o→o.bc G.length=true):xn n0 G G.length (yJ n0 ad ct G):=by
 refine ⟨by rw [uB];simp,fun j x hx=>?_⟩
 rw [uA] at hx
 obtain ⟨y,hy,e⟩:=yR.1 hx
 split at e
 ·rename_i hp
  subst e
  refine .inr ⟨hy,fun h0=>?_⟩
  rcases hp with h1 | ⟨t,ht,rfl⟩
  ·omega
  ·cases e2:ct t with
   | none=>exact absurd e2 ht
   | some o=>
     have:=h.get t o e2
     rw [hy] at this;cases this
     rw [uB]
     exact hb t _ e2
 ·exact .inl e.symm
end
inductive Tg where
 | x | e | g
 | re (j:Nat)
 | rg (j:Nat)
 deriving DecidableEq
def gV (E:Nat→Bool) (nb m:Nat):aa:=.cells ((List.range nb).map fun k=>.bool (decide (k < m) && E k))
noncomputable def Tb.eB (c:Tb) (i k:Nat):Bool:=decide (c.f i=c.g k)
noncomputable def Tb.gB (c:Tb) (i k:Nat):Bool:=@decide (c.tR i k) (Classical.propDecidable _)
def jm (c:Tb) (ne ng:Nat) (ve vg:AV) (oe og:Option aa) (fE fG:Nat→aa):Tg→Option aa
 | .x=>some (.cells [.al 0 (ints c.ps),.al 0 (ints c.ss),.al 0 (dy c.a),.al 0 (dy c.b),ve,vg])
 | .e=>oe
 | .g=>og
 | .re j=>if j < ne then some (fE j) else none
 | .rg j=>if j < ng then some (fG j) else none
def eO (ad:Tg→Nat) (rr:Nat→Tg) (nb n cap:Nat):List AV:=(List.range n).map (fun j=>.aZ (ad (rr j)) 0 nb nb)++List.replicate (cap - n) .ag
def RV (ad:Tg→Nat) (nb:Nat) (tt:Tg) (rr:Nat→Tg) (v:AV) (o:Option aa) (n:Nat):Prop:=
 (n=0∧v=.ag∧o=none)∨(0 < n∧∃ cap,n≤cap∧v=.aZ (ad tt) 0 n cap∧o=some (.cells (eO ad rr nb n cap)))
def iv (c:Tb) (H:List aa) (i kE kG ne ng:Nat) (G:List aa):Prop:=
 ∃ ad ve vg oe og,ad .x=H.length∧G.take H.length=H∧H.length≤G.length∧
  CY H.length G ad (jm c ne ng ve vg oe og (fun j=>gV (c.eB j) c.b.length (if j < i then c.b.length else kE)) (fun j=>gV (c.gB j) c.b.length (if j < i then c.b.length else kG)))∧
  RV ad c.b.length .e .re ve oe ne∧RV ad c.b.length .g .rg vg og ng
theorem qc {ad:Tg→Nat} {rr:Nat→Tg} {nb n cap j:Nat} (h:j < n):(eO ad rr nb n cap).getD j .any=.aZ (ad (rr j)) 0 nb nb∧j < (eO ad rr nb n cap).length:=by
 constructor
 ·rw [eO,rB,yO (by simpa using h)]
  simp [h]
 ·simp [eO];omega
theorem Fl {E:Nat→Bool} {nb m k:Nat} (h:k < nb):((List.range nb).map fun k=>AV.bool (decide (k < m) && E k)).getD k .any=.bool (decide (k < m) && E k):=by
 simp [h]
theorem iv.tb {c:Tb} {H G:List aa} {i kE kG k:Nat} (h:iv c H i kE kG (i + 1) (i + 1) G) (h1:k≤kE) (h2:k≤kG):Tn c H.length i k G:=by
 obtain ⟨ad,ve,vg,oe,og,hx,_,_,hL,hE,hG⟩:=h
 rcases hE with ⟨h0,_⟩ | ⟨_,ce,hce,rfl,rfl⟩
 ·omega
 rcases hG with ⟨h0,_⟩ | ⟨_,cg,hcg,rfl,rfl⟩
 ·omega
 refine ⟨ad .e,i + 1,ce,_,ad .g,i + 1,cg,_,?_,hL.get .e _ rfl,hL.get .g _ rfl,by omega,by omega,fun j m h0 hm Xa hjm=>?_⟩
 ·have:=hL.get .x _ rfl
  rwa [hx] at this
 obtain ⟨j,rfl⟩:=abV h0
 obtain ⟨m,rfl⟩:=abV hm
 have hj:j < i + 1:=by omega
 have Xa:m < c.b.length:=by omega
 have aS:∀ kk,k≤kk→m < if j < i then c.b.length else kk:=fun kk hk=>by
  split
  ·exact Xa
  ·have:j=i:=by omega
   omega
 have e1:=hL.get (.re j) _ (if_pos hj)
 have e2:=hL.get (.rg j) _ (if_pos hj)
 obtain ⟨g1,g2⟩:=qc (ad:=ad) (rr:=.re) (nb:=c.b.length) (cap:=ce) hj
 obtain ⟨g3,g4⟩:=qc (ad:=ad) (rr:=.rg) (nb:=c.b.length) (cap:=cg) hj
 refine ⟨⟨_,_,_,g1,g2,e1,by simpa using Xa,Fl Xa,?_⟩,_,_,_,g3,g4,e2,by simpa using Xa,Fl Xa,?_⟩
 ·have:=aS kE h1
  simp only [yP]
  rw [decide_eq_true this]
  simp [Tb.eB,Tb.tE]
 ·have:=aS kG h2
  simp only [yP]
  rw [decide_eq_true this]
  simp [Tb.gB]
end Go.aK
end
section
set_option maxRecDepth 100000
namespace Go.aK
open Go Go.Proofs Go.eI
theorem KJ (k:Nat):flat (List.replicate k AV.ag)=List.replicate k .ag:=by
 induction k with
 | zero=>rfl
 | succ k ih=>rw [aeE,show flat (AV.ag::List.replicate k .ag)=.ag::flat (List.replicate k .ag) from rfl,ih]
theorem Bb (k:Nat):c8 .ag k=List.replicate k .ag:=KJ k
theorem ph {ad ad':Tg→Nat} {rr:Nat→Tg} {nb n cap:Nat} (h:∀ j,j < n→ad' (rr j)=ad (rr j)):eO ad' rr nb n cap=eO ad rr nb n cap:=by
 unfold eO
 congr 1
 exact ab4 fun j hj=>by rw [h j (abK.1 hj)]
theorem KK {ad:Tg→Nat} {rr:Nat→Tg} {nb n cap:Nat} (h:n≤cap):(eO ad rr nb n cap).length=cap:=by simp [eO];omega
theorem uC {ad:Tg→Nat} {rr:Nat→Tg} {nb n cap m:Nat} (h:∀ j,j < n→ad (rr j) < m):aj m (eO ad rr nb n cap)=true:=by
 rw [a9]
 intro x hx
 rw [eO] at hx
 rcases abJ.1 hx with hx | hx
 ·obtain ⟨j,hj,rfl⟩:=aal.1 hx
  have:=h j (abK.1 hj)
  rw [fJ];simpa using this
 ·rw [ab2 hx];rfl
theorem ry {ad:Tg→Nat} {rr:Nat→Tg} {nb n cap:Nat}:eO ad rr nb (n + 1) cap=(List.range n).map (fun j=>AV.aZ (ad (rr j)) 0 nb nb)++[.aZ (ad (rr n)) 0 nb nb]++List.replicate (cap - (n + 1)) .ag:=by
 rw [eO,acJ,ab3];rfl
theorem CZ {ad:Tg→Nat} {rr:Nat→Tg} {nb n cap:Nat} (h:n < cap):ah (eO ad rr nb n cap) n [.aZ (ad (rr n)) 0 nb nb]=eO ad rr nb (n + 1) cap:=by
 rw [ry,eO]
 have hl:((List.range n).map (fun j=>AV.aZ (ad (rr j)) 0 nb nb)).length=n:=by simp
 generalize (List.range n).map (fun j=>AV.aZ (ad (rr j)) 0 nb nb)=X at hl ⊢
 subst hl
 have e:cap - X.length=(cap - (X.length + 1)) + 1:=by omega
 rw [e,aeE]
 simp [ah]
theorem Fp {ad:Tg→Nat} {rr:Nat→Tg} {nb n:Nat}:((List.range n).map (fun j=>AV.aZ (ad (rr j)) 0 nb nb)).map AV.ab=(List.range n).map (fun j=>AV.aZ (ad (rr j)) 0 nb nb):=by
 rw [acs];rfl
theorem HJ {ad:Tg→Nat} {rr:Nat→Tg} {nb n cap:Nat}:(eO ad rr nb n cap).take n=(List.range n).map (fun j=>AV.aZ (ad (rr j)) 0 nb nb):=by
 rw [eO,aaR (by simp),aaw (by simp)]
theorem RV.facts {ad:Tg→Nat} {nb:Nat} {tt:Tg} {rr:Nat→Tg} {v:AV} {o:Option aa} {n:Nat} (h:RV ad nb tt rr v o n):v.one=true∧v.val=true∧v.ab=v∧v.cells=[v]:=by
 rcases h with ⟨_,rfl,_⟩ | ⟨_,cap,_,rfl,_⟩ <;> exact ⟨rfl,rfl,rfl,rfl⟩
theorem apW {n0:Nat} {G:List aa} {ad:Tg→Nat} {ct:Tg→Option aa} {nb n:Nat} {tt:Tg} {rr:Nat→Tg} {v:AV} (dJ:∀ j,rr j≠tt) (hL:CY n0 G ad ct) (HV:n0≤G.length) (hv:RV ad nb tt rr v (ct tt) n)
 (Lm:∀ j,j≤n→ct (rr j)≠none) (hb:(n + 1) * 24≤140737488355328) (o:Nat) {K:AV→List aa→Prop}
 (hK:∀ ad' v' o' G',(∀ s,s≠tt→ad' s=ad s)→CY n0 G' ad' (fun s=>if s=tt then o' else ct s)→RV ad' nb tt rr v' o' (n + 1)→G'.take n0=G.take n0→G.length≤G'.length→v'.bc G'.length=true→K v' G') :
 fH n0 1 24 .ag v (.al o [.aZ (ad (rr n)) 0 nb nb]) G K:=by
 have aS:∀ j,j≤n→ad (rr j) < G.length:=fun j hj=>hL.lt (Lm j hj)
 have jM:rE 1 [.aZ (ad (rr n)) 0 nb nb]:=fun y hy=>by rw [aaB.1 hy];exact ⟨rfl,rfl⟩
 have fl:(flat [AV.aZ (ad (rr n)) 0 nb nb]).map AV.ab=[.aZ (ad (rr n)) 0 nb nb]:=rfl
 unfold fH jz
 simp only [dB]
 rcases hv with ⟨rfl,rfl,he⟩ | ⟨hn,cap,cp,rfl,he⟩
 ·dsimp only
  refine ⟨fun _ _ _ _ e=>(by cases e),jM,by simp,fun e=>(by cases e),fun _ cap hc _=>?_⟩
  rw [fl,Bb]
  have e1:[AV.aZ (ad (rr 0)) 0 nb nb]++List.replicate (cap - [AV.aZ (ad (rr 0)) 0 nb nb].length) .ag=eO ad rr nb (0 + 1) cap:=by rw [ry];rfl
  rw [e1]
  have e2:eO (fun s=>if s=tt then G.length else ad s) rr nb (0 + 1) cap=eO ad rr nb (0 + 1) cap:=ph fun j _=>if_neg (dJ j)
  refine ⟨uC fun j hj=>by have:=aS j (by omega);omega,hK _ _ _ _ (fun s hs=>if_neg hs) (hL.new HV tt _) (.inr ⟨by omega,cap,by simpa using hc,?_,?_⟩) ?_ (by simp) (by rw [fJ];simp)⟩
  ·simp
  ·rw [e2]
  ·rw [aaR HV]
 ·have hg:=hL.get tt _ he
  have ht:ct tt≠none:=by rw [he];simp
  have bn:=hL.lt ht
  simp only [hg]
  refine ⟨fun _ _ _ _ e=>by cases e;exact hL.lo tt ht,jM,by simpa using hb,cp,by rw [KK cp];simp,fun hroom=>?_,fun jy dN hc _=>?_⟩
  ·rw [fl]
   have hroom:n < cap:=by simp only [afF] at hroom;omega
   rw [show 0 + n * 1=n by omega,CZ hroom]
   refine ⟨by rw [bP,c9,fJ];simpa using aS n (rC _),hK ad _ _ _ (fun s _=>rfl) (hL.set ht _) (.inr ⟨by omega,cap,hroom,rfl,rfl⟩) (abI (hL.lo tt ht)) (by simp) (by rw [fJ];simpa using bn)⟩
  ·rw [fl,Bb,List.drop_zero,abR,HJ,Fp]
   have e1:(List.range n).map (fun j=>AV.aZ (ad (rr j)) 0 nb nb)++[.aZ (ad (rr n)) 0 nb nb]++List.replicate (dN - (n + [AV.aZ (ad (rr n)) 0 nb nb].length)) .ag=eO ad rr nb (n + 1) dN:=by rw [ry];rfl
   rw [e1]
   have e2:eO (fun s=>if s=tt then G.length else ad s) rr nb (n + 1) dN=eO ad rr nb (n + 1) dN:=ph fun j _=>if_neg (dJ j)
   refine ⟨uC fun j hj=>by have:=aS j (by omega);omega,hK _ _ _ _ (fun s hs=>if_neg hs) (hL.new HV tt _) (.inr ⟨by omega,dN,by simpa using hc,?_,?_⟩) ?_ (by simp) (by rw [fJ];simp)⟩
   ·simp
   ·rw [e2]
   ·rw [aaR HV]
theorem KL (E:Nat→Bool) (nb:Nat):aa.cells (flat (List.replicate nb (bS (.bool false))))=gV E nb 0:=by
 rw [gV]
 congr 1
 induction nb with
 | zero=>rfl
 | succ k ih=>
   rw [acJ,ab3,← ih,List.replicate_succ']
   unfold flat
   rw [acY];rfl
theorem Oh (E:Nat→Bool) {nb m:Nat} (h:m < nb):(((List.range nb).map fun k=>AV.bool (decide (k < m) && E k)).set m (.bool (E m)))=(List.range nb).map fun k=>AV.bool (decide (k < m + 1) && E k):=by
 apply adV
 ·simp
 ·intro j h1 h2
  rw [List.getElem_set]
  split
  ·rename_i e
   subst e;simp
  ·rename_i e
   have:decide (j < m)=decide (j < m + 1):=by
    by_cases hj:j < m
    ·rw [decide_eq_true hj,decide_eq_true (by omega)]
    ·rw [decide_eq_false hj,decide_eq_false (by omega)]
   simp [this]
end Go.aK
end
section
set_option maxRecDepth 100000
namespace Go.aK
open Go Go.Proofs Go.eI
theorem RV.congr {ad ad':Tg→Nat} {nb:Nat} {tt:Tg} {rr:Nat→Tg} {v:AV} {o:Option aa} {n:Nat} (h:RV ad nb tt rr v o n) (h1:ad' tt=ad tt) (h2:∀ j,j < n→ad' (rr j)=ad (rr j)):RV ad' nb tt rr v o n:=by
 rcases h with h | ⟨hn,cap,hc,e1,e2⟩
 ·exact .inl h
 ·exact .inr ⟨hn,cap,hc,by rw [h1];exact e1,by rw [ph h2];exact e2⟩
def gW (c:Tb) (ve vg:AV):aa:=.cells [.al 0 (ints c.ps),.al 0 (ints c.ss),.al 0 (dy c.a),.al 0 (dy c.b),ve,vg]
theorem Oi {nb:Nat} (E:Nat→Bool) (h:nb≤100000000) (G:List aa) (K:AV→List aa→Prop):fC 1 1 (.bool false) (.int .i64 (nb:Int)) G K=K (.aZ G.length 0 nb nb) (G++[gV E nb 0]):=by
 have hb:aj (G.length + 1) (flat (List.replicate nb (bS (.bool false))))=true:=by
  rw [a9]
  intro x hx
  obtain ⟨y,hy,hxy⟩:=aek.1 hx
  rw [ab2 hy] at hxy
  rw [aaB.1 hxy];rfl
 simp only [fC,yP,eq_iff_iff,KL E nb]
 exact ⟨fun h=>h.2.2.2,fun hk=>⟨by omega,by omega,hb,hk⟩⟩
theorem iv.aft {c:Tb} {H G:List aa} {i:Nat} (h:iv c H i 0 0 i i G) (hi:i≤100000000) {ve vg:AV} (hX:G[H.length]?=some (gW c ve vg)) {K:AV→List aa→Prop}
 (hK:∀ v' G2,G2[H.length]?=some (gW c ve vg)→(v'.one=true∧v'.val=true∧v'.ab=v'∧v'.cells=[v'])→v'.bc G2.length=true→H.length≤G2.length→iv c H i 0 0 (i + 1) i (G2.set H.length (gW c v' vg))→K v' G2) :
 fH H.length 1 24 .ag ve (.al 0 [.aZ G.length 0 c.b.length c.b.length]) (G++[gV (c.eB i) c.b.length 0]) K:=by
 obtain ⟨ad,ve0,vg0,oe,og,hx,hH,hlen,hL,hE,hG⟩:=h
 have Rv:=hL.get .x _ rfl
 rw [hx,hX] at Rv
 simp only [gW,Option.some.injEq,aa.cells.injEq,List.cons.injEq,true_and,and_true] at Rv
 obtain ⟨rfl,rfl⟩:=Rv
 have R9:=hL.new hlen (.re i) (gV (c.eB i) c.b.length 0)
 have hE1:RV (fun s=>if s=Tg.re i then G.length else ad s) c.b.length .e .re ve oe i:=hE.congr (by simp) (fun j hj=>by simp;omega)
 have key:=apW (n:=i) (tt:=.e) (rr:=.re) (nb:=c.b.length) (v:=ve) (fun j=>by simp) R9 (by simp;omega) (by simpa [jm] using hE1) (fun j hj=>by
  by_cases e:j=i
  ·simp [e]
  ·simp [e,jm];omega) (by omega) 0 (K:=K) (fun ad' v' o' G2 ha hl hr ht wh me=>?_)
 ·rw [show (if Tg.re i=Tg.re i then G.length else ad (Tg.re i))=G.length from if_pos rfl] at key
  exact key
 have rD:ad' .x=H.length:=by rw [ha .x (by simp)];simp [hx]
 have Tp:=hl.get .x (gW c ve vg) (by simp [jm,gW])
 rw [rD] at Tp
 have rJ:=hl.set (t:=.x) (by simp [jm]) (gW c v' vg)
 rw [rD] at rJ
 have W6:H.length≤G2.length:=by simp at wh;omega
 refine hK v' G2 Tp hr.facts me W6 ⟨ad',v',vg,o',og,rD,?_,by simpa using W6,rJ.congr (fun t=>?_) (fun t _=>rfl),hr,hG.congr ?_ fun j hj=>?_⟩
 ·rw [abI (rC _),ht,aaR hlen,hH]
 ·cases t with
  | x=>simp [jm,gW]
  | e=>simp [jm]
  | g=>simp [jm]
  | re j=>
    by_cases e:j=i
    ·subst e;simp [jm]
    ·by_cases e2:j < i
     ·simp [jm,e,e2,show j < i + 1 by omega]
     ·simp [jm,e,e2,show ¬ j < i + 1 by omega]
  | rg j=>simp [jm]
 ·rw [ha .g (by simp)];simp
 ·rw [ha (.rg j) (by simp)];simp
theorem iv.afv {c:Tb} {H G:List aa} {i:Nat} (h:iv c H i 0 0 (i + 1) i G) (hi:i≤100000000) {ve vg:AV} (hX:G[H.length]?=some (gW c ve vg)) {K:AV→List aa→Prop}
 (hK:∀ v' G2,G2[H.length]?=some (gW c ve vg)→(v'.one=true∧v'.val=true∧v'.ab=v'∧v'.cells=[v'])→v'.bc G2.length=true→H.length≤G2.length→iv c H i 0 0 (i + 1) (i + 1) (G2.set H.length (gW c ve v'))→K v' G2) :
 fH H.length 1 24 .ag vg (.al 0 [.aZ G.length 0 c.b.length c.b.length]) (G++[gV (c.gB i) c.b.length 0]) K:=by
 obtain ⟨ad,ve0,vg0,oe,og,hx,hH,hlen,hL,hE,hG⟩:=h
 have Rv:=hL.get .x _ rfl
 rw [hx,hX] at Rv
 simp only [gW,Option.some.injEq,aa.cells.injEq,List.cons.injEq,true_and,and_true] at Rv
 obtain ⟨rfl,rfl⟩:=Rv
 have R9:=hL.new hlen (.rg i) (gV (c.gB i) c.b.length 0)
 have hE1:RV (fun s=>if s=Tg.rg i then G.length else ad s) c.b.length .g .rg vg og i:=hG.congr (by simp) (fun j hj=>by simp;omega)
 have key:=apW (n:=i) (tt:=.g) (rr:=.rg) (nb:=c.b.length) (v:=vg) (fun j=>by simp) R9 (by simp;omega) (by simpa [jm] using hE1) (fun j hj=>by
  by_cases e:j=i
  ·simp [e]
  ·simp [e,jm];omega) (by omega) 0 (K:=K) (fun ad' v' o' G2 ha hl hr ht wh me=>?_)
 ·rw [show (if Tg.rg i=Tg.rg i then G.length else ad (Tg.rg i))=G.length from if_pos rfl] at key
  exact key
 have rD:ad' .x=H.length:=by rw [ha .x (by simp)];simp [hx]
 have Tp:=hl.get .x (gW c ve vg) (by simp [jm,gW])
 rw [rD] at Tp
 have rJ:=hl.set (t:=.x) (by simp [jm]) (gW c ve v')
 rw [rD] at rJ
 have W6:H.length≤G2.length:=by simp at wh;omega
 refine hK v' G2 Tp hr.facts me W6 ⟨ad',ve,v',oe,o',rD,?_,by simpa using W6,rJ.congr (fun t=>?_) (fun t _=>rfl),hE.congr ?_ fun j hj=>?_,hr⟩
 ·rw [abI (rC _),ht,aaR hlen,hH]
 ·cases t with
  | x=>simp [jm,gW]
  | e=>simp [jm]
  | g=>simp [jm]
  | rg j=>
    by_cases e:j=i
    ·subst e;simp [jm]
    ·by_cases e2:j < i
     ·simp [jm,e,e2,show j < i + 1 by omega]
     ·simp [jm,e,e2,show ¬ j < i + 1 by omega]
  | re j=>simp [jm]
 ·rw [ha .e (by simp)];simp
 ·rw [ha (.re j) (by simp)];simp
theorem iv.afw {c:Tb} {H G:List aa} {i k kG:Nat} (h:iv c H i k kG (i + 1) (i + 1) G) (hk:k < c.b.length) :
 ∃ ie ce vg es r,G[H.length]?=some (gW c (.aZ ie 0 (i + 1) ce) vg)∧G[ie]?=some (.cells es)∧es.getD i .any=.aZ r 0 c.b.length c.b.length∧i < es.length∧
  G[r]?=some (gV (c.eB i) c.b.length k)∧iv c H i (k + 1) kG (i + 1) (i + 1) (G.set r (gV (c.eB i) c.b.length (k + 1))):=by
 obtain ⟨ad,ve,vg,oe,og,hx,hH,hlen,hL,hE,hG⟩:=h
 have hX:=hL.get .x _ rfl
 rw [hx] at hX
 have hE0:=hE
 rcases hE with ⟨h0,_⟩ | ⟨_,ce,hce,rfl,rfl⟩
 ·omega
 obtain ⟨g1,g2⟩:=qc (ad:=ad) (rr:=.re) (nb:=c.b.length) (cap:=ce) (show i < i + 1 by omega)
 have hr:=hL.get (.re i) _ (if_pos (show i < i + 1 by omega))
 simp only [acB,↓reduceIte] at hr
 have hct:jm c (i + 1) (i + 1) (.aZ (ad .e) 0 (i + 1) ce) vg (some (.cells (eO ad .re c.b.length (i + 1) ce))) og (fun j=>gV (c.eB j) c.b.length (if j < i then c.b.length else k)) (fun j=>gV (c.gB j) c.b.length (if j < i then c.b.length else kG)) (.re i)≠none:=by simp [jm]
 have hs:=hL.set hct (gV (c.eB i) c.b.length (k + 1))
 refine ⟨ad .e,ce,vg,_,ad (.re i),hX,hL.get .e _ rfl,g1,g2,hr,ad,_,vg,_,og,hx,?_,by simpa using hlen,hs.congr (fun t=>?_) (fun _ _=>rfl),hE0,hG⟩
 ·rw [abI (hL.lo _ hct),hH]
 ·cases t with
  | re j=>
    by_cases e:j=i
    ·subst e;simp [jm]
    ·by_cases e2:j < i
     ·simp [jm,e,e2]
     ·simp [jm,e,show ¬ j < i + 1 by omega]
  | _=>simp [jm]
theorem iv.afx {c:Tb} {H G:List aa} {i k kE:Nat} (h:iv c H i kE k (i + 1) (i + 1) G) (hk:k < c.b.length) :
 ∃ ig cg ve es r,G[H.length]?=some (gW c ve (.aZ ig 0 (i + 1) cg))∧G[ig]?=some (.cells es)∧es.getD i .any=.aZ r 0 c.b.length c.b.length∧i < es.length∧
  G[r]?=some (gV (c.gB i) c.b.length k)∧iv c H i kE (k + 1) (i + 1) (i + 1) (G.set r (gV (c.gB i) c.b.length (k + 1))):=by
 obtain ⟨ad,ve,vg,oe,og,hx,hH,hlen,hL,hE,hG⟩:=h
 have hX:=hL.get .x _ rfl
 rw [hx] at hX
 have hG0:=hG
 rcases hG with ⟨h0,_⟩ | ⟨_,cg,hcg,rfl,rfl⟩
 ·omega
 obtain ⟨g1,g2⟩:=qc (ad:=ad) (rr:=.rg) (nb:=c.b.length) (cap:=cg) (show i < i + 1 by omega)
 have hr:=hL.get (.rg i) _ (if_pos (show i < i + 1 by omega))
 simp only [acB,↓reduceIte] at hr
 have hct:jm c (i + 1) (i + 1) ve (.aZ (ad .g) 0 (i + 1) cg) oe (some (.cells (eO ad .rg c.b.length (i + 1) cg))) (fun j=>gV (c.eB j) c.b.length (if j < i then c.b.length else kE)) (fun j=>gV (c.gB j) c.b.length (if j < i then c.b.length else k)) (.rg i)≠none:=by simp [jm]
 have hs:=hL.set hct (gV (c.gB i) c.b.length (k + 1))
 refine ⟨ad .g,cg,ve,_,ad (.rg i),hX,hL.get .g _ rfl,g1,g2,hr,ad,ve,_,oe,_,hx,?_,by simpa using hlen,hs.congr (fun t=>?_) (fun _ _=>rfl),hE,hG0⟩
 ·rw [abI (hL.lo _ hct),hH]
 ·cases t with
  | rg j=>
    by_cases e:j=i
    ·subst e;simp [jm]
    ·by_cases e2:j < i
     ·simp [jm,e,e2]
     ·simp [jm,e,show ¬ j < i + 1 by omega]
  | _=>simp [jm]
theorem iv.full {c:Tb} {H G:List aa} {i:Nat} (h:iv c H i c.b.length c.b.length (i + 1) (i + 1) G):iv c H (i + 1) 0 0 (i + 1) (i + 1) G:=by
 obtain ⟨ad,ve,vg,oe,og,hx,hH,hlen,hL,hE,hG⟩:=h
 refine ⟨ad,ve,vg,oe,og,hx,hH,hlen,hL.congr (fun t=>?_) (fun _ _=>rfl),hE,hG⟩
 cases t with
 | re j=>
   by_cases e:j < i + 1
   ·simp [jm,e]
   ·simp [jm,e]
 | rg j=>
   by_cases e:j < i + 1
   ·simp [jm,e]
   ·simp [jm,e]
 | _=>simp [jm]
theorem iv.start (c:Tb) (H:List aa):iv c H 0 0 0 0 0 (H++[gW c .ag .ag]):=by
 refine ⟨fun _=>H.length,.ag,.ag,none,none,rfl,by simp,by simp,⟨fun t o ht=>?_,fun s t hs ht _=>?_,fun _ _=>rC _⟩,.inl ⟨rfl,rfl,rfl⟩,.inl ⟨rfl,rfl,rfl⟩⟩
 ·cases t <;> simp [jm] at ht
  subst ht;simp [gW]
 ·cases s <;> simp [jm] at hs
  cases t <;> simp [jm] at ht
  rfl
theorem iv.x {c:Tb} {H G:List aa} {i kE kG ne ng:Nat} (h:iv c H i kE kG ne ng G):∃ ve vg,G[H.length]?=some (gW c ve vg)∧ve.ab=ve∧vg.ab=vg:=by
 obtain ⟨ad,ve,vg,oe,og,hx,hH,hlen,hL,hE,hG⟩:=h
 have hX:=hL.get .x _ rfl
 rw [hx] at hX
 exact ⟨ve,vg,hX,hE.facts.2.2.1,hG.facts.2.2.1⟩
theorem iv.back {c:Tb} {H G:List aa} {i:Nat} (h:iv c H (i + 1) 0 0 (i + 1) (i + 1) G):iv c H i c.b.length c.b.length (i + 1) (i + 1) G:=by
 obtain ⟨ad,ve,vg,oe,og,hx,hH,hlen,hL,hE,hG⟩:=h
 refine ⟨ad,ve,vg,oe,og,hx,hH,hlen,hL.congr (fun t=>?_) (fun _ _=>rfl),hE,hG⟩
 cases t with
 | re j=>
   by_cases e:j < i + 1
   ·simp [jm,e]
   ·simp [jm,e]
 | rg j=>
   by_cases e:j < i + 1
   ·simp [jm,e]
   ·simp [jm,e]
 | _=>simp [jm]
theorem Fq (E:Nat→Bool) (nb m n:Nat):(gV E nb m).bc n=true:=by
 rw [gV,aa.bc,a9]
 intro x hx
 obtain ⟨k,_,rfl⟩:=aal.1 hx
 rfl
theorem iv.shut {c:Tb} {H G:List aa} {i kE kG ne ng:Nat} (h:iv c H i kE kG ne ng G):∃ G2,xn H.length G G.length G2∧iv c H i kE kG ne ng G2∧H.length < G.length:=by
 obtain ⟨ad,ve,vg,oe,og,hx,hH,hlen,hL,hE,hG⟩:=h
 have HU:=hL.lt (t:=.x) (by simp [jm])
 rw [hx] at HU
 refine ⟨_,hL.shut fun t o ht=>?_,⟨ad,ve,vg,oe,og,hx,by rw [HI,hH],by rw [uB];exact hlen,hL.ky,hE,hG⟩,HU⟩
 have hrv:∀ {tt rr v oo n},RV ad c.b.length tt rr v oo n→jm c ne ng ve vg oe og (fun j=>gV (c.eB j) c.b.length (if j < i then c.b.length else kE)) (fun j=>gV (c.gB j) c.b.length (if j < i then c.b.length else kG)) tt=oo→(∀ j,j < n→jm c ne ng ve vg oe og (fun j=>gV (c.eB j) c.b.length (if j < i then c.b.length else kE)) (fun j=>gV (c.gB j) c.b.length (if j < i then c.b.length else kG)) (rr j)≠none)→
  v.bc G.length=true∧∀ o,oo=some o→o.bc G.length=true:=by
  intro tt rr v oo n h h1 h2
  rcases h with ⟨_,rfl,rfl⟩ | ⟨_,cap,hc,rfl,rfl⟩
  ·exact ⟨rfl,fun o h=>by cases h⟩
  ·have:=hL.lt (t:=tt) (by rw [h1];simp)
   refine ⟨by rw [fJ];simpa using this,fun o h=>?_⟩
   cases h
   exact uC fun j hj=>hL.lt (h2 j hj)
 obtain ⟨e1,e2⟩:=hrv hE rfl (fun j hj=>by simp [jm,hj])
 obtain ⟨g1,g2⟩:=hrv hG rfl (fun j hj=>by simp [jm,hj])
 cases t with
 | x=>
   cases ht
   simp only [aa.bc,bP,c9,bW,bf,pX,e1,g1,aco]
 | e=>exact e2 o ht
 | g=>exact g2 o ht
 | re j=>
   simp only [jm] at ht
   split at ht <;> cases ht
   exact Fq _ _ _ _
 | rg j=>
   simp only [jm] at ht
   split at ht <;> cases ht
   exact Fq _ _ _ _
theorem Ja (a b c d:Nat):(AV.aZ a b c d).val=true:=rfl
theorem Ft (a b c d:Nat):(AV.aZ a b c d).cells.length=1:=rfl
theorem Bc (a b c d:Nat):a7 (AV.aZ a b c d)=.aZ a b c d:=rfl
theorem afy (a b c d e f v:AV):ah [a,b,c,d,e,f] 4 [v]=[a,b,c,d,v,f]:=rfl
theorem afz (a b c d e f v:AV):ah [a,b,c,d,e,f] 5 [v]=[a,b,c,d,e,v]:=rfl
theorem Fu {E:Nat→Bool} {nb m:Nat} (h:m < nb) {r:Nat} {b:Bool} (hb:b=E m) {H:List aa} {K:List aa→Prop} (hK:K (H.set r (gV E nb (m + 1)))):iJ (some (gV E nb m)) 1 r m (.bool b) H K:=by
 subst hb
 have hl:((List.range nb).map fun k=>AV.bool (decide (k < m) && E k)).length=nb:=by simp
 simp only [gV,xN]
 refine ⟨rfl,rfl,by rw [hl];show m + 1≤nb;omega,rfl,rfl,?_⟩
 rw [show (AV.bool (E m)).cells.map AV.ab=[.bool (E m)] from rfl,lC _ _ _ (by rw [hl];exact h),Oh E h]
 exact hK
theorem Fv {l:List Nd} (h:l≠[]):(km l).ab=.al 0 (dy l):=by
 cases l with
 | nil=>exact absurd rfl h
 | cons _ _=>rfl
theorem afA {ps ss:List Int} {A B:List Nd} (hA:A≠[]) (hB:B≠[]) (φ:AV→Prop):cH [.ag,.ag,.ag,.ag,.ag,.ag] [(0,2,dV ps ss),(2,1,km A),(3,1,km B)] φ=φ (.agg [.al 0 (ints ps),.al 0 (ints ss),.al 0 (dy A),.al 0 (dy B),.ag,.ag]):=by
 obtain ⟨q1,q2,q3,q4,q5,q6⟩:=aQ ps ss
 obtain ⟨a1,a2,a3,_⟩:=ru A
 obtain ⟨b1,b2,b3,_⟩:=ru B
 have o1:(dV ps ss).cells=[.al 0 (ints ps),.al 0 (ints ss)]:=rfl
 simp [cH,iB,a2,a3,b2,b3,q1,o1,ah,Fv hA,Fv hB]
 rfl
theorem pS0 (v:AV) (l:List IX):bh (IX.c v::l) (some 0)=none:=rfl
theorem uS0 (env:Env):cQ env none=env:=rfl
theorem abq {c:Tb} (hc:c.Ok) {a b:T} (ha:c.a=bH a 0) (hb:c.b=bH b 0) (H:List aa) :
 jo Tryz.prog 137 [dV c.ps c.ss,a.av,b.av] H fun r H'=>r=.ptr H.length 0∧H'.take H.length=H∧Tn c H.length ((c.a.length:Int) - 1) c.b.length H':=by
 have S2:=hc.a.len
 have OK:=hc.b.len
 have wa:c.a.length=wt a:=by rw [ha,eM]
 have wb:c.b.length=wt b:=by rw [hb,eM]
 refine To.2.U2 rfl ?_
 simp only [To,aG]
 obtain ⟨q1,q2,q3,q4,q5,q6⟩:=aQ c.ps c.ss
 simp +contextual only [bm,q1,sZ,Nat.reduceEqDiff,Nat.reduceAdd,↓reduceIte,reduceCtorEq]
 have na:km []=.ag:=rfl
 refine af (abi _ a (rC _) [] H (by simp;omega)) ?_
 rintro r G ⟨rfl,rfl⟩
 simp +contextual only [pS0,uS0,sZ,Nat.reduceEqDiff,Nat.reduceAdd,↓reduceIte,reduceCtorEq]
 refine af (abi _ b (rC _) [] G (by simp;omega)) ?_
 rintro r G' ⟨rfl,rfl⟩
 simp +contextual only [pS0,uS0,List.length_nil,← ha,← hb,afA hc.a.ne hc.b.ne,pX,sZ,Nat.reduceEqDiff,↓reduceIte]
 refine iK c.a.length (fun i (G:List aa)=>iv c G' i 0 0 i i G) (fun i G=>[(7,.ptr G'.length 0),(8,.int .i64 i)]) (fun i G=>G) _ ⟨iv.start c G',kr _ _ _⟩ fun i G hi hI=>?_
 obtain ⟨ve,vg,hX,hve,hvg⟩:=hI.x
 by_cases h1:i < c.a.length
 rotate_left
 ·have l1:decide ((i:Int) < c.a.length)=false:=decide_eq_false (by omega)
  rw [gW] at hX
  simp +contextual only [kQ,hX,eN,l1,List.getD_cons_succ,List.getD_cons_zero,sZ,Nat.reduceEqDiff,Nat.reduceAdd,Nat.reduceLT,↓reduceIte,reduceCtorEq]
  have dJ:c.a.length≠0:=fun e=>hc.a.ne (aby.1 e)
  obtain ⟨n,hn⟩:=Nat.exists_eq_succ_of_ne_zero dJ
  have k8:i=n + 1:=by omega
  subst k8
  obtain ⟨G2,s1,s2,s3⟩:=hI.shut
  refine fun _=>⟨G.length,G2,by omega,s1,_,le_refl _,by rw [qV];simpa using s3,rfl,?_,?_⟩
  ·obtain ⟨ad,ve,vg,oe,og,hx,hH,_⟩:=s2;exact hH
  ·have:=s2.back.tb (k:=c.b.length) (rC _) (rC _)
   rw [show (c.a.length:Int) - 1=(n:Int) by omega]
   exact this
 have l1:decide ((i:Int) < c.a.length)=true:=decide_eq_true (by omega)
 have hX':=hX
 rw [gW] at hX'
 have Dd:G'.length < G.length:=(aaJ.1 hX).1
 have Tp:(G++[gV (c.eB i) c.b.length 0])[G'.length]?=some (.cells [.al 0 (ints c.ps),.al 0 (ints c.ss),.al 0 (dy c.a),.al 0 (dy c.b),ve,vg]):=by rw [yO Dd];exact hX
 simp +contextual only [xL,hX',Tp,hve,Ja,Ft,Bc,Oi (c.eB i) OK,eN,l1,List.getD_cons_succ,List.getD_cons_zero,sZ,Nat.reduceEqDiff,Nat.reduceAdd,Nat.reduceLT,↓reduceIte]
 intro _
 refine ⟨?_,?_⟩ <;> (
  refine hI.aft (by omega) hX fun v' G2 hg2 hv' ey xh hO=>?_
  obtain ⟨w1,w2,w3,w4⟩:=hv'
  rw [gW] at hg2
  simp +contextual only [kQ,hg2,w1,w2,w3,w4,ey,afy,sZ,Nat.reduceEqDiff,Nat.reduceAdd,Nat.reduceLeDiff,↓reduceIte]
  rw [gW] at hO
  generalize G2.set G'.length (aa.cells [.al 0 (ints c.ps),.al 0 (ints c.ss),.al 0 (dy c.a),.al 0 (dy c.b),v',vg])=G3 at hO ⊢
  clear hg2 ey xh w1 w2 w3 w4 Tp hX' hX hI Dd
  obtain ⟨ve3,vg3,hX3,aj5,afC⟩:=hO.x
  have rJ:G'.length < G3.length:=(aaJ.1 hX3).1
  have Wx:=hX3
  rw [gW] at Wx
  have hX4:(G3++[gV (c.gB i) c.b.length 0])[G'.length]?=some (.cells [.al 0 (ints c.ps),.al 0 (ints c.ss),.al 0 (dy c.a),.al 0 (dy c.b),ve3,vg3]):=by rw [yO rJ];exact hX3
  simp +contextual only [xL,Wx,hX4,afC,Ja,Ft,Bc,Oi (c.gB i) OK,eN,List.getD_cons_succ,List.getD_cons_zero,sZ,Nat.reduceEqDiff,Nat.reduceAdd,Nat.reduceLT,↓reduceIte]
  refine ⟨?_,?_⟩ <;> (
   refine hO.afv (by omega) hX3 fun v4 G4 hg4 hv4 hb4 hl4 hO4=>?_
   obtain ⟨w1,w2,w3,w4⟩:=hv4
   rw [gW] at hg4
   simp +contextual only [kQ,hg4,w1,w2,w3,w4,hb4,afz,sZ,Nat.reduceEqDiff,Nat.reduceAdd,↓reduceIte]
   rw [gW] at hO4
   generalize G4.set G'.length (aa.cells [.al 0 (ints c.ps),.al 0 (ints c.ss),.al 0 (dy c.a),.al 0 (dy c.b),ve3,v4])=G5 at hO4 ⊢
   clear hg4 hb4 hl4 w1 w2 w3 w4 hX4 Wx hX3 hO rJ
   refine iK c.b.length (fun k (G:List aa)=>iv c G' i k k (i + 1) (i + 1) G) (fun k G=>[(7,.ptr G'.length 0),(8,.int .i64 i),(9,.int .i64 k)]) (fun k G=>G) _ ⟨hO4,kr _ _ _⟩ fun k G6 hk hI6=>?_
   clear hO4
   by_cases h2:k < c.b.length
   ·have l2:decide ((k:Int) < c.b.length)=true:=decide_eq_true (by omega)
    obtain ⟨ie,ce,vg6,es,r,x1,x2,x3,x4,x5,x6⟩:=hI6.afw h2
    have x1':=x1
    rw [gW] at x1'
    have ci:(0:Int)≤i∧(i:Int) < c.a.length:=⟨by omega,by omega⟩
    have ck:(0:Int)≤k∧(k:Int) < c.b.length:=⟨by omega,by omega⟩
    simp +contextual only [x1',l2,eN,List.getD_cons_succ,List.getD_cons_zero,sZ,Nat.reduceEqDiff,Nat.reduceAdd,Nat.reduceLT,↓reduceIte]
    intro _
    refine rv (afq hc (hI6.tb (rC _) (rC _)) ci ck) fun u hu=>?_
    have eu:u=c.eB i k:=by rw [abY,hu,Tb.eB,decide_eq_true_eq];rfl
    simp +contextual only [x1',x2,x3,x5,sX,abR,yP,List.getD_cons_succ,List.getD_cons_zero,sZ,Nat.reduceEqDiff,Nat.reduceAdd,Nat.reduceLT,↓reduceIte,reduceCtorEq]
    refine ⟨⟨by omega,by omega⟩,x4,ck,Fu h2 eu ?_⟩
    generalize G6.set r (gV (c.eB i) c.b.length (k + 1))=G7 at x6 ⊢
    clear x1 x2 x3 x4 x5 x1' hI6
    obtain ⟨ig,cg,ve7,es7,r7,y1,y2,y3,y4,y5,y6⟩:=x6.afx h2
    rw [gW] at y1
    simp +contextual only [sZ,Nat.reduceEqDiff,↓reduceIte]
    refine rv (afr hc (x6.tb (Nat.le_succ _) (rC _)) ci ck) fun u2 hu2=>?_
    have eu2:u2=c.gB i k:=by rw [abY,hu2,Tb.gB];simp
    simp +contextual only [y1,y2,y3,y5,sX,abR,yP,List.getD_cons_succ,List.getD_cons_zero,sZ,Nat.reduceEqDiff,Nat.reduceAdd,Nat.reduceLT,↓reduceIte,reduceCtorEq]
    refine ⟨⟨by omega,by omega⟩,y4,ck,Fu h2 eu2 ?_⟩
    simp +contextual only [sZ,Nat.reduceEqDiff,↓reduceIte]
    exact ⟨k + 1,_,⟨h2,y6⟩,by omega,sC (by rw [au k (by omega)]) rfl⟩
   ·have l2:decide ((k:Int) < c.b.length)=false:=decide_eq_false (by omega)
    obtain ⟨ve6,vg6,x1,_,_⟩:=hI6.x
    rw [gW] at x1
    simp +contextual only [x1,l2,eN,List.getD_cons_succ,List.getD_cons_zero,sZ,Nat.reduceEqDiff,Nat.reduceAdd,Nat.reduceLT,↓reduceIte]
    have OP:k=c.b.length:=by omega
    subst OP
    exact fun _=>⟨i + 1,G6,⟨h1,hI6.full⟩,by omega,sC (by rw [au i (by omega)]) rfl⟩))
end Go.aK
end
section
set_option maxRecDepth 100000
set_option maxHeartbeats 0
namespace Go.aK
open Go Go.Proofs
end Go.aK
end
section
set_option maxRecDepth 100000
namespace Go.aK
open Go Go.Proofs
end Go.aK
end
section
set_option maxRecDepth 100000
namespace Go.aK
open Go Go.Proofs
theorem abv (x y:T):ah x.av.cells 0 y.av.cells=y.av.cells:=by
 cases x;cases y;simp [T.av,AV.cells,ah]
theorem abw (x:T):x.av.cells.getD 2 .any=.al 0 (cJ x.l):=by cases x;rfl
def keeps (l l':List T):Prop:=∀ i,(l.getD i default).k≠0→l'.getD i default=l.getD i default
end Go.aK
end
section
set_option maxRecDepth 100000
namespace Go.aK
open Go Go.Proofs
def HK:T→List Int→Option T
 | t,[]=>some t
 | t,i::r=>if i < 0∨(t.l.length:Int)≤i then none else HK (t.l.getD i.toNat default) r
theorem yK {t:T} {p:List Int} {i:Nat} (h:i < p.length):HK t (p.drop i)=if p.getD i 0 < 0∨(t.l.length:Int)≤p.getD i 0 then none else HK (t.l.getD (p.getD i 0).toNat default) (p.drop (i + 1)):=by
 rw [abr h,HK]
 have e:p.getD i 0=p[i]:=by simp [h]
 rw [e]
theorem afE (t:T) (p:List Int):Pure Tryz.prog 119 [t.av,.al 0 (ints p)] (.tuple [((HK t p).getD T0).av,.bool (HK t p).isSome]):=by
 refine fun H=>XT.2.calls rfl ?_
 simp only [XT,aG]
 simp +contextual only [sZ,Nat.reduceEqDiff,Nat.reduceAdd,↓reduceIte,reduceCtorEq]
 intro hp
 refine aJ p.length (fun i (s:T)=>HK s (p.drop i)=HK t p)
  (fun i s=>[(2,.ptr H.length 0),(4,.ptr (H.length + 1) 0),(8,.al 0 (ints p)),(9,.int .i64 p.length),(10,.int .i64 i)]) (fun i s=>H++[.cells s.av.cells,.cells [.int .i64 0,.int .i64 0,.ag]]) t ⟨rfl,aB _ _ _⟩ fun i s hi hI=>?_
 simp +contextual only [abw,sZ,Nat.reduceEqDiff,Nat.reduceAdd,Nat.reduceLT,↓reduceIte,reduceCtorEq]
 refine ⟨fun aS=>⟨bN aS,fun Jf _=>⟨fun Nb=>?_,fun Nb=>?_⟩,fun Jf=>?_⟩,fun jw=>?_⟩
 ·have aS:=bN aS
  rw [yK aS,if_pos (.inr Nb)] at hI
  rw [← hI]
  exact vw (G:=H) (by simp) (T.gl _ T0) rfl rfl rfl ⟨rfl,rfl⟩
 ·have aS:=bN aS
  rw [yK aS,if_neg (by omega)] at hI
  generalize p.getD i 0=k at *
  obtain ⟨m,rfl⟩:=abV Jf
  have hm:m < s.l.length:=by omega
  rw [yP] at hI
  simp +contextual only [abv,sZ,Nat.reduceEqDiff,Nat.reduceAdd,↓reduceIte]
  refine ⟨hm,i + 1,s.l.getD m default,⟨aS,hI⟩,by omega,aE (by rw [au i (by omega)]) rfl⟩
 ·have aS:=bN aS
  rw [yK aS,if_pos (.inl (by omega))] at hI
  rw [← hI]
  exact vw (G:=H) (by simp) (T.gl _ T0) rfl rfl rfl ⟨rfl,rfl⟩
 ·rw [abu (dh jw)] at hI
  simp only [HK] at hI
  rw [← hI]
  exact vw (G:=H) (by simp) (T.gl _ s) rfl (T.kS _) rfl ⟨rfl,rfl⟩
def Xb (t:T) (p:List Int):T×Int:=if t.tree=true then (match HK t p with | some x=>(x,0) | none=>(T0,41)) else (T0,4)
theorem yL:∀ (p:List Int) {t x:T},t.shaped=true→HK t p=some x→x.shaped=true
 | [],t,x,h,e=>by simp only [HK] at e;cases e;exact h
 | i::r,t,x,h,e=>by
   simp only [HK] at e
   split at e
   ·cases e
   ·exact yL r ((fL h).2 _ (fa (by omega))) e
theorem c57 (t:T) (p:List Int):Pure Tryz.prog 57 [t.av,.al 0 (ints p)] (.tuple [(Xb t p).1.av,.int .i64 (Xb t p).2]):=by
 refine fun H=>k57.2.calls rfl ?_
 simp only [k57,aG]
 simp +contextual only [sZ,Nat.reduceEqDiff,Nat.reduceAdd,↓reduceIte,reduceCtorEq]
 refine ae (ZG t) ?_
 cases ht:t.tree with
 | false=>
   have e:Xb t p=(T0,4):=by rw [Xb,if_neg (by rw [ht];simp)]
   rw [e]
   simp +contextual only [sZ,Nat.reduceEqDiff,Nat.reduceAdd,↓reduceIte,reduceCtorEq]
   exact vw (G:=H) (by simp) (T.gl _ T0) rfl rfl rfl ⟨rfl,rfl⟩
 | true=>
   have hs:=((T.fK t).1 ht).2.2
   simp +contextual only [sZ,Nat.reduceEqDiff,Nat.reduceAdd,↓reduceIte]
   refine ae (afE t p) ?_
   have e:Xb t p=(match HK t p with | some x=>(x,0) | none=>(T0,41)):=by rw [Xb,if_pos ht]
   have hx:=fun x=>@yL p t x hs
   cases ha:HK t p with
   | none=>
     rw [ha] at e
     rw [e]
     simp +contextual only [Option.isSome,Option.getD,sZ,Nat.reduceEqDiff,Nat.reduceAdd,Nat.reduceLT,↓reduceIte,reduceCtorEq]
     exact vw (G:=H) (by simp) (T.gl _ T0) rfl rfl rfl ⟨rfl,rfl⟩
   | some x=>
     rw [ha] at e
     rw [e]
     simp +contextual only [Option.isSome,Option.getD,sZ,Nat.reduceEqDiff,Nat.reduceAdd,Nat.reduceLT,↓reduceIte]
     refine ae (adn x (hx x ha)) ?_
     simp +contextual only [sZ,Nat.reduceEqDiff,Nat.reduceAdd,↓reduceIte,reduceCtorEq]
     exact vw (G:=H) (by simp) (T.gl _ x) rfl (T.kS _) rfl ⟨rfl,rfl⟩
end Go.aK
end
section
set_option maxRecDepth 100000
namespace Go.aK
open Go Go.Proofs
end Go.aK
end
section
set_option maxRecDepth 100000
namespace Go.aK
open Go Go.Proofs
mutual
def HL:T→List Int→List (List Int)
 | .mk _ _ l,p=>p::yM l 0 p
def yM:List T→Nat→List Int→List (List Int)
 | [],_,_=>[]
 | x::r,i,p=>HL x (p++[(i:Int)])++yM r (i + 1) p
end
mutual
theorem Bd:∀ (t:T) (p:List Int),((HL t p).length:Int)=t.sz
 | .mk k n l,p=>by simp only [HL,List.length_cons,T.sz];have:=rA l 0 p;omega
theorem rA:∀ (l:List T) (i:Nat) (p:List Int),((yM l i p).length:Int)=yV l
 | [],_,_=>by simp [yM,yV]
 | x::r,i,p=>by
   simp only [yM,aaf,yV]
   have h1:=Bd x (p++[(i:Int)])
   have h2:=rA r (i + 1) p
   omega
end
theorem Jb:∀ {l:List T} {y:T},y∈l→y.dp≤GS l
 | x::r,y,h=>by
   simp only [GS]
   rcases aai.1 h with rfl | h
   ·omega
   ·have:=Jb h;omega
theorem T.abx (t:T):t.dp=1 + GS t.l:=by cases t;rfl
end Go.aK
end
section
set_option maxRecDepth 100000
namespace Go.aK
open Go Go.Proofs Go.eI
end Go.aK
end
section
set_option maxRecDepth 100000
namespace Go.aK
open Go Go.Proofs Go.eI
theorem Fx:∀ {l:List T} {y:T},y∈l→y.sz≤yV l
 | x::r,y,h=>by
   have h0:∀ l:List T,0≤yV l:=fun l=>by
    have:=rA l 0 []
    omega
   have h1:0≤x.sz:=by have:=Bd x [];omega
   have:=h0 r
   simp only [yV]
   rcases aai.1 h with rfl | h
   ·omega
   ·have:=Fx h;omega
theorem Oj {t y:T} (h:t.tree=true) (hy:y∈t.l):y.tree=true:=by
 obtain ⟨h1,h2,h3⟩:=(T.fK t).1 h
 have a:=Fx hy
 have b:=Jb hy
 refine (T.fK y).2 ⟨?_,?_,(fL h3).2 y hy⟩
 ·have:t.sz=1 + yV t.l:=by cases t;rfl
  omega
 ·have:=T.abx t;omega
end Go.aK
end
section
set_option maxRecDepth 100000
namespace Go.aK
open Go Go.Proofs Go.eI
structure Tt (ps:List Int) (t:T):Prop where
 tree:t.tree=true
 all:zC (fun n=>0≤n∧n < ps.length) t
theorem Tt.Hr {ps:List Int} {t x:T} (h:Tt ps t) (hx:x∈t.l):Tt ps x:=⟨Oj h.tree hx,h.all.mem hx⟩
theorem uD {ps:List Int} {t:T} (h:Tt ps t):Wu ps (bH t 0):=by
 have hw:wt t≤2000:=by have:=lF (l:=[t]) (by simpa using h.tree);simpa [fM] using this
 have iU:=Fh (p:=fun x=>Tt ps x∧wt x≤2000) (fun t ht x hx=>⟨ht.1.Hr hx,by have:=cR hx;omega⟩) t 0 ⟨h,hw⟩
 have hnp:=(CV t [] (fun i hi=>by simp at hi)).1
 simp only [List.nil_append,List.length_nil] at hnp
 have hat:∀ i:Nat,i < (bH t 0).length→Tt ps (nt (bH t 0) i)∧wt (nt (bH t 0) i)≤2000:=fun i hi=>by
  have:=iU _ (acf hi)
  unfold nt
  rw [yP,rB,Oq hi];exact this
 refine ⟨fun e=>?_,by rw [eM];omega,hnp,fun i hi=>?_,fun i hi=>?_,fun i hi h2=>(hat i hi).1.all.op h2⟩
 ·have:=eM t 0
  rw [e] at this
  have:=dH t
  simp at *;omega
 ·have h1:=congrArg List.length (hnp i hi).1
  rw [ace] at h1
  have:=gI (nt (bH t 0) i).l
  have:=xZ (nt (bH t 0) i)
  have:=(hat i hi).2
  omega
 ·have hs:=((T.fK _).1 (hat i hi).1.tree).2.2
  rw [T.dU] at hs
  simp only [Ot,abG,ab1,aef,decide_eq_false_iff_not] at hs
  have:=hs.1.1.2
  omega
theorem Tq {ps ss:List Int} (hv:Va ps ss) {a b:T} (ha:Tt ps a) (hb:Tt ps b):Tb.Ok ⟨ps,ss,bH a 0,bH b 0⟩:=⟨hv,uD ha,uD hb⟩
theorem wK (t:T):nt (bH t 0) ((bH t 0).length - 1:Int)=t:=by
 have:=(CV t [] (fun i hi=>by simp at hi)).2
 simp only [List.nil_append,List.length_nil,abM] at this
 have hw:=dH t
 rw [eM]
 rw [show ((wt t:Nat):Int) - 1=((wt t - 1:Nat):Int) by omega]
 exact this
theorem c78 {ps ss:List Int} (hv:Va ps ss) {a b:T} (ha:Tt ps a) (hb:Tt ps b):Pure Tryz.prog 78 [dV ps ss,a.av,b.av] (.bool (ES ps ss a b)):=by
 refine fun H=>k78.2.xK rfl ?_
 simp only [k78,aG]
 obtain ⟨q1,q2,q3,q4,q5,q6⟩:=aQ ps ss
 simp +contextual only [bm,q1,q4,sZ,Nat.reduceEqDiff,Nat.reduceAdd,↓reduceIte,reduceCtorEq]
 have jM:=Tq hv ha hb
 refine Ap (rC _) (abq jM rfl rfl H) ?_
 rintro r G ⟨rfl,hG,ie,ne,ce,ese,ig,ng,cg,esg,h⟩
 have la:(bH a 0).length=wt a:=eM a 0
 have lb:(bH b 0).length=wt b:=eM b 0
 have pa:=dH a
 have pb:=dH b
 have wa:=(uD ha).len
 have wb:=(uD hb).len
 obtain ⟨_,r',bs',xb',e1',e2',e3',e4',e5',e6'⟩:=h.rows ((bH a 0).length - 1) ((bH b 0).length - 1) (by omega) (by omega) (by show _ < ((bH b 0).length:Int);omega) (.inr ⟨rfl,by show _ < ((bH b 0).length:Int);omega⟩)
 have w1:IntKind.i64.wrap (((bH a 0).length:Int) - 1)=((bH a 0).length:Int) - 1:=cr _ (by omega)
 have w2:IntKind.i64.wrap (((bH b 0).length:Int) - 1)=((bH b 0).length:Int) - 1:=cr _ (by omega)
 have e1:esg.getD (((bH a 0).length:Int) - 1).toNat .any=.aZ r' 0 (bH b 0).length (bH b 0).length:=e1'
 have hn:((bH a 0).length:Int) - 1 < ng:=h.ng
 simp +contextual only [kQ,h.x,h.g,eN,List.getD_cons_succ,List.getD_cons_zero,sX,abR,w1,w2,e1,e3',e5',sZ,Nat.reduceEqDiff,Nat.reduceAdd,Nat.reduceLT,↓reduceIte,reduceCtorEq]
 refine ⟨⟨by omega,hn⟩,e2',⟨by omega,by omega⟩,e4',H.length,H,rC _,tX hG rfl,_,le_refl _,rfl,?_,rfl⟩
 congr 1
 rw [abY,e6',nN]
 show R (b9 ps ss) (nt (bH a 0) _) (nt (bH b 0) _)↔_
 rw [wK,wK]
theorem c80 {ps ss:List Int} (hv:Va ps ss) {a b:T} (ha:Tt ps a) (hb:Tt ps b):Pure Tryz.prog 80 [dV ps ss,a.av,b.av] (.bool (SY ps ss a b)):=by
 refine fun H=>k80.2.xK rfl ?_
 simp only [k80,aG]
 obtain ⟨q1,q2,q3,q4,q5,q6⟩:=aQ ps ss
 simp +contextual only [bm,q1,q4,sZ,Nat.reduceEqDiff,Nat.reduceAdd,↓reduceIte,reduceCtorEq]
 have jM:=Tq hv ha hb
 refine Ap (rC _) (abq jM rfl rfl H) ?_
 rintro r G ⟨rfl,hG,ie,ne,ce,ese,ig,ng,cg,esg,h⟩
 have la:(bH a 0).length=wt a:=eM a 0
 have lb:(bH b 0).length=wt b:=eM b 0
 have pa:=dH a
 have pb:=dH b
 have wa:=(uD ha).len
 have wb:=(uD hb).len
 obtain ⟨⟨r',bs',xb',e1',e2',e3',e4',e5',e6'⟩,_⟩:=h.rows ((bH a 0).length - 1) ((bH b 0).length - 1) (by omega) (by omega) (by show _ < ((bH b 0).length:Int);omega) (.inr ⟨rfl,by show _ < ((bH b 0).length:Int);omega⟩)
 have w1:IntKind.i64.wrap (((bH a 0).length:Int) - 1)=((bH a 0).length:Int) - 1:=cr _ (by omega)
 have w2:IntKind.i64.wrap (((bH b 0).length:Int) - 1)=((bH b 0).length:Int) - 1:=cr _ (by omega)
 have e1:ese.getD (((bH a 0).length:Int) - 1).toNat .any=.aZ r' 0 (bH b 0).length (bH b 0).length:=e1'
 have hn:((bH a 0).length:Int) - 1 < ne:=h.ne
 simp +contextual only [kQ,h.x,h.e,eN,List.getD_cons_succ,List.getD_cons_zero,sX,abR,w1,w2,e1,e3',e5',sZ,Nat.reduceEqDiff,Nat.reduceAdd,Nat.reduceLT,↓reduceIte,reduceCtorEq]
 refine ⟨⟨by omega,hn⟩,e2',⟨by omega,by omega⟩,e4',H.length,H,rC _,tX hG rfl,_,le_refl _,rfl,?_,rfl⟩
 congr 1
 rw [abY,e6',lG]
 show E (b9 ps ss) (nt (bH a 0) _) (nt (bH b 0) _)↔_
 rw [wK,wK]
end Go.aK
end
section
set_option maxRecDepth 100000
namespace Go.aK
open Go Go.Proofs Go.eI
theorem c77 (s:Sg) (ps ss:List Int) (hs:Tj s ps ss) (l:List T):Pure Tryz.prog 77 [s.av,dV ps ss,.al 0 (cJ l)] (.int .i64 (ft s ps ss l)):=by
 refine fun H=>k77.2.calls rfl ?_
 simp only [k77,aG]
 obtain ⟨q1,q2,q3,q4,q5,q6⟩:=aQ ps ss
 simp +contextual only [aF,q1,q4,bm,sZ,Nat.reduceEqDiff,Nat.reduceAdd,↓reduceIte,reduceCtorEq]
 refine ae (afk s ps ss hs) ?_
 by_cases h0:jF s ps ss=0
 ·simp +contextual only [h0,sZ,Nat.reduceEqDiff,↓reduceIte]
  refine aD l.length (fun i=>l.all (fun t=>t.tree && ri s t)=(l.drop i).all fun t=>t.tree && ri s t) (fun i=>[(2,.al 0 (cJ l)),(3,.ai s.av),(8,.int .i64 i)]) (fun _=>H) ⟨rfl,aB _ _ _⟩ fun i hi hI=>?_
  by_cases y8:(i:Int) < l.length
  ·have aS:i < l.length:=by omega
   rw [AR aS] at hI
   simp +contextual only [aF,y8,decide_true,sZ,Nat.reduceEqDiff,↓reduceIte]
   refine fun _=>⟨aS,ay (c55 s _) ?_⟩
   cases ht:((l.getD i default).tree && ri s (l.getD i default)) with
   | false=>
     rw [ht,afV] at hI
     simp +contextual only [sZ,Nat.reduceEqDiff,↓reduceIte,reduceCtorEq]
     refine a8 rfl ?_
     rw [ft,if_pos h0,hI,if_neg (by simp)]
   | true=>
     rw [ht,afZ] at hI
     simp +contextual only [sZ,Nat.reduceEqDiff,↓reduceIte]
     exact ⟨i + 1,⟨aS,hI⟩,by omega,aE (by rw [au i (by omega)]) rfl⟩
  ·simp +contextual only [y8,decide_false,sZ,Nat.reduceEqDiff,↓reduceIte,reduceCtorEq]
   rw [abu (by omega)] at hI
   refine fun _=>a8 rfl ?_
   rw [ft,if_pos h0,hI];rfl
 ·simp +contextual only [h0,sZ,Nat.reduceEqDiff,↓reduceIte,reduceCtorEq]
  refine a8 rfl ?_
  rw [ft,if_neg h0]
theorem Ol {s:Sg} {ps ss:List Int} {l:List T} (h:ft s ps ss l=0):Va ps ss∧∀ t∈l,Tt ps t:=by
 have:=pQ h
 exact ⟨this.ord.va,fun t ht=>⟨this.tree t ht,this.all t ht⟩⟩
theorem c21 (s:Sg) (ps ss:List Int) (hs:Tj s ps ss) (a b:T):Pure Tryz.prog 21 [s.av,dV ps ss,a.av,b.av] (.tuple [.bool (if ft s ps ss [a,b]=0 then ES ps ss a b else false),.int .i64 (ft s ps ss [a,b])]):=by
 refine fun H=>k21.2.calls rfl ?_
 simp only [k21,aG]
 obtain ⟨q1,q2,q3,q4,q5,q6⟩:=aQ ps ss
 simp +contextual only [aF,q1,q4,bm,sZ,Nat.reduceEqDiff,Nat.reduceAdd,↓reduceIte,reduceCtorEq]
 refine ae (c77 s ps ss hs [a,b]) ?_
 by_cases h0:ft s ps ss [a,b]=0
 ·obtain ⟨hv,ht⟩:=Ol h0
  rw [if_pos h0]
  simp +contextual only [q4,bm,h0,sZ,Nat.reduceEqDiff,Nat.reduceAdd,↓reduceIte]
  refine ae (c78 hv (ht a (by simp)) (ht b (by simp))) ?_
  simp +contextual only [sZ,Nat.reduceEqDiff,↓reduceIte,reduceCtorEq]
  exact AS (by decide) abp ⟨rfl,rfl⟩ rfl rfl ⟨by rw [h0];rfl,rfl⟩
 ·rw [if_neg h0]
  simp +contextual only [h0,sZ,Nat.reduceEqDiff,↓reduceIte,reduceCtorEq]
  exact AS (by decide) abp ⟨rfl,rfl⟩ rfl rfl ⟨rfl,rfl⟩
end Go.aK
end
section
set_option maxRecDepth 100000
namespace Go.aK
open Go Go.Proofs Go.eI
noncomputable def pB (Q:Prop):Bool:=@decide Q (Classical.propDecidable Q)
theorem uE {Q:Prop}:pB Q=true↔Q:=by simp [pB]
theorem Fy {Q:Prop} (h:Q):pB Q=true:=uE.2 h
theorem HM {Q:Prop} (h:¬ Q):pB Q=false:=aca.2 fun hh=>h (uE.1 hh)
theorem iR {Q Q':Prop} (h:Q↔Q'):pB Q=pB Q':=by rw [abY,uE,uE];exact h
theorem Om {Q:Prop} {H:List aa} {s:Nat} (h:Q):bV H.length [.t s] [(s,.bool true)] H fun r H'=>r=.bool (pB Q)∧H'=H:=a8 rfl (by rw [Fy h])
theorem dM {Q:Prop} {H:List aa} {s:Nat} (h:¬ Q):bV H.length [.t s] [(s,.bool false)] H fun r H'=>r=.bool (pB Q)∧H'=H:=a8 rfl (by rw [HM h])
def ShP (ps ss:List Int) (q:PP):Prop:=∀ a b,Tt ps a→Tt ps b→Pure Tryz.prog 88 [dV ps ss,a.av,b.av,dA q] (.bool (pB (Sh (b9 ps ss) q a b)))
theorem afI (p:PP):Pure Tryz.prog 203 [dA p] (.bool (pB p.nil)):=by
 refine fun H=>YM.2.calls rfl ?_
 simp only [YM,aG]
 obtain ⟨p1,p2,p3,p4,p5,p6,p7,p8,p9⟩:=aH p
 by_cases h1:p.r=0
 rotate_left
 ·simp +contextual only [p1,lZ,h1,decide_false,sZ,Nat.reduceEqDiff,Nat.reduceAdd,↓reduceIte,reduceCtorEq]
  exact dM fun h=>h1 h.1
 by_cases h2:p.i=0
 rotate_left
 ·simp +contextual only [p1,lZ,mK,h1,h2,decide_true,decide_false,sZ,Nat.reduceEqDiff,Nat.reduceAdd,↓reduceIte,reduceCtorEq]
  exact dM fun h=>h2 h.2.1
 by_cases h3:(p.to.length:Int)=0
 rotate_left
 ·simp +contextual only [p1,lZ,mK,pS,aw,h1,h2,h3,decide_true,decide_false,sZ,Nat.reduceEqDiff,Nat.reduceAdd,↓reduceIte,reduceCtorEq]
  exact fun _=>dM fun h=>h3 (by rw [h.2.2.1];rfl)
 by_cases h4:(p.l.length:Int)=0
 ·simp +contextual only [p1,lZ,mK,pS,rI,aw,bG,h1,h2,h3,h4,decide_true,sZ,Nat.reduceEqDiff,Nat.reduceAdd,↓reduceIte,reduceCtorEq]
  exact fun _ _=>Om ⟨h1,h2,aby.1 (by omega),aby.1 (by omega)⟩
 ·simp +contextual only [p1,lZ,mK,pS,rI,aw,bG,h1,h2,h3,h4,decide_true,decide_false,sZ,Nat.reduceEqDiff,Nat.reduceAdd,↓reduceIte,reduceCtorEq]
  exact fun _ _=>dM fun h=>h4 (by rw [h.2.2.2];rfl)
theorem KM (l:List T) {i:Nat} (h:i < l.length):(l.drop (l.length - i)).reverse++[l.getD (l.length - 1 - i) default]=(l.drop (l.length - (i + 1))).reverse:=by
 have e:l.drop (l.length - (i + 1))=l.getD (l.length - 1 - i) default::l.drop (l.length - i):=by
  rw [abr (by omega)]
  have e1:l.length - (i + 1) + 1=l.length - i:=by omega
  have e2:l.length - (i + 1)=l.length - 1 - i:=by omega
  rw [e1];congr 1
  have h3:l.length - 1 - i < l.length:=by omega
  simp [h3,e2]
 rw [e,af3]
theorem jK (e o:Nat) (l:List T) (k:IntKind) (i:Int) (φ:AV→Prop):aC e (.al o (cJ l)) (.int k i) φ=((0≤i∧i < l.length)∧φ (.ai (l.getD i.toNat default).av)):=by
 simp only [aC,sE,eq_iff_iff]
 constructor
 ·rintro ⟨h0,h,h2⟩;rw [sF _ _ h] at h2;exact ⟨by omega,h2⟩
 ·rintro ⟨⟨h0,h⟩,h2⟩;have h:i.toNat < l.length:=by omega
  rw [sF _ _ h];exact ⟨h0,h,h2⟩
theorem On (vs:List T):(ra vs).ab.ab.le (.al 0 (cJ vs)):=by
 cases vs with
 | nil=>exact Fk []
 | cons x r=>exact le_refl _
theorem abz (ps ss:List Int) (a:T) (H7:a.l.length≤100000000) (ha:0≤a.n∧a.n < ss.length):Pure Tryz.prog 202 [dV ps ss,a.av] (.al 0 (cJ (side (ss.getD a.n.toNat 0) a.l))):=by
 refine fun H=>YL.2.calls rfl ?_
 simp only [YL,aG]
 obtain ⟨q1,q2,q3,q4,q5,q6⟩:=aQ ps ss
 simp +contextual only [q1,qh,aM,sZ,Nat.reduceEqDiff,Nat.reduceAdd,↓reduceIte,reduceCtorEq]
 refine ⟨ha,fun h=>?_,fun h=>?_⟩
 ·refine a8 (by rw [bW,dq]) ?_
  rw [side,if_neg h]
 ·intro hl
  refine aD a.l.length (fun i=>True) (fun i=>[(3,.ai a.av),(5,ra (a.l.drop (a.l.length - i)).reverse),(6,.int .i64 ((a.l.length:Int) - 1 - i))]) (fun i=>H) ⟨trivial,aE ?_ rfl⟩ fun i hi _=>?_
  ·rw [cr _ (by omega)];simp [ra]
  have hlen:(a.l.drop (a.l.length - i)).reverse.length=i:=by simp;omega
  simp +contextual only [jK,wC,pM,hlen,sZ,Nat.reduceEqDiff,↓reduceIte,reduceCtorEq]
  clear hlen
  refine ⟨fun h1=>?_,fun h1=>?_⟩
  ·refine ⟨by omega,by omega,i + 1,by omega,by omega,aE ?_ rfl⟩
   have e:((a.l.length:Int) - 1 - i).toNat=a.l.length - 1 - i:=by omega
   have e5:(a.l.length:Int) - 1 - i - 1=a.l.length - 1 - ((i + 1:Nat):Int):=by omega
   rw [cr _ (by omega),e,KM a.l (by omega),e5]
  ·have k9:i=a.l.length:=by omega
   subst k9
   refine ⟨H.length,rC _,_,On _,by rw [bW,dq],?_,abp⟩
   rw [adj,List.drop_zero,side,if_pos h]
theorem Tt.len {ps:List Int} {t:T} (h:Tt ps t):t.l.length≤8:=by
 have hs:=((T.fK _).1 h.tree).2.2
 rw [T.dU] at hs
 simp only [Ot,abG,ab1,aef,decide_eq_false_iff_not] at hs
 have:=hs.1.2
 omega
theorem Wy {ps ss:List Int} {l:List PP} (hl:∀ q∈l,ShP ps ss q) {a b:T} (ha:Tt ps a) (hb:Tt ps b):Pure Tryz.prog 157 [dV ps ss,a.av,b.av,.al 0 (dx l)] (.bool (pB (lf (Sh (b9 ps ss)) l a b.l))):=by
 refine fun H=>Yj.2.calls rfl ?_
 simp only [Yj,aG]
 obtain ⟨q1,q2,q3,q4,q5,q6⟩:=aQ ps ss
 simp +contextual only [q1,bG,sZ,Nat.reduceEqDiff,Nat.reduceAdd,↓reduceIte,reduceCtorEq]
 refine fun _ _=>⟨fun dJ=>dM fun h=>dJ (by rw [h.1]),fun heq=>?_⟩
 refine aD l.length (fun i=>∀ j,j < i→Sh (b9 ps ss) (l.getD j default) a (b.l.getD j default)) (fun i=>[(3,.al 0 (dx l)),(4,.ai (dV ps ss)),(5,.ai a.av),(6,.ai b.av),(9,.int .i64 i)]) (fun _=>H) ⟨fun j hj=>(by cases hj),aB _ _ _⟩ fun i hi hI=>?_
 have me:=hb.len
 by_cases h1:i < l.length
 ·have l1:decide ((i:Int) < l.length)=true:=decide_eq_true (by omega)
  have h2:i < b.l.length:=by omega
  obtain ⟨p1,p2,p3,p4,p5,p6,p7,p8,p9⟩:=aH (l.getD i default)
  simp +contextual only [l1,bG,q4,p4,bm,eL,l7,iQ,jK,yP,sZ,Nat.reduceEqDiff,↓reduceIte]
  refine fun _=>⟨⟨by omega,by omega⟩,⟨by omega,by omega⟩,ay (hl _ (dr h1) a _ ha (hb.Hr (eK h2))) ?_⟩
  by_cases hs:Sh (b9 ps ss) (l.getD i default) a (b.l.getD i default)
  ·rw [Fy hs]
   simp +contextual only [sZ,Nat.reduceEqDiff,↓reduceIte]
   refine ⟨i + 1,⟨h1,fun j hj=>?_⟩,by omega,aE (by rw [au i (by omega)]) rfl⟩
   by_cases e:j=i
   ·subst e;exact hs
   ·exact hI j (by omega)
  ·rw [HM hs]
   simp +contextual only [sZ,Nat.reduceEqDiff,↓reduceIte,reduceCtorEq]
   exact dM fun h=>hs (h.2 i h2)
 ·have l1:decide ((i:Int) < l.length)=false:=decide_eq_false (by omega)
  simp +contextual only [l1,bG,sZ,Nat.reduceEqDiff,↓reduceIte,reduceCtorEq]
  exact fun _=>Om ⟨by omega,fun j hj=>hI j (by omega)⟩
end Go.aK
end
section
set_option maxRecDepth 100000
namespace Go.aK
open Go Go.Proofs Go.eI
theorem Be {s:Int} {l:List T}:(side s l).length=l.length:=by unfold side;split <;> simp
theorem Wz (l:List PP) (h:1≤l.length) (φ:AV→Prop):bA 4 (.al 0 (dx l)) (some (.int .i64 1)) none none φ=φ (.al 0 (dx (l.drop 1))):=by
 cases l with
 | nil=>simp at h
 | cons x r=>exact S3 x r φ
theorem afJ {ps ss:List Int} (hv:Va ps ss) {p:PP} (hl:∀ q∈p.l,ShP ps ss q) {a b:T} (ha:Tt ps a) (hb:Tt ps b) (ka:a.k=2) (kb:b.k=2) (hp:(b9 ps ss).pl a.n=(b9 ps ss).pl b.n) :
 Pure Tryz.prog 159 [dV ps ss,a.av,b.av,dA p] (.bool (pB (CB (E (b9 ps ss)) (Sh (b9 ps ss)) p.i p.l a (side ((b9 ps ss).sp ((b9 ps ss).pl a.n)) a.l) (side ((b9 ps ss).sp ((b9 ps ss).pl a.n)) b.l) b.l))):=by
 have na:=ha.all.op ka
 have nb:=hb.all.op kb
 have lss:ss.length=ps.length:=hv.len
 have sa:=hv.sp (i:=a.n.toNat) (by omega)
 have sb:=hv.sp (i:=b.n.toNat) (by omega)
 have ea:(b9 ps ss).sp ((b9 ps ss).pl a.n)=ss.getD a.n.toNat 0:=sa
 have eb:(b9 ps ss).sp ((b9 ps ss).pl a.n)=ss.getD b.n.toNat 0:=by rw [hp];exact sb
 have la:=ha.len
 have lb:=hb.len
 have ca:=abz ps ss a (by omega) ⟨na.1,by omega⟩
 have cb:=abz ps ss b (by omega) ⟨nb.1,by omega⟩
 rw [← ea] at ca
 rw [← eb] at cb
 have ma:∀ x∈side ((b9 ps ss).sp ((b9 ps ss).pl a.n)) a.l,Tt ps x:=fun x hx=>ha.Hr (jC.1 hx)
 have mb:∀ x∈side ((b9 ps ss).sp ((b9 ps ss).pl a.n)) b.l,Tt ps x:=fun x hx=>hb.Hr (jC.1 hx)
 have l1:(side ((b9 ps ss).sp ((b9 ps ss).pl a.n)) a.l).length=a.l.length:=Be
 have l2:(side ((b9 ps ss).sp ((b9 ps ss).pl a.n)) b.l).length=b.l.length:=Be
 generalize side ((b9 ps ss).sp ((b9 ps ss).pl a.n)) a.l=X at ca ma l1 ⊢
 generalize side ((b9 ps ss).sp ((b9 ps ss).pl a.n)) b.l=Y at cb mb l2 ⊢
 refine fun H=>Yl.2.calls rfl ?_
 simp only [Yl,aG]
 obtain ⟨q1,q2,q3,q4,q5,q6⟩:=aQ ps ss
 obtain ⟨p1,p2,p3,p4,p5,p6,p7,p8,p9⟩:=aH p
 simp +contextual only [q1,p1,q4,bm,sZ,Nat.reduceEqDiff,Nat.reduceAdd,↓reduceIte,reduceCtorEq]
 refine ae ca ?_
 simp +contextual only [q4,bm,sZ,Nat.reduceEqDiff,Nat.reduceAdd,↓reduceIte]
 refine ae cb ?_
 by_cases r1:p.i < 0
 ·simp +contextual only [mK,r1,decide_true,sZ,Nat.reduceEqDiff,↓reduceIte,reduceCtorEq]
  exact dM fun h=>by have:=h.1.1;omega
 by_cases r2:(X.length:Int)≤p.i
 ·simp +contextual only [mK,r1,r2,decide_true,decide_false,sZ,Nat.reduceEqDiff,↓reduceIte,reduceCtorEq]
  exact fun _=>dM fun h=>by have:=h.1.2.1;omega
 by_cases r3:(Y.length:Int) < p.i
 ·simp +contextual only [mK,r1,r2,r3,decide_true,decide_false,sZ,Nat.reduceEqDiff,↓reduceIte,reduceCtorEq]
  exact fun _ _=>dM fun h=>by have:=h.1.2.2;omega
 simp +contextual only [mK,r1,r2,r3,decide_false,sZ,Nat.reduceEqDiff,↓reduceIte]
 obtain ⟨m,hm⟩:=abV (show 0≤p.i by omega)
 refine fun _ _=>aD m (fun i=>∀ j,j < i→E (b9 ps ss) (X.getD j default) (Y.getD j default)) (fun i=>[(4,.ai (dV ps ss)),(5,.ai a.av),(6,.ai b.av),(7,.ai (dA p)),(9,.al 0 (cJ X)),(10,.al 0 (cJ Y)),(11,.int .i64 i)]) (fun _=>H) ⟨fun j hj=>(by cases hj),aB _ _ _⟩ fun i hi hI=>?_
 by_cases h1:i < m
 ·have d1:decide ((i:Int) < p.i)=true:=decide_eq_true (by omega)
  have i1:i < X.length:=by omega
  have i2:i < Y.length:=by omega
  simp +contextual only [mK,d1,q4,bm,jK,yP,sZ,Nat.reduceEqDiff,↓reduceIte]
  refine ⟨⟨by omega,by omega⟩,⟨by omega,by omega⟩,ay (c80 hv (ma _ (eK i1)) (mb _ (eK i2))) ?_⟩
  cases he:SY ps ss (X.getD i default) (Y.getD i default) with
  | true=>
    simp +contextual only [sZ,Nat.reduceEqDiff,↓reduceIte]
    refine ⟨i + 1,⟨h1,fun j hj=>?_⟩,by omega,aE (by rw [au i (by omega)]) rfl⟩
    by_cases e:j=i
    ·subst e;exact lG.1 he
    ·exact hI j (by omega)
  | false=>
    simp +contextual only [sZ,Nat.reduceEqDiff,↓reduceIte,reduceCtorEq]
    refine dM fun h=>?_
    have:=h.2.1 i (by omega)
    rw [lG.2 this] at he;cases he
 ·have d1:decide ((i:Int) < p.i)=false:=decide_eq_false (by omega)
  have k9:i=m:=by omega
  subst k9
  by_cases r4:p.i=Y.length
  ·have r4':(p.i=(Y.length:Int))=True:=eq_true r4
   simp +contextual only [mK,rI,d1,r4',decide_true,q4,bm,sZ,Nat.reduceEqDiff,Nat.reduceAdd,↓reduceIte]
   refine fun _=>ae (Wy hl ha hb) ?_
   simp +contextual only [sZ,↓reduceIte,reduceCtorEq]
   refine a8 rfl ?_
   congr 1
   refine iR ⟨fun h=>⟨⟨by omega,by omega,by omega⟩,fun j hj=>hI j (by omega),by rw [if_pos r4];exact h⟩,fun h=>?_⟩
   have:=h.2.2
   rwa [if_pos r4] at this
  ·by_cases r5:p.l=[]
   ·have r6:((p.l.length:Int)=0)=True:=eq_true (by rw [r5];rfl)
    simp +contextual only [mK,rI,d1,r4,r6,decide_true,decide_false,bG,sZ,Nat.reduceEqDiff,↓reduceIte,reduceCtorEq]
    refine fun _ _=>dM fun h=>?_
    have:=h.2.2
    rw [if_neg r4] at this
    obtain ⟨q,r,e,_⟩:=this
    rw [r5] at e;cases e
   ·have ta:1≤p.l.length:=adW.2 r5
    have r6:((p.l.length:Int)=0)=False:=eq_false (by omega)
    have e0:p.l=p.l.getD 0 default::p.l.drop 1:=by
     cases hh:p.l with
     | nil=>exact absurd hh r5
     | cons x r=>rfl
    obtain ⟨s1,s2,s3,s4,s5,s6,s7,s8,s9⟩:=aH (p.l.getD 0 default)
    have i1:i < X.length:=by omega
    have i2:i < Y.length:=by omega
    have k8:p.i.toNat=i:=by omega
    have t0:(0:Int).toNat=0:=rfl
    simp +contextual only [mK,rI,d1,r4,r6,decide_false,bG,q4,bm,jK,l7,iQ,t0,s4,eL,k8,sZ,Nat.reduceEqDiff,↓reduceIte]
    refine fun _ _=>⟨by omega,by omega,by omega,ay (hl _ (dr (by omega)) _ _ (ma _ (eK i1)) (mb _ (eK i2))) ?_⟩
    by_cases hs:Sh (b9 ps ss) (p.l.getD 0 default) (X.getD i default) (Y.getD i default)
    ·rw [Fy hs]
     simp +contextual only [rI,q4,bm,Option.map_some,Option.map_none,Wz _ ta,sZ,Nat.reduceEqDiff,↓reduceIte]
     refine ay (Wy (fun q hq=>hl q (adB hq)) ha hb) ?_
     simp +contextual only [sZ,Nat.reduceEqDiff,↓reduceIte,reduceCtorEq]
     cases hA:pB (lf (Sh (b9 ps ss)) (p.l.drop 1) a b.l) with
     | true=>
       simp +contextual only [sZ]
       refine Om ⟨⟨by omega,by omega,by omega⟩,fun j hj=>hI j (by omega),?_⟩
       rw [if_neg r4]
       exact ⟨_,_,e0,by rw [k8];exact hs,uE.1 hA⟩
     | false=>
       simp +contextual only [sZ]
       refine dM fun h=>?_
       have:=h.2.2
       rw [if_neg r4] at this
       obtain ⟨q,r,e,_,h3⟩:=this
       rw [e,List.drop_one,List.tail_cons,Fy h3] at hA;cases hA
    ·rw [HM hs]
     simp +contextual only [sZ,Nat.reduceEqDiff,↓reduceIte,reduceCtorEq]
     refine dM fun h=>?_
     have:=h.2.2
     rw [if_neg r4] at this
     obtain ⟨q,r,e,h2,_⟩:=this
     rw [e,List.getD_cons_zero] at hs
     rw [k8] at h2
     exact hs h2
end Go.aK
end
section
set_option maxRecDepth 100000
namespace Go.aK
open Go Go.Proofs Go.eI
structure CJ (O:Od) (to:List Int) (l:List PP) (az bs:List T) (ts qs:List Int) (j:Nat):Prop where
 lt:ts.length=az.length
 lp:qs.length=az.length
 t:∀ x:Nat,x < az.length→ts.getD x 0=cU to x j
 p:∀ x:Nat,x < az.length→qs.getD x 0=cq to l x j
 ok:∀ j',j' < j→(0≤to.getD j' 0∧to.getD j' 0 < az.length)∧
  (if (l.getD j' default).nil then E O (az.getD (to.getD j' 0).toNat default) (bs.getD j' default) else Sh O (l.getD j' default) (az.getD (to.getD j' 0).toNat default) (bs.getD j' default))
theorem CJ.step {O:Od} {to:List Int} {l:List PP} {a b:List T} {ts ps ps':List Int} {j z:Nat} (h:CJ O to l a b ts ps j) (hz:z < a.length) (ht:to.getD j 0=z) (hp:ps'=if (l.getD j default).nil then ps.set z (ps.getD z 0 + 1) else ps)
 (hq:if (l.getD j default).nil then E O (a.getD z default) (b.getD j default) else Sh O (l.getD j default) (a.getD z default) (b.getD j default)):CJ O to l a b (ts.set z (ts.getD z 0 + 1)) ps' (j + 1):=by
 obtain ⟨h1,h2,h3,h4,h5⟩:=h
 refine ⟨by simp [h1],by rw [hp];split <;> simp [h2],fun x hx=>?_,fun x hx=>?_,fun j' vY=>?_⟩
 ·rw [jE (by omega),cU,ht]
  by_cases e:x=z
  ·subst e;rw [if_pos rfl,if_pos rfl,h3 x hx];omega
  ·rw [if_neg e,if_neg (by omega),h3 x hx];omega
 ·rw [hp,cq,ht]
  by_cases hn:(l.getD j default).nil
  ·rw [if_pos hn,jE (by omega)]
   by_cases e:x=z
   ·subst e;rw [if_pos rfl,if_pos ⟨rfl,hn⟩,h4 x hx];omega
   ·rw [if_neg e,if_neg (fun h=>by have:=h.1;omega),h4 x hx];omega
  ·rw [if_neg hn,if_neg (fun h=>hn h.2),h4 x hx];omega
 ·by_cases e:j'=j
  ·subst e;rw [ht];exact ⟨by omega,hq⟩
  ·exact h5 j' (by omega)
theorem WA {Q:Prop} {H G:List aa} {s:Nat} (hG:G.take H.length=H) (h:Q):bV H.length [.t s] [(s,.bool true)] G fun r H'=>r=.bool (pB Q)∧H'=H:=
 aX H.length (rC _) (by rw [aA,if_pos rfl];rfl) ⟨by rw [aA,if_pos rfl,Fy h],hG⟩
theorem uF {Q:Prop} {H G:List aa} {s:Nat} (hG:G.take H.length=H) (h:¬ Q):bV H.length [.t s] [(s,.bool false)] G fun r H'=>r=.bool (pB Q)∧H'=H:=
 aX H.length (rC _) (by rw [aA,if_pos rfl];rfl) ⟨by rw [aA,if_pos rfl,HM h],hG⟩
def HN (H:List aa) (qs ts:List Int):List aa:=H++[cD qs,cD ts]
theorem k7 (H:List aa) (qs ts:List Int):(HN H qs ts).take H.length=H:=by simp [HN]
theorem Bf (H:List aa) (qs ts:List Int):(HN H qs ts)[H.length]?=some (cD qs):=by simp [HN]
theorem Jc (H:List aa) (qs ts:List Int):(HN H qs ts)[H.length + 1]?=some (cD ts):=by simp [HN]
theorem WB (H:List aa) (qs ts u:List Int):(HN H qs ts).set H.length (cD u)=HN H u ts:=by simp [HN]
theorem WC (H:List aa) (qs ts u:List Int):(HN H qs ts).set (H.length + 1) (cD u)=HN H qs u:=by simp [HN]
theorem RM (H:List aa) (qs ts:List Int):H++[cD qs,cD ts]=HN H qs ts:=rfl
theorem afK {ps ss:List Int} (hv:Va ps ss) {p:PP} (hl:∀ q∈p.l,ShP ps ss q) {a b:T} (ha:Tt ps a) (hb:Tt ps b) :
 Pure Tryz.prog 160 [dV ps ss,a.av,b.av,dA p] (.bool (pB (Rl (E (b9 ps ss)) (Sh (b9 ps ss)) p.to p.l a.l b.l))):=by
 have la:=ha.len
 have lb:=hb.len
 refine fun H=>Ym.2.calls rfl ?_
 simp only [Ym,aG]
 obtain ⟨q1,q2,q3,q4,q5,q6⟩:=aQ ps ss
 obtain ⟨p1,p2,p3,p4,p5,p6,p7,p8,p9⟩:=aH p
 by_cases h1:p.to.length=b.l.length
 rotate_left
 ·have d1:((p.to.length:Int)=b.l.length)=False:=eq_false (by omega)
  simp +contextual only [q1,p1,pS,aw,d1,not_false_eq_true,decide_true,sZ,Nat.reduceEqDiff,Nat.reduceAdd,↓reduceIte,reduceCtorEq]
  exact fun _ _=>dM fun h=>h1 h.1
 by_cases h2:p.l.length=b.l.length
 rotate_left
 ·have d1:((p.l.length:Int)=b.l.length)=False:=eq_false (by omega)
  have d2:((p.to.length:Int)=b.l.length)=True:=eq_true (by omega)
  simp +contextual only [q1,p1,pS,rI,aw,bG,d1,d2,not_false_eq_true,not_true_eq_false,decide_true,decide_false,sZ,Nat.reduceEqDiff,Nat.reduceAdd,↓reduceIte,reduceCtorEq]
  exact fun _ _ _=>dM fun h=>h2 h.2.1
 have d1:((p.l.length:Int)=b.l.length)=True:=eq_true (by omega)
 have d2:((p.to.length:Int)=b.l.length)=True:=eq_true (by omega)
 simp +contextual only [q1,p1,pS,rI,aw,bG,d1,d2,mkI _ _ _ (show a.l.length≤1000000000 by omega),not_true_eq_false,decide_false,aaf,RM,sZ,Nat.reduceEqDiff,Nat.reduceAdd,↓reduceIte,reduceCtorEq]
 have z0:∀ x,(dE 0 a.l.length 0).getD x 0=0:=fun x=>uv _ _
 refine fun _ _ _ _=>aJ b.l.length (fun j (s:List Int×List Int)=>CJ (b9 ps ss) p.to p.l a.l b.l s.2 s.1 j)
  (fun j s=>[(4,.ai (dV ps ss)),(5,.ai a.av),(6,.ai b.av),(7,.ai (dA p)),(9,.aZ H.length 0 a.l.length a.l.length),(10,.aZ (H.length + 1) 0 a.l.length a.l.length),(11,.int .i64 j)])
  (fun j s=>HN H s.1 s.2) (dE 0 a.l.length 0,dE 0 a.l.length 0) ⟨⟨by simp [dE],by simp [dE],fun z _=>by rw [z0];rfl,fun z _=>by rw [z0];rfl,fun j h=>(by cases h)⟩,aB _ _ _⟩ fun j s hj tC=>?_
 obtain ⟨qs,ts⟩:=s
 simp only at tC
 by_cases mU:j < b.l.length
 ·have EY:decide ((j:Int) < p.to.length)=true:=decide_eq_true (by omega)
  obtain ⟨to,vD⟩:∃ to,p.to.getD j 0=to:=⟨_,rfl⟩
  by_cases r1:to < 0
  ·simp +contextual only [EY,pS,aw,aM,yP,vD,r1,decide_true,sZ,Nat.reduceEqDiff,↓reduceIte,reduceCtorEq]
   refine fun _=>⟨⟨by omega,by omega⟩,uF (k7 _ _ _) fun h=>?_⟩
   have:=(h.2.2.1 j mU).1;omega
  by_cases r2:(a.l.length:Int)≤to
  ·simp +contextual only [EY,pS,aw,aM,yP,vD,r1,r2,decide_true,decide_false,sZ,Nat.reduceEqDiff,↓reduceIte,reduceCtorEq]
   refine fun _=>⟨⟨by omega,by omega⟩,fun _=>uF (k7 _ _ _) fun h=>?_⟩
   have:=(h.2.2.1 j mU).1;omega
  obtain ⟨z,rfl⟩:=abV (show 0≤to by omega)
  have hz:z < a.l.length:=by omega
  have lt:=tC.lt
  have lp:=tC.lp
  have KW:z < ts.length:=by omega
  have Hq:z < qs.length:=by omega
  have tz:=tC.t z hz
  have Cl:=pT p.to z j
  have pz:=tC.p z hz
  have ple:=A0 p.to p.l z j
  have w1:IntKind.i64.wrap (ts.getD z 0 + 1)=ts.getD z 0 + 1:=cr _ (by omega)
  have w2:IntKind.i64.wrap (qs.getD z 0 + 1)=qs.getD z 0 + 1:=cr _ (by omega)
  have ql:p.l.getD j default∈p.l:=dr (by omega)
  obtain ⟨q,hq⟩:∃ q,p.l.getD j default=q:=⟨_,rfl⟩
  rw [hq] at ql
  obtain ⟨s1,s2,s3,s4,s5,s6,s7,s8,s9⟩:=aH q
  simp +contextual only [EY,pS,rI,aw,aM,yP,vD,r1,r2,decide_false,iV,Jc,nM KW,He KW,w1,WC,l7,iQ,hq,eL,s4,sZ,Nat.reduceEqDiff,Nat.reduceAdd,↓reduceIte,reduceCtorEq]
  refine fun _=>⟨⟨by omega,by omega⟩,fun _=>⟨hz,hz,⟨by omega,by omega⟩,?_⟩⟩
  refine ae (afI q) ?_
  by_cases oH:q.nil
  ·rw [Fy oH]
   have Rq:(p.l.getD j default).nil:=by rw [hq];exact oH
   simp +contextual only [q4,bm,jK,yP,sZ,Nat.reduceEqDiff,↓reduceIte]
   refine ⟨⟨by omega,by omega⟩,⟨by omega,by omega⟩,ay (c80 hv (ha.Hr (eK hz)) (hb.Hr (eK mU))) ?_⟩
   cases he:SY ps ss (a.l.getD z default) (b.l.getD j default) with
   | false=>
     simp +contextual only [sZ,Nat.reduceEqDiff,↓reduceIte,reduceCtorEq]
     refine uF (k7 _ _ _) fun h=>?_
     have:=(h.2.2.1 j mU).2
     rw [if_pos Rq,vD,yP] at this
     rw [lG.2 this] at he;cases he
   | true=>
     simp +contextual only [iV,Bf,nM Hq,He Hq,w2,WB,sZ,Nat.reduceEqDiff,↓reduceIte,reduceCtorEq]
     exact ⟨hz,hz,j + 1,(_,_),⟨mU,tC.step hz vD (by rw [if_pos Rq]) (by rw [if_pos Rq];exact lG.1 he)⟩,by omega,aE (by rw [au j (by omega)]) rfl⟩
  ·rw [HM oH]
   have Rq:¬ (p.l.getD j default).nil:=by rw [hq];exact oH
   simp +contextual only [q4,bm,jK,rI,l7,iQ,hq,eL,s4,yP,sZ,Nat.reduceEqDiff,↓reduceIte]
   refine ⟨⟨by omega,by omega⟩,⟨by omega,by omega⟩,⟨by omega,by omega⟩,ay (hl q ql _ _ (ha.Hr (eK hz)) (hb.Hr (eK mU))) ?_⟩
   by_cases hs:Sh (b9 ps ss) q (a.l.getD z default) (b.l.getD j default)
   ·rw [Fy hs]
    simp +contextual only [sZ,Nat.reduceEqDiff,↓reduceIte]
    exact ⟨j + 1,(_,_),⟨mU,tC.step hz vD (by rw [if_neg Rq]) (by rw [if_neg Rq,hq];exact hs)⟩,by omega,aE (by rw [au j (by omega)]) rfl⟩
   ·rw [HM hs]
    simp +contextual only [sZ,Nat.reduceEqDiff,↓reduceIte,reduceCtorEq]
    refine uF (k7 _ _ _) fun h=>?_
    have:=(h.2.2.1 j mU).2
    rw [if_neg Rq,vD,hq,yP] at this
    exact hs this
 ·have EY:decide ((j:Int) < p.to.length)=false:=decide_eq_false (by omega)
  have V8:j=b.l.length:=by omega
  subst V8
  simp +contextual only [EY,pS,aw,sZ,Nat.reduceEqDiff,↓reduceIte]
  refine fun _=>aJ a.l.length (fun x (f:Bool)=>(∀ z:Nat,z < x→0 < cq p.to p.l z b.l.length→cU p.to z b.l.length≤1)∧(f=true↔∃ z:Nat,z < x∧cq p.to p.l z b.l.length=0))
   (fun x f=>[(5,.ai a.av),(9,.aZ H.length 0 a.l.length a.l.length),(10,.aZ (H.length + 1) 0 a.l.length a.l.length),(15,.bool f),(16,.int .i64 x)]) (fun _ _=>HN H qs ts) false
   ⟨⟨fun z h=>(by cases h),⟨fun h=>by simp at h,fun ⟨z,h,_⟩=>by cases h⟩⟩,aB _ _ _⟩ fun z f hz hI=>?_
  obtain ⟨jy,zV⟩:=hI
  by_cases eS:z < a.l.length
  ·have yT:decide ((z:Int) < a.l.length)=true:=decide_eq_true (by omega)
   have lt:=tC.lt
   have lp:=tC.lp
   have KW:z < ts.length:=by omega
   have Hq:z < qs.length:=by omega
   have tz:=tC.t z eS
   have pz:=tC.p z eS
   by_cases k1:cq p.to p.l z b.l.length=0
   ·have p0:qs.getD z 0=0:=by omega
    have nxt:∀ z':Nat,z' < z + 1→0 < cq p.to p.l z' b.l.length→cU p.to z' b.l.length≤1:=by
     intro z' EN
     by_cases e:z'=z
     ·subst e;intro h;omega
     ·exact jy z' (by omega)
    have nf:true=true↔∃ z':Nat,z' < z + 1∧cq p.to p.l z' b.l.length=0:=⟨fun _=>⟨z,by omega,k1⟩,fun _=>rfl⟩
    cases f with
    | true=>
      simp +contextual only [yT,iV,Bf,nM Hq,p0,Int.lt_irrefl,decide_false,sZ,Nat.reduceEqDiff,↓reduceIte,reduceCtorEq]
      exact fun _=>⟨eS,z + 1,true,⟨eS,nxt,nf⟩,by omega,aE (by rw [au z (by omega)]) rfl⟩
    | false=>
      simp +contextual only [yT,iV,Bf,nM Hq,p0,Int.lt_irrefl,decide_true,decide_false,sZ,Nat.reduceEqDiff,↓reduceIte,reduceCtorEq]
      exact fun _=>⟨eS,eS,z + 1,true,⟨eS,nxt,nf⟩,by omega,aE (by rw [au z (by omega)]) rfl⟩
   ·have p0:(0 < qs.getD z 0)=True:=eq_true (by omega)
    have p1':(qs.getD z 0=0)=False:=eq_false (by omega)
    by_cases k2:cU p.to z b.l.length≤1
    ·have t0:(1 < ts.getD z 0)=False:=eq_false (by omega)
     have nxt:(∀ z':Nat,z' < z + 1→0 < cq p.to p.l z' b.l.length→cU p.to z' b.l.length≤1):=by
      intro z' EN
      by_cases e:z'=z
      ·subst e;intro _;exact k2
      ·exact jy z' (by omega)
     have nfr:(f=true↔∃ z':Nat,z' < z + 1∧cq p.to p.l z' b.l.length=0):=by
      rw [zV]
      constructor
      ·rintro ⟨z',h1,h2⟩;exact ⟨z',by omega,h2⟩
      ·rintro ⟨z',h1,h2⟩
       have:z'≠z:=fun e=>k1 (e ▸ h2)
       exact ⟨z',by omega,h2⟩
     cases f with
     | true=>
       simp +contextual only [yT,iV,Bf,Jc,nM KW,nM Hq,p0,t0,decide_true,decide_false,sZ,Nat.reduceEqDiff,↓reduceIte,reduceCtorEq]
       exact fun _=>⟨eS,eS,z + 1,_,⟨eS,nxt,nfr⟩,by omega,aE (by rw [au z (by omega)]) rfl⟩
     | false=>
       simp +contextual only [yT,iV,Bf,Jc,nM KW,nM Hq,p0,p1',t0,decide_true,decide_false,sZ,Nat.reduceEqDiff,↓reduceIte,reduceCtorEq]
       exact fun _=>⟨eS,eS,eS,z + 1,_,⟨eS,nxt,nfr⟩,by omega,aE (by rw [au z (by omega)]) rfl⟩
    ·have t0:(1 < ts.getD z 0)=True:=eq_true (by omega)
     simp +contextual only [yT,iV,Bf,Jc,nM KW,nM Hq,p0,t0,decide_true,sZ,Nat.reduceEqDiff,↓reduceIte,reduceCtorEq]
     refine fun _=>⟨eS,eS,uF (k7 _ _ _) fun h=>?_⟩
     exact absurd (h.2.2.2.1 z eS (by omega)) k2
  ·have yT:decide ((z:Int) < a.l.length)=false:=decide_eq_false (by omega)
   have hze:z=a.l.length:=by omega
   subst hze
   simp +contextual only [yT,sZ,Nat.reduceEqDiff,↓reduceIte,reduceCtorEq]
   cases f with
   | true=>exact fun _=>WA (k7 _ _ _) ⟨h1,h2,tC.ok,jy,zV.1 rfl⟩
   | false=>exact fun _=>uF (k7 _ _ _) fun h=>absurd (zV.2 h.2.2.2.2) (by simp)
end Go.aK
end
section
set_option maxRecDepth 100000
set_option maxHeartbeats 1000000
namespace Go.aK
open Go Go.Proofs Go.eI
theorem c88 {ps ss:List Int} (hv:Va ps ss):∀ (N:Nat) (p:PP),pz p≤N→ShP ps ss p:=by
 intro N
 induction N with
 | zero=>intro p h;have:=yh p;omega
 | succ N ih=>
 intro p hN a b ha hb H
 have hl:∀ q∈p.l,ShP ps ss q:=fun q hq=>ih q (by have:=yi hq;omega)
 refine k88.2.calls rfl ?_
 simp only [k88,aG]
 obtain ⟨q1,q2,q3,q4,q5,q6⟩:=aQ ps ss
 obtain ⟨p1,p2,p3,p4,p5,p6,p7,p8,p9⟩:=aH p
 have lss:ss.length=ps.length:=hv.len
 have la:=ha.len
 by_cases ka:a.k=2
 rotate_left
 ·simp +contextual only [q1,p1,ka,decide_true,not_false_eq_true,sZ,Nat.reduceEqDiff,Nat.reduceAdd,↓reduceIte,reduceCtorEq]
  exact dM fun h=>ka (lY.1 h).1
 have na:=ha.all.op ka
 by_cases qp:p.r=1
 ·have hS:=Sh1 (b:=b) (O:=b9 ps ss) qp ka
  rw [iR hS]
  by_cases h1:p.to=[]
  rotate_left
  ·have d1:((p.to.length:Int)=0)=False:=eq_false (fun e=>h1 (aby.1 (by omega)))
   simp +contextual only [q1,p1,lZ,pS,aw,ka,qp,d1,decide_true,not_false_eq_true,not_true_eq_false,sZ,Nat.reduceEqDiff,Nat.reduceAdd,↓reduceIte,reduceCtorEq]
   exact fun _=>dM fun h=>h1 h.1
  have d1:((p.to.length:Int)=0)=True:=eq_true (by rw [h1];rfl)
  by_cases h2:(1:Int) < p.l.length
  ·simp +contextual only [q1,p1,lZ,pS,rI,aw,bG,ka,qp,d1,h2,decide_true,decide_false,not_true_eq_false,sZ,Nat.reduceEqDiff,Nat.reduceAdd,↓reduceIte,reduceCtorEq]
   refine fun _ _=>dM fun h=>?_
   rcases h.2.2 with h | ⟨q,h,_⟩
   ·rw [h.1] at h2;simp at h2
   ·rw [h] at h2;simp at h2
  by_cases r1:p.i < 0
  ·simp +contextual only [q1,p1,lZ,mK,pS,rI,aw,bG,ka,qp,d1,h2,r1,decide_true,decide_false,not_true_eq_false,sZ,Nat.reduceEqDiff,Nat.reduceAdd,↓reduceIte,reduceCtorEq]
   exact fun _ _=>dM fun h=>by have:=h.2.1.1;omega
  by_cases r2:(a.l.length:Int)≤p.i
  ·simp +contextual only [q1,p1,lZ,mK,pS,rI,aw,bG,ka,qp,d1,h2,r1,r2,decide_true,decide_false,not_true_eq_false,sZ,Nat.reduceEqDiff,Nat.reduceAdd,↓reduceIte,reduceCtorEq]
   exact fun _ _ _=>dM fun h=>by have:=h.2.1.2;omega
  have hi:p.i.toNat < a.l.length:=by omega
  have hk:=ha.Hr (eK hi)
  have k8:0≤p.i∧p.i < a.l.length:=by omega
  by_cases h3:p.l=[]
  ·have d3:((p.l.length:Int)=0)=True:=eq_true (by rw [h3];rfl)
   simp +contextual only [q1,q4,p1,lZ,mK,pS,rI,aw,bG,ka,qp,d1,h2,d3,r1,r2,bm,jK,decide_true,decide_false,not_true_eq_false,sZ,Nat.reduceEqDiff,Nat.reduceAdd,↓reduceIte,reduceCtorEq]
   refine fun _ _ _=>⟨k8,ay (c80 hv hk hb) ?_⟩
   simp +contextual only [sZ,↓reduceIte,reduceCtorEq]
   refine a8 rfl ?_
   congr 1
   rw [abY,lG,uE]
   refine ⟨fun h=>⟨h1,k8,.inl ⟨h3,h⟩⟩,fun h=>?_⟩
   rcases h.2.2 with h | ⟨q,h,_⟩
   ·exact h.2
   ·rw [h] at h3;cases h3
  ·have d3:((p.l.length:Int)=0)=False:=eq_false (fun e=>h3 (aby.1 (by omega)))
   have ta:p.l.length=1:=by
    have:=adW.2 h3
    omega
   obtain ⟨q,hq⟩:=List.length_eq_one_iff.1 ta
   have g0:p.l.getD 0 default=q:=by rw [hq];rfl
   obtain ⟨s1,s2,s3,s4,s5,s6,s7,s8,s9⟩:=aH q
   have t0:(0:Int).toNat=0:=rfl
   simp +contextual only [q1,q4,p1,lZ,mK,pS,rI,aw,bG,ka,qp,d1,h2,d3,r1,r2,bm,jK,l7,iQ,t0,g0,s4,eL,decide_true,decide_false,not_true_eq_false,sZ,Nat.reduceEqDiff,Nat.reduceAdd,↓reduceIte,reduceCtorEq]
   refine fun _ _ _=>⟨k8,by omega,ay (hl q (by rw [hq];simp) _ b hk hb) ?_⟩
   simp +contextual only [sZ,↓reduceIte,reduceCtorEq]
   refine a8 rfl ?_
   congr 1
   refine iR ⟨fun h=>⟨h1,k8,.inr ⟨q,hq,h⟩⟩,fun h=>?_⟩
   rcases h.2.2 with h | ⟨q',h,h'⟩
   ·exact absurd h.1 h3
   ·rw [hq] at h;cases h;exact h'
 by_cases kb:b.k=2
 rotate_left
 ·simp +contextual only [q1,p1,lZ,ka,kb,qp,decide_true,decide_false,not_false_eq_true,not_true_eq_false,sZ,Nat.reduceEqDiff,Nat.reduceAdd,↓reduceIte,reduceCtorEq]
  refine dM fun h=>?_
  have h:=(lY.1 h).2
  rcases h with h | h | h | h
  ·exact qp h.1
  ·exact kb h.2.2.2.1
  ·exact kb h.2.2.1
  ·exact kb h.2.2.1
 have nb:=hb.all.op kb
 have c57:=Wy hl ha hb (ps:=ps) (ss:=ss)
 by_cases oq:p.r=2
 ·have hS:=Sh2 (b:=b) (O:=b9 ps ss) oq ka
  rw [iR hS]
  by_cases h1:p.i=0
  rotate_left
  ·simp +contextual only [q1,p1,lZ,mK,ka,kb,oq,h1,decide_true,decide_false,not_true_eq_false,sZ,Nat.reduceEqDiff,Nat.reduceAdd,↓reduceIte,reduceCtorEq,Int.reduceEq]
   exact dM fun h=>h1 h.2.1
  by_cases h2:p.to=[]
  rotate_left
  ·have d1:((p.to.length:Int)=0)=False:=eq_false (fun e=>h2 (aby.1 (by omega)))
   simp +contextual only [q1,p1,lZ,mK,pS,aw,ka,kb,oq,h1,d1,decide_true,decide_false,not_true_eq_false,sZ,Nat.reduceEqDiff,Nat.reduceAdd,↓reduceIte,reduceCtorEq,Int.reduceEq]
   exact dM fun h=>h2 h.1
  have d1:((p.to.length:Int)=0)=True:=eq_true (by rw [h2];rfl)
  by_cases h3:ps.getD b.n.toNat 0 < ps.getD a.n.toNat 0
  ·simp +contextual only [q1,q4,p1,sR,bm,aM,lZ,mK,pS,rI,aw,ka,kb,oq,h1,d1,h3,decide_true,decide_false,not_true_eq_false,sZ,Nat.reduceEqDiff,Nat.reduceAdd,↓reduceIte,reduceCtorEq,Int.reduceEq]
   refine ⟨na,nb,ay c57 ?_⟩
   simp +contextual only [sZ,Nat.reduceEqDiff,↓reduceIte,reduceCtorEq]
   refine a8 rfl ?_
   congr 1
   exact iR ⟨fun h=>⟨h2,h1,kb,h3,h⟩,fun h=>h.2.2.2.2⟩
  ·simp +contextual only [q1,p1,sR,aM,lZ,mK,pS,aw,ka,kb,oq,h1,d1,h3,decide_true,decide_false,not_true_eq_false,sZ,Nat.reduceEqDiff,Nat.reduceAdd,↓reduceIte,reduceCtorEq,Int.reduceEq]
   exact ⟨na,nb,dM fun h=>h3 h.2.2.2.1⟩
 simp +contextual only [q1,q4,p1,bm,lZ,ka,kb,qp,oq,decide_false,not_true_eq_false,sZ,Nat.reduceEqDiff,Nat.reduceAdd,↓reduceIte,reduceCtorEq]
 refine ae (Wv ps ss a b na nb) ?_
 by_cases hp:(b9 ps ss).pl a.n=(b9 ps ss).pl b.n
 rotate_left
 ·simp +contextual only [decide_eq_false hp,sZ,Nat.reduceEqDiff,↓reduceIte,reduceCtorEq]
  refine dM fun h=>?_
  have h:=(lY.1 h).2
  rcases h with h | h | h | h
  ·exact qp h.1
  ·exact oq h.1
  ·exact hp h.2.2.2.1
  ·exact hp h.2.2.2.1
 have esp:(b9 ps ss).sp ((b9 ps ss).pl a.n)=ss.getD a.n.toNat 0:=hv.sp (i:=a.n.toNat) (by omega)
 have na':0≤a.n∧a.n < ss.length:=⟨na.1,by omega⟩
 by_cases DK:p.r=3
 ·have hS:=Sh3 (b:=b) (O:=b9 ps ss) DK ka
  rw [iR hS]
  have N3:=afJ hv hl ha hb ka kb hp
  by_cases h2:p.to=[]
  rotate_left
  ·have d1:((p.to.length:Int)=0)=False:=eq_false (fun e=>h2 (aby.1 (by omega)))
   simp +contextual only [decide_eq_true hp,lZ,pS,aw,DK,d1,decide_true,decide_false,sZ,Nat.reduceEqDiff,↓reduceIte,reduceCtorEq]
   exact fun _=>dM fun h=>h2 h.1
  have d1:((p.to.length:Int)=0)=True:=eq_true (by rw [h2];rfl)
  by_cases h3:ss.getD a.n.toNat 0=3
  ·simp +contextual only [decide_eq_true hp,lZ,pS,aw,qh,aM,DK,d1,h3,decide_true,decide_false,not_true_eq_false,sZ,Nat.reduceEqDiff,↓reduceIte,reduceCtorEq]
   exact fun _=>⟨na',dM fun h=>h.2.2.2.1 (by rw [esp];exact h3)⟩
  ·simp +contextual only [decide_eq_true hp,lZ,pS,aw,qh,aM,q4,p4,bm,eL,DK,d1,h3,decide_true,not_false_eq_true,sZ,Nat.reduceEqDiff,Nat.reduceAdd,↓reduceIte]
   refine fun _=>⟨na',ae N3 ?_⟩
   simp +contextual only [sZ,Nat.reduceEqDiff,↓reduceIte,reduceCtorEq]
   refine a8 rfl ?_
   congr 1
   exact iR ⟨fun h=>⟨h2,kb,hp,by rw [esp];exact h3,h⟩,fun h=>h.2.2.2.2⟩
 by_cases FE:p.r=4
 ·have hS:=Sh4 (b:=b) (O:=b9 ps ss) FE ka
  rw [iR hS]
  by_cases h1:p.i=0
  rotate_left
  ·simp +contextual only [decide_eq_true hp,lZ,mK,FE,h1,decide_true,decide_false,sZ,Nat.reduceEqDiff,↓reduceIte,reduceCtorEq,Int.reduceEq]
   exact dM fun h=>h1 h.1
  by_cases h3:ss.getD a.n.toNat 0=3
  ·simp +contextual only [decide_eq_true hp,lZ,mK,qh,aM,q4,p4,bm,eL,FE,h1,h3,decide_true,decide_false,sZ,Nat.reduceEqDiff,Nat.reduceAdd,↓reduceIte,Int.reduceEq]
   refine ⟨na',ae (afK hv hl ha hb) ?_⟩
   simp +contextual only [sZ,Nat.reduceEqDiff,↓reduceIte,reduceCtorEq]
   refine a8 rfl ?_
   congr 1
   exact iR ⟨fun h=>⟨h1,kb,hp,by rw [esp];exact h3,h⟩,fun h=>h.2.2.2.2⟩
  ·simp +contextual only [decide_eq_true hp,lZ,mK,qh,aM,FE,h1,h3,decide_true,decide_false,sZ,Nat.reduceEqDiff,↓reduceIte,reduceCtorEq,Int.reduceEq]
   exact ⟨na',dM fun h=>h3 (by rw [← esp];exact h.2.2.2.1)⟩
 ·simp +contextual only [decide_eq_true hp,lZ,DK,FE,decide_false,sZ,Nat.reduceEqDiff,↓reduceIte,reduceCtorEq]
  exact dM (Sh0 qp oq DK FE)
theorem c29 (s:Sg) (ps ss:List Int) (hs:Tj s ps ss) (a b:T) (p:PP):Pure Tryz.prog 29 [s.av,dV ps ss,a.av,b.av,dA p] (.int .i64 (sS s ps ss a b p)):=by
 refine fun H=>k29.2.calls rfl ?_
 simp only [k29,aG]
 obtain ⟨q1,q2,q3,q4,q5,q6⟩:=aQ ps ss
 obtain ⟨p1,p2,p3,p4,p5,p6,p7,p8,p9⟩:=aH p
 simp +contextual only [aF,q1,q4,p1,bm,sZ,Nat.reduceEqDiff,Nat.reduceAdd,↓reduceIte,reduceCtorEq]
 refine ae (c77 s ps ss hs [a,b]) ?_
 by_cases h0:ft s ps ss [a,b]=0
 ·obtain ⟨hv,ht⟩:=Ol h0
  simp +contextual only [q4,p4,bm,eL,h0,sZ,Nat.reduceEqDiff,Nat.reduceAdd,↓reduceIte]
  refine ae (c88 hv _ p (rC _) a b (ht a (by simp)) (ht b (by simp))) ?_
  by_cases hS:Sh (b9 ps ss) p a b
  ·rw [Fy hS]
   simp +contextual only [sZ,↓reduceIte,reduceCtorEq]
   exact a8 rfl (by rw [sS,if_pos h0,if_pos hS])
  ·rw [HM hS]
   simp +contextual only [sZ,↓reduceIte,reduceCtorEq]
   exact a8 rfl (by rw [sS,if_pos h0,if_neg hS])
 ·simp +contextual only [h0,sZ,Nat.reduceEqDiff,↓reduceIte,reduceCtorEq]
  exact a8 rfl (by rw [sS,if_neg h0])
end Go.aK
end
section
set_option maxRecDepth 100000
namespace Go.aK
open Go Go.Proofs Go.eI
theorem abA {S:List aa→Prop} (hS:tf S) (g:Nat) (cc:List AV) (cp:cc.map AV.ab=cc) (l:List PP) (hf:∀ x∈l,∀ H,S H→ax Tryz.prog g ([dA x]++cc) H (KH S)) {H:List aa} (hH:S H) :
 ax Tryz.prog 146 [.al 0 (dx l),.fn (.func g) [] cc] H fun r H'=>(∃ n,r=.int .i64 n)∧S H':=by
 refine X9.2.calls rfl ?_
 simp only [X9,aG]
 simp +contextual only [bG,sZ,Nat.reduceEqDiff,Nat.reduceAdd,↓reduceIte,reduceCtorEq]
 intro hl
 have fin:∀ (n:Int) (G:List aa),S G→bV H.length [.t 4] [(4,.int .i64 n)] G fun r H'=>(∃ n,r=.int .i64 n)∧S H':=by
  intro n G hG
  refine aX H.length (rC _) (by rw [aA,if_pos rfl];rfl) ?_
  rw [aA,if_pos rfl,aaw (by rw [hS H G hH hG];exact rC _)]
  exact ⟨⟨n,rfl⟩,hG⟩
 refine aJ l.length (fun i (G:List aa)=>S G) (fun i G=>[(0,.al 0 (dx l)),(1,.fn (.func g) [] cc),(7,.int .i64 l.length),(8,.int .i64 i)]) (fun i G=>G) H ⟨hH,aB _ _ _⟩ fun i G hi hG=>?_
 obtain ⟨p1,p2,p3,p4,p5,p6,p7,p8,p9⟩:=aH (l.getD i default)
 simp +contextual only [cp,l7,iQ,eL,yP,p4,sZ,Nat.reduceEqDiff,Nat.reduceAdd,↓reduceIte,reduceCtorEq]
 refine ⟨fun aS=>?_,fun jw=>?_⟩
 ·have aS:=bN aS
  refine ⟨by omega,af (hf _ (by rw [rB,Oq aS];exact acf aS) G hG) ?_⟩
  rintro r G' ⟨⟨b,rfl⟩,eR⟩
  cases b with
  | true=>simp +contextual only [sZ,Nat.reduceEqDiff,↓reduceIte,reduceCtorEq];exact fin _ _ eR
  | false=>simp +contextual only [sZ,Nat.reduceEqDiff,↓reduceIte,reduceCtorEq];exact ⟨i + 1,G',⟨aS,eR⟩,by omega,aE (by rw [au i (by omega)]) rfl⟩
 ·exact fin _ _ hG
theorem afL {S:List aa→Prop} (hS:tf S) (g:Nat) (cc:List AV) (cp:cc.map AV.ab=cc) (l:List PP) (hf:∀ x∈l,∀ H,S H→ax Tryz.prog g ([dA x]++cc) H (KH S)) {H:List aa} (hH:S H) :
 ax Tryz.prog 84 [.al 0 (dx l),.fn (.func g) [] cc] H (KH S):=by
 refine k84.2.calls rfl ?_
 simp only [k84,aG]
 simp +contextual only [sZ,Nat.reduceEqDiff,Nat.reduceAdd,↓reduceIte,reduceCtorEq]
 refine af (abA hS g cc cp l hf hH) ?_
 rintro r G ⟨⟨n,rfl⟩,hG⟩
 simp +contextual only [sZ,↓reduceIte,reduceCtorEq]
 exact zP hS hH hG
structure Bq (q:Nat) (H0 H:List aa):Prop where
 len:H.length=H0.length
 cnt:∃ n,H[q]?=some (.cells [.int .i64 n])
 get:∀ j,j≠q→H[j]?=H0[j]?
theorem Bq.tf (q:Nat) (H0:List aa):Go.aK.tf (Bq q H0):=fun H H' h h'=>h'.len.trans h.len.symm
theorem Bq.set {q:Nat} {H0 H:List aa} (h:Bq q H0 H) (n:Int):Bq q H0 (H.set q (.cells [.int .i64 n])):=by
 obtain ⟨m,hm⟩:=h.cnt
 exact ⟨by simp [h.len],⟨n,yS (aR hm)⟩,fun j hj=>by rw [yQ (Ne.symm hj)];exact h.get j hj⟩
theorem c26 {q:Nat} {H0:List aa}:∀ (N:Nat) (p:PP),pz p≤N→∀ (H:List aa),Bq q H0 H→ax Tryz.prog 26 [dA p,.ptr q 0] H (KH (Bq q H0)):=by
 intro N
 induction N with
 | zero=>intro p h;cases p;simp [pz] at h
 | succ N ih=>
   intro p hw H hH
   refine k26.2.calls rfl ?_
   simp only [k26,aG]
   have hwe:pz p=W5 p.l + 1:=by cases p;simp only [pz,PP.l]
   obtain ⟨m,hm⟩:=hH.cnt
   obtain ⟨p1,p2,p3,p4,p5,p6,p7,p8,p9⟩:=aH p
   have gr:∀ o,(H.set q o)[q]?=some o:=fun o=>yS (aR hm)
   have li1:∀ (H:List aa) (φ:AV→Prop),aV none (.ai (.ptr q 0)) H φ=φ (.ptr q 0):=fun _ _=>by simp [aV,AV.one,AV.ab]
   have c85:∀ x∈p.l,∀ H,Bq q H0 H→ax Tryz.prog 85 ([dA x]++[.ai (.ptr q 0)]) H (KH (Bq q H0)):=by
    intro x hx H hH
    refine k85.2.calls rfl ?_
    simp only [k85,aG,List.cons_append,List.nil_append]
    obtain ⟨p1,p2,p3,p4,p5,p6,p7,p8,p9⟩:=aH x
    simp +contextual only [p1,p4,eL,li1,sZ,Nat.reduceEqDiff,Nat.reduceAdd,↓reduceIte,reduceCtorEq]
    refine af (ih x (by have:=CA hx;omega) H hH) ?_
    rintro r G ⟨⟨b,rfl⟩,hG⟩
    simp +contextual only [sZ,↓reduceIte,reduceCtorEq]
    exact zP (Bq.tf q H0) hH hG
   simp +contextual only [hm,gr,p1,li1,pS,rI,aw,sZ,Nat.reduceEqDiff,Nat.reduceAdd,Nat.reduceLT,↓reduceIte,reduceCtorEq]
   have rX:∀ (G:List aa),Bq q H0 G→bV H.length [.t 4] [(4,.bool false)] G (KH (Bq q H0)):=fun G hG=>zP (Bq.tf q H0) hH hG
   refine ⟨fun _ _=>⟨fun _=>af (afL (Bq.tf q H0) 85 [.ai (.ptr q 0)] rfl p.l c85 (hH.set _)) ?_,fun _=>rX _ (hH.set _)⟩,fun _=>rX _ (hH.set _)⟩
   rintro r G ⟨⟨b,rfl⟩,hG⟩
   simp +contextual only [sZ,Nat.reduceEqDiff,↓reduceIte,reduceCtorEq]
   exact zP (Bq.tf q H0) hH hG
end Go.aK
end
section
set_option maxRecDepth 100000
set_option maxHeartbeats 0
namespace Go.aK
open Go Go.Proofs
noncomputable def k4:=aG Tryz.call4 Tryz.func4 Tryz.ntmps4 [(0,0,1),(0,1,1),(0,2,1),(0,3,1),(0,4,1),(4,13,2000),(6,9,1000)] [(0,[5,6,7,8,9]),(1,[5,6,7,8,9,18]),(2,[10]),(3,[5,6,7,8,9,11]),(4,[5,6,7,8,9,34]),(5,[10]),(6,[5,6,7,8,9,12,13,14]),(7,[5,6,7,8,9,12,13,14,15,16]),(8,[5,6,7,8,12,13,74]),(9,[10]),(10,[5,6,7,8,12,76]),(11,[10]),(12,[10])] [(8,(.take 0 true (.take 1 true (.take 2 true (.take 3 true (.take 4 true (.take 5 true (.take 6 true (.take 7 true (.take 8 true (.take 9 true (.take 10 true (.take 11 true (.take 12 true (.take 13 true (.take 14 true (.take 15 true (.take 16 true (.take 17 true (.take 18 true (.take 19 true (.take 20 true (.take 21 true (.take 22 true .done))))))))))))))))))))))))]
end Go.aK
end
