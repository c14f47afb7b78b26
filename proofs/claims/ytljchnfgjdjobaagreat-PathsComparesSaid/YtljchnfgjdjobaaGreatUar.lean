/- Part 18 of 19 of the proof. -/
import Derived.Test.YtljchnfgjdjobaaGreatUaq
import Derived.Test.YtljchnfgjdjobaaGreatUag
import Derived.KernelRfl
import Derived.Test.YtljchnfgjdjobaaGreatUak
import Derived.Test.YtljchnfgjdjobaaGreatUaj
import Derived.Test.YtljchnfgjdjobaaGreatUap
import Derived.Test.YtljchnfgjdjobaaGreatUam
import Derived.Test.YtljchnfgjdjobaaGreatProg
import Derived.Test.YtljchnfgjdjobaaGreatUaf
import Derived.Test.YtljchnfgjdjobaaGreatRows
import Derived.ProofKit
set_option linter.unusedVariables false
set_option linter.unusedSimpArgs false
set_option linter.defProp false
set_option linter.unusedSectionVars false
section
set_option maxRecDepth 100000
namespace Go.aI
open Go Go.Proofs Go.eJ
theorem Tb.Ok.VH {c:Tb} (hc:c.Ok) {i k:Int} (hi:0≤i∧i < c.a.length) (hk:0≤k∧k < c.b.length):c.tR i k↔(nt c.a i).k=2∧((∃ x∈nk c.a i,c.tE x k∨c.tR x k)∨(nt c.b k).k=2∧(
 (c.O.pl (nt c.b k).n < c.O.pl (nt c.a i).n∧∀ y∈nk c.b k,c.tR i y)∨
 (c.O.pl (nt c.b k).n=c.O.pl (nt c.a i).n∧c.O.sp (c.O.pl (nt c.a i).n)≠3∧(∀ y∈nk c.b k,c.tR i y)∧Lx (Gt c.O.sp) ((bp (c.O.sp (c.O.pl (nt c.a i).n)) (nk c.a i)).map c.f) ((bp (c.O.sp (c.O.pl (nt c.a i).n)) (nk c.b k)).map c.g))∨
 (c.O.pl (nt c.b k).n=c.O.pl (nt c.a i).n∧c.O.sp (c.O.pl (nt c.a i).n)=3∧Mu (Gt c.O.sp) ((nk c.a i).map c.f) ((nk c.b k).map c.g)))):=by
 have h:c.tR i k↔R c.O (nt c.a i) (nt c.b k):=Iff.rfl
 have e1:(∃ x∈(nt c.a i).l,E c.O x (nt c.b k)∨R c.O x (nt c.b k))↔∃ x∈nk c.a i,c.tE x k∨c.tR x k:=by
  rw [← (hc.a.kids hi.1 hi.2).1]
  constructor
  ·rintro ⟨x,hx,h⟩;obtain ⟨y,hy,rfl⟩:=aaq.1 hx;exact ⟨y,hy,h⟩
  ·rintro ⟨y,hy,h⟩;exact ⟨_,aaq.2 ⟨y,hy,rfl⟩,h⟩
 have e2:(∀ y∈(nt c.b k).l,R c.O (nt c.a i) y)↔∀ y∈nk c.b k,c.tR i y:=by
  rw [← (hc.b.kids hk.1 hk.2).1]
  constructor
  ·intro h y hy;exact h _ (aaq.2 ⟨y,hy,rfl⟩)
  ·intro h y hy;obtain ⟨z,hz,rfl⟩:=aaq.1 hy;exact h z hz
 rw [h,pU,e1,e2,hc.aal hi,hc.aam hk,gR,gR]
theorem qK {P:Program} {lo:Option Nat} {g:FuncId} {xs:List AV} {H:List aa} {Q:Prop} {K:AV→Prop} (hc:aw P g xs H fun r H'=>(∃ u:Bool,r=.bool u∧(u=true↔Q))∧H'=H) (hk:∀ u:Bool,(u=true↔Q)→K (.bool u)):zx ⟨P,lo⟩ true g xs H K:=by
 refine ⟨.bool (@decide Q (Classical.propDecidable Q)),⟨xs,bW _,hc.mono ?_⟩,hk _ (by simp)⟩
 rintro r H' ⟨⟨u,rfl,hu⟩,rfl⟩
 refine ⟨?_,rfl⟩
 congr 1
 rw [abn,hu];simp
theorem ad9 {c:Tb} (hc:c.Ok) {x:Nat} {i k:Int} {H:List aa} (hT:Sn c x i k H) (hi:0≤i∧i < c.a.length) (hk:0≤k∧k < c.b.length) :
 aw Tryz.prog 189 [.ptr x 0,.int .i64 i,.int .i64 k] H fun r H'=>(∃ u:Bool,r=.bool u∧(u=true↔c.tR i k))∧H'=H:=by
 have hR:=hc.VH hi hk
 have nF:=hc.ins hi hk
 have iJ:=ad4 hc hT hi hk
 have hmul:=ad7 hT nF
 have aea {l m:List Int} (h:J4 c i l m):=ad6 hT h
 obtain ⟨ak,ao⟩:=hc.a.kind hi.1 hi.2
 obtain ⟨bk,bo⟩:=hc.b.kind hk.1 hk.2
 obtain ⟨ie,ne,ce,ese,ig,ng,cg,esg,h⟩:=hT
 have R3:=nF.la
 have NJ:=nF.lb
 have dG:=h.ne
 have hng:=h.ng
 refine Xz.2.calls rfl ?_
 simp only [Xz,aJ]
 obtain ⟨q1,q2,q3,q4,q5,q6⟩:=aS c.ps c.ss
 simp +contextual only [h.x,H9,px,Ia,Et,B4,tF,QN,jT,List.getD_cons_succ,List.getD_cons_zero,sZ,Nat.reduceEqDiff,Nat.reduceAdd,Nat.reduceLT,↓reduceIte,reduceCtorEq]
 refine ⟨hi,hk,fun ul=>fa ⟨false,rfl,fun h=>absurd h (by simp),fun hh=>absurd (hR.1 hh).1 ul⟩,fun NM=>?_⟩
 have hR:c.tR i k↔_:=hR.trans ⟨fun h=>h.2,fun h=>⟨NM,h⟩⟩
 have hss:c.ss.length=c.ps.length:=hc.va.len
 have ao2:=ao NM
 have GL:=hc.va.sp (i:=(nt c.a i).n.toNat) (by omega)
 have vi:c.O.pl (nt c.a i).n=c.ps.getD (nt c.a i).n.toNat 0:=rfl
 rw [show c.O.sp (c.O.pl (nt c.a i).n)=c.ss.getD (nt c.a i).n.toNat 0 from GL] at hR
 refine aC (nk c.a i).length (fun n=>∀ s,s < n→¬ (c.tE ((nk c.a i).getD s 0) k∨c.tR ((nk c.a i).getD s 0) k)) (fun n=>[(0,.ptr x 0),(1,.int .i64 i),(2,.int .i64 k),(7,.ai (jR (c.a.getD i.toNat default))),(8,.ai (jR (c.b.getD k.toNat default))),(9,.int .i64 n)]) (fun _=>H) ⟨fun s hs=>(by cases hs),aB _ _ _⟩ fun n hn hI=>?_
 by_cases h1:n < (nk c.a i).length
 ·have l1:decide ((n:Int) < (nk c.a i).length)=true:=decide_eq_true (by omega)
  obtain ⟨a0,a1⟩:=nF.ia _ (ca h1)
  obtain ⟨⟨r,bs,xb,e1,e2,e3,e4,e5,e6⟩,r',bs',xb',e1',e2',e3',e4',e5',e6'⟩:=h.rows ((nk c.a i).getD n 0) k a0 hk.1 hk.2 (.inl a1)
  have yes (hx:c.tE ((nk c.a i).getD n 0) k∨c.tR ((nk c.a i).getD n 0) k):c.tR i k:=hR.2 (.inl ⟨_,ca h1,hx⟩)
  cases xb with
  | true=>
    simp +contextual only [h.x,h.e,J3,gl,a7,sm,e1,e3,e5,l1,List.getD_cons_succ,List.getD_cons_zero,aaW,tN,sZ,Nat.reduceEqDiff,Nat.reduceAdd,Nat.reduceLT,↓reduceIte,reduceCtorEq]
    exact fun _=>⟨⟨by omega,by omega⟩,⟨a0,by omega⟩,e2,hk,e4,fa ⟨true,rfl,fun _=>yes (.inl (e6.1 rfl)),fun _=>rfl⟩⟩
  | false=>
    simp +contextual only [h.x,h.e,h.g,J3,gl,a7,sm,e1,e3,e5,e1',e3',e5',l1,List.getD_cons_succ,List.getD_cons_zero,aaW,tN,sZ,Nat.reduceEqDiff,Nat.reduceAdd,Nat.reduceLT,↓reduceIte,reduceCtorEq]
    refine fun _=>⟨⟨by omega,by omega⟩,⟨a0,by omega⟩,e2,hk,e4,⟨by omega,by omega⟩,⟨a0,by omega⟩,e2',hk,e4',?_⟩
    cases xb' with
    | true=>
      simp +contextual only [sZ,↓reduceIte,reduceCtorEq]
      exact fa ⟨true,rfl,fun _=>yes (.inr (e6'.1 rfl)),fun _=>rfl⟩
    | false=>
      simp +contextual only [sZ,Nat.reduceEqDiff,↓reduceIte,reduceCtorEq]
      refine ⟨n + 1,⟨h1,fun s hs=>?_⟩,by omega,aD (by rw [au n (by omega)]) rfl⟩
      by_cases e:s=n
      ·subst e
       rintro (hh | hh)
       ·exact absurd (e6.2 hh) (by simp)
       ·exact absurd (e6'.2 hh) (by simp)
      ·exact hI s (by omega)
 ·have l1:decide ((n:Int) < (nk c.a i).length)=false:=decide_eq_false (by omega)
  have no:¬ ∃ x∈nk c.a i,c.tE x k∨c.tR x k:=by
   rintro ⟨x,hx,hh⟩
   obtain ⟨s,hs,rfl⟩:=py hx
   exact hI s (by omega) hh
  have hR:c.tR i k↔_:=hR.trans ⟨fun h=>h.resolve_left no,.inr⟩
  simp +contextual only [J3,QN,gl,jT,l1,h.x,a7,List.getD_cons_zero,sZ,Nat.reduceEqDiff,Nat.reduceAdd,Nat.reduceLT,↓reduceIte,reduceCtorEq]
  refine fun _=>⟨fun ul=>fa ⟨false,rfl,fun h=>absurd h (by simp),fun hh=>absurd (hR.1 hh).1 ul⟩,fun ul=>⟨ao2,bo ul,fun Q3=>?_,fun Q3=>?_⟩⟩
  ·refine af iJ ?_
   rintro r G ⟨⟨u,rfl,hu⟩,rfl⟩
   simp +contextual only [sZ,↓reduceIte,reduceCtorEq]
   refine fa ⟨u,rfl,hu.trans ⟨fun h=>hR.2 ⟨ul,.inl ⟨Q3,h⟩⟩,fun hh=>?_⟩⟩
   rcases (hR.1 hh).2 with h | h | h
   ·exact h.2
   ·have:=h.1
    exact absurd Q3 (by rw [show c.ps.getD (nt c.b k).n.toNat 0=c.ps.getD (nt c.a i).n.toNat 0 from this];omega)
   ·have:=h.1
    exact absurd Q3 (by rw [show c.ps.getD (nt c.b k).n.toNat 0=c.ps.getD (nt c.a i).n.toNat 0 from this];omega)
  have hR:c.tR i k↔_:=hR.trans ⟨fun h=>h.2.resolve_left fun h2=>absurd h2.1 (by rw [← Int.not_lt] at Q3;exact Q3),fun h=>⟨ul,.inr h⟩⟩
  simp +contextual only [sn,q4,QN,jT,sZ,Nat.reduceEqDiff,↓reduceIte,reduceCtorEq]
  refine aE (aag c.ps c.ss _ _ (ao NM) (bo ul)) ?_
  rw [show (iW c.ps c.ss)=c.O from rfl]
  by_cases hp:c.O.pl (nt c.a i).n=c.O.pl (nt c.b k).n
  rotate_left
  ·simp +contextual only [decide_eq_false hp,sZ,Nat.reduceEqDiff,↓reduceIte,reduceCtorEq]
   exact fa ⟨false,rfl,fun h=>absurd h (by simp),fun hh=>by rcases hR.1 hh with h | h <;> exact absurd h.1.symm hp⟩
  simp +contextual only [decide_eq_true hp,h.x,QN,J3,jT,gl,a7,List.getD_cons_succ,List.getD_cons_zero,sZ,Nat.reduceEqDiff,Nat.reduceAdd,Nat.reduceLT,↓reduceIte,reduceCtorEq]
  refine ⟨⟨ao2.1,by omega⟩,fun h3=>?_,fun h3=>?_⟩
  ·refine af hmul ?_
   rintro r G ⟨⟨u,rfl,hu⟩,rfl⟩
   simp +contextual only [sZ,↓reduceIte,reduceCtorEq]
   refine fa ⟨u,rfl,hu.trans ⟨fun h=>hR.2 (.inr ⟨hp.symm,h3,h⟩),fun hh=>?_⟩⟩
   rcases hR.1 hh with h | h
   ·exact absurd h3 h.2.1
   ·exact h.2.2
  ·have hside {l m:List Int} (h1:J4 c i l m) (s:Int):J4 c i (bp s l) (bp s m):=⟨fun x hx=>h1.ia x (jY.1 hx),fun y hy=>h1.ib y (jY.1 hy),by rw [gP];exact h1.la,by rw [gP];exact h1.lb⟩
   simp +contextual only [sn,q4,QN,J3,jT,gl,sZ,Nat.reduceEqDiff,↓reduceIte,reduceCtorEq]
   refine aE (aah c.ps c.ss _ _ R3 ⟨ao2.1,by omega⟩) ?_
   simp +contextual only [h.x,sn,q4,QN,J3,jT,gl,sZ,Nat.reduceEqDiff,Nat.reduceAdd,↓reduceIte,reduceCtorEq]
   refine aE (aah c.ps c.ss _ _ NJ ⟨ao2.1,by omega⟩) ?_
   simp +contextual only [sZ,Nat.reduceEqDiff,↓reduceIte,reduceCtorEq]
   refine qK (aea (hside nF (c.ss.getD (nt c.a i).n.toNat 0))) fun u hu=>?_
   cases u with
   | false=>
     simp +contextual only [sZ,Nat.reduceEqDiff,↓reduceIte,reduceCtorEq]
     refine fa ⟨false,rfl,fun h=>absurd h (by simp),fun hh=>?_⟩
     rcases hR.1 hh with h | h
     ·exact absurd (hu.2 h.2.2.2) (by simp)
     ·exact absurd h.2.1 h3
   | true=>
     simp +contextual only [sZ,Nat.reduceEqDiff,Nat.reduceAdd,↓reduceIte,reduceCtorEq]
     refine af iJ ?_
     rintro r G ⟨⟨v,rfl,hv⟩,rfl⟩
     simp +contextual only [sZ,Nat.reduceEqDiff,↓reduceIte,reduceCtorEq]
     refine fa ⟨v,rfl,hv.trans ⟨fun h=>hR.2 (.inl ⟨hp.symm,h3,h,hu.1 rfl⟩),fun hh=>?_⟩⟩
     rcases hR.1 hh with h | h
     ·exact h.2.2.1
     ·exact absurd h.2.1 h3
end Go.aI
end
section
set_option maxRecDepth 100000
set_option maxHeartbeats 0
namespace Go.aI
open Go Go.Proofs
noncomputable def So:=aJ Tryz.call137 Tryz.func137 Tryz.ntmps137 [(0,0,1),(0,1,1),(0,2,1),(1,2,1),(1,4,1),(5,12,3),(5,15,2),(6,12,3),(6,15,2)] [(0,[3,4,5]),(1,[7]),(2,[7,8]),(3,[7,8,23]),(4,[7,8]),(5,[7,8]),(6,[7,8]),(7,[7,8,9]),(8,[7,8,9,62]),(9,[7,8,9]),(10,[7,8,9]),(11,[7,8,9]),(12,[6])] [(1,(.take 1 true (.take 0 false (.take 3 false (.br 2 (.br 4 (.take 5 true (.br 6 (.take 7 true .done) .nil)) .nil) .nil))))),(5,(.take 5 true (.take 6 true (.take 7 true (.take 8 true (.take 9 true (.take 0 false (.take 1 false (.take 2 false (.take 3 false (.br 4 (.br 10 (.take 11 true (.br 12 (.take 13 true (.take 14 true (.br 15 .done .nil))) .nil)) .nil) (.br 10 (.take 4 true (.take 11 true (.br 12 (.take 13 true (.take 14 true (.br 15 .done .nil))) .nil))) .nil)))))))))))),(6,(.take 5 true (.take 6 true (.take 7 true (.take 8 true (.take 9 true (.take 0 false (.take 1 false (.take 2 false (.take 3 false (.br 4 (.br 10 (.take 11 true (.br 12 (.take 13 true (.take 14 true (.br 15 .done .nil))) .nil)) .nil) (.br 10 (.take 4 true (.take 11 true (.br 12 (.take 13 true (.take 14 true (.br 15 .done .nil))) .nil))) .nil)))))))))))),(10,(.take 8 true (.take 9 true (.take 10 true (.take 11 true (.take 0 true (.take 1 true (.take 2 true (.take 3 true (.take 4 true (.take 5 true (.take 6 true (.take 7 true (.take 12 true (.br 13 .done .nil))))))))))))))),(11,(.take 8 true (.take 9 true (.take 10 true (.take 11 true (.take 0 true (.take 1 true (.take 2 true (.take 3 true (.take 4 true (.take 5 true (.take 6 true (.take 7 true (.take 12 true (.br 13 .done .nil)))))))))))))))]
end Go.aI
end
section
set_option maxRecDepth 100000
namespace Go.aI
open Go Go.Proofs Go.eJ
structure B6 {τ:Type} (n0:Nat) (G:List aa) (ad:τ→Nat) (ct:τ→Option aa):Prop where
 get:∀ t o,ct t=some o→G[ad t]?=some o
 inj:∀ s t,ct s≠none→ct t≠none→ad s=ad t→s=t
 lo:∀ t,ct t≠none→n0≤ad t
section
variable {τ:Type} [DecidableEq τ] {n0:Nat} {G:List aa} {ad:τ→Nat} {ct:τ→Option aa}
theorem B6.lt (h:B6 n0 G ad ct) {t:τ} (ht:ct t≠none):ad t < G.length:=by
 cases e:ct t with
 | none=>exact absurd e ht
 | some o=>exact (aaz.1 (h.get t o e)).1
theorem B6.set (h:B6 n0 G ad ct) {t:τ} (ht:ct t≠none) (o:aa):B6 n0 (G.set (ad t) o) ad (fun s=>if s=t then some o else ct s):=by
 refine ⟨fun s p hs=>?_,fun s u hs hu e=>?_,fun s hs=>?_⟩
 ·by_cases e:s=t
  ·subst e
   rw [if_pos rfl] at hs;cases hs
   rw [tO (h.lt ht)]
  ·rw [if_neg e] at hs
   rw [tL (fun e2=>e (h.inj s t (by rw [hs];simp) ht e2.symm))]
   exact h.get s p hs
 ·refine h.inj s u (fun e2=>hs ?_) (fun e2=>hu ?_) e
  ·by_cases e3:s=t
   ·subst e3;exact absurd e2 ht
   ·rw [if_neg e3];exact e2
  ·by_cases e3:u=t
   ·subst e3;exact absurd e2 ht
   ·rw [if_neg e3];exact e2
 ·by_cases e3:s=t
  ·subst e3;exact h.lo s ht
  ·rw [if_neg e3] at hs;exact h.lo s hs
theorem B6.new (h:B6 n0 G ad ct) (hn:n0≤G.length) (t:τ) (o:aa):B6 n0 (G++[o]) (fun s=>if s=t then G.length else ad s) (fun s=>if s=t then some o else ct s):=by
 refine ⟨fun s p hs=>?_,fun s u hs hu e=>?_,fun s hs=>?_⟩
 ·by_cases e:s=t
  ·simp only [if_pos e] at hs ⊢;cases hs;simp
  ·simp only [if_neg e] at hs ⊢
   rw [tK (h.lt (by rw [hs];simp))]
   exact h.get s p hs
 ·by_cases e1:s=t <;> by_cases e2:u=t
  ·rw [e1,e2]
  ·simp only [if_pos e1,if_neg e2] at hs hu e
   have:=h.lt hu;omega
  ·simp only [if_neg e1,if_pos e2] at hs hu e
   have:=h.lt hs;omega
  ·simp only [if_neg e1,if_neg e2] at hs hu e
   exact h.inj s u hs hu e
 ·by_cases e1:s=t
  ·simp only [if_pos e1];exact hn
  ·simp only [if_neg e1] at hs ⊢;exact h.lo s hs
theorem B6.congr {ad':τ→Nat} {ct':τ→Option aa} (h:B6 n0 G ad ct) (hc:∀ t,ct' t=ct t) (ha:∀ t,ct t≠none→ad' t=ad t):B6 n0 G ad' ct':=by
 refine ⟨fun t o ht=>?_,fun s t hs ht e=>?_,fun t ht=>?_⟩
 ·rw [hc] at ht
  rw [ha t (by rw [ht];simp)];exact h.get t o ht
 ·rw [hc] at hs ht
  rw [ha s hs,ha t ht] at e
  exact h.inj s t hs ht e
 ·rw [hc] at ht
  rw [ha t ht];exact h.lo t ht
noncomputable def xW (n0:Nat) (ad:τ→Nat) (ct:τ→Option aa) (G:List aa):List aa:=
 G.mapIdx fun j o=>@ite _ (j < n0∨∃ t,ct t≠none∧ad t=j) (Classical.propDecidable _) o .dead
theorem tG (j:Nat):(xW n0 ad ct G)[j]?=(G[j]?).map fun o=>@ite _ (j < n0∨∃ t,ct t≠none∧ad t=j) (Classical.propDecidable _) o .dead:=by simp [xW]
theorem tH:(xW n0 ad ct G).length=G.length:=by simp [xW]
theorem GH:(xW n0 ad ct G).take n0=G.take n0:=by
 apply aaZ
 intro j
 rw [aax,aax]
 split
 ·rename_i hj
  rw [tG]
  cases G[j]? with
  | none=>rfl
  | some o=>simp [hj]
 ·rfl
theorem B6.j4 (h:B6 n0 G ad ct):B6 n0 (xW n0 ad ct G) ad ct:=by
 refine ⟨fun t o ht=>?_,h.inj,h.lo⟩
 rw [tG,h.get t o ht,Option.map_some,if_pos (.inr ⟨t,by rw [ht];simp,rfl⟩)]
theorem B6.shut (h:B6 n0 G ad ct) (hb:∀ t o,ct t=some o→o.a9 G.length=true):wG n0 G G.length (xW n0 ad ct G):=by
 refine ⟨by rw [tH];simp,fun j x hx=>?_⟩
 rw [tG] at hx
 obtain ⟨y,hy,e⟩:=tM.1 hx
 split at e
 ·rename_i hp
  subst e
  refine .inr ⟨hy,fun h0=>?_⟩
  rcases hp with h1 | ⟨t,ht,rfl⟩
  ·omega
  ·cases e2:ct t with
   | none=>exact absurd e2 ht
   | some o=>
     have:=h.get t o e2
     rw [hy] at this;cases this
     rw [tH]
     exact hb t _ e2
 ·exact .inl e.symm
end
inductive Tg where
 | x | e | g
 | re (j:Nat)
 | rg (j:Nat)
 deriving DecidableEq
def gJ (E:Nat→Bool) (nb m:Nat):aa:=.cells ((List.range nb).map fun k=>.bool (decide (k < m) && E k))
noncomputable def Tb.eB (c:Tb) (i k:Nat):Bool:=decide (c.f i=c.g k)
noncomputable def Tb.gB (c:Tb) (i k:Nat):Bool:=@decide (c.tR i k) (Classical.propDecidable _)
def ja (c:Tb) (ne ng:Nat) (ve vg:AV) (oe og:Option aa) (fE fG:Nat→aa):Tg→Option aa
 | .x=>some (.cells [.ap 0 (ints c.ps),.ap 0 (ints c.ss),.ap 0 (dj c.a),.ap 0 (dj c.b),ve,vg])
 | .e=>oe
 | .g=>og
 | .re j=>if j < ne then some (fE j) else none
 | .rg j=>if j < ng then some (fG j) else none
def ey (ad:Tg→Nat) (rr:Nat→Tg) (nb n cap:Nat):List AV:=(List.range n).map (fun j=>.aW (ad (rr j)) 0 nb nb)++List.replicate (cap - n) .ag
def RV (ad:Tg→Nat) (nb:Nat) (tt:Tg) (rr:Nat→Tg) (v:AV) (o:Option aa) (n:Nat):Prop:=
 (n=0∧v=.ag∧o=none)∨(0 < n∧∃ cap,n≤cap∧v=.aW (ad tt) 0 n cap∧o=some (.cells (ey ad rr nb n cap)))
def gV (c:Tb) (H:List aa) (i kE kG ne ng:Nat) (G:List aa):Prop:=
 ∃ ad ve vg oe og,ad .x=H.length∧G.take H.length=H∧H.length≤G.length∧
  B6 H.length G ad (ja c ne ng ve vg oe og (fun j=>gJ (c.eB j) c.b.length (if j < i then c.b.length else kE)) (fun j=>gJ (c.gB j) c.b.length (if j < i then c.b.length else kG)))∧
  RV ad c.b.length .e .re ve oe ne∧RV ad c.b.length .g .rg vg og ng
theorem pA {ad:Tg→Nat} {rr:Nat→Tg} {nb n cap j:Nat} (h:j < n):(ey ad rr nb n cap).getD j .any=.aW (ad (rr j)) 0 nb nb∧j < (ey ad rr nb n cap).length:=by
 constructor
 ·rw [ey,oM,tK (by simpa using h)]
  simp [h]
 ·simp [ey];omega
theorem Ev {E:Nat→Bool} {nb m k:Nat} (h:k < nb):((List.range nb).map fun k=>AV.bool (decide (k < m) && E k)).getD k .any=.bool (decide (k < m) && E k):=by
 simp [h]
theorem gV.tb {c:Tb} {H G:List aa} {i kE kG k:Nat} (h:gV c H i kE kG (i + 1) (i + 1) G) (h1:k≤kE) (h2:k≤kG):Sn c H.length i k G:=by
 obtain ⟨ad,ve,vg,oe,og,hx,_,_,hL,hE,hG⟩:=h
 rcases hE with ⟨h0,_⟩ | ⟨_,ce,hce,rfl,rfl⟩
 ·omega
 rcases hG with ⟨h0,_⟩ | ⟨_,cg,hcg,rfl,rfl⟩
 ·omega
 refine ⟨ad .e,i + 1,ce,_,ad .g,i + 1,cg,_,?_,hL.get .e _ rfl,hL.get .g _ rfl,by omega,by omega,fun j m h0 hm Wd ZG=>?_⟩
 ·have:=hL.get .x _ rfl
  rwa [hx] at this
 obtain ⟨j,rfl⟩:=abu h0
 obtain ⟨m,rfl⟩:=abu hm
 have hj:j < i + 1:=by omega
 have Wd:m < c.b.length:=by omega
 have aX:∀ kk,k≤kk→m < if j < i then c.b.length else kk:=fun kk hk=>by
  split
  ·exact Wd
  ·have:j=i:=by omega
   omega
 have e1:=hL.get (.re j) _ (if_pos hj)
 have e2:=hL.get (.rg j) _ (if_pos hj)
 obtain ⟨g1,g2⟩:=pA (ad:=ad) (rr:=.re) (nb:=c.b.length) (cap:=ce) hj
 obtain ⟨g3,g4⟩:=pA (ad:=ad) (rr:=.rg) (nb:=c.b.length) (cap:=cg) hj
 refine ⟨⟨_,_,_,g1,g2,e1,by simpa using Wd,Ev Wd,?_⟩,_,_,_,g3,g4,e2,by simpa using Wd,Ev Wd,?_⟩
 ·have:=aX kE h1
  simp only [tN]
  rw [decide_eq_true this]
  simp [Tb.eB,Tb.tE]
 ·have:=aX kG h2
  simp only [tN]
  rw [decide_eq_true this]
  simp [Tb.gB]
end Go.aI
end
section
set_option maxRecDepth 100000
namespace Go.aI
open Go Go.Proofs Go.eJ
theorem JR (k:Nat):flat (List.replicate k AV.ag)=List.replicate k .ag:=by
 induction k with
 | zero=>rfl
 | succ k ih=>rw [aer,show flat (AV.ag::List.replicate k .ag)=.ag::flat (List.replicate k .ag) from rfl,ih]
theorem Ak (k:Nat):cP .ag k=List.replicate k .ag:=JR k
theorem oL {ad ad':Tg→Nat} {rr:Nat→Tg} {nb n cap:Nat} (h:∀ j,j < n→ad' (rr j)=ad (rr j)):ey ad' rr nb n cap=ey ad rr nb n cap:=by
 unfold ey
 congr 1
 exact aa5 fun j hj=>by rw [h j (aaP.1 hj)]
theorem JS {ad:Tg→Nat} {rr:Nat→Tg} {nb n cap:Nat} (h:n≤cap):(ey ad rr nb n cap).length=cap:=by simp [ey];omega
theorem tI {ad:Tg→Nat} {rr:Nat→Tg} {nb n cap m:Nat} (h:∀ j,j < n→ad (rr j) < m):aj m (ey ad rr nb n cap)=true:=by
 rw [aY]
 intro x hx
 rw [ey] at hx
 rcases aaO.1 hx with hx | hx
 ·obtain ⟨j,hj,rfl⟩:=aaq.1 hx
  have:=h j (aaP.1 hj)
  rw [ft];simpa using this
 ·rw [aa4 hx];rfl
theorem qL {ad:Tg→Nat} {rr:Nat→Tg} {nb n cap:Nat}:ey ad rr nb (n + 1) cap=(List.range n).map (fun j=>AV.aW (ad (rr j)) 0 nb nb)++[.aW (ad (rr n)) 0 nb nb]++List.replicate (cap - (n + 1)) .ag:=by
 rw [ey,acr,abf];rfl
theorem B7 {ad:Tg→Nat} {rr:Nat→Tg} {nb n cap:Nat} (h:n < cap):ah (ey ad rr nb n cap) n [.aW (ad (rr n)) 0 nb nb]=ey ad rr nb (n + 1) cap:=by
 rw [qL,ey]
 have hl:((List.range n).map (fun j=>AV.aW (ad (rr j)) 0 nb nb)).length=n:=by simp
 generalize (List.range n).map (fun j=>AV.aW (ad (rr j)) 0 nb nb)=X at hl ⊢
 subst hl
 have e:cap - X.length=(cap - (X.length + 1)) + 1:=by omega
 rw [e,aer]
 simp [ah]
theorem Ew {ad:Tg→Nat} {rr:Nat→Tg} {nb n:Nat}:((List.range n).map (fun j=>AV.aW (ad (rr j)) 0 nb nb)).map AV.ab=(List.range n).map (fun j=>AV.aW (ad (rr j)) 0 nb nb):=by
 rw [ab9];rfl
theorem GI {ad:Tg→Nat} {rr:Nat→Tg} {nb n cap:Nat}:(ey ad rr nb n cap).take n=(List.range n).map (fun j=>AV.aW (ad (rr j)) 0 nb nb):=by
 rw [ey,aaA (by simp),aaw (by simp)]
theorem RV.facts {ad:Tg→Nat} {nb:Nat} {tt:Tg} {rr:Nat→Tg} {v:AV} {o:Option aa} {n:Nat} (h:RV ad nb tt rr v o n):v.one=true∧v.val=true∧v.ab=v∧v.cells=[v]:=by
 rcases h with ⟨_,rfl,_⟩ | ⟨_,cap,_,rfl,_⟩ <;> exact ⟨rfl,rfl,rfl,rfl⟩
theorem apW {n0:Nat} {G:List aa} {ad:Tg→Nat} {ct:Tg→Option aa} {nb n:Nat} {tt:Tg} {rr:Nat→Tg} {v:AV} (dG:∀ j,rr j≠tt) (hL:B6 n0 G ad ct) (GS:n0≤G.length) (hv:RV ad nb tt rr v (ct tt) n)
 (Ko:∀ j,j≤n→ct (rr j)≠none) (hb:(n + 1) * 24≤140737488355328) (o:Nat) {K:AV→List aa→Prop}
 (hK:∀ ad' v' o' G',(∀ s,s≠tt→ad' s=ad s)→B6 n0 G' ad' (fun s=>if s=tt then o' else ct s)→RV ad' nb tt rr v' o' (n + 1)→G'.take n0=G.take n0→G.length≤G'.length→v'.a9 G'.length=true→K v' G') :
 fp n0 1 24 .ag v (.ap o [.aW (ad (rr n)) 0 nb nb]) G K:=by
 have aX:∀ j,j≤n→ad (rr j) < G.length:=fun j hj=>hL.lt (Ko j hj)
 have jt:qP 1 [.aW (ad (rr n)) 0 nb nb]:=fun y hy=>by rw [aav.1 hy];exact ⟨rfl,rfl⟩
 have fl:(flat [AV.aW (ad (rr n)) 0 nb nb]).map AV.ab=[.aW (ad (rr n)) 0 nb nb]:=rfl
 unfold fp jh
 simp only [dn]
 rcases hv with ⟨rfl,rfl,he⟩ | ⟨hn,cap,cE,rfl,he⟩
 ·dsimp only
  refine ⟨fun _ _ _ _ e=>(by cases e),jt,by simp,fun e=>(by cases e),fun _ cap hc _=>?_⟩
  rw [fl,Ak]
  have e1:[AV.aW (ad (rr 0)) 0 nb nb]++List.replicate (cap - [AV.aW (ad (rr 0)) 0 nb nb].length) .ag=ey ad rr nb (0 + 1) cap:=by rw [qL];rfl
  rw [e1]
  have e2:ey (fun s=>if s=tt then G.length else ad s) rr nb (0 + 1) cap=ey ad rr nb (0 + 1) cap:=oL fun j _=>if_neg (dG j)
  refine ⟨tI fun j hj=>by have:=aX j (by omega);omega,hK _ _ _ _ (fun s hs=>if_neg hs) (hL.new GS tt _) (.inr ⟨by omega,cap,by simpa using hc,?_,?_⟩) ?_ (by simp) (by rw [ft];simp)⟩
  ·simp
  ·rw [e2]
  ·rw [aaA GS]
 ·have hg:=hL.get tt _ he
  have ht:ct tt≠none:=by rw [he];simp
  have bm:=hL.lt ht
  simp only [hg]
  refine ⟨fun _ _ _ _ e=>by cases e;exact hL.lo tt ht,jt,by simpa using hb,cE,by rw [JS cE];simp,fun hroom=>?_,fun jN dC hc _=>?_⟩
  ·rw [fl]
   have hroom:n < cap:=by simp only [aeG] at hroom;omega
   rw [show 0 + n * 1=n by omega,B7 hroom]
   refine ⟨by rw [bM,cZ,ft];simpa using aX n (oN _),hK ad _ _ _ (fun s _=>rfl) (hL.set ht _) (.inr ⟨by omega,cap,hroom,rfl,rfl⟩) (aaM (hL.lo tt ht)) (by simp) (by rw [ft];simpa using bm)⟩
  ·rw [fl,Ak,List.drop_zero,aaW,GI,Ew]
   have e1:(List.range n).map (fun j=>AV.aW (ad (rr j)) 0 nb nb)++[.aW (ad (rr n)) 0 nb nb]++List.replicate (dC - (n + [AV.aW (ad (rr n)) 0 nb nb].length)) .ag=ey ad rr nb (n + 1) dC:=by rw [qL];rfl
   rw [e1]
   have e2:ey (fun s=>if s=tt then G.length else ad s) rr nb (n + 1) dC=ey ad rr nb (n + 1) dC:=oL fun j _=>if_neg (dG j)
   refine ⟨tI fun j hj=>by have:=aX j (by omega);omega,hK _ _ _ _ (fun s hs=>if_neg hs) (hL.new GS tt _) (.inr ⟨by omega,dC,by simpa using hc,?_,?_⟩) ?_ (by simp) (by rw [ft];simp)⟩
   ·simp
   ·rw [e2]
   ·rw [aaA GS]
theorem JT (E:Nat→Bool) (nb:Nat):aa.cells (flat (List.replicate nb (bP (.bool false))))=gJ E nb 0:=by
 rw [gJ]
 congr 1
 induction nb with
 | zero=>rfl
 | succ k ih=>
   rw [acr,abf,← ih,List.replicate_succ']
   unfold flat
   rw [acK];rfl
theorem Nk (E:Nat→Bool) {nb m:Nat} (h:m < nb):(((List.range nb).map fun k=>AV.bool (decide (k < m) && E k)).set m (.bool (E m)))=(List.range nb).map fun k=>AV.bool (decide (k < m + 1) && E k):=by
 apply adF
 ·simp
 ·intro j h1 h2
  rw [List.getElem_set]
  split
  ·rename_i e
   subst e;simp
  ·rename_i e
   have:decide (j < m)=decide (j < m + 1):=by
    by_cases hj:j < m
    ·rw [decide_eq_true hj,decide_eq_true (by omega)]
    ·rw [decide_eq_false hj,decide_eq_false (by omega)]
   simp [this]
end Go.aI
end
section
set_option maxRecDepth 100000
namespace Go.aI
open Go Go.Proofs Go.eJ
theorem RV.congr {ad ad':Tg→Nat} {nb:Nat} {tt:Tg} {rr:Nat→Tg} {v:AV} {o:Option aa} {n:Nat} (h:RV ad nb tt rr v o n) (h1:ad' tt=ad tt) (h2:∀ j,j < n→ad' (rr j)=ad (rr j)):RV ad' nb tt rr v o n:=by
 rcases h with h | ⟨hn,cap,hc,e1,e2⟩
 ·exact .inl h
 ·exact .inr ⟨hn,cap,hc,by rw [h1];exact e1,by rw [oL h2];exact e2⟩
def gK (c:Tb) (ve vg:AV):aa:=.cells [.ap 0 (ints c.ps),.ap 0 (ints c.ss),.ap 0 (dj c.a),.ap 0 (dj c.b),ve,vg]
theorem Nl {nb:Nat} (E:Nat→Bool) (h:nb≤100000000) (G:List aa) (K:AV→List aa→Prop):fj 1 1 (.bool false) (.int .i64 (nb:Int)) G K=K (.aW G.length 0 nb nb) (G++[gJ E nb 0]):=by
 have hb:aj (G.length + 1) (flat (List.replicate nb (bP (.bool false))))=true:=by
  rw [aY]
  intro x hx
  obtain ⟨y,hy,hxy⟩:=aen.1 hx
  rw [aa4 hy] at hxy
  rw [aav.1 hxy];rfl
 simp only [fj,tN,eq_iff_iff,JT E nb]
 exact ⟨fun h=>h.2.2.2,fun hk=>⟨by omega,by omega,hb,hk⟩⟩
theorem gV.aeb {c:Tb} {H G:List aa} {i:Nat} (h:gV c H i 0 0 i i G) (hi:i≤100000000) {ve vg:AV} (hX:G[H.length]?=some (gK c ve vg)) {K:AV→List aa→Prop}
 (hK:∀ v' G2,G2[H.length]?=some (gK c ve vg)→(v'.one=true∧v'.val=true∧v'.ab=v'∧v'.cells=[v'])→v'.a9 G2.length=true→H.length≤G2.length→gV c H i 0 0 (i + 1) i (G2.set H.length (gK c v' vg))→K v' G2) :
 fp H.length 1 24 .ag ve (.ap 0 [.aW G.length 0 c.b.length c.b.length]) (G++[gJ (c.eB i) c.b.length 0]) K:=by
 obtain ⟨ad,ve0,vg0,oe,og,hx,hH,hlen,hL,hE,hG⟩:=h
 have Qz:=hL.get .x _ rfl
 rw [hx,hX] at Qz
 simp only [gK,Option.some.injEq,aa.cells.injEq,List.cons.injEq,true_and,and_true] at Qz
 obtain ⟨rfl,rfl⟩:=Qz
 have Q7:=hL.new hlen (.re i) (gJ (c.eB i) c.b.length 0)
 have hE1:RV (fun s=>if s=Tg.re i then G.length else ad s) c.b.length .e .re ve oe i:=hE.congr (by simp) (fun j hj=>by simp;omega)
 have key:=apW (n:=i) (tt:=.e) (rr:=.re) (nb:=c.b.length) (v:=ve) (fun j=>by simp) Q7 (by simp;omega) (by simpa [ja] using hE1) (fun j hj=>by
  by_cases e:j=i
  ·simp [e]
  ·simp [e,ja];omega) (by omega) 0 (K:=K) (fun ad' v' o' G2 ha hl hr ht vt mj=>?_)
 ·rw [show (if Tg.re i=Tg.re i then G.length else ad (Tg.re i))=G.length from if_pos rfl] at key
  exact key
 have qN:ad' .x=H.length:=by rw [ha .x (by simp)];simp [hx]
 have Sp:=hl.get .x (gK c ve vg) (by simp [ja,gK])
 rw [qN] at Sp
 have qT:=hl.set (t:=.x) (by simp [ja]) (gK c v' vg)
 rw [qN] at qT
 have V9:H.length≤G2.length:=by simp at vt;omega
 refine hK v' G2 Sp hr.facts mj V9 ⟨ad',v',vg,o',og,qN,?_,by simpa using V9,qT.congr (fun t=>?_) (fun t _=>rfl),hr,hG.congr ?_ fun j hj=>?_⟩
 ·rw [aaM (oN _),ht,aaA hlen,hH]
 ·cases t with
  | x=>simp [ja,gK]
  | e=>simp [ja]
  | g=>simp [ja]
  | re j=>
    by_cases e:j=i
    ·subst e;simp [ja]
    ·by_cases e2:j < i
     ·simp [ja,e,e2,show j < i + 1 by omega]
     ·simp [ja,e,e2,show ¬ j < i + 1 by omega]
  | rg j=>simp [ja]
 ·rw [ha .g (by simp)];simp
 ·rw [ha (.rg j) (by simp)];simp
theorem gV.aed {c:Tb} {H G:List aa} {i:Nat} (h:gV c H i 0 0 (i + 1) i G) (hi:i≤100000000) {ve vg:AV} (hX:G[H.length]?=some (gK c ve vg)) {K:AV→List aa→Prop}
 (hK:∀ v' G2,G2[H.length]?=some (gK c ve vg)→(v'.one=true∧v'.val=true∧v'.ab=v'∧v'.cells=[v'])→v'.a9 G2.length=true→H.length≤G2.length→gV c H i 0 0 (i + 1) (i + 1) (G2.set H.length (gK c ve v'))→K v' G2) :
 fp H.length 1 24 .ag vg (.ap 0 [.aW G.length 0 c.b.length c.b.length]) (G++[gJ (c.gB i) c.b.length 0]) K:=by
 obtain ⟨ad,ve0,vg0,oe,og,hx,hH,hlen,hL,hE,hG⟩:=h
 have Qz:=hL.get .x _ rfl
 rw [hx,hX] at Qz
 simp only [gK,Option.some.injEq,aa.cells.injEq,List.cons.injEq,true_and,and_true] at Qz
 obtain ⟨rfl,rfl⟩:=Qz
 have Q7:=hL.new hlen (.rg i) (gJ (c.gB i) c.b.length 0)
 have hE1:RV (fun s=>if s=Tg.rg i then G.length else ad s) c.b.length .g .rg vg og i:=hG.congr (by simp) (fun j hj=>by simp;omega)
 have key:=apW (n:=i) (tt:=.g) (rr:=.rg) (nb:=c.b.length) (v:=vg) (fun j=>by simp) Q7 (by simp;omega) (by simpa [ja] using hE1) (fun j hj=>by
  by_cases e:j=i
  ·simp [e]
  ·simp [e,ja];omega) (by omega) 0 (K:=K) (fun ad' v' o' G2 ha hl hr ht vt mj=>?_)
 ·rw [show (if Tg.rg i=Tg.rg i then G.length else ad (Tg.rg i))=G.length from if_pos rfl] at key
  exact key
 have qN:ad' .x=H.length:=by rw [ha .x (by simp)];simp [hx]
 have Sp:=hl.get .x (gK c ve vg) (by simp [ja,gK])
 rw [qN] at Sp
 have qT:=hl.set (t:=.x) (by simp [ja]) (gK c ve v')
 rw [qN] at qT
 have V9:H.length≤G2.length:=by simp at vt;omega
 refine hK v' G2 Sp hr.facts mj V9 ⟨ad',ve,v',oe,o',qN,?_,by simpa using V9,qT.congr (fun t=>?_) (fun t _=>rfl),hE.congr ?_ fun j hj=>?_,hr⟩
 ·rw [aaM (oN _),ht,aaA hlen,hH]
 ·cases t with
  | x=>simp [ja,gK]
  | e=>simp [ja]
  | g=>simp [ja]
  | rg j=>
    by_cases e:j=i
    ·subst e;simp [ja]
    ·by_cases e2:j < i
     ·simp [ja,e,e2,show j < i + 1 by omega]
     ·simp [ja,e,e2,show ¬ j < i + 1 by omega]
  | re j=>simp [ja]
 ·rw [ha .e (by simp)];simp
 ·rw [ha (.re j) (by simp)];simp
theorem gV.aee {c:Tb} {H G:List aa} {i k kG:Nat} (h:gV c H i k kG (i + 1) (i + 1) G) (hk:k < c.b.length) :
 ∃ ie ce vg es r,G[H.length]?=some (gK c (.aW ie 0 (i + 1) ce) vg)∧G[ie]?=some (.cells es)∧es.getD i .any=.aW r 0 c.b.length c.b.length∧i < es.length∧
  G[r]?=some (gJ (c.eB i) c.b.length k)∧gV c H i (k + 1) kG (i + 1) (i + 1) (G.set r (gJ (c.eB i) c.b.length (k + 1))):=by
 obtain ⟨ad,ve,vg,oe,og,hx,hH,hlen,hL,hE,hG⟩:=h
 have hX:=hL.get .x _ rfl
 rw [hx] at hX
 have hE0:=hE
 rcases hE with ⟨h0,_⟩ | ⟨_,ce,hce,rfl,rfl⟩
 ·omega
 obtain ⟨g1,g2⟩:=pA (ad:=ad) (rr:=.re) (nb:=c.b.length) (cap:=ce) (show i < i + 1 by omega)
 have hr:=hL.get (.re i) _ (if_pos (show i < i + 1 by omega))
 simp only [aca,↓reduceIte] at hr
 have hct:ja c (i + 1) (i + 1) (.aW (ad .e) 0 (i + 1) ce) vg (some (.cells (ey ad .re c.b.length (i + 1) ce))) og (fun j=>gJ (c.eB j) c.b.length (if j < i then c.b.length else k)) (fun j=>gJ (c.gB j) c.b.length (if j < i then c.b.length else kG)) (.re i)≠none:=by simp [ja]
 have hs:=hL.set hct (gJ (c.eB i) c.b.length (k + 1))
 refine ⟨ad .e,ce,vg,_,ad (.re i),hX,hL.get .e _ rfl,g1,g2,hr,ad,_,vg,_,og,hx,?_,by simpa using hlen,hs.congr (fun t=>?_) (fun _ _=>rfl),hE0,hG⟩
 ·rw [aaM (hL.lo _ hct),hH]
 ·cases t with
  | re j=>
    by_cases e:j=i
    ·subst e;simp [ja]
    ·by_cases e2:j < i
     ·simp [ja,e,e2]
     ·simp [ja,e,show ¬ j < i + 1 by omega]
  | _=>simp [ja]
theorem gV.aef {c:Tb} {H G:List aa} {i k kE:Nat} (h:gV c H i kE k (i + 1) (i + 1) G) (hk:k < c.b.length) :
 ∃ ig cg ve es r,G[H.length]?=some (gK c ve (.aW ig 0 (i + 1) cg))∧G[ig]?=some (.cells es)∧es.getD i .any=.aW r 0 c.b.length c.b.length∧i < es.length∧
  G[r]?=some (gJ (c.gB i) c.b.length k)∧gV c H i kE (k + 1) (i + 1) (i + 1) (G.set r (gJ (c.gB i) c.b.length (k + 1))):=by
 obtain ⟨ad,ve,vg,oe,og,hx,hH,hlen,hL,hE,hG⟩:=h
 have hX:=hL.get .x _ rfl
 rw [hx] at hX
 have hG0:=hG
 rcases hG with ⟨h0,_⟩ | ⟨_,cg,hcg,rfl,rfl⟩
 ·omega
 obtain ⟨g1,g2⟩:=pA (ad:=ad) (rr:=.rg) (nb:=c.b.length) (cap:=cg) (show i < i + 1 by omega)
 have hr:=hL.get (.rg i) _ (if_pos (show i < i + 1 by omega))
 simp only [aca,↓reduceIte] at hr
 have hct:ja c (i + 1) (i + 1) ve (.aW (ad .g) 0 (i + 1) cg) oe (some (.cells (ey ad .rg c.b.length (i + 1) cg))) (fun j=>gJ (c.eB j) c.b.length (if j < i then c.b.length else kE)) (fun j=>gJ (c.gB j) c.b.length (if j < i then c.b.length else k)) (.rg i)≠none:=by simp [ja]
 have hs:=hL.set hct (gJ (c.gB i) c.b.length (k + 1))
 refine ⟨ad .g,cg,ve,_,ad (.rg i),hX,hL.get .g _ rfl,g1,g2,hr,ad,ve,_,oe,_,hx,?_,by simpa using hlen,hs.congr (fun t=>?_) (fun _ _=>rfl),hE,hG0⟩
 ·rw [aaM (hL.lo _ hct),hH]
 ·cases t with
  | rg j=>
    by_cases e:j=i
    ·subst e;simp [ja]
    ·by_cases e2:j < i
     ·simp [ja,e,e2]
     ·simp [ja,e,show ¬ j < i + 1 by omega]
  | _=>simp [ja]
theorem gV.full {c:Tb} {H G:List aa} {i:Nat} (h:gV c H i c.b.length c.b.length (i + 1) (i + 1) G):gV c H (i + 1) 0 0 (i + 1) (i + 1) G:=by
 obtain ⟨ad,ve,vg,oe,og,hx,hH,hlen,hL,hE,hG⟩:=h
 refine ⟨ad,ve,vg,oe,og,hx,hH,hlen,hL.congr (fun t=>?_) (fun _ _=>rfl),hE,hG⟩
 cases t with
 | re j=>
   by_cases e:j < i + 1
   ·simp [ja,e]
   ·simp [ja,e]
 | rg j=>
   by_cases e:j < i + 1
   ·simp [ja,e]
   ·simp [ja,e]
 | _=>simp [ja]
theorem gV.start (c:Tb) (H:List aa):gV c H 0 0 0 0 0 (H++[gK c .ag .ag]):=by
 refine ⟨fun _=>H.length,.ag,.ag,none,none,rfl,by simp,by simp,⟨fun t o ht=>?_,fun s t hs ht _=>?_,fun _ _=>oN _⟩,.inl ⟨rfl,rfl,rfl⟩,.inl ⟨rfl,rfl,rfl⟩⟩
 ·cases t <;> simp [ja] at ht
  subst ht;simp [gK]
 ·cases s <;> simp [ja] at hs
  cases t <;> simp [ja] at ht
  rfl
theorem gV.x {c:Tb} {H G:List aa} {i kE kG ne ng:Nat} (h:gV c H i kE kG ne ng G):∃ ve vg,G[H.length]?=some (gK c ve vg)∧ve.ab=ve∧vg.ab=vg:=by
 obtain ⟨ad,ve,vg,oe,og,hx,hH,hlen,hL,hE,hG⟩:=h
 have hX:=hL.get .x _ rfl
 rw [hx] at hX
 exact ⟨ve,vg,hX,hE.facts.2.2.1,hG.facts.2.2.1⟩
theorem gV.back {c:Tb} {H G:List aa} {i:Nat} (h:gV c H (i + 1) 0 0 (i + 1) (i + 1) G):gV c H i c.b.length c.b.length (i + 1) (i + 1) G:=by
 obtain ⟨ad,ve,vg,oe,og,hx,hH,hlen,hL,hE,hG⟩:=h
 refine ⟨ad,ve,vg,oe,og,hx,hH,hlen,hL.congr (fun t=>?_) (fun _ _=>rfl),hE,hG⟩
 cases t with
 | re j=>
   by_cases e:j < i + 1
   ·simp [ja,e]
   ·simp [ja,e]
 | rg j=>
   by_cases e:j < i + 1
   ·simp [ja,e]
   ·simp [ja,e]
 | _=>simp [ja]
theorem Ey (E:Nat→Bool) (nb m n:Nat):(gJ E nb m).a9 n=true:=by
 rw [gJ,aa.a9,aY]
 intro x hx
 obtain ⟨k,_,rfl⟩:=aaq.1 hx
 rfl
theorem gV.shut {c:Tb} {H G:List aa} {i kE kG ne ng:Nat} (h:gV c H i kE kG ne ng G):∃ G2,wG H.length G G.length G2∧gV c H i kE kG ne ng G2∧H.length < G.length:=by
 obtain ⟨ad,ve,vg,oe,og,hx,hH,hlen,hL,hE,hG⟩:=h
 have GQ:=hL.lt (t:=.x) (by simp [ja])
 rw [hx] at GQ
 refine ⟨_,hL.shut fun t o ht=>?_,⟨ad,ve,vg,oe,og,hx,by rw [GH,hH],by rw [tH];exact hlen,hL.j4,hE,hG⟩,GQ⟩
 have hrv:∀ {tt rr v oo n},RV ad c.b.length tt rr v oo n→ja c ne ng ve vg oe og (fun j=>gJ (c.eB j) c.b.length (if j < i then c.b.length else kE)) (fun j=>gJ (c.gB j) c.b.length (if j < i then c.b.length else kG)) tt=oo→(∀ j,j < n→ja c ne ng ve vg oe og (fun j=>gJ (c.eB j) c.b.length (if j < i then c.b.length else kE)) (fun j=>gJ (c.gB j) c.b.length (if j < i then c.b.length else kG)) (rr j)≠none)→
  v.a9 G.length=true∧∀ o,oo=some o→o.a9 G.length=true:=by
  intro tt rr v oo n h h1 h2
  rcases h with ⟨_,rfl,rfl⟩ | ⟨_,cap,hc,rfl,rfl⟩
  ·exact ⟨rfl,fun o h=>by cases h⟩
  ·have:=hL.lt (t:=tt) (by rw [h1];simp)
   refine ⟨by rw [ft];simpa using this,fun o h=>?_⟩
   cases h
   exact tI fun j hj=>hL.lt (h2 j hj)
 obtain ⟨e1,e2⟩:=hrv hE rfl (fun j hj=>by simp [ja,hj])
 obtain ⟨g1,g2⟩:=hrv hG rfl (fun j hj=>by simp [ja,hj])
 cases t with
 | x=>
   cases ht
   simp only [aa.a9,bM,cZ,cc,bb,pw,e1,g1,ab7]
 | e=>exact e2 o ht
 | g=>exact g2 o ht
 | re j=>
   simp only [ja] at ht
   split at ht <;> cases ht
   exact Ey _ _ _ _
 | rg j=>
   simp only [ja] at ht
   split at ht <;> cases ht
   exact Ey _ _ _ _
theorem Ib (a b c d:Nat):(AV.aW a b c d).val=true:=rfl
theorem Ez (a b c d:Nat):(AV.aW a b c d).cells.length=1:=rfl
theorem Al (a b c d:Nat):aV (AV.aW a b c d)=.aW a b c d:=rfl
theorem aeg (a b c d e f v:AV):ah [a,b,c,d,e,f] 4 [v]=[a,b,c,d,v,f]:=rfl
theorem aeh (a b c d e f v:AV):ah [a,b,c,d,e,f] 5 [v]=[a,b,c,d,e,v]:=rfl
theorem EA {E:Nat→Bool} {nb m:Nat} (h:m < nb) {r:Nat} {b:Bool} (hb:b=E m) {H:List aa} {K:List aa→Prop} (hK:K (H.set r (gJ E nb (m + 1)))):iw (some (gJ E nb m)) 1 r m (.bool b) H K:=by
 subst hb
 have hl:((List.range nb).map fun k=>AV.bool (decide (k < m) && E k)).length=nb:=by simp
 simp only [gJ,xc]
 refine ⟨rfl,rfl,by rw [hl];show m + 1≤nb;omega,rfl,rfl,?_⟩
 rw [show (AV.bool (E m)).cells.map AV.ab=[.bool (E m)] from rfl,kT _ _ _ (by rw [hl];exact h),Nk E h]
 exact hK
theorem EB {l:List Nd} (h:l≠[]):(jS l).ab=.ap 0 (dj l):=by
 cases l with
 | nil=>exact absurd rfl h
 | cons _ _=>rfl
theorem aei {ps ss:List Int} {A B:List Nd} (hA:A≠[]) (hB:B≠[]) (φ:AV→Prop):cw [.ag,.ag,.ag,.ag,.ag,.ag] [(0,2,eD ps ss),(2,1,jS A),(3,1,jS B)] φ=φ (.agg [.ap 0 (ints ps),.ap 0 (ints ss),.ap 0 (dj A),.ap 0 (dj B),.ag,.ag]):=by
 obtain ⟨q1,q2,q3,q4,q5,q6⟩:=aS ps ss
 obtain ⟨a1,a2,a3,_⟩:=qJ A
 obtain ⟨b1,b2,b3,_⟩:=qJ B
 have o1:(eD ps ss).cells=[.ap 0 (ints ps),.ap 0 (ints ss)]:=rfl
 simp [cw,gZ,a2,a3,b2,b3,q1,o1,ah,EB hA,EB hB]
 rfl
theorem pS0 (v:AV) (l:List IX):bh (IX.c v::l) (some 0)=none:=rfl
theorem uS0 (env:Env):cG env none=env:=rfl
theorem aao {c:Tb} (hc:c.Ok) {a b:T} (ha:c.a=bF a 0) (hb:c.b=bF b 0) (H:List aa) :
 jc Tryz.prog 137 [eD c.ps c.ss,a.av,b.av] H fun r H'=>r=.ptr H.length 0∧H'.take H.length=H∧Sn c H.length ((c.a.length:Int) - 1) c.b.length H':=by
 have R3:=hc.a.len
 have NJ:=hc.b.len
 have wa:c.a.length=wt a:=by rw [ha,ep]
 have wb:c.b.length=wt b:=by rw [hb,ep]
 refine So.2.Ua rfl ?_
 simp only [So,aJ]
 obtain ⟨q1,q2,q3,q4,q5,q6⟩:=aS c.ps c.ss
 simp +contextual only [bX,q1,sZ,Nat.reduceEqDiff,Nat.reduceAdd,↓reduceIte,reduceCtorEq]
 have na:jS []=.ag:=rfl
 refine af (aaf _ a (oN _) [] H (by simp;omega)) ?_
 rintro r G ⟨rfl,rfl⟩
 simp +contextual only [pS0,uS0,sZ,Nat.reduceEqDiff,Nat.reduceAdd,↓reduceIte,reduceCtorEq]
 refine af (aaf _ b (oN _) [] G (by simp;omega)) ?_
 rintro r G' ⟨rfl,rfl⟩
 simp +contextual only [pS0,uS0,List.length_nil,← ha,← hb,aei hc.a.ne hc.b.ne,pw,sZ,Nat.reduceEqDiff,↓reduceIte]
 refine iz c.a.length (fun i (G:List aa)=>gV c G' i 0 0 i i G) (fun i G=>[(7,.ptr G'.length 0),(8,.int .i64 i)]) (fun i G=>G) _ ⟨gV.start c G',jW _ _ _⟩ fun i G hi hI=>?_
 obtain ⟨ve,vg,hX,hve,hvg⟩:=hI.x
 by_cases h1:i < c.a.length
 rotate_left
 ·have l1:decide ((i:Int) < c.a.length)=false:=decide_eq_false (by omega)
  rw [gK] at hX
  simp +contextual only [kz,hX,ew,l1,List.getD_cons_succ,List.getD_cons_zero,sZ,Nat.reduceEqDiff,Nat.reduceAdd,Nat.reduceLT,↓reduceIte,reduceCtorEq]
  have dG:c.a.length≠0:=fun e=>hc.a.ne (aaK.1 e)
  obtain ⟨n,hn⟩:=Nat.exists_eq_succ_of_ne_zero dG
  have nF:i=n + 1:=by omega
  subst nF
  obtain ⟨G2,s1,s2,s3⟩:=hI.shut
  refine fun _=>⟨G.length,G2,by omega,s1,_,le_refl _,by rw [qo];simpa using s3,rfl,?_,?_⟩
  ·obtain ⟨ad,ve,vg,oe,og,hx,hH,_⟩:=s2;exact hH
  ·have:=s2.back.tb (k:=c.b.length) (oN _) (oN _)
   rw [show (c.a.length:Int) - 1=(n:Int) by omega]
   exact this
 have l1:decide ((i:Int) < c.a.length)=true:=decide_eq_true (by omega)
 have hX':=hX
 rw [gK] at hX'
 have Co:G'.length < G.length:=(aaz.1 hX).1
 have Sp:(G++[gJ (c.eB i) c.b.length 0])[G'.length]?=some (.cells [.ap 0 (ints c.ps),.ap 0 (ints c.ss),.ap 0 (dj c.a),.ap 0 (dj c.b),ve,vg]):=by rw [tK Co];exact hX
 simp +contextual only [w9,hX',Sp,hve,Ib,Ez,Al,Nl (c.eB i) NJ,ew,l1,List.getD_cons_succ,List.getD_cons_zero,sZ,Nat.reduceEqDiff,Nat.reduceAdd,Nat.reduceLT,↓reduceIte]
 intro _
 refine ⟨?_,?_⟩ <;> (
  refine hI.aeb (by omega) hX fun v' G2 hg2 hv' dU wA hO=>?_
  obtain ⟨w1,w2,w3,w4⟩:=hv'
  rw [gK] at hg2
  simp +contextual only [kz,hg2,w1,w2,w3,w4,dU,aeg,sZ,Nat.reduceEqDiff,Nat.reduceAdd,Nat.reduceLeDiff,↓reduceIte]
  rw [gK] at hO
  generalize G2.set G'.length (aa.cells [.ap 0 (ints c.ps),.ap 0 (ints c.ss),.ap 0 (dj c.a),.ap 0 (dj c.b),v',vg])=G3 at hO ⊢
  clear hg2 dU wA w1 w2 w3 w4 Sp hX' hX hI Co
  obtain ⟨ve3,vg3,hX3,aiF,aek⟩:=hO.x
  have qT:G'.length < G3.length:=(aaz.1 hX3).1
  have VI:=hX3
  rw [gK] at VI
  have hX4:(G3++[gJ (c.gB i) c.b.length 0])[G'.length]?=some (.cells [.ap 0 (ints c.ps),.ap 0 (ints c.ss),.ap 0 (dj c.a),.ap 0 (dj c.b),ve3,vg3]):=by rw [tK qT];exact hX3
  simp +contextual only [w9,VI,hX4,aek,Ib,Ez,Al,Nl (c.gB i) NJ,ew,List.getD_cons_succ,List.getD_cons_zero,sZ,Nat.reduceEqDiff,Nat.reduceAdd,Nat.reduceLT,↓reduceIte]
  refine ⟨?_,?_⟩ <;> (
   refine hO.aed (by omega) hX3 fun v4 G4 hg4 hv4 hb4 hl4 hO4=>?_
   obtain ⟨w1,w2,w3,w4⟩:=hv4
   rw [gK] at hg4
   simp +contextual only [kz,hg4,w1,w2,w3,w4,hb4,aeh,sZ,Nat.reduceEqDiff,Nat.reduceAdd,↓reduceIte]
   rw [gK] at hO4
   generalize G4.set G'.length (aa.cells [.ap 0 (ints c.ps),.ap 0 (ints c.ss),.ap 0 (dj c.a),.ap 0 (dj c.b),ve3,v4])=G5 at hO4 ⊢
   clear hg4 hb4 hl4 w1 w2 w3 w4 hX4 VI hX3 hO qT
   refine iz c.b.length (fun k (G:List aa)=>gV c G' i k k (i + 1) (i + 1) G) (fun k G=>[(7,.ptr G'.length 0),(8,.int .i64 i),(9,.int .i64 k)]) (fun k G=>G) _ ⟨hO4,jW _ _ _⟩ fun k G6 hk hI6=>?_
   clear hO4
   by_cases h2:k < c.b.length
   ·have l2:decide ((k:Int) < c.b.length)=true:=decide_eq_true (by omega)
    obtain ⟨ie,ce,vg6,es,r,x1,x2,x3,x4,x5,x6⟩:=hI6.aee h2
    have x1':=x1
    rw [gK] at x1'
    have ci:(0:Int)≤i∧(i:Int) < c.a.length:=⟨by omega,by omega⟩
    have ck:(0:Int)≤k∧(k:Int) < c.b.length:=⟨by omega,by omega⟩
    simp +contextual only [x1',l2,ew,List.getD_cons_succ,List.getD_cons_zero,sZ,Nat.reduceEqDiff,Nat.reduceAdd,Nat.reduceLT,↓reduceIte]
    intro _
    refine qK (ad8 hc (hI6.tb (oN _) (oN _)) ci ck) fun u hu=>?_
    have eu:u=c.eB i k:=by rw [abn,hu,Tb.eB,decide_eq_true_eq];rfl
    simp +contextual only [x1',x2,x3,x5,sm,aaW,tN,List.getD_cons_succ,List.getD_cons_zero,sZ,Nat.reduceEqDiff,Nat.reduceAdd,Nat.reduceLT,↓reduceIte,reduceCtorEq]
    refine ⟨⟨by omega,by omega⟩,x4,ck,EA h2 eu ?_⟩
    generalize G6.set r (gJ (c.eB i) c.b.length (k + 1))=G7 at x6 ⊢
    clear x1 x2 x3 x4 x5 x1' hI6
    obtain ⟨ig,cg,ve7,es7,r7,y1,y2,y3,y4,y5,y6⟩:=x6.aef h2
    rw [gK] at y1
    simp +contextual only [sZ,Nat.reduceEqDiff,↓reduceIte]
    refine qK (ad9 hc (x6.tb (Nat.le_succ _) (oN _)) ci ck) fun u2 hu2=>?_
    have eu2:u2=c.gB i k:=by rw [abn,hu2,Tb.gB];simp
    simp +contextual only [y1,y2,y3,y5,sm,aaW,tN,List.getD_cons_succ,List.getD_cons_zero,sZ,Nat.reduceEqDiff,Nat.reduceAdd,Nat.reduceLT,↓reduceIte,reduceCtorEq]
    refine ⟨⟨by omega,by omega⟩,y4,ck,EA h2 eu2 ?_⟩
    simp +contextual only [sZ,Nat.reduceEqDiff,↓reduceIte]
    exact ⟨k + 1,_,⟨h2,y6⟩,by omega,rO (by rw [au k (by omega)]) rfl⟩
   ·have l2:decide ((k:Int) < c.b.length)=false:=decide_eq_false (by omega)
    obtain ⟨ve6,vg6,x1,_,_⟩:=hI6.x
    rw [gK] at x1
    simp +contextual only [x1,l2,ew,List.getD_cons_succ,List.getD_cons_zero,sZ,Nat.reduceEqDiff,Nat.reduceAdd,Nat.reduceLT,↓reduceIte]
    have NO:k=c.b.length:=by omega
    subst NO
    exact fun _=>⟨i + 1,G6,⟨h1,hI6.full⟩,by omega,rO (by rw [au i (by omega)]) rfl⟩))
end Go.aI
end
section
set_option maxRecDepth 100000
set_option maxHeartbeats 0
namespace Go.aI
open Go Go.Proofs
end Go.aI
end
section
set_option maxRecDepth 100000
namespace Go.aI
open Go Go.Proofs
end Go.aI
end
section
set_option maxRecDepth 100000
namespace Go.aI
open Go Go.Proofs
def keeps (l l':List T):Prop:=∀ i,(l.getD i default).k≠0→l'.getD i default=l.getD i default
end Go.aI
end
section
set_option maxRecDepth 100000
namespace Go.aI
open Go Go.Proofs
end Go.aI
end
section
set_option maxRecDepth 100000
namespace Go.aI
open Go Go.Proofs
end Go.aI
end
section
set_option maxRecDepth 100000
namespace Go.aI
open Go Go.Proofs
mutual
def GJ:T→List Int→List (List Int)
 | .mk _ _ l,p=>p::xX l 0 p
def xX:List T→Nat→List Int→List (List Int)
 | [],_,_=>[]
 | x::r,i,p=>GJ x (p++[(i:Int)])++xX r (i + 1) p
end
mutual
theorem Am:∀ (t:T) (p:List Int),((GJ t p).length:Int)=t.sz
 | .mk k n l,p=>by simp only [GJ,List.length_cons,T.sz];have:=qM l 0 p;omega
theorem qM:∀ (l:List T) (i:Nat) (p:List Int),((xX l i p).length:Int)=x7 l
 | [],_,_=>by simp [xX,x7]
 | x::r,i,p=>by
   simp only [xX,aap,x7]
   have h1:=Am x (p++[(i:Int)])
   have h2:=qM r (i + 1) p
   omega
end
theorem Ic:∀ {l:List T} {y:T},y∈l→y.dp≤FX l
 | x::r,y,h=>by
   simp only [FX]
   rcases aan.1 h with rfl | h
   ·omega
   ·have:=Ic h;omega
theorem T.aar (t:T):t.dp=1 + FX t.l:=by cases t;rfl
end Go.aI
end
section
set_option maxRecDepth 100000
namespace Go.aI
open Go Go.Proofs Go.eJ
end Go.aI
end
section
set_option maxRecDepth 100000
namespace Go.aI
open Go Go.Proofs Go.eJ
theorem EC:∀ {l:List T} {y:T},y∈l→y.sz≤x7 l
 | x::r,y,h=>by
   have h0:∀ l:List T,0≤x7 l:=fun l=>by
    have:=qM l 0 []
    omega
   have h1:0≤x.sz:=by have:=Am x [];omega
   have:=h0 r
   simp only [x7]
   rcases aan.1 h with rfl | h
   ·omega
   ·have:=EC h;omega
theorem Nm {t y:T} (h:t.tree=true) (hy:y∈t.l):y.tree=true:=by
 obtain ⟨h1,h2,h3⟩:=(T.iD t).1 h
 have a:=EC hy
 have b:=Ic hy
 refine (T.iD y).2 ⟨?_,?_,(kU h3).2 y hy⟩
 ·have:t.sz=1 + x7 t.l:=by cases t;rfl
  omega
 ·have:=T.aar t;omega
end Go.aI
end
section
set_option maxRecDepth 100000
namespace Go.aI
open Go Go.Proofs Go.eJ
structure Tt (ps:List Int) (t:T):Prop where
 tree:t.tree=true
 all:yD (fun n=>0≤n∧n < ps.length) t
theorem Tt.Vj {ps:List Int} {t x:T} (h:Tt ps t) (hx:x∈t.l):Tt ps x:=⟨Nm h.tree hx,h.all.mem hx⟩
theorem tJ {ps:List Int} {t:T} (h:Tt ps t):VG ps (bF t 0):=by
 have hw:wt t≤2000:=by have:=kX (l:=[t]) (by simpa using h.tree);simpa [fw] using this
 have iJ:=Es (p:=fun x=>Tt ps x∧wt x≤2000) (fun t ht x hx=>⟨ht.1.Vj hx,by have:=cH hx;omega⟩) t 0 ⟨h,hw⟩
 have hnp:=(B3 t [] (fun i hi=>by simp at hi)).1
 simp only [List.nil_append,List.length_nil] at hnp
 have hat:∀ i:Nat,i < (bF t 0).length→Tt ps (nt (bF t 0) i)∧wt (nt (bF t 0) i)≤2000:=fun i hi=>by
  have:=iJ _ (abC hi)
  unfold nt
  rw [tN,oM,Nq hi];exact this
 refine ⟨fun e=>?_,by rw [ep];omega,hnp,fun i hi=>?_,fun i hi=>?_,fun i hi h2=>(hat i hi).1.all.op h2⟩
 ·have:=ep t 0
  rw [e] at this
  have:=dx t
  simp at *;omega
 ·have h1:=congrArg List.length (hnp i hi).1
  rw [abx] at h1
  have:=gh (nt (bF t 0) i).l
  have:=xm (nt (bF t 0) i)
  have:=(hat i hi).2
  omega
 ·have hs:=((T.iD _).1 (hat i hi).1.tree).2.2
  rw [T.fI] at hs
  simp only [Sr,aaN,abz,Bool.and_eq_false_iff,decide_eq_false_iff_not] at hs
  have:=hs.1.1.2
  omega
theorem Sq {ps ss:List Int} (hv:Va ps ss) {a b:T} (ha:Tt ps a) (hb:Tt ps b):Tb.Ok ⟨ps,ss,bF a 0,bF b 0⟩:=⟨hv,tJ ha,tJ hb⟩
theorem vP (t:T):nt (bF t 0) ((bF t 0).length - 1:Int)=t:=by
 have:=(B3 t [] (fun i hi=>by simp at hi)).2
 simp only [List.nil_append,List.length_nil,aaQ] at this
 have hw:=dx t
 rw [ep]
 rw [show ((wt t:Nat):Int) - 1=((wt t - 1:Nat):Int) by omega]
 exact this
theorem c78 {ps ss:List Int} (hv:Va ps ss) {a b:T} (ha:Tt ps a) (hb:Tt ps b):Pure Tryz.prog 78 [eD ps ss,a.av,b.av] (.bool (Gk ps ss a b)):=by
 refine fun H=>k78.2.w8 rfl ?_
 simp only [k78,aJ]
 obtain ⟨q1,q2,q3,q4,q5,q6⟩:=aS ps ss
 simp +contextual only [bX,q1,q4,sZ,Nat.reduceEqDiff,Nat.reduceAdd,↓reduceIte,reduceCtorEq]
 have jt:=Sq hv ha hb
 refine zw (oN _) (aao jt rfl rfl H) ?_
 rintro r G ⟨rfl,hG,ie,ne,ce,ese,ig,ng,cg,esg,h⟩
 have la:(bF a 0).length=wt a:=ep a 0
 have lb:(bF b 0).length=wt b:=ep b 0
 have pa:=dx a
 have pb:=dx b
 have wa:=(tJ ha).len
 have wb:=(tJ hb).len
 obtain ⟨_,r',bs',xb',e1',e2',e3',e4',e5',e6'⟩:=h.rows ((bF a 0).length - 1) ((bF b 0).length - 1) (by omega) (by omega) (by show _ < ((bF b 0).length:Int);omega) (.inr ⟨rfl,by show _ < ((bF b 0).length:Int);omega⟩)
 have w1:IntKind.i64.wrap (((bF a 0).length:Int) - 1)=((bF a 0).length:Int) - 1:=cR _ (by omega)
 have w2:IntKind.i64.wrap (((bF b 0).length:Int) - 1)=((bF b 0).length:Int) - 1:=cR _ (by omega)
 have e1:esg.getD (((bF a 0).length:Int) - 1).toNat .any=.aW r' 0 (bF b 0).length (bF b 0).length:=e1'
 have hn:((bF a 0).length:Int) - 1 < ng:=h.ng
 simp +contextual only [kz,h.x,h.g,ew,List.getD_cons_succ,List.getD_cons_zero,sm,aaW,w1,w2,e1,e3',e5',sZ,Nat.reduceEqDiff,Nat.reduceAdd,Nat.reduceLT,↓reduceIte,reduceCtorEq]
 refine ⟨⟨by omega,hn⟩,e2',⟨by omega,by omega⟩,e4',H.length,H,oN _,sX hG rfl,_,le_refl _,rfl,?_,rfl⟩
 congr 1
 rw [abn,e6',sd]
 show R (iW ps ss) (nt (bF a 0) _) (nt (bF b 0) _)↔_
 rw [vP,vP]
theorem c80 {ps ss:List Int} (hv:Va ps ss) {a b:T} (ha:Tt ps a) (hb:Tt ps b):Pure Tryz.prog 80 [eD ps ss,a.av,b.av] (.bool (Vd ps ss a b)):=by
 refine fun H=>k80.2.w8 rfl ?_
 simp only [k80,aJ]
 obtain ⟨q1,q2,q3,q4,q5,q6⟩:=aS ps ss
 simp +contextual only [bX,q1,q4,sZ,Nat.reduceEqDiff,Nat.reduceAdd,↓reduceIte,reduceCtorEq]
 have jt:=Sq hv ha hb
 refine zw (oN _) (aao jt rfl rfl H) ?_
 rintro r G ⟨rfl,hG,ie,ne,ce,ese,ig,ng,cg,esg,h⟩
 have la:(bF a 0).length=wt a:=ep a 0
 have lb:(bF b 0).length=wt b:=ep b 0
 have pa:=dx a
 have pb:=dx b
 have wa:=(tJ ha).len
 have wb:=(tJ hb).len
 obtain ⟨⟨r',bs',xb',e1',e2',e3',e4',e5',e6'⟩,_⟩:=h.rows ((bF a 0).length - 1) ((bF b 0).length - 1) (by omega) (by omega) (by show _ < ((bF b 0).length:Int);omega) (.inr ⟨rfl,by show _ < ((bF b 0).length:Int);omega⟩)
 have w1:IntKind.i64.wrap (((bF a 0).length:Int) - 1)=((bF a 0).length:Int) - 1:=cR _ (by omega)
 have w2:IntKind.i64.wrap (((bF b 0).length:Int) - 1)=((bF b 0).length:Int) - 1:=cR _ (by omega)
 have e1:ese.getD (((bF a 0).length:Int) - 1).toNat .any=.aW r' 0 (bF b 0).length (bF b 0).length:=e1'
 have hn:((bF a 0).length:Int) - 1 < ne:=h.ne
 simp +contextual only [kz,h.x,h.e,ew,List.getD_cons_succ,List.getD_cons_zero,sm,aaW,w1,w2,e1,e3',e5',sZ,Nat.reduceEqDiff,Nat.reduceAdd,Nat.reduceLT,↓reduceIte,reduceCtorEq]
 refine ⟨⟨by omega,hn⟩,e2',⟨by omega,by omega⟩,e4',H.length,H,oN _,sX hG rfl,_,le_refl _,rfl,?_,rfl⟩
 congr 1
 rw [abn,e6',BI]
 show E (iW ps ss) (nt (bF a 0) _) (nt (bF b 0) _)↔_
 rw [vP,vP]
end Go.aI
end
section
set_option maxRecDepth 100000
namespace Go.aI
open Go Go.Proofs Go.eJ
theorem c77 (s:Sg) (ps ss:List Int) (hs:Sj s ps ss) (l:List T):Pure Tryz.prog 77 [s.av,eD ps ss,.ap 0 (cQ l)] (.int .i64 (eN s ps ss l)):=by
 refine fun H=>k77.2.calls rfl ?_
 simp only [k77,aJ]
 obtain ⟨q1,q2,q3,q4,q5,q6⟩:=aS ps ss
 simp +contextual only [aF,q1,q4,bX,sZ,Nat.reduceEqDiff,Nat.reduceAdd,↓reduceIte,reduceCtorEq]
 refine ae (aae s ps ss hs) ?_
 by_cases h0:jl s ps ss=0
 ·simp +contextual only [h0,sZ,Nat.reduceEqDiff,↓reduceIte]
  refine aC l.length (fun i=>l.all (fun t=>t.tree && qC s t)=(l.drop i).all fun t=>t.tree && qC s t) (fun i=>[(2,.ap 0 (cQ l)),(3,.ai s.av),(8,.int .i64 i)]) (fun _=>H) ⟨rfl,aB _ _ _⟩ fun i hi hI=>?_
  by_cases yc:(i:Int) < l.length
  ·have aX:i < l.length:=by omega
   rw [z5 aX] at hI
   simp +contextual only [aF,yc,decide_true,sZ,Nat.reduceEqDiff,↓reduceIte]
   refine fun _=>⟨aX,aE (c55 s _) ?_⟩
   cases ht:((l.getD i default).tree && qC s (l.getD i default)) with
   | false=>
     rw [ht,aeT] at hI
     simp +contextual only [sZ,Nat.reduceEqDiff,↓reduceIte,reduceCtorEq]
     refine bc rfl ?_
     rw [eN,if_pos h0,hI,if_neg (by simp)]
   | true=>
     rw [ht,aeX] at hI
     simp +contextual only [sZ,Nat.reduceEqDiff,↓reduceIte]
     exact ⟨i + 1,⟨aX,hI⟩,by omega,aD (by rw [au i (by omega)]) rfl⟩
  ·simp +contextual only [yc,decide_false,sZ,Nat.reduceEqDiff,↓reduceIte,reduceCtorEq]
   rw [aaF (by omega)] at hI
   refine fun _=>bc rfl ?_
   rw [eN,if_pos h0,hI];rfl
 ·simp +contextual only [h0,sZ,Nat.reduceEqDiff,↓reduceIte,reduceCtorEq]
  refine bc rfl ?_
  rw [eN,if_neg h0]
theorem Nn {s:Sg} {ps ss:List Int} {l:List T} (h:eN s ps ss l=0):Va ps ss∧∀ t∈l,Tt ps t:=by
 have:=pn h
 exact ⟨this.ord.va,fun t ht=>⟨this.tree t ht,this.all t ht⟩⟩
theorem c21 (s:Sg) (ps ss:List Int) (hs:Sj s ps ss) (a b:T):Pure Tryz.prog 21 [s.av,eD ps ss,a.av,b.av] (.tuple [.bool (if eN s ps ss [a,b]=0 then Gk ps ss a b else false),.int .i64 (eN s ps ss [a,b])]):=by
 refine fun H=>k21.2.calls rfl ?_
 simp only [k21,aJ]
 obtain ⟨q1,q2,q3,q4,q5,q6⟩:=aS ps ss
 simp +contextual only [aF,q1,q4,bX,sZ,Nat.reduceEqDiff,Nat.reduceAdd,↓reduceIte,reduceCtorEq]
 refine ae (c77 s ps ss hs [a,b]) ?_
 by_cases h0:eN s ps ss [a,b]=0
 ·obtain ⟨hv,ht⟩:=Nn h0
  rw [if_pos h0]
  simp +contextual only [q4,bX,h0,sZ,Nat.reduceEqDiff,Nat.reduceAdd,↓reduceIte]
  refine ae (c78 hv (ht a (by simp)) (ht b (by simp))) ?_
  simp +contextual only [sZ,Nat.reduceEqDiff,↓reduceIte,reduceCtorEq]
  exact uF (by decide) aaC ⟨rfl,rfl⟩ rfl rfl ⟨by rw [h0];rfl,rfl⟩
 ·rw [if_neg h0]
  simp +contextual only [h0,sZ,Nat.reduceEqDiff,↓reduceIte,reduceCtorEq]
  exact uF (by decide) aaC ⟨rfl,rfl⟩ rfl rfl ⟨rfl,rfl⟩
theorem c23 (s:Sg) (ps ss:List Int) (hs:Sj s ps ss) (a b:T):Pure Tryz.prog 23 [s.av,eD ps ss,a.av,b.av] (.tuple [.bool (if eN s ps ss [a,b]=0 then Vd ps ss a b else false),.int .i64 (eN s ps ss [a,b])]):=by
 refine fun H=>k23.2.calls rfl ?_
 simp only [k23,aJ]
 obtain ⟨q1,q2,q3,q4,q5,q6⟩:=aS ps ss
 simp +contextual only [aF,q1,q4,bX,sZ,Nat.reduceEqDiff,Nat.reduceAdd,↓reduceIte,reduceCtorEq]
 refine ae (c77 s ps ss hs [a,b]) ?_
 by_cases h0:eN s ps ss [a,b]=0
 ·obtain ⟨hv,ht⟩:=Nn h0
  rw [if_pos h0]
  simp +contextual only [q4,bX,h0,sZ,Nat.reduceEqDiff,Nat.reduceAdd,↓reduceIte]
  refine ae (c80 hv (ht a (by simp)) (ht b (by simp))) ?_
  simp +contextual only [sZ,Nat.reduceEqDiff,↓reduceIte,reduceCtorEq]
  exact uF (by decide) aaC ⟨rfl,rfl⟩ rfl rfl ⟨by rw [h0];rfl,rfl⟩
 ·rw [if_neg h0]
  simp +contextual only [h0,sZ,Nat.reduceEqDiff,↓reduceIte,reduceCtorEq]
  exact uF (by decide) aaC ⟨rfl,rfl⟩ rfl rfl ⟨rfl,rfl⟩
end Go.aI
end
section
set_option maxRecDepth 100000
set_option maxHeartbeats 0
namespace Go.aI
open Go Go.Proofs
noncomputable def k3:=aJ Tryz.call3 Tryz.func3 Tryz.ntmps3 [(0,0,1),(0,1,1),(0,2,1),(0,3,1)] [(0,[4,5,6,7]),(1,[4,5,6,7,18]),(2,[8]),(3,[4,5,6,7,29]),(4,[8]),(5,[4,5,6,7,9,10]),(6,[4,5,6,7,9,10,11,12]),(7,[4,5,6,7,9,10,11,12,13,14]),(8,[4,5,9,10,11,12,13,14,15,16]),(9,[8])] [(9,(.take 0 true (.take 1 true (.take 2 true (.take 3 true (.take 4 true (.take 5 true (.take 6 true (.take 7 true (.take 8 true (.take 9 true (.take 10 true (.take 11 true (.take 12 true (.take 13 true (.take 14 true (.take 15 true (.take 16 true (.take 17 true (.take 18 true (.take 19 true (.take 20 true (.take 21 true (.take 22 true (.take 23 true (.take 24 true (.take 25 true (.take 26 true (.take 27 true .done)))))))))))))))))))))))))))))]
end Go.aI
end
section
set_option maxRecDepth 100000
set_option maxHeartbeats 1000000
namespace Go.aI
open Go Go.Proofs Go.eJ
theorem c3 (s:Sg) (ps ss:List Int) (a b:T):Pure Tryz.prog 3 [s.av,eD ps ss,a.av,b.av] (.bool true):=by
 refine fun H=>k3.2.calls rfl ?_
 simp only [k3,aJ]
 obtain ⟨q1,q2,q3,q4,q5,q6⟩:=aS ps ss
 simp +contextual only [aF,q1,sZ,Nat.reduceEqDiff,Nat.reduceAdd,↓reduceIte,reduceCtorEq]
 refine ae c17 ?_
 have fin:b8 H.length [.t 8] [(8,.bool true)] H fun r H'=>r=.bool true∧H'=H:=bc rfl rfl
 simp +contextual only [aF,q4,bX,sZ,Nat.reduceEqDiff,Nat.reduceAdd,↓reduceIte]
 refine af (c18 s ps ss _) ?_
 rintro r G ⟨⟨b1,rfl,oQ⟩,rfl⟩
 cases b1 with
 | false=>simp +contextual only [sZ,Nat.reduceEqDiff,↓reduceIte,reduceCtorEq];exact fin
 | true=>
 have hs:=oQ rfl
 simp +contextual only [sZ,Nat.reduceEqDiff,Nat.reduceAdd,↓reduceIte]
 refine af (c19 40 [a,b] G) ?_
 rintro r G' ⟨⟨b2,rfl⟩,rfl⟩
 cases b2 with
 | false=>simp +contextual only [sZ,Nat.reduceEqDiff,↓reduceIte,reduceCtorEq];exact fin
 | true=>
 simp +contextual only [aF,q4,bX,sZ,Nat.reduceEqDiff,Nat.reduceAdd,↓reduceIte]
 refine ae (c20 s ps ss a b) ?_
 simp +contextual only [aF,q4,bX,sZ,Nat.reduceEqDiff,Nat.reduceAdd,Nat.reduceLT,↓reduceIte]
 refine ae (c21 s ps ss hs a b) ?_
 simp +contextual only [aF,q4,bX,sZ,Nat.reduceEqDiff,Nat.reduceAdd,Nat.reduceLT,↓reduceIte]
 refine ae (c22 s ps ss a b) ?_
 simp +contextual only [aF,q4,bX,sZ,Nat.reduceEqDiff,Nat.reduceAdd,Nat.reduceLT,↓reduceIte]
 refine ae (c23 s ps ss hs a b) ?_
 simp +contextual only [aF,q4,bX,sZ,Nat.reduceEqDiff,Nat.reduceAdd,Nat.reduceLT,↓reduceIte]
 refine aE (c24 s ps ss) ?_
 simp +contextual only [aF,q4,bX,sZ,Nat.reduceEqDiff,↓reduceIte]
 refine aE (aae s ps ss hs) ?_
 simp +contextual only [sZ,Nat.reduceEqDiff,↓reduceIte,reduceCtorEq]
 exact fin
end Go.aI
end
section
set_option maxRecDepth 100000
namespace Go.aI
open Go Go.RowKit Go.eJ
section
variable {H:Type} {enc:TypeId×Value→H} {P:Program} {w:World} {base:Nat} {sp:Nat→Bool} {held:Bool}
def Rd {H:Type} (enc:TypeId×Value→H) (P:Program) (w:World) (base:Nat) (sp:Nat→Bool) (held:Bool) {α:Type} (t:TypeId) (g:α→AV) (R:DataW H→α→Prop):Prop:=
 ∀ (fuel:Nat) (cs:List Value) (x:DataW H×List MemPlace),DataW.trod enc P w base sp held fuel t cs=some x→∃ a,aN (fZ w) [] cs (g a).cells∧R x.1 a
theorem No {ti:TypeId} (h:P.underlying ti=some (.int .i64)):Rd enc P w base sp held ti (fun n:Int=>.int .i64 n) (fun _ _=>True):=by
 intro fuel cs x hx
 obtain ⟨k,rfl,_,_⟩:=DataW.trod_int h hx
 exact ⟨k,.cons _ _ _ _ (.int _ _) .nil,trivial⟩
theorem Np {ti:TypeId} (h:P.underlying ti=some .string):Rd enc P w base sp held ti (fun s:ByteArray=>.str s) (fun _ _=>True):=by
 intro fuel cs x hx
 obtain ⟨k,rfl,_,_⟩:=DataW.trod_string h hx
 exact ⟨k,.cons _ _ _ _ (.str _) .nil,trivial⟩
def ED {α:Type} (d:DataW H) (l:List α):Prop:=match d with | .slice es _=>l.length=es.length | _=>l=[]
theorem xY {α:Type} [Inhabited α] {te tl:TypeId} {g:α→AV} {R:DataW H→α→Prop} {e:Nat} (hl:P.underlying tl=some (.slice te)) (hc:P.cellsOf te=e) (he:0 < e) (h:Rd enc P w base sp held te g R) :
 Rd enc P w base sp held tl (fun l:List α=>.ap 0 (l.map g)) ED:=by
 intro fuel cs x hx
 rcases DataW.trod_slice hl hx with ⟨rfl,rfl⟩ | ⟨a,len,cap,elems,rest,m,hm,rfl,rfl,hb,hle,cE,Sz,j5,_,_⟩
 ·exact ⟨[],.cons _ _ _ _ aT.ag.drop .nil,rfl⟩
 ·rw [hc] at j5
  have hex:∀ i,i < len→∃ t:α,∃ cs',w.cells? base (a.add (i * e)) e=some cs'∧aN (fZ w) [] cs' (g t).cells:=by
   intro i hi
   have:=j5 i hi
   rw [Nq (by omega)] at this
   obtain ⟨cs',k1,k2⟩:=Option.bind_eq_some_iff.1 this
   obtain ⟨t,ht,_⟩:=h _ _ _ k2
   exact ⟨t,cs',k1,ht⟩
  have hf:∃ f:Nat→α,∀ i,i < len→∃ cs',w.cells? base (a.add (i * e)) e=some cs'∧aN (fZ w) [] cs' (g (f i)).cells:=by
   refine ⟨fun i=>if hi:i < len then Classical.choose (hex i hi) else default,fun i hi=>?_⟩
   simp only [dif_pos hi]
   exact Classical.choose_spec (hex i hi)
  obtain ⟨f,hf⟩:=hf
  refine ⟨(List.range len).map f,.cons _ _ _ _ ?_ .nil,by simp [ED,Sz]⟩
  show aT (fZ w) [] _ (.ap 0 (((List.range len).map f).map g))
  rw [ab9]
  refine zE (e:=e) (base:=base) he hle cE (fun i=>if hi:i < len then Classical.choose (hf i hi) else []) _ fun i hi=>?_
  simp only [dif_pos hi]
  exact Classical.choose_spec (hf i hi)
structure so (P:Program) (ti ts tis tss top tops tsig:TypeId):Prop where
 int:P.underlying ti=some (.int .i64)
 str:P.underlying ts=some .string
 ints:P.underlying tis=some (.slice ti)
 strs:P.underlying tss=some (.slice ts)
 op:∃ f0 f1 f2:Field,P.underlying top=some (.struct #[f0,f1,f2])∧f0.type=ts∧f0.offset=0∧f1.type=tis∧f1.offset=1∧f2.type=ti∧f2.offset=2
 ops:P.underlying tops=some (.slice top)
 sig:∃ f0 f1:Field,P.underlying tsig=some (.struct #[f0,f1])∧f0.type=tss∧f0.offset=0∧f1.type=tops∧f1.offset=1
 c:P.cellsOf ti=1∧P.cellsOf ts=1∧P.cellsOf tis=1∧P.cellsOf tss=1∧P.cellsOf top=3∧P.cellsOf tops=1∧P.cellsOf tsig=2
variable {ti ts tis tss top tops tsig:TypeId}
theorem kJ {v:List Value} {x:AV} (h:aN (fZ w) [] v [x]):∃ u,v=[u]∧aT (fZ w) [] u x:=by
 cases h with
 | cons v x vs xs h t=>cases t;exact ⟨_,rfl,h⟩
theorem B8 (S:so P ti ts tis tss top tops tsig):Rd enc P w base sp held tis (fun l:List Int=>.ap 0 (ints l)) ED:=xY S.ints S.c.1 (by decide) (No S.int)
theorem QP (S:so P ti ts tis tss top tops tsig):Rd enc P w base sp held tss (fun l:List ByteArray=>.ap 0 (strs l)) ED:=xY S.strs S.c.2.1 (by decide) (Np S.str)
theorem aas (S:so P ti ts tis tss top tops tsig):Rd enc P w base sp held top iG.av (fun _ _=>True):=by
 intro fuel cs x h
 obtain ⟨f0,f1,f2,hu,h0,o0,h1,o1,h2,o2⟩:=S.op
 obtain ⟨c1,c2,c3,c4,c5,c6,c7⟩:=S.c
 obtain ⟨xs,m,rfl,rfl,hlen,fS,hf⟩:=DataW.trod_struct hu h
 have g0:=hf 0 f0 rfl
 have g1:=hf 1 f1 rfl
 have g2:=hf 2 f2 rfl
 rw [h0,o0,c2] at g0
 rw [h1,o1,c3] at g1
 rw [h2,o2,c1] at g2
 simp at fS
 rw [c5] at hlen
 match cs,hlen with
 | [a,b,c],_=>
   have e0:xs[0]?=some xs[0]:=by simp [fS]
   have e1:xs[1]?=some xs[1]:=by simp [fS]
   have e2:xs[2]?=some xs[2]:=by simp [fS]
   rw [e0] at g0;rw [e1] at g1;rw [e2] at g2
   obtain ⟨nm,r0,_⟩:=Np S.str _ _ _ g0
   obtain ⟨ar,r1,_⟩:=B8 S _ _ _ g1
   obtain ⟨re,r2,_⟩:=No S.int _ _ _ g2
   obtain ⟨_,q0,r0⟩:=kJ r0
   obtain ⟨_,q1,r1⟩:=kJ r1
   obtain ⟨_,q2,r2⟩:=kJ r2
   simp at q0 q1 q2
   subst q0 q1 q2
   exact ⟨⟨nm,ar,re⟩,.cons _ _ _ _ r0 (.cons _ _ _ _ r1 (.cons _ _ _ _ r2 .nil)),trivial⟩
theorem VJ (S:so P ti ts tis tss top tops tsig):Rd enc P w base sp held tops (fun l:List iG=>.ap 0 (pE l)) ED:=xY S.ops S.c.2.2.2.2.1 (by decide) (aas S)
theorem VK (S:so P ti ts tis tss top tops tsig):Rd enc P w base sp held tsig Sg.av (fun _ _=>True):=by
 intro fuel cs x h
 obtain ⟨f0,f1,hu,h0,o0,h1,o1⟩:=S.sig
 obtain ⟨c1,c2,c3,c4,c5,c6,c7⟩:=S.c
 obtain ⟨xs,m,rfl,rfl,hlen,fS,hf⟩:=DataW.trod_struct hu h
 have g0:=hf 0 f0 rfl
 have g1:=hf 1 f1 rfl
 rw [h0,o0,c4] at g0
 rw [h1,o1,c6] at g1
 simp at fS
 rw [c7] at hlen
 match cs,hlen with
 | [a,b],_=>
   have e0:xs[0]?=some xs[0]:=by simp [fS]
   have e1:xs[1]?=some xs[1]:=by simp [fS]
   rw [e0] at g0;rw [e1] at g1
   obtain ⟨nm,r0,_⟩:=QP S _ _ _ g0
   obtain ⟨ar,r1,_⟩:=VJ S _ _ _ g1
   obtain ⟨_,q0,r0⟩:=kJ r0
   obtain ⟨_,q1,r1⟩:=kJ r1
   simp at q0 q1
   subst q0 q1
   exact ⟨⟨nm,ar⟩,.cons _ _ _ _ r0 (.cons _ _ _ _ r1 .nil),trivial⟩
theorem QQ (S:so P ti ts tis tss top tops tsig) {r:Reach} {b0:Nat} {v:Value} {d:DataW H} {ps:List MemPlace} (lK:Value.okWide P w r b0 tsig v) (hd:DataW.Trod enc P w base sp held tsig v d ps):∃ s:Sg,aT (fZ w) [] v s.av:=by
 obtain ⟨f0,f1,hu,_⟩:=S.sig
 obtain ⟨cs,rfl,_⟩:=WideShapes.okWide_struct hu lK
 obtain ⟨fuel,hf⟩:=hd
 obtain ⟨o,h1,_⟩:=VK S _ _ _ hf
 refine ⟨o,?_⟩
 have:aT (fZ w) [] (.agg cs.toList.toArray) o.av:=.agg _ _ h1
 simpa using this
structure VL (P:Program) (tis tod:TypeId):Prop where
 od:∃ f0 f1:Field,P.underlying tod=some (.struct #[f0,f1])∧f0.type=tis∧f0.offset=0∧f1.type=tis∧f1.offset=1
 c:P.cellsOf tod=2
theorem aat (S:so P ti ts tis tss top tops tsig) {tod:TypeId} (O:VL P tis tod):Rd enc P w base sp held tod (fun o:List Int×List Int=>eD o.1 o.2) (fun _ _=>True):=by
 intro fuel cs x h
 obtain ⟨f0,f1,hu,h0,o0,h1,o1⟩:=O.od
 obtain ⟨c1,c2,c3,c4,c5,c6,c7⟩:=S.c
 obtain ⟨xs,m,rfl,rfl,hlen,fS,hf⟩:=DataW.trod_struct hu h
 have g0:=hf 0 f0 rfl
 have g1:=hf 1 f1 rfl
 rw [h0,o0,c3] at g0
 rw [h1,o1,c3] at g1
 simp at fS
 rw [O.c] at hlen
 match cs,hlen with
 | [a,b],_=>
   have e0:xs[0]?=some xs[0]:=by simp [fS]
   have e1:xs[1]?=some xs[1]:=by simp [fS]
   rw [e0] at g0;rw [e1] at g1
   obtain ⟨nm,r0,_⟩:=B8 S _ _ _ g0
   obtain ⟨ar,r1,_⟩:=B8 S _ _ _ g1
   obtain ⟨_,q0,r0⟩:=kJ r0
   obtain ⟨_,q1,r1⟩:=kJ r1
   simp at q0 q1
   subst q0 q1
   exact ⟨(nm,ar),.cons _ _ _ _ r0 (.cons _ _ _ _ r1 .nil),trivial⟩
theorem QR (S:so P ti ts tis tss top tops tsig) {tod:TypeId} (O:VL P tis tod) {r:Reach} {b0:Nat} {v:Value} {d:DataW H} {ps:List MemPlace} (lK:Value.okWide P w r b0 tod v) (hd:DataW.Trod enc P w base sp held tod v d ps):∃ pl st:List Int,aT (fZ w) [] v (eD pl st):=by
 obtain ⟨f0,f1,hu,_⟩:=O.od
 obtain ⟨cs,rfl,_⟩:=WideShapes.okWide_struct hu lK
 obtain ⟨fuel,hf⟩:=hd
 obtain ⟨o,h1,_⟩:=aat S O _ _ _ hf
 refine ⟨o.1,o.2,?_⟩
 have:aT (fZ w) [] (.agg cs.toList.toArray) (eD o.1 o.2):=.agg _ _ h1
 simpa using this
end
end Go.aI
end
section
set_option maxRecDepth 100000
namespace Go.Proofs.YtljchnfgjdjobaaGreat
open Go
theorem VM:laidOutB Tryz.checked.prog=true:=by kernel_rfl
theorem VN:mapsRowed Tryz.checked.prog=true:=by kernel_rfl
theorem QS:Tryz.checked.prog.stopsHeard=true:=by kernel_rfl
theorem QT:Tryz.checked.prog.mayEnter=true:=by kernel_rfl
theorem QU:Tryz.checked.prog.liftsFinal=false:=by kernel_rfl
end Go.Proofs.YtljchnfgjdjobaaGreat
end
