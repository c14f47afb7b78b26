/- Part 13 of 19 of the proof. -/
import Derived.Test.YtljchnfgjdjobaaGreatUal
import Derived.Test.YtljchnfgjdjobaaGreatUak
import Derived.Test.YtljchnfgjdjobaaGreatUai
import Derived.Test.YtljchnfgjdjobaaGreatUag
import Derived.KernelRfl
import Derived.Test.YtljchnfgjdjobaaGreatUac
set_option linter.unusedVariables false
set_option linter.unusedSimpArgs false
set_option linter.defProp false
set_option linter.unusedSectionVars false
section
set_option maxRecDepth 100000
namespace Go.aI
open Go Go.Proofs Go.eJ
def eh:AV:=.agg [.fT,.fn (.func 183) [] [],.fn (.func 184) [] [],.fn (.func 185) [] [],.fn (.func 186) [] []]
theorem aco (φ:AV→Prop):cw [.fT,.fT,.fT,.fT,.fT] [(1,1,.fn (.func 183) [] []),(2,1,.fn (.func 184) [] []),(3,1,.fn (.func 185) [] []),(4,1,.fn (.func 186) [] [])] φ=φ eh:=by
 simp only [cw,gZ,eq_iff_iff]
 constructor
 ·rintro ⟨_,_,_,_,_,_,_,_,_,_,_,_,h⟩;exact h
 ·exact fun h=>⟨rfl,rfl,by decide,rfl,rfl,by decide,rfl,rfl,by decide,rfl,rfl,by decide,h⟩
theorem BH:eh.val=true∧eh.cells.length=5∧eh.cells.all AV.one=true∧(∀ n,aj n (eh.cells.map AV.ab)=true)∧ah [AV.fT,.fT,.fT,.fT,.fT] 0 (eh.cells.map AV.ab)=eh.cells:=⟨rfl,rfl,rfl,fun _=>rfl,rfl⟩
theorem Mf:Pure Tryz.prog 136 [] eh:=by
 refine fun H=>W6.2.calls rfl ?_
 simp only [W6,aJ]
 obtain ⟨r1,r2,r3,r4,r5⟩:=BH
 simp +contextual only [aco,r1,r2,r3,r4,r5,sZ,Nat.reduceAdd,↓reduceIte,reduceCtorEq]
 have e:cV (some (aa.cells eh.cells)) (some 5) 0=fun φ=>(5≤5∧φ eh):=rfl
 rw [e]
 exact ⟨oN _,RF (n0:=H.length) (by simp) rfl rfl ⟨rfl,rfl⟩⟩
theorem V7 (j:Nat) (f:AV) (h:eh.cells[j]?=some f) (hj:j < 5) (φ:AV→Prop) (hd:f.drop=f):bY 5 eh (.int .i64 (j:Int)) φ=φ f:=by
 simp only [bY,eh,tN,eq_iff_iff]
 have e:[AV.fT,.fn (.func 183) [] [],.fn (.func 184) [] [],.fn (.func 185) [] [],.fn (.func 186) [] []].getD j .any=f:=by
  rw [oM];show (eh.cells[j]?).getD .any=f;rw [h];rfl
 rw [e,hd]
 exact ⟨fun h=>h.2.2.2,fun h=>⟨rfl,by omega,hj,h⟩⟩
def Mg (c:Cx) (i k:Int):Prop:=∃ x∈c.kd i,E c.O (c.tm x) (c.tm k)∨R c.O (c.tm x) (c.tm k)
def tn (c:Cx) (i k:Int):Prop:=sr c k=true∧qy c k < qy c i∧∀ x∈c.kd k,R c.O (c.tm i) (c.tm x)
def iF (c:Cx) (i k:Int) (n:Nat):Prop:=(n=1∧Mg c i k)∨(n=2∧tn c i k)∨(n=3∧BD c i k)∨(n=4∧yF c i k)
structure HI (c:Cx) (i k:Int):Prop where
 r1:∀ H,Du c H→aw Tryz.prog 183 [.ptr c.d 0,.int .i64 i,.int .i64 k] H (jf c (Mg c i k) H)
 r2:∀ H,Du c H→aw Tryz.prog 184 [.ptr c.d 0,.int .i64 i,.int .i64 k] H (jf c (tn c i k) H)
 r3:∀ H,Du c H→aw Tryz.prog 185 [.ptr c.d 0,.int .i64 i,.int .i64 k] H (jf c (BD c i k) H)
 r4:∀ H,Du c H→aw Tryz.prog 186 [.ptr c.d 0,.int .i64 i,.int .i64 k] H (jf c (yF c i k) H)
theorem HI.at {c:Cx} {i k:Int} (h:HI c i k) {n:Nat} (h1:0 < n) (h2:n < 5) {H:List aa} (hD:Du c H):aw Tryz.prog (182 + n) [.ptr c.d 0,.int .i64 i,.int .i64 k] H (jf c (iF c i k n) H):=by
 have:n=1∨n=2∨n=3∨n=4:=by omega
 have key:∀ {Q Q':Prop} {f:Nat},aw Tryz.prog f [.ptr c.d 0,.int .i64 i,.int .i64 k] H (jf c Q H)→(Q↔Q')→aw Tryz.prog f [.ptr c.d 0,.int .i64 i,.int .i64 k] H (jf c Q' H):=by
  intro Q Q' f h e
  refine h.mono ?_
  rintro r H' ⟨b,h1,h2,h3,h4⟩
  exact ⟨b,h1,h2.trans e,h3,h4⟩
 rcases this with rfl | rfl | rfl | rfl
 ·exact key (h.r1 H hD) (by simp [iF])
 ·exact key (h.r2 H hD) (by simp [iF])
 ·exact key (h.r3 H hD) (by simp [iF])
 ·exact key (h.r4 H hD) (by simp [iF])
theorem acp {c:Cx} (hc:c.Ok) {i k:Int} (hi:c.dS i) (hr:HI c i k) {H:List aa} (hD:Du c H):aw Tryz.prog 134 (DQ c i k) H (jf c (sr c i=true∧∃ n,n < 5∧iF c i k n) H):=by
 refine W4.2.calls rfl ?_
 simp only [W4,aJ,DQ]
 simp +contextual only [sZ,Nat.reduceEqDiff,Nat.reduceAdd,↓reduceIte,reduceCtorEq]
 refine af (qz hc hi hD) ?_
 rintro r H1 ⟨rfl,rfl⟩
 simp +contextual only [dF,fN,fO,fP,sZ,Nat.reduceEqDiff,↓reduceIte,reduceCtorEq]
 cases hb:sr c i with
 | false=>
   simp +contextual only [Bool.not_false,sZ,↓reduceIte,reduceCtorEq]
   exact eI rfl ⟨fun h=>by simp at h,fun h=>absurd h.1 (by simp)⟩ (Up.refl c _) hD
 | true=>
   simp +contextual only [Bool.not_true,sZ]
   refine ae Mf ?_
   simp +contextual only [sZ,Nat.reduceEqDiff,↓reduceIte,reduceCtorEq]
   refine aM 5 (fun n (G:List aa)=>SD c H1 G∧∀ m,m < n→¬ iF c i k m)
    (fun n G=>[(0,.ai (.ptr c.d 0)),(1,.ai (.int .i64 i)),(2,.ai (.int .i64 k)),(18,eh),(19,.int .i64 n)]) (fun n G=>G) H1 ⟨⟨⟨hD,Up.refl c _⟩,fun m hm=>by omega⟩,aB _ _ _⟩ fun n G hn hI=>?_
   obtain ⟨hG,jN⟩:=hI
   by_cases h0:n=0
   ·subst h0
    have e0:=V7 0 .fT rfl (by decide)
    have d1:decide (((0:Nat):Int) < 5)=true:=rfl
    have d2:decide ((0:Int) < ((0:Nat):Int))=false:=rfl
    simp +contextual only [mV,e0 _ rfl,d1,d2,sZ,Nat.reduceEqDiff,↓reduceIte,reduceCtorEq]
    refine ⟨1,G,⟨by omega,hG,fun m hm=>?_⟩,by omega,aD rfl rfl⟩
    intro h
    simp only [iF] at h
    omega
   ·by_cases h5:n < 5
    ·have hf:eh.cells[n]?=some (.fn (.func (182 + n)) [] []):=by
      have:n=1∨n=2∨n=3∨n=4:=by omega
      rcases this with rfl | rfl | rfl | rfl <;> rfl
     have en:=V7 n _ hf h5
     have d1:decide ((n:Int) < 5)=true:=decide_eq_true (by omega)
     have d2:decide ((0:Int) < n)=true:=decide_eq_true (by omega)
     simp +contextual only [mV,en _ rfl,d1,d2,sZ,Nat.reduceEqDiff,Nat.reduceAdd,↓reduceIte,reduceCtorEq]
     refine af (hr.at (by omega) h5 hG.1) ?_
     rintro r G' ⟨b,rfl,dU,hU,jQ⟩
     have eH:SD c H1 G':=⟨jQ,hG.2.trans hU⟩
     cases b with
     | true=>
       simp +contextual only [sZ,Nat.reduceEqDiff,↓reduceIte,reduceCtorEq]
       exact eI rfl ⟨fun _=>⟨rfl,n,h5,dU.1 rfl⟩,fun _=>rfl⟩ eH.2 eH.1
     | false=>
       simp +contextual only [sZ,Nat.reduceEqDiff,↓reduceIte,reduceCtorEq]
       refine ⟨n + 1,G',⟨by omega,eH,fun m hm=>?_⟩,by omega,aD (by rw [au n (by omega)]) rfl⟩
       by_cases e:m=n
       ·subst e;exact fun h=>absurd (dU.2 h) (by simp)
       ·exact jN m (by omega)
    ·have d1:decide ((n:Int) < 5)=false:=decide_eq_false (by omega)
     simp +contextual only [d1,sZ,Nat.reduceEqDiff,↓reduceIte,reduceCtorEq]
     exact eI rfl ⟨fun h=>by simp at h,fun ⟨_,m,hm,h⟩=>absurd h (jN m (by omega))⟩ hG.2 hG.1
theorem gR {f:Int→T} {s:Int} {l:List Int}:side s (l.map f)=(bp s l).map f:=by unfold side bp;split <;> simp
theorem J2.lx {f:Int→T} {G:T→T→Prop} (irr:∀ x,¬ G x x):∀ {a b:List Int} {n:Nat},J2 (fun x y=>f x=f y) a b n→(Lx G (a.map f) (b.map f)↔n < a.length∧(n=b.length∨G (f (a.getD n 0)) (f (b.getD n 0))))
 | [],b,n,h=>by simp [Lx]
 | x::r,[],n,h=>by
   have:=h.lb
   simp at this
   subst this
   simp [Lx]
 | x::r,y::s,0,h=>by
   have dG:¬ f x=f y:=h.no (by simp) (by simp)
   simp [Lx,dG]
 | x::r,y::s,m + 1,h=>by
   have heq:f x=f y:=h.eq 0 (by omega)
   have ih:=J2.lx irr (a:=r) (b:=s) (n:=m) ⟨by have:=h.la;simp at this;omega,by have:=h.lb;simp at this;omega,fun j hj=>h.eq (j + 1) (by omega),fun h1 h2=>h.no (by simpa using h1) (by simpa using h2)⟩
   simp only [List.map_cons,Lx,heq,true_and,List.length_cons,List.getD_cons_succ,Nat.add_lt_add_iff_right,Nat.add_right_cancel_iff]
   rw [ih]
   exact ⟨fun h=>by rcases h with h | h;exact h;exact absurd h (irr _),fun h=>.inl h⟩
theorem xr {Q:Int→Int→Prop}:∀ (a b:List Int),∃ n,J2 Q a b n
 | [],b=>⟨0,by simp,by simp,fun j h=>by omega,fun h=>by simp at h⟩
 | x::r,[]=>⟨0,by simp,by simp,fun j h=>by omega,fun _ h=>by simp at h⟩
 | x::r,y::s=>by
   by_cases hq:Q x y
   ·obtain ⟨n,h⟩:=xr (Q:=Q) r s
    refine ⟨n + 1,by have:=h.la;simp;omega,by have:=h.lb;simp;omega,fun j hj=>?_,fun h1 h2=>h.no (by simpa using h1) (by simpa using h2)⟩
    cases j with
    | zero=>exact hq
    | succ j=>exact h.eq j (by omega)
   ·exact ⟨0,by simp,by simp,fun j h=>by omega,fun _ _=>hq⟩
theorem tq {c:Cx} (hc:c.Ok) {i k:Int} (hi:c.dS i) (hk:c.dS k):(sr c i=true∧∃ n,n < 5∧iF c i k n)↔R c.O (c.tm i) (c.tm k):=by
 rw [pU,vJ hc hi,vJ hc hk]
 have hbi:sr c i=true↔(c.tm i).k=2:=by simp [sr]
 have Ge:sr c k=true↔(c.tm k).k=2:=by simp [sr]
 rw [hbi]
 refine and_congr_right fun hki=>?_
 have epi:qy c i=c.O.pl (c.tm i).n:=if_pos hki
 have esi:dE c i=c.O.sp (c.O.pl (c.tm i).n):=if_pos hki
 have lk:=(hc.kids k hk).1
 have li:=(hc.kids i hi).1
 have all:(∀ x∈c.kd k,R c.O (c.tm i) (c.tm x))↔∀ y∈(c.tm k).l,R c.O (c.tm i) y:=by rw [← lk];simp
 have sub:Mg c i k↔∃ x∈(c.tm i).l,E c.O x (c.tm k)∨R c.O x (c.tm k):=by
  rw [← li];unfold Mg
  constructor
  ·rintro ⟨x,hx,h⟩;exact ⟨_,aaq.2 ⟨x,hx,rfl⟩,h⟩
  ·rintro ⟨y,hy,h⟩;obtain ⟨x,hx,rfl⟩:=aaq.1 hy;exact ⟨x,hx,h⟩
 have lex:BD c i k↔(c.tm k).k=2∧c.O.pl (c.tm k).n=c.O.pl (c.tm i).n∧c.O.sp (c.O.pl (c.tm i).n)≠3∧(∀ y∈(c.tm k).l,R c.O (c.tm i) y)∧Lx (Gt c.O.sp) (side (c.O.sp (c.O.pl (c.tm i).n)) ((c.kd i).map (nf c))) (side (c.O.sp (c.O.pl (c.tm i).n)) ((c.kd k).map (nf c))):=by
  unfold BD
  rw [kW,all,← esi,gR,gR]
  obtain ⟨n,hn⟩:=xr (Q:=fun x y=>nf c x=nf c y) (bp (dE c i) (c.kd i)) (bp (dE c i) (c.kd k))
  have hlx:=J2.lx (G:=Gt c.O.sp) (fun x=>xj x) hn
  rw [hlx]
  constructor
  ·rintro ⟨⟨_,h1,h2⟩,h3,h4,m,hm,h5⟩
   have:=hm.UX hn
   subst this
   exact ⟨h1,h2.symm,h3,h4,h5⟩
  ·rintro ⟨h1,h2,h3,h4,h5⟩
   exact ⟨⟨hki,h1,h2.symm⟩,h3,h4,n,hn,h5⟩
 have mul:yF c i k↔(c.tm k).k=2∧c.O.pl (c.tm k).n=c.O.pl (c.tm i).n∧c.O.sp (c.O.pl (c.tm i).n)=3∧Mu (Gt c.O.sp) ((c.kd i).map (nf c)) ((c.kd k).map (nf c)):=by
  unfold yF
  rw [kW,← esi]
  exact ⟨fun ⟨⟨_,h1,h2⟩,h3⟩=>⟨h1,h2.symm,h3⟩,fun ⟨h1,h2,h3⟩=>⟨⟨hki,h1,h2.symm⟩,h3⟩⟩
 have pla:tn c i k↔(c.tm k).k=2∧c.O.pl (c.tm k).n < c.O.pl (c.tm i).n∧∀ y∈(c.tm k).l,R c.O (c.tm i) y:=by
  unfold tn
  rw [all,Ge,epi]
  refine and_congr_right fun h=>?_
  rw [show qy c k=c.O.pl (c.tm k).n from if_pos h]
 have e:(∃ n,n < 5∧iF c i k n)↔Mg c i k∨tn c i k∨BD c i k∨yF c i k:=by
  constructor
  ·rintro ⟨n,_,h | h | h | h⟩
   ·exact .inl h.2
   ·exact .inr (.inl h.2)
   ·exact .inr (.inr (.inl h.2))
   ·exact .inr (.inr (.inr h.2))
  ·rintro (h | h | h | h)
   ·exact ⟨1,by omega,.inl ⟨rfl,h⟩⟩
   ·exact ⟨2,by omega,.inr (.inl ⟨rfl,h⟩)⟩
   ·exact ⟨3,by omega,.inr (.inr (.inl ⟨rfl,h⟩))⟩
   ·exact ⟨4,by omega,.inr (.inr (.inr ⟨rfl,h⟩))⟩
 rw [e,sub,pla,lex,mul]
 refine or_congr_right ?_
 constructor
 ·rintro (⟨h1,h2⟩ | ⟨h1,h2⟩ | ⟨h1,h2⟩)
  ·exact ⟨h1,.inl h2⟩
  ·exact ⟨h1,.inr (.inl h2)⟩
  ·exact ⟨h1,.inr (.inr h2)⟩
 ·rintro ⟨h1,h2 | h2 | h2⟩
  ·exact .inl ⟨h1,h2⟩
  ·exact .inr (.inl ⟨h1,h2⟩)
  ·exact .inr (.inr ⟨h1,h2⟩)
theorem jf.iff {c:Cx} {Q Q':Prop} {f:Nat} {args:List AV} {H:List aa} (h:aw Tryz.prog f args H (jf c Q H)) (e:Q↔Q'):aw Tryz.prog f args H (jf c Q' H):=by
 refine h.mono ?_
 rintro r H' ⟨b,h1,h2,h3,h4⟩
 exact ⟨b,h1,h2.trans e,h3,h4⟩
theorem DY {c:Cx} (hc:c.Ok):∀ (N:Nat) (i k:Int),c.dS i→c.dS k→wt (c.tm i) + wt (c.tm k)≤N→kV c i k∧iP c i k:=by
 intro N
 induction N with
 | zero=>intro i k _ _ h;have:=dx (c.tm i);omega
 | succ N ih=>
 intro i k hi hk hN
 have hx:∀ {j:Int},c.dS j→∀ x∈c.kd j,c.dS x∧wt (c.tm x) < wt (c.tm j):=fun {j} hj x hx=>by
  have h1:=hc.kids j hj
  exact ⟨h1.2 x hx,cH (by rw [← h1.1];exact aaq.2 ⟨x,hx,rfl⟩)⟩
 have s1:∀ x∈c.kd i,∀ y∈c.kd k,kV c x y:=fun x h y h'=>(ih x y (hx hi x h).1 (hx hk y h').1 (by have:=(hx hi x h).2;have:=(hx hk y h').2;omega)).1
 have m1:∀ x∈c.kd i,∀ y∈c.kd k,iP c x y:=fun x h y h'=>(ih x y (hx hi x h).1 (hx hk y h').1 (by have:=(hx hi x h).2;have:=(hx hk y h').2;omega)).2
 have s2:∀ x∈c.kd i,kV c x k:=fun x h=>(ih x k (hx hi x h).1 hk (by have:=(hx hi x h).2;omega)).1
 have m2:∀ x∈c.kd i,iP c x k:=fun x h=>(ih x k (hx hi x h).1 hk (by have:=(hx hi x h).2;omega)).2
 have m3:∀ y∈c.kd k,iP c i y:=fun y h=>(ih i y hi (hx hk y h).1 (by have:=(hx hk y h).2;omega)).2
 refine ⟨c79 hc fun H hD=>acn hc hi hk s1 hD,c76 hc fun H hD=>jf.iff (acp hc hi ⟨fun H hD=>YR hc hi s2 m2 hD,fun H hD=>YT hc hi hk m3 hD,fun H hD=>YV hc hi hk m3 s1 m1 hD,fun H hD=>Y1 hc hi hk s1 m1 hD⟩ hD) (tq hc hi hk)⟩
theorem kD {c:Cx} (hc:c.Ok) {i k:Int} (hi:c.dS i) (hk:c.dS k):kV c i k:=(DY hc _ i k hi hk (oN _)).1
theorem kF {c:Cx} (hc:c.Ok) {i k:Int} (hi:c.dS i) (hk:c.dS k):iP c i k:=(DY hc _ i k hi hk (oN _)).2
end Go.aI
end
section
set_option maxRecDepth 100000
namespace Go.aI
open Go Go.Proofs Go.eJ
def EmT (nd:List Nd) (t:T) (i:Nat):Prop:=∀ j,j < wt t→nd[i + j]?=(xl t i)[j]?
def Mh (nd:List Nd) (l:List T) (i:Nat):Prop:=∀ j,j < fw l→nd[i + j]?=(de l i)[j]?
theorem EmT.head {nd:List Nd} {t:T} {i:Nat} (h:EmT nd t i):nd[i]?=some (t,aZ t.l (i + 1))∧Mh nd t.l (i + 1):=by
 have hw:=xm t
 constructor
 ·have:=h 0 (dx t)
  rw [pj] at this
  simpa using this
 ·intro j hj
  have:=h (j + 1) (by omega)
  rw [pj,List.getElem?_cons_succ] at this
  rw [← this];congr 1;omega
theorem Mh.cons {nd:List Nd} {x:T} {r:List T} {i:Nat} (h:Mh nd (x::r) i):EmT nd x i∧Mh nd r (i + wt x):=by
 constructor
 ·intro j hj
  have:=h j (by rw [fw];omega)
  rw [de,tK (by rw [rU];exact hj)] at this
  exact this
 ·intro j hj
  have:=h (wt x + j) (by rw [fw];omega)
  rw [de,aaE (by rw [rU];omega),rU] at this
  rw [show wt x + j - wt x=j by omega] at this
  rw [← this];congr 1;omega
theorem Mh.kids {nd:List Nd}:∀ {l:List T} {i:Nat},Mh nd l i→(aZ l i).map (fun k=>(nd.getD k.toNat default).1)=l∧∀ k∈aZ l i,0≤k∧k < nd.length
 | [],i,_=>⟨rfl,fun k h=>by simp [aZ] at h⟩
 | x::r,i,h=>by
   obtain ⟨h1,h2⟩:=h.cons
   obtain ⟨h3,h4⟩:=Mh.kids h2
   have h5:=h1.head.1
   have h6:=(aaz.1 h5).1
   refine ⟨?_,?_⟩
   ·rw [aZ,List.map_cons,h3]
    congr 1
    rw [oM,tN,h5];rfl
   ·intro k hk
    rw [aZ] at hk
    rcases aan.1 hk with rfl | hk
    ·omega
    ·exact h4 k hk
def Gd (nd:List Nd) (p:Int→Prop) (i:Nat):Prop:=∃ t,nd[i]?=some (t,aZ t.l (i + 1))∧Mh nd t.l (i + 1)∧yD p t
mutual
theorem gdT {nd:List Nd} {p:Int→Prop}:∀ (t:T) (i:Nat),EmT nd t i→yD p t→∀ j,j < wt t→Gd nd p (i + j)
 | .mk k n l,i,h,ha,j,hj=>by
   obtain ⟨h1,h2⟩:=h.head
   cases j with
   | zero=>exact ⟨_,h1,h2,ha⟩
   | succ j=>
     have:=gdL l (i + 1) h2 (fun x hx=>ha.mem hx) j (by rw [wt] at hj;omega)
     rw [show i + (j + 1)=i + 1 + j by omega];exact this
theorem gdL {nd:List Nd} {p:Int→Prop}:∀ (l:List T) (i:Nat),Mh nd l i→(∀ x∈l,yD p x)→∀ j,j < fw l→Gd nd p (i + j)
 | [],i,h,ha,j,hj=>by simp [fw] at hj
 | x::r,i,h,ha,j,hj=>by
   obtain ⟨h1,h2⟩:=h.cons
   by_cases hx:j < wt x
   ·exact gdT x i h1 (ha x aaB) j hx
   ·have:=gdL r (i + wt x) h2 (fun y hy=>ha y (aay _ hy)) (j - wt x) (by rw [fw] at hj;omega)
    rw [show i + j=i + wt x + (j - wt x) by omega];exact this
end
def gU (ps ss:List Int) (ts:List T) (n:Nat):Cx:=⟨ps,ss,de ts 0,n + 2,n,n + 1⟩
theorem Qk (ts:List T):Mh (de ts 0) ts 0:=fun j _=>by rw [aaQ]
theorem RY {ps ss:List Int} (hv:Va ps ss) {ts:List T} (dG:ts≠[]) (hw:fw ts≤100000000) (ha:∀ t∈ts,yD (fun n=>0≤n∧n < ps.length) t) (n:Nat):(gU ps ss ts n).Ok:=by
 have hl:(de ts 0).length=fw ts:=iE ts 0
 have gd:∀ i,(gU ps ss ts n).dS i→∃ t,(de ts 0).getD i.toNat default=(t,aZ t.l (i.toNat + 1))∧Mh (de ts 0) t.l (i.toNat + 1)∧yD (fun n=>0≤n∧n < ps.length) t:=by
  intro i hi
  have lM:i.toNat < fw ts:=by have:=hi.1;have:=hi.2;simp only [gU] at *;omega
  obtain ⟨t,h1,h2,h3⟩:=gdL ts 0 (Qk ts) ha i.toNat lM
  rw [aaQ] at h1 h2
  exact ⟨t,by rw [oM,h1];rfl,h2,h3⟩
 refine ⟨hv,?_,by simp [gU],by simp [gU],by simp [gU],fun i hi=>?_,fun i hi=>?_,fun i hi hk=>?_⟩
 ·intro e
  have e:de ts 0=[]:=e
  rw [e] at hl
  have:=gh ts
  have h0:ts.length=0:=by simp at hl;omega
  exact dG (aaK.1 h0)
 ·obtain ⟨t,h1,h2,h3⟩:=gd i hi
  show ((de ts 0).getD i.toNat default).2.length≤_
  rw [h1,cI]
  by_cases h0:t.l=[]
  ·rw [h0];simp
  ·have:fw t.l≤(de ts 0).length:=by
    have hp:0 < fw t.l:=by
     have:=gh t.l
     have:=aeQ.2 h0
     omega
    have:=h2 (fw t.l - 1) (by omega)
    have h4:(de t.l (i.toNat + 1))[fw t.l - 1]?≠none:=by rw [Nq (by rw [iE];omega)];simp
    rw [← this] at h4
    have h5:i.toNat + 1 + (fw t.l - 1) < (de ts 0).length:=by
     apply Decidable.byContradiction
     intro hc
     exact h4 (aaS (by omega))
    omega
   have:=gh t.l
   omega
 ·obtain ⟨t,h1,h2,h3⟩:=gd i hi
  have hk:=h2.kids
  have e1:(gU ps ss ts n).kd i=aZ t.l (i.toNat + 1):=by show ((de ts 0).getD i.toNat default).2=_;rw [h1]
  have e2:(gU ps ss ts n).tm i=t:=by show ((de ts 0).getD i.toNat default).1=_;rw [h1]
  rw [e1,e2]
  exact hk
 ·obtain ⟨t,h1,h2,h3⟩:=gd i hi
  have e2:(gU ps ss ts n).tm i=t:=by show ((de ts 0).getD i.toNat default).1=_;rw [h1]
  rw [e2] at hk ⊢
  exact h3.op hk
theorem z3 (ps ss:List Int) {ts:List T} (dG:ts≠[]) (H:List aa):Du (gU ps ss ts H.length) (H++[.map [],.map [],kC ps ss (de ts 0) H.length (H.length + 1)]):=by
 have hn:de ts 0≠[]:=by
  intro e
  have hl:(de ts 0).length=fw ts:=iE ts 0
  have:=gh ts
  rw [e] at hl
  have h0:ts.length=0:=by simp at hl;omega
  exact dG (aaK.1 h0)
 refine ⟨?_,⟨[],?_,fun p hp=>by simp at hp⟩,⟨[],?_,fun p hp=>by simp at hp⟩⟩
 ·show (H++[aa.map [],.map [],kC ps ss (de ts 0) H.length (H.length + 1)])[H.length + 2]?=_
  rw [kC,oC,if_neg hn]
  simp [gU]
 ·show (H++[aa.map [],.map [],kC ps ss (de ts 0) H.length (H.length + 1)])[H.length]?=_
  simp [m9]
 ·show (H++[aa.map [],.map [],kC ps ss (de ts 0) H.length (H.length + 1)])[H.length + 1]?=_
  simp [m9]
theorem uE {ps ss:List Int} {ts:List T} {n j:Nat} (hj:j < ts.length):(gU ps ss ts n).dS ((aZ ts 0).getD j 0)∧(gU ps ss ts n).tm ((aZ ts 0).getD j 0)=ts.getD j default:=by
 obtain ⟨h1,h2⟩:=(Qk ts).kids
 have hl:=cI ts 0
 refine ⟨h2 _ (aP (by omega)),?_⟩
 have:=congrArg (fun l=>l[j]?) h1
 have vI:j < (aZ ts 0).length:=by omega
 simp only [aa0,Nq vI,Nq hj,Option.map_some,Option.some.injEq] at this
 have e1:(aZ ts 0).getD j 0=(aZ ts 0)[j]:=by simp [vI]
 have e2:ts.getD j default=ts[j]:=by simp [hj]
 rw [e1,e2]
 exact this
end Go.aI
end
section
set_option maxRecDepth 100000
namespace Go.aI
open Go Go.Proofs
theorem ixs (s:ByteArray) (k:IntKind) (i:Nat) (φ:AV→Prop):bN (.str s) (.int k (i:Int)) φ=(i < s.size∧φ (.int .u8 (s.data.toList.getD i 0).toNat)):=by
 simp only [bN,tN,eq_iff_iff]
 exact ⟨fun h=>h.2,fun h=>⟨by omega,h⟩⟩
theorem qB (a b:ByteArray) (φ:AV→Prop):dh .eql (.str a) (.str b) φ=φ (.bool (decide (a=b))):=by
 simp [dh]
theorem HJ {g:Nat} {f:List AV→Option AV} (h:uw Tryz.prog g (.wT f)) {xs:List AV} {r:AV} (hr:f xs=some r):Pure Tryz.prog g xs r:=fun H=>h xs r H hr
theorem acu (s:ByteArray) (c:Int):Pure Tryz.prog 238 [.str s,.int .u8 c] (.int .i64 (firstIdx s c.toNat.toUInt8)):=HJ X9 rfl
def nI (s:ByteArray) (c:Int):Int:=s.foldl (fun (n:Int) x=>if x == c.toNat.toUInt8 then n + 1 else n) ((0:Nat):Int)
theorem acv (s:ByteArray) (c:Int):Pure Tryz.prog 231 [.str s,.int .u8 c] (.int .i64 (nI s c)):=HJ Ya (by simp only [countP,nI])
theorem Y2 (s:ByteArray) (c:Int):Pure Tryz.prog 228 [.str s,.int .u8 c] (.int .i64 (firstIdx s c.toNat.toUInt8)):=by
 refine fun H=>OK.2.calls rfl ?_
 simp only [OK,aJ]
 simp +contextual only [Bh,sZ,Nat.reduceEqDiff,Nat.reduceAdd,↓reduceIte,reduceCtorEq]
 refine ae (acu s c) ?_
 simp +contextual only [sZ,↓reduceIte,reduceCtorEq]
 exact bc rfl rfl
theorem acw (s:ByteArray) (c:Int):Pure Tryz.prog 190 [.str s,.int .u8 c] (.int .i64 (firstIdx s c.toNat.toUInt8)):=by
 refine fun H=>OB.2.calls rfl ?_
 simp only [OB,aJ]
 simp +contextual only [Bh,sZ,Nat.reduceEqDiff,Nat.reduceAdd,↓reduceIte,reduceCtorEq]
 refine ae (Y2 s c) ?_
 simp +contextual only [sZ,↓reduceIte,reduceCtorEq]
 exact bc rfl rfl
def us:ByteArray:=⟨#[95]⟩
theorem ix0 (k:IntKind) (φ:AV→Prop):bN (.str us) (.int k 0) φ=φ (.int .u8 95):=by
 simp only [bN,eq_iff_iff]
 exact ⟨fun h=>h.2.2,fun h=>⟨by omega,by decide,h⟩⟩
def Mi (s:ByteArray):Int:=if s=us then 0 else firstIdx s 95
theorem acx (s:ByteArray):Pure Tryz.prog 229 [.str s,.str us] (.int .i64 (Mi s)):=by
 refine fun H=>OL.2.calls rfl ?_
 simp only [OL,aJ]
 unfold Mi
 have db:((us.size:Nat):Int)=1:=rfl
 by_cases hs:s=us
 ·rw [if_pos hs]
  simp +contextual only [qB,db,hs,Int.reduceEq,sZ,Nat.reduceEqDiff,Nat.reduceAdd,↓reduceIte,reduceCtorEq,Int.reduceEq]
  exact bc rfl rfl
 ·rw [if_neg hs]
  have SF:¬ us=s:=fun e=>hs e.symm
  simp +contextual only [qB,db,SF,ix0,Int.reduceEq,sZ,Nat.reduceEqDiff,Nat.reduceAdd,↓reduceIte,reduceCtorEq,Int.reduceEq]
  refine ae (Y2 s 95) ?_
  simp +contextual only [sZ,↓reduceIte,reduceCtorEq]
  exact bc rfl rfl
theorem acy (s:ByteArray):Pure Tryz.prog 191 [.str s,.str us] (.int .i64 (Mi s)):=by
 refine fun H=>OC.2.calls rfl ?_
 simp only [OC,aJ]
 simp +contextual only [sZ,Nat.reduceEqDiff,Nat.reduceAdd,↓reduceIte,reduceCtorEq]
 refine ae (acx s) ?_
 simp +contextual only [sZ,↓reduceIte,reduceCtorEq]
 exact bc rfl rfl
theorem acz (s:ByteArray):Pure Tryz.prog 142 [.str s,.str us] (.bool (decide (0≤Mi s))):=by
 refine fun H=>Ow.2.calls rfl ?_
 simp only [Ow,aJ]
 simp +contextual only [sZ,Nat.reduceEqDiff,Nat.reduceAdd,↓reduceIte,reduceCtorEq]
 refine ae (acy s) ?_
 simp +contextual only [sZ,↓reduceIte,reduceCtorEq]
 exact bc rfl rfl
theorem acA (s:ByteArray):Pure Tryz.prog 193 [.str s,.str us] (.int .i64 (nI s 95)):=by
 refine fun H=>OE.2.calls rfl ?_
 simp only [OE,aJ]
 have db:((us.size:Nat):Int)=1:=rfl
 simp +contextual only [db,ix0,Int.reduceEq,sZ,Nat.reduceEqDiff,Nat.reduceAdd,↓reduceIte,reduceCtorEq,Int.reduceEq]
 refine ae (acv s 95) ?_
 simp +contextual only [sZ,↓reduceIte,reduceCtorEq]
 exact bc rfl rfl
def xt (c:UInt8):Bool:=decide (((c.toNat:Nat):Int) < 33) || decide ((126:Int) < ((c.toNat:Nat):Int)) || decide (0≤firstIdx ⟨#[40,41,44]⟩ ((c.toNat:Nat):Int).toNat.toUInt8)
def nz (s:ByteArray):Bool:=!decide (((s.size:Nat):Int) < 1) && !decide ((32:Int) < ((s.size:Nat):Int)) && s.data.toList.all fun c=>!xt c
theorem z4 {p:UInt8→Bool} {l:List UInt8} {i:Nat} (h:i < l.length):(l.drop i).all p=(p (l.getD i 0) && (l.drop (i + 1)).all p):=by
 rw [aaG h,List.all_cons]
 simp [h]
theorem Y3 (s:ByteArray):Pure Tryz.prog 141 [.str s] (.bool (nz s)):=by
 refine fun H=>Re.calls rfl ?_
 simp only [KS,Rc]
 have hl:s.data.toList.length=s.size:=rfl
 unfold nz
 simp +contextual only [sZ,Nat.reduceEqDiff,Nat.reduceAdd,↓reduceIte,reduceCtorEq]
 refine ⟨fun h1=>⟨fun h2=>?_,fun h2=>?_⟩,fun h1=>?_⟩
 ·exact bc rfl (by simp [h2])
 ·refine aC s.size (fun i=>((s.data.toList.drop i).all fun c=>!xt c)=(s.data.toList.all fun c=>!xt c))
   (fun i=>[(0,.str s),(13,.int .i64 s.size),(14,.int .i64 i)]) (fun i=>H) ⟨rfl,aB _ _ _⟩ fun i hi hI=>?_
  simp +contextual only [ixs,sZ,Nat.reduceEqDiff,Nat.reduceAdd,↓reduceIte,reduceCtorEq]
  have fin:∀ (aX:i < s.size),xt (s.data.toList.getD i 0)=true→(s.data.toList.all fun c=>!xt c)=false:=fun aX hb=>by
   rw [← hI,z4 (by omega),hb];rfl
  refine ⟨fun aX=>?_,fun jV=>?_⟩
  ·have aX:=b9 aX
   have fin:=fin aX
   rw [z4 (by omega)] at hI
   have RQ:xt (s.data.toList.getD i 0)=(decide ((((s.data.toList.getD i 0).toNat:Nat):Int) < 33) || decide ((126:Int) < (((s.data.toList.getD i 0).toNat:Nat):Int)) || decide (0≤firstIdx ⟨#[40,41,44]⟩ (((s.data.toList.getD i 0).toNat:Nat):Int).toNat.toUInt8)):=rfl
   generalize s.data.toList.getD i 0=c at *
   refine ⟨aX,fun a=>⟨aX,fun b=>⟨aX,ae (acw _ _) ?_⟩,fun b=>?_⟩,fun a=>?_⟩
   ·simp +contextual only [sZ,Nat.reduceEqDiff,↓reduceIte,reduceCtorEq]
    refine ⟨fun d=>?_,fun d=>?_⟩
    ·exact bc rfl (by rw [fin (by rw [RQ];simp only [decide_eq_true d,Bool.or_true])];simp)
    ·refine ⟨i + 1,⟨aX,?_⟩,by omega,aD (by rw [au i (by omega)]) rfl⟩
     rw [← hI]
     have:xt c=false:=by
      rw [RQ]
      simp only [abz,decide_eq_false_iff_not]
      omega
     rw [this];simp
   ·exact bc rfl (by rw [fin (by rw [RQ];simp only [decide_eq_true b,Bool.or_true,Bool.true_or])];simp)
   ·exact bc rfl (by rw [fin (by rw [RQ];simp only [decide_eq_true a,Bool.true_or])];simp)
  ·rw [aaF (by have:=dl jV;omega)] at hI
   exact bc rfl (by rw [← hI];simp;omega)
 ·exact bc rfl (by simp [h1])
end Go.aI
end
section
set_option maxRecDepth 100000
namespace Go.aI
open Go Go.Proofs
structure iG where
 name:ByteArray
 args:List Int
 Cc:Int
 deriving Inhabited
structure Sg where
 aR:List ByteArray
 ops:List iG
 deriving Inhabited
def iG.av (o:iG):AV:=.agg [.str o.name,.ap 0 (ints o.args),.int .i64 o.Cc]
def pE (l:List iG):List AV:=l.map iG.av
def strs (l:List ByteArray):List AV:=l.map AV.str
def Sg.av (s:Sg):AV:=.agg [.ap 0 (strs s.aR),.ap 0 (pE s.ops)]
theorem xu (l:List iG):(pE l).length=l.length:=by simp [pE]
theorem DZ (l:List ByteArray):(strs l).length=l.length:=by simp [strs]
theorem xv (n:Nat) (l:List iG):aj n (pE l)=true:=by
 rw [aY];intro x hx;obtain ⟨y,_,rfl⟩:=aaq.1 hx
 simp [iG.av,AV.a9,aj,bb]
theorem xw (n:Nat) (l:List ByteArray):aj n (strs l)=true:=by
 rw [aY];intro x hx;obtain ⟨y,_,rfl⟩:=aaq.1 hx;rfl
theorem iG.qv (n:Nat) (o:iG):o.av.a9 n=true:=by simp [iG.av,AV.a9,aj,bb]
theorem iG.xf (o:iG):o.av.val=true:=rfl
theorem iG.qw (o:iG):o.av.cells.all AV.one=true:=rfl
theorem iG.oz (o:iG):o.av.ab=o.av:=rfl
theorem iG.rQ (o:iG):o.av.drop=o.av:=rfl
theorem iG.iA (o:iG):o.av.cells.length=3:=rfl
theorem Sg.qv (n:Nat) (o:Sg):o.av.a9 n=true:=by simp [Sg.av,AV.a9,aj,xw,xv]
theorem Sg.xf (o:Sg):o.av.val=true:=rfl
theorem Sg.qw (o:Sg):o.av.cells.all AV.one=true:=rfl
theorem Sg.oz (o:Sg):o.av.ab=o.av:=rfl
theorem Sg.rQ (o:Sg):o.av.drop=o.av:=rfl
theorem Sg.iA (o:Sg):o.av.cells.length=2:=rfl
theorem JB (o:Nat) (l:List iG):(∀ (own:Nat) (xs:List AV),AV.ap o (pE l)=AV.ap own xs→∀ z∈xs,z.cells.length=3)=True:=by
 simp only [eq_iff_iff,iff_true]
 intro own xs e z hz
 cases e
 obtain ⟨y,_,rfl⟩:=aaq.1 hz
 rfl
theorem JC (o:Nat) (l:List ByteArray):(∀ (own:Nat) (xs:List AV),AV.ap o (strs l)=AV.ap own xs→∀ z∈xs,z.cells.length=1)=True:=by
 simp only [eq_iff_iff,iff_true]
 intro own xs e z hz
 cases e
 obtain ⟨y,_,rfl⟩:=aaq.1 hz
 rfl
theorem Mj (e o:Nat) (l:List iG) (k:IntKind) (i:Nat) (φ:AV→Prop):ax e (.ap o (pE l)) (.int k (i:Int)) φ=(i < l.length∧φ (.ai (l.getD i default).av)):=by
 simp only [ax,xu,tN,eq_iff_iff]
 constructor
 ·rintro ⟨_,h,h2⟩;refine ⟨h,?_⟩;simpa [pE,h] using h2
 ·rintro ⟨h,h2⟩;refine ⟨by omega,h,?_⟩;simpa [pE,h] using h2
theorem Mk (e o:Nat) (l:List ByteArray) (k:IntKind) (i:Nat) (φ:AV→Prop):ax e (.ap o (strs l)) (.int k (i:Int)) φ=(i < l.length∧φ (.ai (.str (l.getD i default)))):=by
 simp only [ax,DZ,tN,eq_iff_iff]
 constructor
 ·rintro ⟨_,h,h2⟩;refine ⟨h,?_⟩;simpa [strs,h] using h2
 ·rintro ⟨h,h2⟩;refine ⟨by omega,h,?_⟩;simpa [strs,h] using h2
theorem Y4 (o:iG) (H:List aa) (φ:AV→Prop):aU (some 3) (.ai o.av) H φ=φ o.av:=by simp [aU,iG.av,AV.cells]
theorem rZ (o:Sg) (H:List aa) (φ:AV→Prop):aU (some 2) (.ai o.av) H φ=φ o.av:=by simp [aU,Sg.av,AV.cells]
theorem fo0 (x:iG) (φ:AV→Prop):al 0 none (.ai x.av) φ=φ (.ai (.str x.name)):=by simp [al,apart,iG.av,AV.cells,AV.one]
theorem fo1 (x:iG) (φ:AV→Prop):al 1 none (.ai x.av) φ=φ (.ai (.ap 0 (ints x.args))):=by simp [al,apart,iG.av,AV.cells,AV.one]
theorem fo2 (x:iG) (φ:AV→Prop):al 2 none (.ai x.av) φ=φ (.ai (.int .i64 x.Cc)):=by simp [al,apart,iG.av,AV.cells,AV.one]
theorem fs0 (x:Sg) (φ:AV→Prop):al 0 none (.ai x.av) φ=φ (.ai (.ap 0 (strs x.aR))):=by simp [al,apart,Sg.av,AV.cells,AV.one]
theorem fs1 (x:Sg) (φ:AV→Prop):al 1 none (.ai x.av) φ=φ (.ai (.ap 0 (pE x.ops))):=by simp [al,apart,Sg.av,AV.cells,AV.one]
def aF:=(hV (hV (hV (hV @xu @DZ) (hV @xv @xw)) (hV (hV @iG.qv @iG.xf) (hV (hV @iG.qw @iG.oz) (hV @iG.rQ @iG.iA)))) (hV (hV (hV (hV @Sg.qv @Sg.xf) (hV (hV @Sg.qw @Sg.oz) (hV @Sg.rQ @Sg.iA))) (hV (hV @JB @JC) (hV @Mj @Mk))) (hV (hV @Y4 @rZ) (hV (hV @fo0 @fo1) (hV @fo2 (hV @fs0 @fs1))))))
def yG (p:Int→Bool):List Int→Int→Int
 | [],_=>-1
 | x::r,k=>if p x=true then k else yG p r (k + 1)
theorem D0 (p:Int→Bool):∀ (l:List Int) (k:Int),0≤k→(decide (0≤yG p l k)=l.any p)
 | [],k,_=>by simp [yG]
 | x::r,k,h=>by
   simp only [yG,aeY]
   split
   ·rename_i hp;simp [hp,h]
   ·rename_i hp;simp [hp,D0 p r (k + 1) (by omega)]
theorem JD {p:Int→Bool} {l:List Int} {i:Nat} {k:Int} (h:i < l.length):yG p (l.drop i) k=if p (l.getD i 0)=true then k else yG p (l.drop (i + 1)) (k + 1):=by
 rw [aaG h]
 simp [yG,h]
theorem acB (g:Nat) (cap:List AV) (cE:cap.map AV.ab=cap) (hb:aj 0 cap=true) (p:Int→Bool) (l:List Int) (hf:∀ x∈l,Pure Tryz.prog g ([.int .i64 x]++cap) (.bool (p x))) :
 Pure Tryz.prog 100 [.ap 0 (ints l),.fn (.func g) [] cap] (.int .i64 (yG p l 0)):=by
 refine fun H=>C5.2.calls rfl ?_
 simp only [C5,aJ]
 simp +contextual only [sZ,Nat.reduceEqDiff,Nat.reduceAdd,↓reduceIte,reduceCtorEq]
 intro hl
 refine aC l.length (fun i=>yG p (l.drop i) i=yG p l 0) (fun i=>[(0,.ap 0 (ints l)),(1,.fn (.func g) [] cap),(7,.int .i64 l.length),(8,.int .i64 i)]) (fun _=>H) ⟨rfl,aB _ _ _⟩ fun i hi hI=>?_
 simp +contextual only [cE,sZ,Nat.reduceEqDiff,Nat.reduceAdd,↓reduceIte,reduceCtorEq]
 refine ⟨fun aX=>?_,fun jV=>?_⟩
 ·have aX:=b9 aX
  rw [JD aX] at hI
  refine ⟨aX,ae (hf _ ?_) ?_⟩
  ·simp [aX]
  simp +contextual only [sZ,Nat.reduceEqDiff,↓reduceIte,reduceCtorEq]
  refine vE (fun hb=>?_) (fun hb=>?_) <;> simp +contextual only [sZ,Nat.reduceEqDiff,↓reduceIte,reduceCtorEq]
  ·rw [if_pos hb] at hI
   exact bc rfl (by rw [← hI])
  ·rw [if_neg (by rw [hb];simp)] at hI
   exact ⟨i + 1,⟨aX,hI⟩,by omega,aD (by rw [au i (by omega)]) rfl⟩
 ·rw [aaF (dl jV)] at hI
  exact bc rfl (by rw [← hI];rfl)
theorem acC (g:Nat) (cap:List AV) (cE:cap.map AV.ab=cap) (hb:aj 0 cap=true) (p:Int→Bool) (l:List Int) (hf:∀ x∈l,Pure Tryz.prog g ([.int .i64 x]++cap) (.bool (p x))) :
 Pure Tryz.prog 102 [.ap 0 (ints l),.fn (.func g) [] cap] (.bool (l.any p)):=by
 refine fun H=>C6.2.calls rfl ?_
 simp only [C6,aJ]
 simp +contextual only [sZ,Nat.reduceEqDiff,Nat.reduceAdd,↓reduceIte,reduceCtorEq]
 refine ae (acB g cap cE hb p l hf) ?_
 simp +contextual only [sZ,↓reduceIte,reduceCtorEq]
 exact bc rfl (by rw [D0 p l 0 (by omega)])
end Go.aI
end
section
set_option maxRecDepth 100000
namespace Go.aI
open Go Go.Proofs
def Gf (n a:Int):Bool:=decide (0≤a) && decide (a < n)
theorem Y5 (n a:Int):Pure Tryz.prog 192 [.int .i64 a,.ai (.int .i64 n)] (.bool (Gf n a)):=by
 refine fun H=>OD.2.calls rfl ?_
 simp only [OD,aJ]
 unfold Gf
 simp +contextual only [sZ,Nat.reduceEqDiff,Nat.reduceAdd,↓reduceIte,reduceCtorEq]
 refine ⟨fun h=>bc rfl (by simp [h]),fun h=>bc rfl (by simp;omega)⟩
theorem acD (n a:Int):Pure Tryz.prog 194 [.int .i64 a,.ai (.fn (.func 192) [] [.ai (.int .i64 n)])] (.bool (!Gf n a)):=by
 refine fun H=>OF.2.calls rfl ?_
 simp only [OF,aJ]
 simp +contextual only [sZ,Nat.reduceEqDiff,Nat.reduceAdd,↓reduceIte,reduceCtorEq]
 refine ae (Y5 n a) ?_
 simp +contextual only [sZ,↓reduceIte,reduceCtorEq]
 exact bc rfl rfl
def oE (o:iG) (n:Int):Bool:=
 nz o.name && (decide (nI o.name 95 < o.name.size) && ((decide (nI o.name 95=0) || decide (nI o.name 95=o.args.length)) && (decide ((o.args.length:Int)≤8) && (Gf n o.Cc && !o.args.any fun a=>!Gf n a))))
theorem acE (o:iG) (n:Int):Pure Tryz.prog 143 [o.av,.int .i64 n] (.bool (oE o n)):=by
 refine fun H=>Rg.calls rfl ?_
 simp only [KT,Rf]
 unfold oE
 simp +contextual only [aF,sZ,Nat.reduceEqDiff,Nat.reduceAdd,↓reduceIte,reduceCtorEq]
 refine ae (acA o.name) ?_
 simp +contextual only [aF,sZ,Nat.reduceEqDiff,Nat.reduceAdd,↓reduceIte]
 refine ae (Y3 o.name) ?_
 cases hn:nz o.name with
 | false=>
   simp +contextual only [sZ,Nat.reduceEqDiff,↓reduceIte,reduceCtorEq]
   exact bc rfl rfl
 | true=>
   have h66:=acC 194 [.ai (.fn (.func 192) [] [.ai (.int .i64 n)])] rfl rfl (fun a=>!Gf n a) o.args (fun a _=>acD n a)
   have Ml:=Y5 n o.Cc
   generalize Gf n o.Cc=q at Ml ⊢
   generalize (o.args.any fun a=>!Gf n a)=z at h66 ⊢
   by_cases h1:nI o.name 95 < o.name.size
   ·have e1:decide (nI o.name 95 < o.name.size)=true:=decide_eq_true h1
    simp +contextual only [aF,h1,sZ,Nat.reduceEqDiff,Nat.reduceAdd,↓reduceIte,reduceCtorEq]
    refine ⟨fun h20 _=>⟨fun h21=>?_,fun h21=>?_⟩,fun h20 _=>?_⟩
    ·have e2:(decide (nI o.name 95=0) || decide (nI o.name 95=(o.args.length:Int)))=true:=by simp [h21]
     refine ⟨fun h3=>ae Ml ?_,fun h3=>?_⟩
     ·have e903:decide ((o.args.length:Int)≤8)=true:=decide_eq_true h3
      rw [e1,e2,e903]
      cases q with
      | false=>
        simp +contextual only [sZ,Nat.reduceEqDiff,↓reduceIte,reduceCtorEq]
        exact bc rfl (by simp)
      | true=>
        simp +contextual only [aF,sZ,Nat.reduceEqDiff,Nat.reduceAdd,↓reduceIte,reduceCtorEq]
        refine ae h66 ?_
        simp +contextual only [sZ,Nat.reduceEqDiff,↓reduceIte,reduceCtorEq]
        exact bc rfl (by simp)
     ·have e903:decide ((o.args.length:Int)≤8)=false:=decide_eq_false (by omega)
      exact bc rfl (by rw [e903];simp)
    ·have e2:(decide (nI o.name 95=0) || decide (nI o.name 95=(o.args.length:Int)))=false:=by simp [h20,h21]
     exact bc rfl (by rw [e2];simp)
    ·have e2:(decide (nI o.name 95=0) || decide (nI o.name 95=(o.args.length:Int)))=true:=by simp [h20]
     refine ⟨fun h3=>ae Ml ?_,fun h3=>?_⟩
     ·have e903:decide ((o.args.length:Int)≤8)=true:=decide_eq_true h3
      rw [e1,e2,e903]
      cases q with
      | false=>
        simp +contextual only [sZ,Nat.reduceEqDiff,↓reduceIte,reduceCtorEq]
        exact bc rfl (by simp)
      | true=>
        simp +contextual only [aF,sZ,Nat.reduceEqDiff,Nat.reduceAdd,↓reduceIte,reduceCtorEq]
        refine ae h66 ?_
        simp +contextual only [sZ,Nat.reduceEqDiff,↓reduceIte,reduceCtorEq]
        exact bc rfl (by simp)
     ·have e903:decide ((o.args.length:Int)≤8)=false:=decide_eq_false (by omega)
      exact bc rfl (by rw [e903];simp)
   ·have e1:decide (nI o.name 95 < o.name.size)=false:=decide_eq_false h1
    rw [e1]
    simp +contextual only [aF,h1,sZ,Nat.reduceEqDiff,↓reduceIte,reduceCtorEq]
    exact bc rfl (by simp)
end Go.aI
end
section
set_option maxRecDepth 100000
namespace Go.aI
open Go Go.Proofs
theorem Y6 (l:List Int) (hl:l.length * 8≤140737488355328):Pure Tryz.prog 118 [.ap 0 (ints l)] (.ap 1 (ints l)):=fun H=>
 wW 0 (ints l) H (of_eq_true (mX l)) (by rw [ay];exact hl) (bb _ _)
def JE (a:Int):UInt8:=UInt8.ofNat (IntKind.u8.wrap a).toNat
theorem U5 (a:Int):AV.int .u8 (IntKind.u8.wrap a)=.int .u8 (JE a).toNat:=by
 have h:0≤IntKind.u8.wrap a∧IntKind.u8.wrap a < 256:=by
  simp only [IntKind.wrap]
  have h1:IntKind.u8.bits=8:=rfl
  have h2:IntKind.u8.signed=false:=rfl
  rw [h1,h2]
  simp
  omega
 congr 1
 unfold JE
 rw [UInt8.toNat_ofNat']
 omega
def Gg (o:iG):List UInt8:=(o.name++⟨#[40]⟩).data.toList++(o.args++[o.Cc]).map JE
def jG (o:iG):ByteArray:=⟨(Gg o).toArray⟩
theorem Gh (l:List UInt8) (a:Int):bn l++[.int .u8 (IntKind.u8.wrap a)]=bn (l++[JE a]):=by
 rw [U5];simp [bn]
theorem JF (l:List UInt8):(bn l).length=l.length:=by simp [bn]
theorem U6 (s:ByteArray) (φ:AV→Prop):fo 1 (.str s) φ=(s.size < 9223372036854775808∧φ (.ap 1 (bn s.data.toList))):=ae0
theorem U7 (o:Nat) (l:List UInt8) (φ:AV→Prop) (h:φ (.str ⟨l.toArray⟩)):kh (.ap o (bn l)) φ:=⟨l,rfl,h⟩
theorem U8 (k k':IntKind) (n:Int) (φ:AV→Prop):cD k (.int k' n) φ=φ (.int k (k.wrap n)):=ae0
theorem Y7 (o:iG) (h1:o.name.size≤32) (h2:o.args.length≤8):Pure Tryz.prog 144 [o.av] (.str (jG o)):=by
 refine fun H=>Ri.calls rfl ?_
 simp only [KU,Rh]
 have db:(⟨#[40]⟩:ByteArray).size=1:=rfl
 have hs2:(o.name++⟨#[40]⟩:ByteArray).size=o.name.size + 1:=by rw [ByteArray.size_append,db]
 have hln:(o.name++⟨#[40]⟩:ByteArray).data.toList.length=o.name.size + 1:=hs2
 simp +contextual only [aF,U6,db,hs2,sZ,Nat.reduceEqDiff,Nat.reduceAdd,↓reduceIte]
 refine ⟨by omega,by omega,aE (Y6 o.args (by omega)) ?_⟩
 simp +contextual only [aF,mU,ok_int,sY,sZ,Nat.reduceEqDiff,Nat.reduceAdd,↓reduceIte]
 refine ⟨by omega,?_⟩
 generalize hv:o.args++[o.Cc]=vs
 have qX:vs.length≤9:=by rw [← hv];simp;omega
 have hk:jG o=⟨((o.name++⟨#[40]⟩:ByteArray).data.toList++vs.map JE).toArray⟩:=by rw [jG,Gg,hv]
 rw [hk]
 generalize (o.name++⟨#[40]⟩:ByteArray).data.toList=nm at *
 refine aC vs.length (fun _=>True)
  (fun i=>[(3,.ap 1 (bn (nm++(vs.take i).map JE))),(16,.ap 1 (ints vs)),(17,.int .i64 vs.length),(18,.int .i64 i)]) (fun _=>H) ⟨trivial,aD (by simp) rfl⟩ fun i hi hI=>?_
 simp +contextual only [sZ,Nat.reduceEqDiff,↓reduceIte,reduceCtorEq]
 refine ⟨fun aX=>⟨b9 aX,?_⟩,fun jV=>?_⟩
 ·have aX:=b9 aX
  simp +contextual only [U8,mU,ok_int,Gh,JF,sZ,Nat.reduceEqDiff,Nat.reduceAdd,↓reduceIte]
  refine ⟨by simp;omega,i + 1,aX,by omega,aD ?_ rfl⟩
  rw [au i (by omega),ada,abf,← aaD]
  simp [aX]
 ·rw [aaw (dl jV)]
  refine U7 0 _ _ ?_
  simp +contextual only [sZ]
  exact bc rfl rfl
instance:LawfulBEq ByteArray where
 rfl:=by intro a;rw [AB];simp
 eq_of_beq:=by intro a b h;rw [AB] at h;exact of_decide_eq_true h
def pW (vs:List ByteArray):List (AV×AV):=vs.map fun v=>(.str v,.bool true)
theorem oF (n:ByteArray):∀ (vs:List ByteArray) (i:Nat),(n∈vs→∃ j,dZ 1 (.str n) (pW vs) i=some (some (j,.bool true)))∧(n∉vs→dZ 1 (.str n) (pW vs) i=some none)
 | [],i=>⟨fun h=>(by cases h),fun _=>rfl⟩
 | v::r,i=>by
   have ih:=oF n r (i + 1)
   simp only [pW,List.map_cons,dZ,dd]
   by_cases hv:n=v
   ·subst hv
    simp
   ·simp only [aan,hv,false_or]
    exact ih
theorem sc (n:ByteArray) (vs:List ByteArray) (φ:AV→Prop):jd (some (.map (pW vs))) 1 (.bool false) (.str n) false φ=φ (.bool (decide (n∈vs))):=by
 have h:=oF n vs 0
 unfold jd
 by_cases hn:n∈vs
 ·obtain ⟨j,hj⟩:=h.1 hn
  simp [hj,hn,vD]
 ·simp [h.2 hn,hn,dd,aV,bu.aV,vD]
theorem D1 {n:ByteArray} {vs:List ByteArray} (hn:n∉vs) (id:Nat) (H:List aa) (K:List aa→Prop):je (some (.map (pW vs))) 1 id (.str n) (.bool true) H K=K (H.set id (.map (pW (vs++[n])))):=by
 have h:=(oF n vs 0).2 hn
 unfold je
 simp only [h]
 simp [dd,KZ,Bi,Hq,pW,aV,bu.aV,vD]
def lE:List ByteArray→List ByteArray→Bool
 | [],_=>true
 | s::r,seen=>if nz s=true∧¬ 0≤Mi s∧s∉seen then lE r (seen++[s]) else false
def yH (n:Int):List iG→List ByteArray→Bool
 | [],_=>true
 | o::r,seen=>if oE o n=true∧jG o∉seen then yH n r (seen++[jG o]) else false
def mc (s:Sg):Bool:=decide ((s.aR.length:Int)≤64) && decide ((s.ops.length:Int)≤256) && lE s.aR [] && yH s.aR.length s.ops []
theorem oG {l:List ByteArray} {i:Nat} (h:i < l.length) (seen:List ByteArray):lE (l.drop i) seen=if nz (l.getD i default)=true∧¬ 0≤Mi (l.getD i default)∧l.getD i default∉seen then lE (l.drop (i + 1)) (seen++[l.getD i default]) else false:=by
 rw [aaG h,lE]
 have e:l.getD i default=l[i]:=by simp [h]
 rw [e]
theorem tu {n:Int} {l:List iG} {i:Nat} (h:i < l.length) (seen:List ByteArray):yH n (l.drop i) seen=if oE (l.getD i default) n=true∧jG (l.getD i default)∉seen then yH n (l.drop (i + 1)) (seen++[jG (l.getD i default)]) else false:=by
 rw [aaG h,yH]
 have e:l.getD i default=l[i]:=by simp [h]
 rw [e]
theorem Gi {o:iG} {n:Int} (h:oE o n=true):o.name.size≤32∧o.args.length≤8∧Gf n o.Cc=true∧∀ a∈o.args,Gf n a=true:=by
 simp only [oE,nz,Sr,aaN,decide_eq_false_iff_not,decide_eq_true_eq] at h
 obtain ⟨⟨⟨_,h1⟩,_⟩,_,_,h2,h3,h4⟩:=h
 refine ⟨by omega,by omega,h3,fun a ha=>?_⟩
 cases hx:Gf n a with
 | true=>rfl
 | false=>
   rw [abE] at h4
   exact absurd (List.any_eq_true.2 ⟨a,ha,by rw [hx];rfl⟩) h4
theorem c81 (s:Sg):Pure Tryz.prog 81 [s.av] (.int .i64 (if mc s=true then 0 else 40)):=by
 refine fun H=>WN.calls rfl ?_
 simp only [S1,WM]
 have bad:∀ {G:List aa} {e:Bool},e=false→G.take H.length=H→mc s=e→b8 H.length [RX.t 2] [(2,AV.int IntKind.i64 40)] G fun r H'=>r=AV.int IntKind.i64 (if mc s=true then 0 else 40)∧H'=H:=by
  intro G e he hG hc
  rw [hc,he]
  exact P1 hG rfl rfl ⟨rfl,rfl⟩
 simp +contextual only [aF,sZ,Nat.reduceEqDiff,Nat.reduceAdd,↓reduceIte,reduceCtorEq]
 refine fun _=>⟨fun h1 _=>⟨fun h2=>?_,fun h2=>?_⟩,fun h1=>?_⟩
 ·have h2':¬ (s.ops.length:Int)≤256:=by omega
  exact bad rfl (by simp) (by rw [mc,decide_eq_false h2'];simp)
 ·refine aM s.aR.length (fun i (seen:List ByteArray)=>lE (s.aR.drop i) seen=lE s.aR [])
   (fun i seen=>[(1,.ai s.av),(3,.map H.length),(21,.ap 0 (strs s.aR)),(22,.int .i64 s.aR.length),(23,.int .i64 i)]) (fun i seen=>H++[.map (pW seen)]) [] ⟨rfl,aB _ _ _⟩ fun i seen hi hI=>?_
  simp +contextual only [aF,sZ,Nat.reduceEqDiff,Nat.reduceAdd,↓reduceIte]
  refine ⟨fun aX=>⟨b9 aX,?_⟩,fun jV=>?_⟩
  ·have aX:=b9 aX
   rw [oG aX] at hI
   generalize s.aR.getD i default=x at *
   refine ae (Y3 x) ?_
   cases hn:nz x with
   | false=>
     rw [hn,if_neg (by simp)] at hI
     simp +contextual only [sZ,Nat.reduceEqDiff,↓reduceIte,reduceCtorEq]
     exact bad rfl (by simp) (by simp [mc,← hI])
   | true=>
     rw [hn] at hI
     simp +contextual only [sZ,Nat.reduceEqDiff,Nat.reduceAdd,↓reduceIte]
     refine ae (acz x) ?_
     by_cases hu:0≤Mi x
     ·rw [if_neg (fun h=>h.2.1 hu)] at hI
      simp +contextual only [hu,sZ,Nat.reduceEqDiff,↓reduceIte,reduceCtorEq]
      exact bad rfl (by simp) (by simp [mc,← hI])
     ·by_cases hm:x∈seen
      ·rw [if_neg (fun h=>h.2.2 hm)] at hI
       simp +contextual only [hu,sc,hm,sZ,Nat.reduceEqDiff,↓reduceIte,reduceCtorEq]
       exact bad rfl (by simp) (by simp [mc,← hI])
      ·rw [if_pos ⟨rfl,hu,hm⟩] at hI
       simp +contextual only [hu,sc,hm,D1 hm,sZ,Nat.reduceEqDiff,↓reduceIte]
       exact ⟨i + 1,seen++[x],⟨aX,hI⟩,by omega,aD (by rw [au i (by omega)]) rfl⟩
  ·have hs:lE s.aR []=true:=by
    rw [← hI,aaF (dl jV)];rfl
   have hc:mc s=yH s.aR.length s.ops []:=by simp [mc,h1,h2,hs]
   clear hI
   simp +contextual only [sZ]
   refine fun _=>aM s.ops.length (fun i (seen2:List ByteArray)=>yH s.aR.length (s.ops.drop i) seen2=yH s.aR.length s.ops [])
    (fun i seen2=>[(1,.ai s.av),(6,.map (H.length + 1)),(44,.ap 0 (pE s.ops)),(45,.int .i64 s.ops.length),(46,.int .i64 i)]) (fun i seen2=>H++[.map (pW seen),.map (pW seen2)]) [] ⟨rfl,aB _ _ _⟩ fun i seen2 hi hI=>?_
   simp +contextual only [aF,sZ,Nat.reduceEqDiff,Nat.reduceAdd,↓reduceIte,reduceCtorEq]
   refine ⟨fun aX=>⟨b9 aX,?_⟩,fun jV=>?_⟩
   ·have aX:=b9 aX
    rw [tu aX] at hI
    generalize s.ops.getD i default=x at *
    refine fun _=>ae (acE x _) ?_
    cases hg:oE x s.aR.length with
    | false=>
      rw [hg,if_neg (by simp)] at hI
      simp +contextual only [sZ,Nat.reduceEqDiff,↓reduceIte,reduceCtorEq]
      exact bad rfl (by simp) (by rw [hc,← hI])
    | true=>
      rw [hg] at hI
      have hsm:=Gi hg
      simp +contextual only [aF,sZ,Nat.reduceEqDiff,Nat.reduceAdd,↓reduceIte]
      refine ae (Y7 x hsm.1 hsm.2.1) ?_
      by_cases hm:jG x∈seen2
      ·rw [if_neg (fun h=>h.2 hm)] at hI
       simp +contextual only [sc,hm,sZ,Nat.reduceEqDiff,↓reduceIte,reduceCtorEq]
       exact bad rfl (by simp) (by rw [hc,← hI])
      ·rw [if_pos ⟨rfl,hm⟩] at hI
       simp +contextual only [aF,sc,hm,sZ,Nat.reduceEqDiff,Nat.reduceAdd,↓reduceIte]
       refine ae (Y7 x hsm.1 hsm.2.1) ?_
       simp +contextual only [D1 hm,sZ,Nat.reduceEqDiff,↓reduceIte]
       exact ⟨i + 1,seen2++[jG x],⟨aX,hI⟩,by omega,aD (by rw [au i (by omega)]) rfl⟩
   ·rw [aaF (dl jV)] at hI
    exact P1 (by simp) rfl rfl ⟨by rw [hc,← hI];rfl,rfl⟩
 ·have h1':¬ (s.aR.length:Int)≤64:=by omega
  exact bad rfl (by simp) (by rw [mc,decide_eq_false h1'];simp)
end Go.aI
end
section
set_option maxRecDepth 100000
namespace Go.aI
open Go Go.Proofs Go.eJ
def iQ (w:List (Int×Int)):List (AV×AV):=w.map fun p=>(.int .i64 p.1,.int .i64 p.2)
theorem Gj (n:Int):∀ (w:List (Int×Int)) (i:Nat),(∃ j s,w[j]?=some (n,s)∧dZ 0 (.int .i64 n) (iQ w) i=some (some (i + j,.int .i64 s)))∨((∀ p∈w,p.1≠n)∧dZ 0 (.int .i64 n) (iQ w) i=some none)
 | [],i=>.inr ⟨(fun p h=>by cases h),rfl⟩
 | (a,b)::r,i=>by
   have ih:=Gj n r (i + 1)
   simp only [iQ,List.map_cons,dZ,dd,if_true]
   by_cases h:n=a
   ·subst h
    exact .inl ⟨0,b,rfl,by simp⟩
   ·simp only [decide_eq_false h]
    rcases ih with ⟨j,s,h1,h2⟩ | ⟨h1,h2⟩
    ·exact .inl ⟨j + 1,s,h1,by rw [show i + (j + 1)=i + 1 + j by omega];exact h2⟩
    ·refine .inr ⟨fun p hp=>?_,h2⟩
     rcases aan.1 hp with rfl | hp
     ·exact fun e=>h e.symm
     ·exact h1 p hp
theorem Y8 {n:Int} {w:List (Int×Int)} {φ:AV→Prop} (h1:∀ s,(n,s)∈w→φ (.tuple [.int .i64 s,.bool true])) (h2:(∀ p∈w,p.1≠n)→φ (.tuple [.int .i64 0,.bool false])):jd (some (.map (iQ w))) 0 (.int .i64 0) (.int .i64 n) true φ:=by
 unfold jd
 rcases Gj n w 0 with ⟨j,s,h3,h4⟩ | ⟨h3,h4⟩
 ·simp only [h4];exact h1 s (aaI h3)
 ·simp only [h4];exact ⟨by simp [dd],h2 h3⟩
theorem msW {n s:Int} {w:List (Int×Int)} {id:Nat} {H:List aa} {K:List aa→Prop} (h:∀ w',(∀ p∈w',p∈w∨p=(n,s))→(∀ p∈w,∃ q∈w',q.1=p.1)→(n,s)∈w'→K (H.set id (.map (iQ w')))):je (some (.map (iQ w))) 0 id (.int .i64 n) (.int .i64 s) H K:=by
 unfold je
 refine ⟨rfl,rfl,rfl,?_⟩
 have ec:aV (.int .i64 s)=.int .i64 s:=rfl
 rcases Gj n w 0 with ⟨j,x,h3,h4⟩ | ⟨h3,h4⟩
 ·simp only [h4,ec,aaQ]
  have e:(iQ w).set j (.int .i64 n,.int .i64 s)=iQ (w.set j (n,s)):=by simp [iQ,adA]
  rw [e]
  have hj:=(aaz.1 h3).1
  refine h _ (fun p hp=>abd hp) (fun p hp=>?_) (aec.2 ⟨j,by rw [tO hj]⟩)
  obtain ⟨m,hm⟩:=aec.1 hp
  by_cases e:j=m
  ·subst e
   rw [h3] at hm;cases hm
   exact ⟨(n,s),aec.2 ⟨j,by rw [tO hj]⟩,rfl⟩
  ·exact ⟨p,aec.2 ⟨m,by rw [tL e];exact hm⟩,rfl⟩
 ·simp only [h4,ec]
  refine ⟨by simp [dd],?_⟩
  have e:iQ w++[(AV.int .i64 n,AV.int .i64 s)]=iQ (w++[(n,s)]):=by simp [iQ]
  rw [e]
  exact h _ (fun p hp=>by simpa using hp) (fun p hp=>⟨p,aaO.2 (.inl hp),rfl⟩) (by simp)
structure Ql (ps ss:List Int) (i:Nat):Prop where
 QV:∀ j,j < i→0≤ps.getD j 0∧ps.getD j 0≤255∧1≤ss.getD j 0∧ss.getD j 0≤3
 st:∀ j k,j < i→k < i→ps.getD j 0=ps.getD k 0→ss.getD j 0=ss.getD k 0
def gS (s:Sg) (ps ss:List Int):Prop:=ps.length=s.ops.length∧ss.length=s.ops.length∧Ql ps ss ps.length
theorem gS.va {s:Sg} {ps ss:List Int} (h:gS s ps ss):Va ps ss:=⟨by rw [h.2.1,h.1],h.2.2.st⟩
open Classical in
noncomputable def jl (s:Sg) (ps ss:List Int):Int:=if mc s=true then (if gS s ps ss then 0 else 60) else 40
theorem u0 (ps ss:List Int) (φ:AV→Prop):al 0 none (.ai (eD ps ss)) φ=φ (.ai (.ap 0 (ints ps))):=by simp [al,apart,eD,AV.cells,AV.one]
theorem xx (ps ss:List Int) (φ:AV→Prop):al 1 none (.ai (eD ps ss)) φ=φ (.ai (.ap 0 (ints ss))):=by simp [al,apart,eD,AV.cells,AV.one]
theorem aS (ps ss:List Int):(eD ps ss).val=true∧(eD ps ss).cells.length=2∧(eD ps ss).cells.all AV.one=true∧(eD ps ss).ab=eD ps ss∧(eD ps ss).drop=eD ps ss∧∀ n,(eD ps ss).a9 n=true:=
 ⟨rfl,rfl,rfl,rfl,rfl,fun n=>by simp [eD,wY,bM,cZ,cc,bb]⟩
theorem bX (ps ss:List Int) (H:List aa) (φ:AV→Prop):aU (some 2) (.ai (eD ps ss)) H φ=φ (eD ps ss):=Qg _ _ _ _
theorem c24 (s:Sg) (ps ss:List Int):Pure Tryz.prog 24 [s.av,eD ps ss] (.int .i64 (jl s ps ss)):=by
 refine fun H=>k24.2.calls rfl ?_
 simp only [k24,aJ]
 obtain ⟨q1,q2,q3,q4,q5,q6⟩:=aS ps ss
 simp +contextual only [aF,q1,sZ,Nat.reduceEqDiff,Nat.reduceAdd,↓reduceIte,reduceCtorEq]
 refine ae (c81 s) ?_
 cases hs:mc s with
 | false=>
   have e:jl s ps ss=40:=by rw [jl,if_neg (by rw [hs];simp)]
   rw [e]
   simp +contextual only [aaT,sZ,Nat.reduceEqDiff,↓reduceIte,reduceCtorEq,Int.reduceEq]
   exact bc rfl rfl
 | true=>
   simp +contextual only [aF,u0,xx,ay,sZ,Nat.reduceEqDiff,↓reduceIte,reduceCtorEq]
   have bad:¬ gS s ps ss→jl s ps ss=60:=fun h=>by rw [jl,if_pos hs,if_neg h]
   have U9:gS s ps ss→jl s ps ss=0:=fun h=>by rw [jl,if_pos hs,if_pos h]
   have ret60:∀ (X:List aa),¬ gS s ps ss→b8 H.length [.t 4] [(4,.int .i64 60)] (H++X) fun r H'=>r=.int .i64 (jl s ps ss)∧H'=H:=fun X h=>by rw [bad h];exact LN rfl rfl
   have ret60':¬ gS s ps ss→b8 H.length [.t 4] [(4,.int .i64 60)] H fun r H'=>r=.int .i64 (jl s ps ss)∧H'=H:=fun h=>by rw [bad h];exact bc rfl rfl
   refine fun _ _=>⟨fun hl=>?_,fun hl=>?_⟩
   rotate_left
   ·first | exact ret60' fun h=>hl (by omega) | (refine ret60' fun h=>?_;have:=h.1;omega)
   refine fun _=>⟨fun oU=>ret60' fun h=>oU (by have:=h.2.1;omega),fun oU=>?_⟩
   have g0:∀ w,(H++[aa.map (iQ w)])[H.length]?=some (.map (iQ w)):=fun w=>by simp
   have gs:∀ w w',(H++[aa.map (iQ w)]).set H.length (.map (iQ w'))=H++[.map (iQ w')]:=fun w w'=>by simp
   refine aM ps.length (fun i (w:List (Int×Int))=>Ql ps ss i∧(∀ p∈w,∃ j,j < i∧ps.getD j 0=p.1∧ss.getD j 0=p.2)∧∀ j,j < i→∃ p∈w,p.1=ps.getD j 0)
    (fun i w=>[(3,.ai (eD ps ss)),(6,.map H.length),(35,.ap 0 (ints ps)),(36,.int .i64 s.ops.length),(37,.int .i64 i)]) (fun i w=>H++[.map (iQ w)]) []
    ⟨⟨⟨fun j h=>by omega,fun j k h=>by omega⟩,(fun p h=>by cases h),fun j h=>by omega⟩,aB _ _ _⟩ fun i w hi hI=>?_
   ·obtain ⟨hu,hw1,hw2⟩:=hI
    have nbad:∀ j,j < ps.length→¬ (0≤ps.getD j 0∧ps.getD j 0≤255∧1≤ss.getD j 0∧ss.getD j 0≤3)→¬ gS s ps ss:=fun j hj h h'=>h (h'.2.2.QV j hj)
    by_cases NK:(i:Int) < s.ops.length
    ·have Vb:i < ps.length:=by omega
     simp +contextual only [xx,a7,tN,g0,NK,decide_true,sZ,Nat.reduceEqDiff,↓reduceIte]
     generalize hp:ps.getD i 0=p
     generalize hq:ss.getD i 0=q
     refine ⟨by omega,⟨by omega,by omega⟩,?_⟩
     by_cases r1:p < 0
     ·refine Y8 (fun o _=>?_) (fun _=>?_)
      all_goals
       simp +contextual only [r1,decide_true,sZ,Nat.reduceEqDiff,Nat.reduceAdd,Nat.reduceLT,↓reduceIte,reduceCtorEq]
       exact ret60 _ (nbad i Vb (by rw [hp];omega))
     ·by_cases r2:255 < p
      ·refine Y8 (fun o _=>?_) (fun _=>?_)
       all_goals
        simp +contextual only [r1,r2,decide_true,decide_false,sZ,Nat.reduceEqDiff,Nat.reduceAdd,Nat.reduceLT,↓reduceIte,reduceCtorEq]
        exact ret60 _ (nbad i Vb (by rw [hp];omega))
      ·by_cases r3:q < 1
       ·refine Y8 (fun o _=>?_) (fun _=>?_)
        all_goals
         simp +contextual only [r1,r2,r3,decide_true,decide_false,sZ,Nat.reduceEqDiff,Nat.reduceAdd,Nat.reduceLT,↓reduceIte,reduceCtorEq]
         exact ret60 _ (nbad i Vb (by rw [hq];omega))
       ·by_cases r4:3 < q
        ·refine Y8 (fun o _=>?_) (fun _=>?_)
         all_goals
          simp +contextual only [r1,r2,r3,r4,decide_true,decide_false,sZ,Nat.reduceEqDiff,Nat.reduceAdd,Nat.reduceLT,↓reduceIte,reduceCtorEq]
          exact ret60 _ (nbad i Vb (by rw [hq];omega))
        ·have acI:0≤p∧p≤255∧1≤q∧q≤3:=⟨by omega,by omega,by omega,by omega⟩
         have next:(∀ j,j < i→ps.getD j 0=p→ss.getD j 0=q)→∀ w':List (Int×Int),(∀ x∈w',x∈w∨x=(p,q))→(∀ x∈w,∃ y∈w',y.1=x.1)→(p,q)∈w'→Ql ps ss (i + 1)∧(∀ x∈w',∃ j,j < i + 1∧ps.getD j 0=x.1∧ss.getD j 0=x.2)∧∀ j,j < i + 1→∃ x∈w',x.1=ps.getD j 0:=by
          intro hsame w' m1 m2 m3
          refine ⟨⟨fun j hj=>?_,fun j k hj hk he=>?_⟩,fun x hx=>?_,fun j hj=>?_⟩
          ·by_cases e:j=i
           ·subst e;rw [hp,hq];exact acI
           ·exact hu.QV j (by omega)
          ·by_cases e:j=i
           ·by_cases e':k=i
            ·rw [e,e']
            ·subst e;rw [hp] at he;rw [hq];exact (hsame k (by omega) he.symm).symm
           ·by_cases e':k=i
            ·subst e';rw [hp] at he;rw [hq];exact hsame j (by omega) he
            ·exact hu.st j k (by omega) (by omega) he
          ·rcases m1 x hx with h | rfl
           ·obtain ⟨j,h1,h2,h3⟩:=hw1 x h;exact ⟨j,by omega,h2,h3⟩
           ·exact ⟨i,by omega,hp,hq⟩
          ·by_cases e:j=i
           ·subst e;rw [hp];exact ⟨_,m3,rfl⟩
           ·obtain ⟨x,h1,h2⟩:=hw2 j (by omega)
            obtain ⟨y,h3,h4⟩:=m2 x h1
            exact ⟨y,h3,h4.trans h2⟩
         refine Y8 (fun o ho=>?_) (fun jN=>?_)
         ·obtain ⟨j0,hj1,hj2,hj3⟩:=hw1 _ ho
          simp only at hj2 hj3
          by_cases YB:o=q
          ·subst YB
           have d0:decide (¬ o=o)=false:=by simp
           simp +contextual only [r1,r2,r3,r4,decide_false,g0,sZ,Nat.reduceEqDiff,Nat.reduceAdd,Nat.reduceLT,↓reduceIte]
           refine msW fun w' m1 m2 m3=>?_
           simp +contextual only [gs,sZ,Nat.reduceEqDiff,↓reduceIte]
           refine ⟨i + 1,w',⟨Vb,next (fun j hj he=>?_) w' m1 m2 m3⟩,by omega,aD (by rw [au i (by omega)]) rfl⟩
           rw [hu.st j j0 hj hj1 (he.trans hj2.symm),hj3]
          ·have d0:decide (¬ o=q)=true:=by simp [YB]
           simp +contextual only [r1,r2,r3,r4,decide_false,d0,sZ,Nat.reduceEqDiff,Nat.reduceAdd,Nat.reduceLT,↓reduceIte,reduceCtorEq]
           exact ret60 _ fun h=>YB (by rw [← hj3,← hq];exact h.2.2.st j0 i (by omega) Vb (hj2.trans hp.symm))
         ·simp +contextual only [r1,r2,r3,r4,decide_false,g0,sZ,Nat.reduceEqDiff,Nat.reduceAdd,Nat.reduceLT,↓reduceIte]
          refine msW fun w' m1 m2 m3=>?_
          simp +contextual only [gs,sZ,Nat.reduceEqDiff,↓reduceIte]
          refine ⟨i + 1,w',⟨Vb,next (fun j hj he=>?_) w' m1 m2 m3⟩,by omega,aD (by rw [au i (by omega)]) rfl⟩
          obtain ⟨x,h1,h2⟩:=hw2 j hj
          exact absurd (h2.trans he) (jN x h1)
    ·have hii:i=ps.length:=by omega
     subst hii
     rw [U9 ⟨by omega,by omega,hu⟩]
     simp +contextual only [NK,decide_false,sZ,Nat.reduceEqDiff,↓reduceIte,reduceCtorEq]
     exact LN rfl rfl
end Go.aI
end
section
set_option maxRecDepth 100000
namespace Go.aI
open Go Go.Proofs Go.eJ
theorem Y9 (g:Nat) (cK:List AV) (cE:cK.map AV.ab=cK) (p:T→Bool) (l:List T) (hf:∀ x∈l,Pure Tryz.prog g ([x.av]++cK) (.bool (p x))) :
 Pure Tryz.prog 114 [.ap 0 (cQ l),.fn (.func g) [] cK] (.int .i64 (s6 p l 0)):=by
 refine fun H=>C7.2.calls rfl ?_
 simp only [C7,aJ]
 simp +contextual only [sZ,Nat.reduceEqDiff,Nat.reduceAdd,↓reduceIte,reduceCtorEq]
 intro hl
 refine aC l.length (fun i=>s6 p (l.drop i) i=s6 p l 0) (fun i=>[(0,.ap 0 (cQ l)),(1,.fn (.func g) [] cK),(7,.int .i64 l.length),(8,.int .i64 i)]) (fun _=>H) ⟨rfl,aB _ _ _⟩ fun i hi hI=>?_
 simp +contextual only [cE,sZ,Nat.reduceEqDiff,Nat.reduceAdd,↓reduceIte,reduceCtorEq]
 refine ⟨fun aX=>?_,fun jV=>?_⟩
 ·have aX:=b9 aX
  rw [zJ aX] at hI
  refine ⟨aX,ae (hf _ (iB aX)) ?_⟩
  cases hb:p (l.getD i default) with
  | true=>
    rw [if_pos hb] at hI
    simp +contextual only [sZ,Nat.reduceEqDiff,↓reduceIte,reduceCtorEq]
    exact bc rfl (by rw [← hI])
  | false=>
    rw [if_neg (by rw [hb];simp)] at hI
    simp +contextual only [sZ,Nat.reduceEqDiff,↓reduceIte,reduceCtorEq]
    exact ⟨i + 1,⟨aX,hI⟩,by omega,aD (by rw [au i (by omega)]) rfl⟩
 ·rw [aaF (dl jV)] at hI
  exact bc rfl (by rw [← hI];rfl)
theorem Za (g:Nat) (cK:List AV) (cE:cK.map AV.ab=cK) (p:T→Bool) (l:List T) (hf:∀ x∈l,Pure Tryz.prog g ([x.av]++cK) (.bool (p x))) :
 Pure Tryz.prog 53 [.ap 0 (cQ l),.fn (.func g) [] cK] (.bool (l.any p)):=by
 refine fun H=>Rb.2.calls rfl ?_
 simp only [Rb,aJ]
 simp +contextual only [sZ,Nat.reduceEqDiff,Nat.reduceAdd,↓reduceIte,reduceCtorEq]
 refine ae (Y9 g cK cE p l hf) ?_
 simp +contextual only [sZ,↓reduceIte,reduceCtorEq]
 exact bc rfl (by rw [xh p l 0 (by omega)])
theorem acL (x:T):Pure Tryz.prog 130 [x.av] (.int .i64 (if x.tree=true then 0 else 4)):=by
 refine fun H=>Ov.2.calls rfl ?_
 simp only [Ov,aJ]
 simp +contextual only [sZ,Nat.reduceEqDiff,Nat.reduceAdd,↓reduceIte]
 refine ae (ab3 x) ?_
 cases h:x.tree with
 | true=>simp +contextual only [Bool.not_true,sZ,↓reduceIte,reduceCtorEq];exact bc rfl rfl
 | false=>simp +contextual only [Bool.not_false,sZ,↓reduceIte,reduceCtorEq];exact bc rfl rfl
mutual
def qC (s:Sg):T→Bool
 | .mk k n l=>!(decide (k=2) && (decide ((s.ops.length:Int)≤n) || !decide ((l.length:Int)=((s.ops.getD n.toNat default).args.length:Nat)))) && ovL s l
def ovL (s:Sg):List T→Bool
 | []=>true
 | x::r=>qC s x && ovL s r
end
theorem vK (s:Sg):∀ l,ovL s l=!(l.any fun x=>!qC s x)
 | []=>rfl
 | x::r=>by rw [ovL,vK s r,aeY];cases qC s x <;> simp
theorem acM (s:Sg):∀ t:T,t.shaped=true→Pure Tryz.prog 131 [s.av,t.av] (.bool (qC s t)):=by
 suffices h:∀ N t,wt t≤N→t.shaped=true→Pure Tryz.prog 131 [s.av,t.av] (.bool (qC s t)) from fun t ht=>h _ t (oN _) ht
 intro N
 induction N with
 | zero=>intro t h;have:=dx t;omega
 | succ N ih=>
 intro t hN hs H
 have hk:=kU hs
 have c182:∀ x∈t.l,Pure Tryz.prog 182 ([x.av]++[.ai s.av]) (.bool (!qC s x)):=by
  intro x hx H
  refine Xu.2.calls rfl ?_
  simp only [Xu,aJ]
  simp +contextual only [aF,sZ,Nat.reduceEqDiff,Nat.reduceAdd,↓reduceIte,reduceCtorEq]
  refine ae (ih x (by have:=cH hx;omega) (hk.2 x hx)) ?_
  simp +contextual only [sZ,↓reduceIte,reduceCtorEq]
  exact bc rfl rfl
 have hn:0≤t.n:=by
  rw [T.fI] at hs
  simp only [Sr,aaN,abz,decide_eq_false_iff_not] at hs
  have:=hs.1.1.1.1
  omega
 obtain ⟨m,hm⟩:=abu hn
 refine W2.2.calls rfl ?_
 simp only [W2,aJ]
 have e:qC s t=(!(decide (t.k=2) && (decide ((s.ops.length:Int)≤t.n) || !decide ((t.l.length:Int)=((s.ops.getD t.n.toNat default).args.length:Nat)))) && !(t.l.any fun x=>!qC s x)):=by
  rw [← vK];cases t;rfl
 have fin:(!(decide (t.k=2) && (decide ((s.ops.length:Int)≤t.n) || !decide ((t.l.length:Int)=((s.ops.getD t.n.toNat default).args.length:Nat)))))=false→b8 H.length [.t 4] [(4,.bool false)] H fun r H'=>r=.bool (qC s t)∧H'=H:=by
  intro h
  rw [e,h];exact bc rfl rfl
 by_cases h2:t.k=2
 ·by_cases h3:(s.ops.length:Int)≤t.n
  ·simp +contextual only [aF,h2,h3,decide_true,sZ,Nat.reduceEqDiff,Nat.reduceAdd,↓reduceIte,reduceCtorEq]
   exact fin (by simp [h2,h3])
  ·have hml:m < s.ops.length:=by omega
   have VT:¬ (s.ops.length:Int)≤(m:Int):=by omega
   have em:t.n.toNat=m:=by omega
   by_cases h4:(t.l.length:Int)=((s.ops.getD m default).args.length:Nat)
   ·simp +contextual only [aF,h2,VT,h4,hm,hml,ay,decide_true,decide_false,sZ,Nat.reduceEqDiff,Nat.reduceAdd,↓reduceIte,reduceCtorEq]
    refine ae (Za 182 [.ai s.av] rfl _ t.l c182) ?_
    simp +contextual only [sZ,↓reduceIte,reduceCtorEq]
    refine bc rfl ?_
    rw [e,em,h4]
    simp [h2,h3]
   ·simp +contextual only [aF,h2,VT,h4,hm,hml,ay,decide_true,decide_false,sZ,Nat.reduceEqDiff,Nat.reduceAdd,↓reduceIte,reduceCtorEq]
    exact fin (by rw [em,decide_eq_true h2,decide_eq_false h3,decide_eq_false h4];rfl)
 ·simp +contextual only [aF,h2,decide_false,sZ,Nat.reduceEqDiff,Nat.reduceAdd,↓reduceIte,reduceCtorEq]
  refine ae (Za 182 [.ai s.av] rfl _ t.l c182) ?_
  simp +contextual only [sZ,↓reduceIte,reduceCtorEq]
  refine bc rfl ?_
  rw [e]
  simp [h2]
noncomputable def eN (s:Sg) (ps ss:List Int) (l:List T):Int:=if jl s ps ss=0 then (if (l.all fun t=>t.tree && qC s t)=true then 0 else 4) else jl s ps ss
theorem z5 {p:T→Bool} {l:List T} {i:Nat} (h:i < l.length):(l.drop i).all p=(p (l.getD i default) && (l.drop (i + 1)).all p):=by
 have e:l.getD i default=l[i]:=by simp [h]
 rw [aaG h,List.all_cons,e]
theorem Zb (s:Sg) (ps ss:List Int) (l:List T):Pure Tryz.prog 74 [s.av,eD ps ss,.ap 0 (cQ l)] (.int .i64 (eN s ps ss l)):=by
 refine fun H=>k74.2.calls rfl ?_
 simp only [k74,aJ]
 obtain ⟨q1,q2,q3,q4,q5,q6⟩:=aS ps ss
 simp +contextual only [aF,q1,q4,bX,sZ,Nat.reduceEqDiff,Nat.reduceAdd,↓reduceIte,reduceCtorEq]
 refine ae (c24 s ps ss) ?_
 by_cases h0:jl s ps ss=0
 ·simp +contextual only [h0,sZ,Nat.reduceEqDiff,↓reduceIte]
  intro _
  refine aC l.length (fun i=>l.all (fun t=>t.tree && qC s t)=(l.drop i).all fun t=>t.tree && qC s t) (fun i=>[(3,.ai s.av),(16,.ap 0 (cQ l)),(17,.int .i64 l.length),(18,.int .i64 i)]) (fun _=>H) ⟨rfl,aB _ _ _⟩ fun i hi hI=>?_
  by_cases yc:(i:Int) < l.length
  ·have aX:i < l.length:=by omega
   rw [z5 aX] at hI
   simp +contextual only [yc,decide_true,sZ,Nat.reduceEqDiff,Nat.reduceAdd,↓reduceIte]
   refine ⟨aX,ae (acL _) ?_⟩
   cases ht:(l.getD i default).tree with
   | false=>
     rw [ht,aeT,aeT] at hI
     simp +contextual only [sZ,Nat.reduceEqDiff,↓reduceIte,reduceCtorEq,Int.reduceEq]
     refine bc rfl ?_
     rw [eN,if_pos h0,hI,if_neg (by simp)]
   | true=>
     rw [ht,aeX] at hI
     simp +contextual only [aF,sZ,Nat.reduceEqDiff,Nat.reduceAdd,↓reduceIte]
     refine ae (acM s _ ((T.iD _).1 ht).2.2) ?_
     cases ho:qC s (l.getD i default) with
     | false=>
       rw [ho,aeT] at hI
       simp +contextual only [Bool.not_false,sZ,Nat.reduceEqDiff,↓reduceIte,reduceCtorEq]
       refine bc rfl ?_
       rw [eN,if_pos h0,hI,if_neg (by simp)]
     | true=>
       rw [ho,aeX] at hI
       simp +contextual only [Bool.not_true,sZ,Nat.reduceEqDiff,↓reduceIte]
       exact ⟨i + 1,⟨aX,hI⟩,by omega,aD (by rw [au i (by omega)]) rfl⟩
  ·simp +contextual only [yc,decide_false,sZ,Nat.reduceEqDiff,↓reduceIte,reduceCtorEq]
   rw [aaF (by omega)] at hI
   refine bc rfl ?_
   rw [eN,if_pos h0,hI];rfl
 ·simp +contextual only [h0,sZ,Nat.reduceEqDiff,↓reduceIte,reduceCtorEq]
  refine bc rfl ?_
  rw [eN,if_neg h0]
theorem Vc {s:Sg}:∀ t:T,t.shaped=true→qC s t=true→yD (fun n=>0≤n∧n < s.ops.length) t:=by
 suffices h:∀ N t,wt t≤N→t.shaped=true→qC s t=true→yD (fun n=>0≤n∧n < s.ops.length) t from fun t=>h _ t (oN _)
 intro N
 induction N with
 | zero=>intro t h;have:=dx t;omega
 | succ N ih=>
 intro t hN hs ho
 have hn:0≤t.n:=by
  rw [T.fI] at hs
  simp only [Sr,aaN,abz,decide_eq_false_iff_not] at hs
  have:=hs.1.1.1.1
  omega
 have hk:=(kU hs).2
 obtain ⟨k,n,l⟩:=t
 rw [qC,vK] at ho
 simp only [Sr,aaN,Bool.and_eq_false_iff,abz,decide_eq_false_iff_not,adi,Bool.not_eq_false'] at ho
 refine yD.mk k n l (fun ul=>?_) fun x hx=>ih x (by have:=cH (a:=.mk k n l) hx;omega) (hk x hx) ?_
 ·rcases ho.1 with h | h
  ·exact absurd ul h
  ·exact ⟨hn,by omega⟩
 ·have:=ho.2 x hx
  simpa using this
end Go.aI
end
section
set_option maxRecDepth 100000
namespace Go.aI
open Go Go.Proofs Go.eJ
mutual
theorem Mm:∀ t:T,(wt t:Int)=t.sz
 | .mk k n l=>by rw [wt,T.sz];have:=HK l;omega
theorem HK:∀ l:List T,(fw l:Int)=x7 l
 | []=>rfl
 | x::r=>by rw [fw,x7];have:=Mm x;have:=HK r;omega
end
theorem kX {l:List T} (h:∀ t∈l,t.tree=true):fw l≤2000 * l.length:=by
 induction l with
 | nil=>simp [fw]
 | cons x r ih=>
   have:=ih fun t ht=>h t (aay _ ht)
   have h1:=((T.iD x).1 (h x aaB)).1
   have h2:=Mm x
   rw [fw,List.length_cons];omega
structure Rt0 (s:Sg) (ps ss:List Int) (l:List T):Prop where
 ord:gS s ps ss
 tree:∀ t∈l,t.tree=true
 all:∀ t∈l,yD (fun n=>0≤n∧n < ps.length) t
theorem xy {s:Sg} {ps ss:List Int}:jl s ps ss=0↔mc s=true∧gS s ps ss:=by
 unfold jl
 by_cases h:mc s=true
 ·by_cases h2:gS s ps ss
  ·rw [if_pos h,if_pos h2];simp [h,h2]
  ·rw [if_pos h,if_neg h2];simp [h2]
 ·rw [if_neg h];simp [h]
theorem pn {s:Sg} {ps ss:List Int} {l:List T} (h:eN s ps ss l=0):Rt0 s ps ss l:=by
 unfold eN at h
 split at h
 ·rename_i h0
  have h1:=(xy.1 h0).2
  split at h
  ·rename_i h2
   have h3:=aaJ.1 h2
   refine ⟨h1,fun t ht=>?_,fun t ht=>?_⟩
   ·have:=h3 t ht;simp only [Sr] at this;exact this.1
   ·have:=h3 t ht
    simp only [Sr] at this
    rw [h1.1]
    exact Vc t ((T.iD t).1 this.1).2.2 this.2
  ·cases h
 ·rename_i h0;exact absurd h h0
theorem Rt0.cx {s:Sg} {ps ss:List Int} {l:List T} (h:Rt0 s ps ss l) (dG:l≠[]) (hl:l.length≤10000) (n:Nat):(gU ps ss l n).Ok:=
 RY h.ord.va dG (by have:=kX h.tree;omega) h.all n
open Classical in
noncomputable def Gk (ps ss:List Int) (a b:T):Bool:=decide (R (iW ps ss) a b)
open Classical in
noncomputable def Vd (ps ss:List Int) (a b:T):Bool:=decide (E (iW ps ss) a b)
theorem sd {ps ss:List Int} {a b:T}:Gk ps ss a b=true↔R (iW ps ss) a b:=by simp [Gk]
theorem BI {ps ss:List Int} {a b:T}:Vd ps ss a b=true↔E (iW ps ss) a b:=by simp [Vd]
theorem Qm (a b:T):bt (aZ [a,b] 0)=.ap 0 (ints (aZ [a,b] 0)):=rfl
theorem uF {Hs G:List aa} {n0 a b:Nat} {u v x y:AV} {R:AV→List aa→Prop} (uC:b≠a) (hH:Hs.take n0=G) (hb:x.a9 n0=true∧y.a9 n0=true) (hx:u.ab=x) (hy:v.ab=y) (hR:R (.tuple [x,y]) G):b8 n0 [.t a,.t b] [(a,u),(b,v)] Hs R:=by
 subst hH;subst hx;subst hy
 refine ⟨n0,oN _,[u.ab,v.ab],?_,by simp only [aj,hb.1,hb.2,ab7],hR⟩
 simp only [aA,if_neg uC,if_true,List.map]
 exact bW _
theorem Up.low {c:Cx} {H X G:List aa} (h:Up c (H++X) G) (he:H.length≤c.e) (hg:H.length≤c.g):G.take H.length=H:=by
 apply aaZ
 intro j
 rw [aax]
 split
 ·rename_i hj
  rw [h.get j (by omega) (by omega),tK hj]
 ·rename_i hj
  rw [aaS (by omega)]
theorem c20 (s:Sg) (ps ss:List Int) (a b:T):Pure Tryz.prog 20 [s.av,eD ps ss,a.av,b.av] (.tuple [.bool (if eN s ps ss [a,b]=0 then Gk ps ss a b else false),.int .i64 (eN s ps ss [a,b])]):=by
 refine fun H=>k20.2.calls rfl ?_
 simp only [k20,aJ]
 obtain ⟨q1,q2,q3,q4,q5,q6⟩:=aS ps ss
 simp +contextual only [aF,q1,q4,bX,sZ,Nat.reduceEqDiff,Nat.reduceAdd,↓reduceIte,reduceCtorEq]
 refine ae (Zb s ps ss [a,b]) ?_
 by_cases h0:eN s ps ss [a,b]=0
 ·rw [if_pos h0]
  have hr:=pn h0
  have hw:=kX hr.tree
  have hc:=hr.cx (by simp) (by simp) H.length
  have hd:=z3 ps ss (ts:=[a,b]) (by simp) H
  simp +contextual only [q4,bX,h0,sZ,Nat.reduceEqDiff,Nat.reduceAdd,↓reduceIte]
  refine af (YL ps ss [a,b] H (by simp at hw;omega)) ?_
  rintro r G ⟨rfl,rfl⟩
  have a0:=uE (ps:=ps) (ss:=ss) (ts:=[a,b]) (n:=H.length) (j:=0) (by simp)
  have a1:=uE (ps:=ps) (ss:=ss) (ts:=[a,b]) (n:=H.length) (j:=1) (by simp)
  have hl:=cI [a,b] 0
  rw [Qm]
  generalize aZ [a,b] 0=ks at a0 a1 hl ⊢
  have oU:ks.length=2:=hl
  simp +contextual only [a7,oU,dJ,sZ,Nat.reduceEqDiff,Nat.reduceAdd,Nat.reduceLT,↓reduceIte,reduceCtorEq]
  refine ⟨by decide,by decide,af (kF hc a0.1 a1.1 _ hd) ?_⟩
  rintro r G ⟨x,rfl,hx,hU,hD⟩
  rw [a0.2,a1.2] at hx
  simp +contextual only [sZ,Nat.reduceEqDiff,↓reduceIte,reduceCtorEq]
  have ex:x=Gk ps ss a b:=by rw [abn,sd];exact hx
  rw [ex]
  exact uF (by decide) (hU.low (by simp [gU]) (by simp [gU])) ⟨rfl,rfl⟩ rfl rfl ⟨by rw [h0];rfl,rfl⟩
 ·rw [if_neg h0]
  simp +contextual only [h0,sZ,Nat.reduceEqDiff,↓reduceIte,reduceCtorEq]
  exact uF (by decide) aaC ⟨rfl,rfl⟩ rfl rfl ⟨rfl,rfl⟩
theorem c22 (s:Sg) (ps ss:List Int) (a b:T):Pure Tryz.prog 22 [s.av,eD ps ss,a.av,b.av] (.tuple [.bool (if eN s ps ss [a,b]=0 then Vd ps ss a b else false),.int .i64 (eN s ps ss [a,b])]):=by
 refine fun H=>k22.2.calls rfl ?_
 simp only [k22,aJ]
 obtain ⟨q1,q2,q3,q4,q5,q6⟩:=aS ps ss
 simp +contextual only [aF,q1,q4,bX,sZ,Nat.reduceEqDiff,Nat.reduceAdd,↓reduceIte,reduceCtorEq]
 refine ae (Zb s ps ss [a,b]) ?_
 by_cases h0:eN s ps ss [a,b]=0
 ·rw [if_pos h0]
  have hr:=pn h0
  have hw:=kX hr.tree
  have hc:=hr.cx (by simp) (by simp) H.length
  have hd:=z3 ps ss (ts:=[a,b]) (by simp) H
  simp +contextual only [q4,bX,h0,sZ,Nat.reduceEqDiff,Nat.reduceAdd,↓reduceIte]
  refine af (YL ps ss [a,b] H (by simp at hw;omega)) ?_
  rintro r G ⟨rfl,rfl⟩
  have a0:=uE (ps:=ps) (ss:=ss) (ts:=[a,b]) (n:=H.length) (j:=0) (by simp)
  have a1:=uE (ps:=ps) (ss:=ss) (ts:=[a,b]) (n:=H.length) (j:=1) (by simp)
  have hl:=cI [a,b] 0
  rw [Qm]
  generalize aZ [a,b] 0=ks at a0 a1 hl ⊢
  have oU:ks.length=2:=hl
  simp +contextual only [a7,oU,dJ,sZ,Nat.reduceEqDiff,Nat.reduceAdd,Nat.reduceLT,↓reduceIte,reduceCtorEq]
  refine ⟨by decide,by decide,af (kD hc a0.1 a1.1 _ hd) ?_⟩
  rintro r G ⟨x,rfl,hx,hU,hD⟩
  rw [a0.2,a1.2] at hx
  simp +contextual only [sZ,Nat.reduceEqDiff,↓reduceIte,reduceCtorEq]
  have ex:x=Vd ps ss a b:=by rw [abn,BI];exact hx
  rw [ex]
  exact uF (by decide) (hU.low (by simp [gU]) (by simp [gU])) ⟨rfl,rfl⟩ rfl rfl ⟨by rw [h0];rfl,rfl⟩
 ·rw [if_neg h0]
  simp +contextual only [h0,sZ,Nat.reduceEqDiff,↓reduceIte,reduceCtorEq]
  exact uF (by decide) aaC ⟨rfl,rfl⟩ rfl rfl ⟨rfl,rfl⟩
end Go.aI
end
section
set_option maxRecDepth 100000
set_option maxHeartbeats 0
namespace Go.aI
open Go Go.Proofs
noncomputable def RZ:=aJ Tryz.call163 Tryz.func163 Tryz.ntmps163 [(0,0,1),(0,1,1),(1,4,1),(1,5,1),(4,2,1000),(5,0,1),(5,7,1),(8,6,2000)] [(0,[2,3]),(1,[2,3,5]),(2,[2,5,16,17,18]),(3,[2,5,16,17,18,19]),(4,[2,5,7,16,17,18]),(5,[2,5,16,17,18]),(6,[2,5,16,17,18]),(7,[8,9]),(8,[4])] [(8,(.take 0 true (.take 1 true (.take 2 true (.take 3 true (.take 4 true (.take 5 true (.br 6 (.take 7 true .done) .nil))))))))]
end Go.aI
end
section
set_option maxRecDepth 100000
namespace Go.aI
open Go Go.Proofs Go.eJ
structure Cn where
 a:T
 b:T
deriving Inhabited
def Cn.av (c:Cn):AV:=.agg [.int .i64 c.a.k,.int .i64 c.a.n,.ap 0 (cQ c.a.l),.int .i64 c.b.k,.int .i64 c.b.n,.ap 0 (cQ c.b.l)]
def yI (l:List Cn):List AV:=l.map Cn.av
structure nM where
 vs:List Int
 cs:List Cn
 a:T
 b:T
deriving Inhabited
def nM.av (e:nM):AV:=.agg [.ap 0 (ints e.vs),.ap 0 (yI e.cs),.int .i64 e.a.k,.int .i64 e.a.n,.ap 0 (cQ e.a.l),.int .i64 e.b.k,.int .i64 e.b.n,.ap 0 (cQ e.b.l)]
def nM.rest (e:nM):List T:=e.b::e.cs.flatMap fun c=>[c.a,c.b]
theorem D2 (l:List Cn):(yI l).length=l.length:=by simp [yI]
theorem Mn (n:Nat) (l:List Cn):aj n (yI l)=true:=by
 rw [aY];intro x hx;obtain ⟨y,_,rfl⟩:=aaq.1 hx
 simp [Cn.av,AV.a9,aj,dT]
theorem nM.facts (e:nM):e.av.val=true∧e.av.cells.length=8∧e.av.cells.all AV.one=true∧e.av.ab=e.av∧e.av.drop=e.av∧∀ n,e.av.a9 n=true:=
 ⟨rfl,rfl,rfl,rfl,rfl,fun n=>by simp [nM.av,AV.a9,aj,dT,bb,Mn]⟩
theorem Cn.facts (e:Cn):e.av.val=true∧e.av.cells.length=6∧e.av.cells.all AV.one=true∧e.av.ab=e.av∧e.av.drop=e.av∧∀ n,e.av.a9 n=true:=
 ⟨rfl,rfl,rfl,rfl,rfl,fun n=>by simp [Cn.av,AV.a9,aj,dT]⟩
theorem T.BJ (t:T):AV.agg [.int .i64 t.k,.int .i64 t.n,.ap 0 (cQ t.l)]=t.av:=by cases t;rfl
theorem feA (e:nM) (φ:AV→Prop):al 2 (some 3) (.ai e.av) φ=φ (.ai e.a.av):=by simp [al,apart,nM.av,AV.cells,← T.BJ]
theorem feB (e:nM) (φ:AV→Prop):al 5 (some 3) (.ai e.av) φ=φ (.ai e.b.av):=by simp [al,apart,nM.av,AV.cells,← T.BJ]
theorem feC (e:nM) (φ:AV→Prop):al 1 none (.ai e.av) φ=φ (.ai (.ap 0 (yI e.cs))):=by simp [al,apart,nM.av,AV.cells,AV.one]
theorem fcA (e:Cn) (φ:AV→Prop):al 0 (some 3) (.ai e.av) φ=φ (.ai e.a.av):=by simp [al,apart,Cn.av,AV.cells,← T.BJ]
theorem fcB (e:Cn) (φ:AV→Prop):al 3 (some 3) (.ai e.av) φ=φ (.ai e.b.av):=by simp [al,apart,Cn.av,AV.cells,← T.BJ]
theorem Qn (o:Nat) (l:List Cn):(∀ (own:Nat) (xs:List AV),AV.ap o (yI l)=AV.ap own xs→∀ z∈xs,z.cells.length=6)=True:=by
 simp only [eq_iff_iff,iff_true]
 intro own xs e z hz
 cases e
 obtain ⟨y,_,rfl⟩:=aaq.1 hz;rfl
theorem Ve (e o:Nat) (l:List Cn) (k:IntKind) (i:Nat) (φ:AV→Prop):ax e (.ap o (yI l)) (.int k (i:Int)) φ=(i < l.length∧φ (.ai (l.getD i default).av)):=by
 simp only [ax,D2,tN,eq_iff_iff]
 constructor
 ·rintro ⟨_,h,h2⟩;refine ⟨h,?_⟩;simpa [yI,h] using h2
 ·rintro ⟨h,h2⟩;refine ⟨by omega,h,?_⟩;simpa [yI,h] using h2
theorem Zc (e:Cn) (H:List aa) (φ:AV→Prop):aU (some 6) (.ai e.av) H φ=φ e.av:=by simp [aU,Cn.av,AV.cells]
def Qo (ps ss:List Int) (e:nM):Prop:=∀ y∈e.rest,R (iW ps ss) e.a y
def vf (l:List Cn):List T:=l.flatMap fun c=>[c.a,c.b]
theorem Mo {l:List Cn} {i:Nat} (h:i < l.length):vf (l.take (i + 1))=vf (l.take i)++[(l.getD i default).a,(l.getD i default).b]:=by
 have e:l.getD i default=l[i]:=by simp [h]
 rw [aaY h,e]
 unfold vf
 rw [acK]
 rfl
theorem BK (l:List Cn):(vf l).length=2 * l.length:=by
 induction l with
 | nil=>rfl
 | cons x r ih=>simp only [vf,List.flatMap_cons,aap,List.length_cons,List.length_nil] at ih ⊢;omega
theorem Qp (a b:List T):cQ (a++b)=cQ a++cQ b:=by
 induction a with
 | nil=>rfl
 | cons x r ih=>rw [List.cons_append,cQ,cQ,ih];rfl
theorem Zd (x:Int) (r:List Int) (φ:AV→Prop):bA 1 (.ap 0 (ints (x::r))) (some (.int .i64 1)) none none φ=φ (.ap 0 (ints r)):=by
 have er:dn (AV.ap 0 (ints (x::r)))=some (ints (x::r)):=rfl
 have e1:(1:Int).toNat=1:=rfl
 have e2:((ints (x::r)).take (ints (x::r)).length).drop 1=ints r:=by rw [aaC];rfl
 simp only [bA,fm,er,dR,e1,e2,eq_iff_iff]
 constructor
 ·intro h;exact h.2.2.2.2
 ·intro h
  refine ⟨fun own xs he z hz=>?_,by omega,by simp [ay],oN _,h⟩
  cases he
  obtain ⟨y,_,rfl⟩:=aaq.1 hz
  rfl
theorem acQ (ps ss:List Int) (e:nM) (hv:Va ps ss) (hlen:e.cs.length≤1000) (ht:∀ t∈e.a::e.rest,t.tree=true) (cT:∀ t∈e.a::e.rest,yD (fun n=>0≤n∧n < ps.length) t) (H:List aa) :
 aw Tryz.prog 163 [eD ps ss,e.av] H fun r H'=>(∃ b:Bool,r=.bool b∧(b=true↔Qo ps ss e))∧H'=H:=by
 refine RZ.2.calls rfl ?_
 simp only [RZ,aJ]
 obtain ⟨q1,q2,q3,q4,q5,q6⟩:=aS ps ss
 obtain ⟨e1,e2,e3,e4,e5,e6⟩:=nM.facts e
 have cf:=Cn.facts
 simp +contextual only [q1,e1,feA,feB,feC,D2,sZ,Nat.reduceEqDiff,Nat.reduceAdd,↓reduceIte,reduceCtorEq]
 intro _
 have rest:e.rest=e.b::vf e.cs:=rfl
 refine aC e.cs.length (fun i=>True) (fun i=>[(2,.ai (eD ps ss)),(5,.ap 3 (cQ (e.a::e.b::vf (e.cs.take i)))),(16,.ap 0 (yI e.cs)),(17,.int .i64 e.cs.length),(18,.int .i64 i)]) (fun _=>H) ⟨trivial,aB _ _ _⟩ fun i hi _=>?_
 by_cases yc:(i:Int) < e.cs.length
 ·have aX:i < e.cs.length:=by omega
  obtain ⟨f1,f2,f3,f4,f5,f6⟩:=cf (e.cs.getD i default)
  have hl:(vf (e.cs.take i)).length≤2000:=by rw [BK];simp;omega
  have hal:=vG (e.a::e.b::vf (e.cs.take i))
  have jt:qP 3 [(e.cs.getD i default).a.av,(e.cs.getD i default).b.av]:=of_eq_true (UP [_,_])
  simp +contextual only [yc,decide_true,Qn,Ve,Zc,f1,f2,f3,fcA,fcB,sZ,Nat.reduceEqDiff,Nat.reduceAdd,↓reduceIte]
  have e7:cQ (e.a::e.b::vf (e.cs.take i))++[(e.cs.getD i default).a.av,(e.cs.getD i default).b.av]=cQ (e.a::e.b::vf (e.cs.take (i + 1))):=by
   rw [Mo aX,← List.cons_append,← List.cons_append,Qp];rfl
  exact ⟨aX,by omega,jt,i + 1,aX,by omega,aD (by rw [au i (by omega),e7]) rfl⟩
 ·have Kg:i=e.cs.length:=by omega
  subst Kg
  rw [aaC]
  have dG:e.a::e.b::vf e.cs≠[]:=by simp
  have hl:(e.a::e.b::vf e.cs).length≤10000:=by simp [BK];omega
  have hw:=kX (l:=e.a::e.b::vf e.cs) ht
  have hc:=RY hv dG (by omega) cT H.length
  have hd:=z3 ps ss dG H
  simp +contextual only [yc,decide_false,bX,q4,sZ,Nat.reduceEqDiff,Nat.reduceAdd,↓reduceIte]
  refine af (YL ps ss (e.a::e.b::vf e.cs) H (by omega)) ?_
  rintro r G ⟨rfl,rfl⟩
  have hk:=(Qk (e.a::e.b::vf e.cs)).kids
  have ek:aZ (e.a::e.b::vf e.cs) 0=0::aZ (e.b::vf e.cs) (0 + wt e.a):=by rw [aZ];rfl
  have E2:=cI (e.b::vf e.cs) (0 + wt e.a)
  rw [ek] at hk ⊢
  generalize aZ (e.b::vf e.cs) (0 + wt e.a)=tl at hk E2 ⊢
  obtain ⟨RT,ul⟩:=hk
  simp only [List.map_cons,List.cons.injEq] at RT
  obtain ⟨ha,hb⟩:=RT
  have e0:([(0:Int)]++tl).getD 0 0=0:=rfl
  have ix0:∀ φ:AV→Prop,ax 1 (.ap 0 (ints (0::tl))) (.int .i64 0) φ=φ (.ai (.int .i64 0)):=fun φ=>by
   have:=a7 1 0 (0::tl) .i64 0 φ
   rw [this]
   simp
  simp +contextual only [bt,ix0,dJ,Option.map_some,Option.map_none,Zd,sZ,Nat.reduceEqDiff,Nat.reduceAdd,Nat.reduceLT,↓reduceIte,reduceCtorEq]
  have itl:IL (.ap 0 (ints tl)) tl:=.inr rfl
  refine af (UW (c:=gU ps ss (e.a::e.b::vf e.cs) H.length) (i:=0) itl (by rw [E2];simp [BK];omega) (fun x hx=>kF hc (ul 0 aaB) (ul x (aay _ hx))) hd) ?_
  rintro r G ⟨b,rfl,hbb,hU,hD⟩
  simp +contextual only [sZ,↓reduceIte,reduceCtorEq]
  refine ba H.length (oN _) (by rw [aA,if_pos rfl];rfl) ?_
  rw [aA,if_pos rfl]
  refine ⟨⟨b,rfl,?_⟩,hU.low (by simp [gU]) (by simp [gU])⟩
  rw [hbb,Qo,rest]
  have ha':(gU ps ss (e.a::e.b::vf e.cs) H.length).tm 0=e.a:=ha
  have dU:tl.map (gU ps ss (e.a::e.b::vf e.cs) H.length).tm=e.b::vf e.cs:=hb
  rw [ha']
  generalize (gU ps ss (e.a::e.b::vf e.cs) H.length).tm=f at dU
  rw [← dU]
  constructor
  ·intro h y hy
   obtain ⟨x,hx,rfl⟩:=aaq.1 hy
   exact h x hx
  ·intro h x hx
   exact h _ (aaq.2 ⟨x,hx,rfl⟩)
end Go.aI
end
section
namespace Go.eJ
open Go.aI
inductive PP where
 | mk (r i:Int) (to:List Int) (l:List PP)
 deriving Inhabited
def PP.r:PP→Int | .mk r _ _ _=>r
def PP.i:PP→Int | .mk _ i _ _=>i
def PP.to:PP→List Int | .mk _ _ to _=>to
def PP.l:PP→List PP | .mk _ _ _ l=>l
mutual
def pz:PP→Nat
 | .mk _ _ _ l=>Ze l + 1
def Ze:List PP→Nat
 | []=>0
 | x::r=>pz x + Ze r
end
theorem HL {x:PP}:∀ {l:List PP},x∈l→pz x≤Ze l
 | y::r,h=>by
   rw [Ze]
   rcases aan.1 h with rfl | h
   ·omega
   ·have:=HL h;omega
theorem BL (p:PP):0 < pz p:=by cases p;rw [pz];omega
theorem BM {p x:PP} (h:x∈p.l):pz x < pz p:=by
 obtain ⟨r,i,to,l⟩:=p
 have:pz x≤Ze l:=HL h
 rw [pz];omega
theorem ej {l:List PP} {i:Nat} (h:i < l.length):l.getD i default∈l:=by
 rw [oM,Nq h];exact abC h
theorem JG {l:List T} {i:Nat} (h:i < l.length):l.getD i default∈l:=by
 rw [oM,Nq h];exact abC h
def PP.nil (q:PP):Prop:=q.r=0∧q.i=0∧q.to=[]∧q.l=[]
instance (q:PP):Decidable q.nil:=by
 unfold PP.nil
 have:Decidable (q.l=[]):=by cases q.l with
  | nil=>exact isTrue rfl
  | cons a b=>exact isFalse (by simp)
 exact inferInstance
def dy (to:List Int) (x:Int):Nat→Nat
 | 0=>0
 | n + 1=>dy to x n + if to.getD n 0=x then 1 else 0
def dm (to:List Int) (l:List PP) (x:Int):Nat→Nat
 | 0=>0
 | n + 1=>dm to l x n + if to.getD n 0=x∧(l.getD n default).nil then 1 else 0
theorem z6 {to:List Int} {x:Int} {j:Nat}:∀ {n:Nat},j < n→to.getD j 0=x→1≤dy to x n
 | n + 1,h,e=>by
   rw [dy]
   by_cases hj:j=n
   ·subst hj;rw [if_pos e];omega
   ·have:=z6 (n:=n) (by omega) e;omega
theorem tv {to:List Int} {x:Int} {j j':Nat} (hj:j < j') (e:to.getD j 0=x) (e':to.getD j' 0=x):∀ {n:Nat},j' < n→2≤dy to x n
 | n + 1,h=>by
   rw [dy]
   by_cases hn:j'=n
   ·subst hn;rw [if_pos e'];have:=z6 hj e;omega
   ·have:=tv hj e e' (n:=n) (by omega);omega
theorem z7 {to:List Int} {x:Int} {j j' n:Nat} (h:dy to x n≤1) (hj:j < n) (vI:j' < n) (e:to.getD j 0=x) (e':to.getD j' 0=x):j=j':=by
 rcases aez j j' with h1 | h1 | h1
 ·have:=tv h1 e e' vI;omega
 ·exact h1
 ·have:=tv h1 e' e hj;omega
theorem iX {to:List Int} {l:List PP} {x:Int}:∀ {n:Nat},0 < dm to l x n↔∃ j,j < n∧to.getD j 0=x∧(l.getD j default).nil
 | 0=>by simp [dm]
 | n + 1=>by
   rw [dm]
   have ih:=iX (to:=to) (l:=l) (x:=x) (n:=n)
   by_cases h:to.getD n 0=x∧(l.getD n default).nil
   ·rw [if_pos h]
    exact ⟨fun _=>⟨n,by omega,h⟩,fun _=>by omega⟩
   ·rw [if_neg h,aev,ih]
    constructor
    ·rintro ⟨j,h1,h2⟩;exact ⟨j,by omega,h2⟩
    ·rintro ⟨j,h1,h2⟩
     have:j≠n:=fun e=>h (e ▸ h2)
     exact ⟨j,by omega,h2⟩
theorem oH {to:List Int} {l:List PP} {x:Int}:∀ n,dm to l x n≤dy to x n
 | 0=>oN _
 | n + 1=>by
   rw [dm,dy]
   have:=oH (to:=to) (l:=l) (x:=x) n
   by_cases h:to.getD n 0=x∧(l.getD n default).nil
   ·rw [if_pos h,if_pos h.1];omega
   ·rw [if_neg h];omega
def me (S:PP→T→T→Prop) (l:List PP) (a:T) (bs:List T):Prop:=l.length=bs.length∧∀ j,j < bs.length→S (l.getD j default) a (bs.getD j default)
def R0 (Q:T→T→Prop) (S:PP→T→T→Prop) (to:List Int) (l:List PP) (az bs:List T):Prop:=
 to.length=bs.length∧l.length=bs.length∧
 (∀ j,j < bs.length→(0≤to.getD j 0∧to.getD j 0 < az.length)∧
   (if (l.getD j default).nil then Q (az.getD (to.getD j 0).toNat default) (bs.getD j default) else S (l.getD j default) (az.getD (to.getD j 0).toNat default) (bs.getD j default)))∧
 (∀ x:Nat,x < az.length→0 < dm to l x bs.length→dy to x bs.length≤1)∧∃ x:Nat,x < az.length∧dm to l x bs.length=0
def D3 (Q:T→T→Prop) (S:PP→T→T→Prop) (i:Int) (l:List PP) (a:T) (az bs:List T) (bl:List T):Prop:=
 (0≤i∧i < az.length∧i≤bs.length)∧(∀ j,j < i.toNat→Q (az.getD j default) (bs.getD j default))∧
 (if i=bs.length then me S l a bl else ∃ q r,l=q::r∧S q (az.getD i.toNat default) (bs.getD i.toNat default)∧me S r a bl)
def Fs (O:Od) (S:PP→T→T→Prop) (p:PP) (a b:T):Prop:=
 a.k=2∧(
  (p.r=1∧p.to=[]∧(0≤p.i∧p.i < a.l.length)∧((p.l=[]∧E O (a.l.getD p.i.toNat default) b)∨∃ q,p.l=[q]∧S q (a.l.getD p.i.toNat default) b))∨
  (p.r=2∧p.to=[]∧p.i=0∧b.k=2∧O.pl b.n < O.pl a.n∧me S p.l a b.l)∨
  (p.r=3∧p.to=[]∧b.k=2∧O.pl a.n=O.pl b.n∧O.sp (O.pl a.n)≠3∧D3 (E O) S p.i p.l a (side (O.sp (O.pl a.n)) a.l) (side (O.sp (O.pl a.n)) b.l) b.l)∨
  (p.r=4∧p.i=0∧b.k=2∧O.pl a.n=O.pl b.n∧O.sp (O.pl a.n)=3∧R0 (E O) S p.to p.l a.l b.l))
theorem ni {S S':PP→T→T→Prop} {l:List PP} {a:T} {bs:List T} (h:∀ q∈l,∀ a b,S q a b↔S' q a b):me S l a bs↔me S' l a bs:=by
 refine and_congr_right fun hl=>?_
 constructor
 ·exact fun k j hj=>(h _ (ej (by omega)) _ _).1 (k j hj)
 ·exact fun k j hj=>(h _ (ej (by omega)) _ _).2 (k j hj)
theorem JH {Q:T→T→Prop} {S S':PP→T→T→Prop} {to:List Int} {l:List PP} {az bs:List T} (h:∀ q∈l,∀ a b,S q a b↔S' q a b):R0 Q S to l az bs↔R0 Q S' to l az bs:=by
 refine and_congr_right fun _=>and_congr_right fun hl=>and_congr_left fun _=>?_
 constructor
 ·intro k j hj
  refine ⟨(k j hj).1,?_⟩
  have:=(k j hj).2
  split at this
  ·rename_i e;rw [if_pos e];exact this
  ·rename_i e;rw [if_neg e];exact (h _ (ej (by omega)) _ _).1 this
 ·intro k j hj
  refine ⟨(k j hj).1,?_⟩
  have:=(k j hj).2
  split at this
  ·rename_i e;rw [if_pos e];exact this
  ·rename_i e;rw [if_neg e];exact (h _ (ej (by omega)) _ _).2 this
theorem Gl {Q:T→T→Prop} {S S':PP→T→T→Prop} {i:Int} {l:List PP} {a:T} {az bs bl:List T} (h:∀ q∈l,∀ a b,S q a b↔S' q a b):D3 Q S i l a az bs bl↔D3 Q S' i l a az bs bl:=by
 refine and_congr_right fun _=>and_congr_right fun _=>?_
 split
 ·exact ni h
 ·constructor
  ·rintro ⟨q,r,rfl,h1,h2⟩
   exact ⟨q,r,rfl,(h q aaB _ _).1 h1,(ni fun x hx=>h x (aay _ hx)).1 h2⟩
  ·rintro ⟨q,r,rfl,h1,h2⟩
   exact ⟨q,r,rfl,(h q aaB _ _).2 h1,(ni fun x hx=>h x (aay _ hx)).2 h2⟩
theorem D4 {O:Od} {S S':PP→T→T→Prop} {p:PP} {a b:T} (h:∀ q∈p.l,∀ a b,S q a b↔S' q a b):Fs O S p a b↔Fs O S' p a b:=by
 refine and_congr_right fun _=>or_congr ?_ (or_congr ?_ (or_congr ?_ ?_))
 ·refine and_congr_right fun _=>and_congr_right fun _=>and_congr_right fun _=>or_congr Iff.rfl ?_
  constructor
  ·rintro ⟨q,e,k⟩;exact ⟨q,e,(h q (by rw [e];simp) _ _).1 k⟩
  ·rintro ⟨q,e,k⟩;exact ⟨q,e,(h q (by rw [e];simp) _ _).2 k⟩
 ·rw [ni h]
 ·rw [Gl h]
 ·rw [JH h]
def R1 (O:Od):Nat→PP→T→T→Prop
 | 0=>fun _ _ _=>False
 | f + 1=>Fs O (R1 O f)
def Sh (O:Od) (p:PP) (a b:T):Prop:=R1 O (pz p) p a b
theorem qD (O:Od):∀ (f g:Nat) (p:PP) (a b:T),pz p≤f→pz p≤g→(R1 O f p a b↔R1 O g p a b)
 | 0,_,p,a,b,h,_=>by have:=BL p;omega
 | _ + 1,0,p,a,b,_,h=>by have:=BL p;omega
 | f + 1,g + 1,p,a,b,h1,h2=>by
   simp only [R1]
   refine D4 fun q hq a b=>?_
   have:=BM hq
   exact qD O f g q a b (by omega) (by omega)
theorem qE {O:Od} {p:PP} {a b:T}:Sh O p a b↔Fs O (Sh O) p a b:=by
 have e:R1 O (pz p) p a b↔R1 O (pz p + 1) p a b:=qD O _ _ p a b (by omega) (by omega)
 unfold Sh
 rw [e]
 show Fs O (R1 O (pz p)) p a b↔_
 refine D4 fun q hq a b=>?_
 have:=BM hq
 exact qD O _ _ q a b (by omega) (by omega)
theorem R2 {G:T→T→Prop}:∀ (n:Nat) {l m:List T},n < l.length→n≤m.length→(∀ j,j < n→l.getD j default=m.getD j default)→(n=m.length∨G (l.getD n default) (m.getD n default))→Lx G l m
 | 0,x::l,[],_,_,_,_=>trivial
 | 0,x::l,y::m,_,_,_,h=>.inr (by simpa using h)
 | n + 1,x::l,[],_,h,_,_=>by simp at h
 | n + 1,x::l,y::m,h1,h2,h3,h4=>by
   refine .inl ⟨h3 0 (by omega),R2 n (by simpa using h1) (by simpa using h2) (fun j hj=>h3 (j + 1) (by omega)) ?_⟩
   simpa using h4
theorem Gm {β:Type} (f:T→β) (a:List T):a.map f=(List.range a.length).map fun i=>f (a.getD i default):=by
 apply adF
 ·simp
 ·intro i h1 h2
  have:i < a.length:=by simpa using h1
  simp [this]
theorem z8 {β:Type} (f:T→β) (a:List T) (p:Nat→Bool):(a.map f).Perm (((List.range a.length).filter p).map (fun i=>f (a.getD i default))++((List.range a.length).filter fun i=>!p i).map fun i=>f (a.getD i default)):=by
 rw [Gm,← abf]
 exact (List.filter_append_perm p (List.range a.length)).symm.map _
theorem pX (n:Nat) (p:Nat→Bool):((List.range n).filter p).Nodup:=List.Pairwise.filter p List.nodup_range
theorem Vf {O:Od} {S:PP→T→T→Prop} {to:List Int} {l:List PP} {az bs:List T} (h:R0 (E O) S to l az bs) (hS:∀ q∈l,∀ a b,S q a b→R O a b):Mu (Gt O.sp) (az.map (norm O)) (bs.map (norm O)):=by
 obtain ⟨h1,h2,h3,h4,x0,Kk,h5⟩:=h
 let n:=bs.length
 let U:Nat→Bool:=fun i=>decide (dm to l i n=0)
 let Z:Nat→Bool:=fun j=>!decide (l.getD j default).nil
 have pu:=z8 (norm O) az U
 have pz:=z8 (norm O) bs Z
 refine YF (X:=((List.range az.length).filter U).map fun i=>norm O (az.getD i default)) (Y:=((List.range bs.length).filter Z).map fun i=>norm O (bs.getD i default)) (C:=((List.range bs.length).filter fun i=>!Z i).map fun i=>norm O (bs.getD i default)) ?_ pz ?_ ?_
 ·refine pu.trans (List.Perm.append_left _ ?_)
  have hp:(((List.range bs.length).filter fun j=>!Z j).map fun j=>(to.getD j 0).toNat).Perm ((List.range az.length).filter fun i=>!U i):=by
   rw [List.perm_ext_iff_of_nodup]
   ·intro i
    simp only [Z,U,n,aaq,aa2,aaP,aeu,aaN,decide_eq_true_eq,decide_eq_false_iff_not]
    constructor
    ·rintro ⟨j,⟨hj,hn⟩,rfl⟩
     have:=(h3 j hj).1
     refine ⟨by omega,?_⟩
     have:0 < dm to l ((to.getD j 0).toNat:Int) bs.length:=iX.2 ⟨j,hj,by omega,hn⟩
     omega
    ·rintro ⟨hi,hu⟩
     obtain ⟨j,k1,k2,k3⟩:=iX.1 (show 0 < dm to l (i:Int) bs.length by omega)
     exact ⟨j,⟨k1,k3⟩,by omega⟩
   ·rw [List.Nodup,List.pairwise_map]
    refine List.Pairwise.imp_of_mem ?_ (pX _ _)
    intro j j' hj vI dG he
    simp only [Z,aa2,aaP,aeu,decide_eq_true_eq] at hj vI
    have b1:=(h3 j hj.1).1
    have b2:=(h3 j' vI.1).1
    have e1:to.getD j 0=(((to.getD j 0).toNat:Nat):Int):=by omega
    have e2:to.getD j' 0=(((to.getD j 0).toNat:Nat):Int):=by omega
    have hp:0 < dm to l (((to.getD j 0).toNat:Nat):Int) bs.length:=iX.2 ⟨j,hj.1,e1,hj.2⟩
    exact dG (z7 (h4 _ (by omega) hp) hj.1 vI.1 e1 e2)
   ·exact pX _ _
  refine (hp.map fun i=>norm O (az.getD i default)).symm.trans ?_
  rw [ab9]
  refine List.Perm.of_eq (aa5 fun j hj=>?_)
  simp only [Z,aa2,aaP,aeu,decide_eq_true_eq] at hj
  have:=(h3 j hj.1).2
  rw [if_pos hj.2] at this
  exact this
 ·intro e
  have:norm O (az.getD x0 default)∈((List.range az.length).filter U).map fun i=>norm O (az.getD i default):=
   aaq.2 ⟨x0,aa2.2 ⟨aaP.2 Kk,by simp [U,n,h5]⟩,rfl⟩
  rw [e] at this
  cases this
 ·intro y hy
  obtain ⟨j,hj,rfl⟩:=aaq.1 hy
  simp only [Z,aa2,aaP,aaN,decide_eq_false_iff_not] at hj
  obtain ⟨hj,hn⟩:=hj
  have b1:=h3 j hj
  rw [if_neg hn] at b1
  refine ⟨norm O (az.getD (to.getD j 0).toNat default),aaq.2 ⟨(to.getD j 0).toNat,aa2.2 ⟨aaP.2 (by omega),?_⟩,rfl⟩,hS _ (ej (by omega)) _ _ b1.2⟩
  simp only [U,n,decide_eq_true_eq]
  by_cases hp:0 < dm to l ((to.getD j 0).toNat:Int) bs.length
  ·have ht:=h4 _ (by omega) hp
   obtain ⟨j',k1,k2,k3⟩:=iX.1 hp
   have:=z7 ht hj k1 (by omega) k2
   exact absurd (this ▸ k3) hn
  ·omega
theorem po {f:T→T} {l:List T} {i:Nat} (h:i < l.length):(l.map f).getD i default=f (l.getD i default):=by
 simp [h]
theorem acR {O:Od}:∀ (N:Nat) {p:PP} {a b:T},pz p≤N→Sh O p a b→R O a b:=by
 intro N
 induction N with
 | zero=>intro p a b h;have:=BL p;omega
 | succ N ih=>
 intro p a b hN h
 have hm:∀ q∈p.l,∀ a b,Sh O q a b→R O a b:=fun q hq a b hs=>ih (by have:=BM hq;omega) hs
 have iJ:∀ {l:List PP} {bs:List T},(∀ q∈l,q∈p.l)→me (Sh O) l a bs→∀ y∈bs,R O a y:=by
  intro l bs hq hl y hy
  obtain ⟨j,hj,rfl⟩:=List.mem_iff_getElem.1 hy
  have:=hl.2 j hj
  have e:bs.getD j default=bs[j]:=by simp [hj]
  rw [e] at this
  exact hm _ (hq _ (ej (by have:=hl.1;omega))) _ _ this
 obtain ⟨ha,h⟩:=qE.1 h
 rcases h with ⟨_,_,hi,h⟩ | ⟨_,_,_,hb,hp,h⟩ | ⟨_,_,hb,hp,hs,h1,h2,h3⟩ | ⟨_,_,hb,hp,hs,h⟩
 ·refine YH ha (JG (i:=p.i.toNat) (by omega)) ?_
  rcases h with ⟨_,h⟩ | ⟨q,e,h⟩
  ·exact .inl h
  ·exact .inr (hm q (by rw [e];simp) _ _ h)
 ·exact pU.2 ⟨ha,.inr ⟨hb,.inl ⟨hp,iJ (fun _ h=>h) h⟩⟩⟩
 ·refine pU.2 ⟨ha,.inr ⟨hb,.inr (.inl ⟨hp.symm,hs,?_,?_⟩)⟩⟩
  ·split at h3
   ·exact iJ (fun _ h=>h) h3
   ·obtain ⟨q,r,e,_,h3⟩:=h3
    exact iJ (fun x hx=>by rw [e];exact aay _ hx) h3
  ·rw [DN,DN]
   have R3:p.i.toNat < (side (O.sp (O.pl a.n)) a.l).length:=by omega
   refine R2 p.i.toNat (by simpa using R3) (by simp;omega) (fun j hj=>?_) ?_
   ·rw [po (by omega),po (by omega)]
    exact h2 j hj
   ·by_cases hi:p.i=(side (O.sp (O.pl a.n)) b.l).length
    ·left;simp;omega
    ·rw [if_neg hi] at h3
     obtain ⟨q,r,e,h3,_⟩:=h3
     right
     rw [po (by omega),po (by omega)]
     exact hm q (by rw [e];simp) _ _ h3
 ·exact pU.2 ⟨ha,.inr ⟨hb,.inr (.inr ⟨hp.symm,hs,Vf h hm⟩)⟩⟩
theorem Sh.gt {O:Od} {p:PP} {a b:T} (h:Sh O p a b):R O a b:=acR _ (oN _) h
end Go.eJ
end
section
set_option maxRecDepth 100000
namespace Go.aI
open Go Go.Proofs Go.eJ
mutual
def eC:PP→AV
 | .mk r i to l=>.agg [.int .i64 r,.int .i64 i,.ap 0 (ints to),.ap 0 (eo l)]
def eo:List PP→List AV
 | []=>[]
 | x::r=>eC x::eo r
end
theorem oI (p:PP):eC p=.agg [.int .i64 p.r,.int .i64 p.i,.ap 0 (ints p.to),.ap 0 (eo p.l)]:=by cases p;rw [eC];rfl
theorem mf:∀ l,eo l=l.map eC
 | []=>rfl
 | x::r=>by simp [eo,mf r]
theorem eO (l:List PP):(eo l).length=l.length:=by simp [mf]
mutual
theorem gk (n:Nat):∀ p,(eC p).a9 n=true
 | .mk r i to l=>by simp [eC,AV.a9,aj,bb,jm n l]
theorem jm (n:Nat):∀ l,aj n (eo l)=true
 | []=>rfl
 | x::r=>by simp [eo,aj,gk n x,jm n r]
end
theorem bf (p:PP):(eC p).val=true∧(eC p).cells.length=4∧(eC p).cells.all AV.one=true∧(eC p).ab=eC p∧(eC p).drop=eC p∧(∀ n,(eC p).a9 n=true)∧AV.agg (eC p).cells=eC p∧(eC p).cells.map AV.drop=(eC p).cells∧(eC p).cells.map AV.ab=(eC p).cells:=by
 refine ⟨?_,?_,?_,?_,?_,fun n=>gk n p,?_,?_,?_⟩ <;> (rw [oI];rfl)
theorem D5 (p:PP) (φ:AV→Prop):al 0 none (.ai (eC p)) φ=φ (.ai (.int .i64 p.r)):=by rw [oI];simp [al,apart,AV.cells,AV.one]
theorem EJ (p:PP) (φ:AV→Prop):al 1 none (.ai (eC p)) φ=φ (.ai (.int .i64 p.i)):=by rw [oI];simp [al,apart,AV.cells,AV.one]
theorem Qq (p:PP) (φ:AV→Prop):al 2 none (.ai (eC p)) φ=φ (.ai (.ap 0 (ints p.to))):=by rw [oI];simp [al,apart,AV.cells,AV.one]
theorem Mq (p:PP) (φ:AV→Prop):al 3 none (.ai (eC p)) φ=φ (.ai (.ap 0 (eo p.l))):=by rw [oI];simp [al,apart,AV.cells,AV.one]
theorem sf (o:Nat) (l:List PP):(∀ (own:Nat) (xs:List AV),AV.ap o (eo l)=AV.ap own xs→∀ z∈xs,z.cells.length=4)=True:=by
 simp only [eq_iff_iff,iff_true]
 intro own xs e z hz
 cases e
 rw [mf] at hz
 obtain ⟨y,_,rfl⟩:=aaq.1 hz
 exact (bf y).2.1
theorem z9 (l:List PP) (i:Nat) (h:i < l.length):(eo l).getD i .any=eC (l.getD i default):=by
 simp [mf,h]
theorem BN (e o:Nat) (l:List PP) (k:IntKind) (i:Int) (φ:AV→Prop):ax e (.ap o (eo l)) (.int k i) φ=((0≤i∧i < l.length)∧φ (.ai (eC (l.getD i.toNat default)))):=by
 simp only [ax,eO,eq_iff_iff]
 constructor
 ·rintro ⟨h0,h,h2⟩;rw [z9 _ _ h] at h2;exact ⟨by omega,h2⟩
 ·rintro ⟨⟨h0,h⟩,h2⟩
  have h:i.toNat < l.length:=by omega
  rw [z9 _ _ h];exact ⟨h0,h,h2⟩
theorem sg (p:PP) (H:List aa) (φ:AV→Prop):aU (some 4) (.ai (eC p)) H φ=φ (eC p):=by
 obtain ⟨_,h2,_,_,_,_,h7,_⟩:=bf p
 simp [aU,h2,h7]
theorem Vg (l:List PP):qP 4 (eo l)=True:=by
 simp only [eq_iff_iff,iff_true]
 intro z hz
 rw [mf] at hz
 obtain ⟨y,_,rfl⟩:=aaq.1 hz
 obtain ⟨h1,h2,h3,h4,h5,_⟩:=bf y
 first | exact ⟨h1,h2,h3⟩ | exact ⟨h2,h1,h3⟩ | exact ⟨h1,h2⟩ | (constructor <;> first | assumption | simp [*])
def BO (P:Px) (id:Nat) (xs:List AV) (H:List aa) (K:AV→List aa→Prop):Prop:=∃ bU,yY xs bU∧mE P id bU H K
@[congr] theorem Qr {P:Px} {id:Nat} {xs xs':List AV} {H H':List aa} {K:AV→List aa→Prop} (h:gN xs=xs') (h2:H=H'):BO P id xs H K=BO P id xs' H' K:=by subst h;subst h2;rfl
theorem HM {P:Px} {env:Env} {H:List aa} (id:Nat) (args:List IX) (pass:Option Nat) (K:AV→Env→List aa→Prop):pK P (.nN id) args pass env H K=BO P id (aK env pass 0 args) H (fun r H'=>K r (cG env (bh args pass)) H'):=ae0
theorem Vh (id:Nat):(AV.nN id).ab=.nN id:=ae0
theorem Aa {P:Program} {id:Nat} {xs:List AV} {H:List aa} {R K:AV→List aa→Prop} (hc:ko P id xs H R) (hk:∀ r H',R r H'→K r H'):BO (P:Px) id xs H K:=⟨xs,bW _,fF.mono hc hk⟩
theorem tw {P:Program} (g:FuncId) (first cap:List AV) (lc:jg) (env:Env) (H:List aa) (K:Option Code→List aa→Prop) {R:AV→List aa→Prop} (he:∀ (vs:Array Value) (w:World),(callFunc g vs).run P w=.ok (.enter g vs) w)
 (hc:aw P g (first.map AV.ab++[.nN H.length]++cap.map AV.ab) (H++[.loop .ready lc (ln lc.n env)]) R) (hk:∀ r H',R r H'→behind H.length H' K):w7 (P:Px) (.fn (.func g) first cap) lc env H K:=
 ⟨he,_,bW _,dD.of (hc.mono hk)⟩
theorem acS (n:Nat) (hn:n < 4611686018427387904) (id:Nat) (G:Nat→List aa) (hl:∀ j,(G j).length=(G 0).length) (hy:∀ j,j < n→ko Tryz.prog id [.int .i64 (j:Int)] (G j) fun r H'=>r=.bool true∧H'=G (j + 1)) :
 aw Tryz.prog 201 [.nN id,.ai (.int .i64 n)] (G 0) fun r H'=>r=.tuple []∧H'=G n:=by
 refine XF.2.calls rfl ?_
 simp only [XF,aJ]
 simp +contextual only [sZ,Nat.reduceEqDiff,Nat.reduceAdd,↓reduceIte,reduceCtorEq]
 refine aC n (fun j=>True) (fun j=>[(0,.nN id),(1,.ai (.int .i64 n)),(3,.int .i64 j)]) G ⟨trivial,aB _ _ _⟩ fun j hj _=>?_
 by_cases hjn:(j:Int) < n
 ·simp +contextual only [hjn,decide_true,HM,Vh,sZ,Nat.reduceEqDiff,Nat.reduceAdd,↓reduceIte,reduceCtorEq]
  refine Aa (hy j (by omega)) ?_
  rintro r H' ⟨rfl,rfl⟩
  simp +contextual only [sZ,Nat.reduceEqDiff,↓reduceIte,reduceCtorEq]
  exact ⟨j + 1,by omega,by omega,aD (by rw [au j (by omega)]) rfl⟩
 ·have e:j=n:=by omega
  subst e
  simp +contextual only [hjn,decide_false,sZ,Nat.reduceEqDiff,↓reduceIte,reduceCtorEq]
  exact rN (hl j).symm rfl
end Go.aI
end
