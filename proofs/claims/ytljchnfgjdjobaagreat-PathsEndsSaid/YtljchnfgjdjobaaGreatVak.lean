/- Part 11 of 15 of the proof. -/
import Derived.Test.YtljchnfgjdjobaaGreatVai
import Derived.Test.YtljchnfgjdjobaaGreatVaj
import Derived.Test.YtljchnfgjdjobaaGreatVac
import Derived.Test.YtljchnfgjdjobaaGreatVag
import Derived.KernelRfl
set_option linter.unusedVariables false
set_option linter.unusedSimpArgs false
set_option linter.defProp false
set_option linter.unusedSectionVars false
section
namespace Go.fN
open Go.aL
inductive PP where
 | mk (r i:Int) (to:List Int) (l:List PP)
 deriving Inhabited
def PP.r:PP→Int | .mk r _ _ _=>r
def PP.i:PP→Int | .mk _ i _ _=>i
def PP.to:PP→List Int | .mk _ _ to _=>to
def PP.l:PP→List PP | .mk _ _ _ l=>l
mutual
def pz:PP→Nat
 | .mk _ _ _ l=>Zp l + 1
def Zp:List PP→Nat
 | []=>0
 | x::r=>pz x + Zp r
end
theorem HB {x:PP}:∀ {l:List PP},x∈l→pz x≤Zp l
 | y::r,h=>by
   rw [Zp]
   rcases List.mem_cons.1 h with rfl | h
   ·omega
   ·have:=HB h;omega
theorem BE (p:PP):0 < pz p:=by cases p;rw [pz];omega
theorem BF {p x:PP} (h:x∈p.l):pz x < pz p:=by
 obtain ⟨r,i,to,l⟩:=p
 have:pz x≤Zp l:=HB h
 rw [pz];omega
theorem ey {l:List PP} {i:Nat} (h:i < l.length):l.getD i default∈l:=by
 rw [List.getD_eq_getElem?_getD,List.getElem?_eq_getElem h];exact List.getElem_mem h
theorem Jw {l:List T} {i:Nat} (h:i < l.length):l.getD i default∈l:=by
 rw [List.getD_eq_getElem?_getD,List.getElem?_eq_getElem h];exact List.getElem_mem h
def PP.nil (q:PP):Prop:=q.r=0∧q.i=0∧q.to=[]∧q.l=[]
instance (q:PP):Decidable q.nil:=by
 unfold PP.nil
 have:Decidable (q.l=[]):=by cases q.l with
  | nil=>exact isTrue rfl
  | cons a b=>exact isFalse (by simp)
 exact inferInstance
def dB (to:List Int) (x:Int):Nat→Nat
 | 0=>0
 | n + 1=>dB to x n + if to.getD n 0=x then 1 else 0
def dr (to:List Int) (l:List PP) (x:Int):Nat→Nat
 | 0=>0
 | n + 1=>dr to l x n + if to.getD n 0=x∧(l.getD n default).nil then 1 else 0
theorem zS {to:List Int} {x:Int} {j:Nat}:∀ {n:Nat},j < n→to.getD j 0=x→1≤dB to x n
 | n + 1,h,e=>by
   rw [dB]
   by_cases hj:j=n
   ·subst hj;rw [if_pos e];omega
   ·have:=zS (n:=n) (by omega) e;omega
theorem ta {to:List Int} {x:Int} {j j':Nat} (hj:j < j') (e:to.getD j 0=x) (e':to.getD j' 0=x):∀ {n:Nat},j' < n→2≤dB to x n
 | n + 1,h=>by
   rw [dB]
   by_cases hn:j'=n
   ·subst hn;rw [if_pos e'];have:=zS hj e;omega
   ·have:=ta hj e e' (n:=n) (by omega);omega
theorem zU {to:List Int} {x:Int} {j j' n:Nat} (h:dB to x n≤1) (hj:j < n) (vg:j' < n) (e:to.getD j 0=x) (e':to.getD j' 0=x):j=j':=by
 rcases Nat.lt_trichotomy j j' with h1 | h1 | h1
 ·have:=ta h1 e e' vg;omega
 ·exact h1
 ·have:=ta h1 e' e hj;omega
theorem iJ {to:List Int} {l:List PP} {x:Int}:∀ {n:Nat},0 < dr to l x n↔∃ j,j < n∧to.getD j 0=x∧(l.getD j default).nil
 | 0=>by simp [dr]
 | n + 1=>by
   rw [dr]
   have ih:=iJ (to:=to) (l:=l) (x:=x) (n:=n)
   by_cases h:to.getD n 0=x∧(l.getD n default).nil
   ·rw [if_pos h]
    exact ⟨fun _=>⟨n,by omega,h⟩,fun _=>by omega⟩
   ·rw [if_neg h,Nat.add_zero,ih]
    constructor
    ·rintro ⟨j,h1,h2⟩;exact ⟨j,by omega,h2⟩
    ·rintro ⟨j,h1,h2⟩
     have:j≠n:=fun e=>h (e ▸ h2)
     exact ⟨j,by omega,h2⟩
theorem oA {to:List Int} {l:List PP} {x:Int}:∀ n,dr to l x n≤dB to x n
 | 0=>Nat.le_refl _
 | n + 1=>by
   rw [dr,dB]
   have:=oA (to:=to) (l:=l) (x:=x) n
   by_cases h:to.getD n 0=x∧(l.getD n default).nil
   ·rw [if_pos h,if_pos h.1];omega
   ·rw [if_neg h];omega
def lS (S:PP→T→T→Prop) (l:List PP) (a:T) (bs:List T):Prop:=l.length=bs.length∧∀ j,j < bs.length→S (l.getD j default) a (bs.getD j default)
def RZ (Q:T→T→Prop) (S:PP→T→T→Prop) (to:List Int) (l:List PP) (az bs:List T):Prop:=
 to.length=bs.length∧l.length=bs.length∧
 (∀ j,j < bs.length→(0≤to.getD j 0∧to.getD j 0 < az.length)∧
   (if (l.getD j default).nil then Q (az.getD (to.getD j 0).toNat default) (bs.getD j default) else S (l.getD j default) (az.getD (to.getD j 0).toNat default) (bs.getD j default)))∧
 (∀ x:Nat,x < az.length→0 < dr to l x bs.length→dB to x bs.length≤1)∧∃ x:Nat,x < az.length∧dr to l x bs.length=0
def D2 (Q:T→T→Prop) (S:PP→T→T→Prop) (i:Int) (l:List PP) (a:T) (az bs:List T) (bl:List T):Prop:=
 (0≤i∧i < az.length∧i≤bs.length)∧(∀ j,j < i.toNat→Q (az.getD j default) (bs.getD j default))∧
 (if i=bs.length then lS S l a bl else ∃ q r,l=q::r∧S q (az.getD i.toNat default) (bs.getD i.toNat default)∧lS S r a bl)
def Fs (O:Od) (S:PP→T→T→Prop) (p:PP) (a b:T):Prop:=
 a.k=2∧(
  (p.r=1∧p.to=[]∧(0≤p.i∧p.i < a.l.length)∧((p.l=[]∧E O (a.l.getD p.i.toNat default) b)∨∃ q,p.l=[q]∧S q (a.l.getD p.i.toNat default) b))∨
  (p.r=2∧p.to=[]∧p.i=0∧b.k=2∧O.pl b.n < O.pl a.n∧lS S p.l a b.l)∨
  (p.r=3∧p.to=[]∧b.k=2∧O.pl a.n=O.pl b.n∧O.sp (O.pl a.n)≠3∧D2 (E O) S p.i p.l a (side (O.sp (O.pl a.n)) a.l) (side (O.sp (O.pl a.n)) b.l) b.l)∨
  (p.r=4∧p.i=0∧b.k=2∧O.pl a.n=O.pl b.n∧O.sp (O.pl a.n)=3∧RZ (E O) S p.to p.l a.l b.l))
theorem mX {S S':PP→T→T→Prop} {l:List PP} {a:T} {bs:List T} (h:∀ q∈l,∀ a b,S q a b↔S' q a b):lS S l a bs↔lS S' l a bs:=by
 refine and_congr_right fun hl=>?_
 constructor
 ·exact fun k j hj=>(h _ (ey (by omega)) _ _).1 (k j hj)
 ·exact fun k j hj=>(h _ (ey (by omega)) _ _).2 (k j hj)
theorem Jx {Q:T→T→Prop} {S S':PP→T→T→Prop} {to:List Int} {l:List PP} {az bs:List T} (h:∀ q∈l,∀ a b,S q a b↔S' q a b):RZ Q S to l az bs↔RZ Q S' to l az bs:=by
 refine and_congr_right fun _=>and_congr_right fun hl=>and_congr_left fun _=>?_
 constructor
 ·intro k j hj
  refine ⟨(k j hj).1,?_⟩
  have:=(k j hj).2
  split at this
  ·rename_i e;rw [if_pos e];exact this
  ·rename_i e;rw [if_neg e];exact (h _ (ey (by omega)) _ _).1 this
 ·intro k j hj
  refine ⟨(k j hj).1,?_⟩
  have:=(k j hj).2
  split at this
  ·rename_i e;rw [if_pos e];exact this
  ·rename_i e;rw [if_neg e];exact (h _ (ey (by omega)) _ _).2 this
theorem Gb {Q:T→T→Prop} {S S':PP→T→T→Prop} {i:Int} {l:List PP} {a:T} {az bs bl:List T} (h:∀ q∈l,∀ a b,S q a b↔S' q a b):D2 Q S i l a az bs bl↔D2 Q S' i l a az bs bl:=by
 refine and_congr_right fun _=>and_congr_right fun _=>?_
 split
 ·exact mX h
 ·constructor
  ·rintro ⟨q,r,rfl,h1,h2⟩
   exact ⟨q,r,rfl,(h q List.mem_cons_self _ _).1 h1,(mX fun x hx=>h x (List.mem_cons_of_mem _ hx)).1 h2⟩
  ·rintro ⟨q,r,rfl,h1,h2⟩
   exact ⟨q,r,rfl,(h q List.mem_cons_self _ _).2 h1,(mX fun x hx=>h x (List.mem_cons_of_mem _ hx)).2 h2⟩
theorem D3 {O:Od} {S S':PP→T→T→Prop} {p:PP} {a b:T} (h:∀ q∈p.l,∀ a b,S q a b↔S' q a b):Fs O S p a b↔Fs O S' p a b:=by
 refine and_congr_right fun _=>or_congr ?_ (or_congr ?_ (or_congr ?_ ?_))
 ·refine and_congr_right fun _=>and_congr_right fun _=>and_congr_right fun _=>or_congr Iff.rfl ?_
  constructor
  ·rintro ⟨q,e,k⟩;exact ⟨q,e,(h q (by rw [e];simp) _ _).1 k⟩
  ·rintro ⟨q,e,k⟩;exact ⟨q,e,(h q (by rw [e];simp) _ _).2 k⟩
 ·rw [mX h]
 ·rw [Gb h]
 ·rw [Jx h]
def R0 (O:Od):Nat→PP→T→T→Prop
 | 0=>fun _ _ _=>False
 | f + 1=>Fs O (R0 O f)
def Sh (O:Od) (p:PP) (a b:T):Prop:=R0 O (pz p) p a b
theorem qi (O:Od):∀ (f g:Nat) (p:PP) (a b:T),pz p≤f→pz p≤g→(R0 O f p a b↔R0 O g p a b)
 | 0,_,p,a,b,h,_=>by have:=BE p;omega
 | _ + 1,0,p,a,b,_,h=>by have:=BE p;omega
 | f + 1,g + 1,p,a,b,h1,h2=>by
   simp only [R0]
   refine D3 fun q hq a b=>?_
   have:=BF hq
   exact qi O f g q a b (by omega) (by omega)
theorem qj {O:Od} {p:PP} {a b:T}:Sh O p a b↔Fs O (Sh O) p a b:=by
 have e:R0 O (pz p) p a b↔R0 O (pz p + 1) p a b:=qi O _ _ p a b (by omega) (by omega)
 unfold Sh
 rw [e]
 show Fs O (R0 O (pz p)) p a b↔_
 refine D3 fun q hq a b=>?_
 have:=BF hq
 exact qi O _ _ q a b (by omega) (by omega)
theorem R1 {G:T→T→Prop}:∀ (n:Nat) {l m:List T},n < l.length→n≤m.length→(∀ j,j < n→l.getD j default=m.getD j default)→(n=m.length∨G (l.getD n default) (m.getD n default))→Lx G l m
 | 0,x::l,[],_,_,_,_=>trivial
 | 0,x::l,y::m,_,_,_,h=>.inr (by simpa using h)
 | n + 1,x::l,[],_,h,_,_=>by simp at h
 | n + 1,x::l,y::m,h1,h2,h3,h4=>by
   refine .inl ⟨h3 0 (by omega),R1 n (by simpa using h1) (by simpa using h2) (fun j hj=>h3 (j + 1) (by omega)) ?_⟩
   simpa using h4
theorem Gc {β:Type} (f:T→β) (a:List T):a.map f=(List.range a.length).map fun i=>f (a.getD i default):=by
 apply List.ext_getElem
 ·simp
 ·intro i h1 h2
  have:i < a.length:=by simpa using h1
  simp [this]
theorem zV {β:Type} (f:T→β) (a:List T) (p:Nat→Bool):(a.map f).Perm (((List.range a.length).filter p).map (fun i=>f (a.getD i default))++((List.range a.length).filter fun i=>!p i).map fun i=>f (a.getD i default)):=by
 rw [Gc,← List.map_append]
 exact (List.filter_append_perm p (List.range a.length)).symm.map _
theorem pI (n:Nat) (p:Nat→Bool):((List.range n).filter p).Nodup:=List.Pairwise.filter p List.nodup_range
theorem Vh {O:Od} {S:PP→T→T→Prop} {to:List Int} {l:List PP} {az bs:List T} (h:RZ (E O) S to l az bs) (hS:∀ q∈l,∀ a b,S q a b→R O a b):Mu (Gt O.sp) (az.map (norm O)) (bs.map (norm O)):=by
 obtain ⟨h1,h2,h3,h4,x0,J8,h5⟩:=h
 let n:=bs.length
 let U:Nat→Bool:=fun i=>decide (dr to l i n=0)
 let Z:Nat→Bool:=fun j=>!decide (l.getD j default).nil
 have pu:=zV (norm O) az U
 have pz:=zV (norm O) bs Z
 refine L8 (X:=((List.range az.length).filter U).map fun i=>norm O (az.getD i default)) (Y:=((List.range bs.length).filter Z).map fun i=>norm O (bs.getD i default)) (C:=((List.range bs.length).filter fun i=>!Z i).map fun i=>norm O (bs.getD i default)) ?_ pz ?_ ?_
 ·refine pu.trans (List.Perm.append_left _ ?_)
  have hp:(((List.range bs.length).filter fun j=>!Z j).map fun j=>(to.getD j 0).toNat).Perm ((List.range az.length).filter fun i=>!U i):=by
   rw [List.perm_ext_iff_of_nodup]
   ·intro i
    simp only [Z,U,n,List.mem_map,List.mem_filter,List.mem_range,Bool.not_not,Bool.not_eq_true',decide_eq_true_eq,decide_eq_false_iff_not]
    constructor
    ·rintro ⟨j,⟨hj,hn⟩,rfl⟩
     have:=(h3 j hj).1
     refine ⟨by omega,?_⟩
     have:0 < dr to l ((to.getD j 0).toNat:Int) bs.length:=iJ.2 ⟨j,hj,by omega,hn⟩
     omega
    ·rintro ⟨hi,hu⟩
     obtain ⟨j,k1,k2,k3⟩:=iJ.1 (show 0 < dr to l (i:Int) bs.length by omega)
     exact ⟨j,⟨k1,k3⟩,by omega⟩
   ·rw [List.Nodup,List.pairwise_map]
    refine List.Pairwise.imp_of_mem ?_ (pI _ _)
    intro j j' hj vg dW he
    simp only [Z,List.mem_filter,List.mem_range,Bool.not_not,decide_eq_true_eq] at hj vg
    have b1:=(h3 j hj.1).1
    have b2:=(h3 j' vg.1).1
    have e1:to.getD j 0=(((to.getD j 0).toNat:Nat):Int):=by omega
    have e2:to.getD j' 0=(((to.getD j 0).toNat:Nat):Int):=by omega
    have hp:0 < dr to l (((to.getD j 0).toNat:Nat):Int) bs.length:=iJ.2 ⟨j,hj.1,e1,hj.2⟩
    exact dW (zU (h4 _ (by omega) hp) hj.1 vg.1 e1 e2)
   ·exact pI _ _
  refine (hp.map fun i=>norm O (az.getD i default)).symm.trans ?_
  rw [List.map_map]
  refine List.Perm.of_eq (List.map_congr_left fun j hj=>?_)
  simp only [Z,List.mem_filter,List.mem_range,Bool.not_not,decide_eq_true_eq] at hj
  have:=(h3 j hj.1).2
  rw [if_pos hj.2] at this
  exact this
 ·intro e
  have:norm O (az.getD x0 default)∈((List.range az.length).filter U).map fun i=>norm O (az.getD i default):=
   List.mem_map.2 ⟨x0,List.mem_filter.2 ⟨List.mem_range.2 J8,by simp [U,n,h5]⟩,rfl⟩
  rw [e] at this
  cases this
 ·intro y hy
  obtain ⟨j,hj,rfl⟩:=List.mem_map.1 hy
  simp only [Z,List.mem_filter,List.mem_range,Bool.not_eq_true',decide_eq_false_iff_not] at hj
  obtain ⟨hj,hn⟩:=hj
  have b1:=h3 j hj
  rw [if_neg hn] at b1
  refine ⟨norm O (az.getD (to.getD j 0).toNat default),List.mem_map.2 ⟨(to.getD j 0).toNat,List.mem_filter.2 ⟨List.mem_range.2 (by omega),?_⟩,rfl⟩,hS _ (ey (by omega)) _ _ b1.2⟩
  simp only [U,n,decide_eq_true_eq]
  by_cases hp:0 < dr to l ((to.getD j 0).toNat:Int) bs.length
  ·have ht:=h4 _ (by omega) hp
   obtain ⟨j',k1,k2,k3⟩:=iJ.1 hp
   have:=zU ht hj k1 (by omega) k2
   exact absurd (this ▸ k3) hn
  ·omega
theorem o9 {f:T→T} {l:List T} {i:Nat} (h:i < l.length):(l.map f).getD i default=f (l.getD i default):=by
 simp [h]
theorem acX {O:Od}:∀ (N:Nat) {p:PP} {a b:T},pz p≤N→Sh O p a b→R O a b:=by
 intro N
 induction N with
 | zero=>intro p a b h;have:=BE p;omega
 | succ N ih=>
 intro p a b hN h
 have hm:∀ q∈p.l,∀ a b,Sh O q a b→R O a b:=fun q hq a b hs=>ih (by have:=BF hq;omega) hs
 have jU:∀ {l:List PP} {bs:List T},(∀ q∈l,q∈p.l)→lS (Sh O) l a bs→∀ y∈bs,R O a y:=by
  intro l bs hq hl y hy
  obtain ⟨j,hj,rfl⟩:=List.mem_iff_getElem.1 hy
  have:=hl.2 j hj
  have e:bs.getD j default=bs[j]:=by simp [hj]
  rw [e] at this
  exact hm _ (hq _ (ey (by have:=hl.1;omega))) _ _ this
 obtain ⟨ha,h⟩:=qj.1 h
 rcases h with ⟨_,_,hi,h⟩ | ⟨_,_,_,hb,hp,h⟩ | ⟨_,_,hb,hp,hs,h1,h2,h3⟩ | ⟨_,_,hb,hp,hs,h⟩
 ·refine Mb ha (Jw (i:=p.i.toNat) (by omega)) ?_
  rcases h with ⟨_,h⟩ | ⟨q,e,h⟩
  ·exact .inl h
  ·exact .inr (hm q (by rw [e];simp) _ _ h)
 ·exact rD.2 ⟨ha,.inr ⟨hb,.inl ⟨hp,jU (fun _ h=>h) h⟩⟩⟩
 ·refine rD.2 ⟨ha,.inr ⟨hb,.inr (.inl ⟨hp.symm,hs,?_,?_⟩)⟩⟩
  ·split at h3
   ·exact jU (fun _ h=>h) h3
   ·obtain ⟨q,r,e,_,h3⟩:=h3
    exact jU (fun x hx=>by rw [e];exact List.mem_cons_of_mem _ hx) h3
  ·rw [rA,rA]
   have hla:p.i.toNat < (side (O.sp (O.pl a.n)) a.l).length:=by omega
   refine R1 p.i.toNat (by simpa using hla) (by simp;omega) (fun j hj=>?_) ?_
   ·rw [o9 (by omega),o9 (by omega)]
    exact h2 j hj
   ·by_cases hi:p.i=(side (O.sp (O.pl a.n)) b.l).length
    ·left;simp;omega
    ·rw [if_neg hi] at h3
     obtain ⟨q,r,e,h3,_⟩:=h3
     right
     rw [o9 (by omega),o9 (by omega)]
     exact hm q (by rw [e];simp) _ _ h3
 ·exact rD.2 ⟨ha,.inr ⟨hb,.inr (.inr ⟨hp.symm,hs,Vh h hm⟩)⟩⟩
theorem Sh.gt {O:Od} {p:PP} {a b:T} (h:Sh O p a b):R O a b:=acX _ (Nat.le_refl _) h
end Go.fN
end
section
set_option maxRecDepth 100000
namespace Go.aL
open Go Go.Proofs Go.fN
mutual
def eC:PP→AV
 | .mk r i to l=>.agg [.int .i64 r,.int .i64 i,.al 0 (ints to),.al 0 (eB l)]
def eB:List PP→List AV
 | []=>[]
 | x::r=>eC x::eB r
end
theorem oB (p:PP):eC p=.agg [.int .i64 p.r,.int .i64 p.i,.al 0 (ints p.to),.al 0 (eB p.l)]:=by cases p;rw [eC];rfl
theorem lT:∀ l,eB l=l.map eC
 | []=>rfl
 | x::r=>by simp [eB,lT r]
theorem eL (l:List PP):(eB l).length=l.length:=by simp [lT]
mutual
theorem gg (n:Nat):∀ p,(eC p).aV n=true
 | .mk r i to l=>by simp [eC,AV.aV,aj,bb,iY n l]
theorem iY (n:Nat):∀ l,aj n (eB l)=true
 | []=>rfl
 | x::r=>by simp [eB,aj,gg n x,iY n r]
end
theorem a7 (p:PP):(eC p).val=true∧(eC p).cells.length=4∧(eC p).cells.all AV.one=true∧(eC p).ab=eC p∧(eC p).drop=eC p∧(∀ n,(eC p).aV n=true)∧AV.agg (eC p).cells=eC p∧(eC p).cells.map AV.drop=(eC p).cells∧(eC p).cells.map AV.ab=(eC p).cells:=by
 refine ⟨?_,?_,?_,?_,?_,fun n=>gg n p,?_,?_,?_⟩ <;> (rw [oB];rfl)
theorem D4 (p:PP) (φ:AV→Prop):ak 0 none (.ai (eC p)) φ=φ (.ai (.int .i64 p.r)):=by rw [oB];simp [ak,apart,AV.cells,AV.one]
theorem Ew (p:PP) (φ:AV→Prop):ak 1 none (.ai (eC p)) φ=φ (.ai (.int .i64 p.i)):=by rw [oB];simp [ak,apart,AV.cells,AV.one]
theorem Qs (p:PP) (φ:AV→Prop):ak 2 none (.ai (eC p)) φ=φ (.ai (.al 0 (ints p.to))):=by rw [oB];simp [ak,apart,AV.cells,AV.one]
theorem Mx (p:PP) (φ:AV→Prop):ak 3 none (.ai (eC p)) φ=φ (.ai (.al 0 (eB p.l))):=by rw [oB];simp [ak,apart,AV.cells,AV.one]
theorem rN (o:Nat) (l:List PP):(∀ (own:Nat) (xs:List AV),AV.al o (eB l)=AV.al own xs→∀ z∈xs,z.cells.length=4)=True:=by
 simp only [eq_iff_iff,iff_true]
 intro own xs e z hz
 cases e
 rw [lT] at hz
 obtain ⟨y,_,rfl⟩:=List.mem_map.1 hz
 exact (a7 y).2.1
theorem zW (l:List PP) (i:Nat) (h:i < l.length):(eB l).getD i .any=eC (l.getD i default):=by
 simp [lT,h]
theorem BG (e o:Nat) (l:List PP) (k:IntKind) (i:Int) (φ:AV→Prop):ax e (.al o (eB l)) (.int k i) φ=((0≤i∧i < l.length)∧φ (.ai (eC (l.getD i.toNat default)))):=by
 simp only [ax,eL,eq_iff_iff]
 constructor
 ·rintro ⟨h0,h,h2⟩;rw [zW _ _ h] at h2;exact ⟨by omega,h2⟩
 ·rintro ⟨⟨h0,h⟩,h2⟩
  have h:i.toNat < l.length:=by omega
  rw [zW _ _ h];exact ⟨h0,h,h2⟩
theorem rO (p:PP) (H:List aa) (φ:AV→Prop):aQ (some 4) (.ai (eC p)) H φ=φ (eC p):=by
 obtain ⟨_,h2,_,_,_,_,h7,_⟩:=a7 p
 simp [aQ,h2,h7]
theorem Vi (l:List PP):qB 4 (eB l)=True:=by
 simp only [eq_iff_iff,iff_true]
 intro z hz
 rw [lT] at hz
 obtain ⟨y,_,rfl⟩:=List.mem_map.1 hz
 obtain ⟨h1,h2,h3,h4,h5,_⟩:=a7 y
 first | exact ⟨h1,h2,h3⟩ | exact ⟨h2,h1,h3⟩ | exact ⟨h1,h2⟩ | (constructor <;> first | assumption | simp [*])
def BH (P:Px) (id:Nat) (xs:List AV) (H:List aa) (K:AV→List aa→Prop):Prop:=∃ bR,xY xs bR∧mh P id bR H K
@[congr] theorem Qt {P:Px} {id:Nat} {xs xs':List AV} {H H':List aa} {K:AV→List aa→Prop} (h:gJ xs=xs') (h2:H=H'):BH P id xs H K=BH P id xs' H' K:=by subst h;subst h2;rfl
theorem HC {P:Px} {env:Env} {H:List aa} (id:Nat) (args:List IX) (pass:Option Nat) (K:AV→Env→List aa→Prop):pq P (.nH id) args pass env H K=BH P id (aI env pass 0 args) H (fun r H'=>K r (cQ env (bh args pass)) H'):=_root_.id rfl
theorem Vj (id:Nat):(AV.nH id).ab=.nH id:=_root_.id rfl
theorem zX {P:Program} {id:Nat} {xs:List AV} {H:List aa} {R K:AV→List aa→Prop} (hc:jZ P id xs H R) (hk:∀ r H',R r H'→K r H'):BH (P:Px) id xs H K:=⟨xs,b8 _,fD.mono hc hk⟩
theorem tb {P:Program} (g:FuncId) (first cap:List AV) (lc:iT) (env:Env) (H:List aa) (K:Option Code→List aa→Prop) {R:AV→List aa→Prop} (he:∀ (vs:Array Value) (w:World),(callFunc g vs).run P w=.ok (.enter g vs) w)
 (hc:aq P g (first.map AV.ab++[.nH H.length]++cap.map AV.ab) (H++[.loop .ready lc (kW lc.n env)]) R) (hk:∀ r H',R r H'→behind H.length H' K):wE (P:Px) (.fn (.func g) first cap) lc env H K:=
 ⟨he,_,b8 _,ej.of (hc.mono hk)⟩
theorem acY (n:Nat) (hn:n < 4611686018427387904) (id:Nat) (G:Nat→List aa) (hl:∀ j,(G j).length=(G 0).length) (hy:∀ j,j < n→jZ Tryz.prog id [.int .i64 (j:Int)] (G j) fun r H'=>r=.bool true∧H'=G (j + 1)) :
 aq Tryz.prog 201 [.nH id,.ai (.int .i64 n)] (G 0) fun r H'=>r=.tuple []∧H'=G n:=by
 refine X2.2.calls rfl ?_
 simp only [X2,aF]
 simp +contextual only [sZ,Nat.reduceEqDiff,Nat.reduceAdd,↓reduceIte,reduceCtorEq]
 refine aD n (fun j=>True) (fun j=>[(0,.nH id),(1,.ai (.int .i64 n)),(3,.int .i64 j)]) G ⟨trivial,aA _ _ _⟩ fun j hj _=>?_
 by_cases hjn:(j:Int) < n
 ·simp +contextual only [hjn,decide_true,HC,Vj,sZ,Nat.reduceEqDiff,Nat.reduceAdd,↓reduceIte,reduceCtorEq]
  refine zX (hy j (by omega)) ?_
  rintro r H' ⟨rfl,rfl⟩
  simp +contextual only [sZ,Nat.reduceEqDiff,↓reduceIte,reduceCtorEq]
  exact ⟨j + 1,by omega,by omega,aC (by rw [au j (by omega)]) rfl⟩
 ·have e:j=n:=by omega
  subst e
  simp +contextual only [hjn,decide_false,sZ,Nat.reduceEqDiff,↓reduceIte,reduceCtorEq]
  exact rj (hl j).symm rfl
end Go.aL
end
section
set_option maxRecDepth 100000
namespace Go.aL
open Go Go.Proofs Go.fN
def upto (n:Nat):List Int:=(List.range n).map Int.ofNat
theorem zY (n:Nat):upto (n + 1)=upto n++[(n:Int)]:=by simp [upto,List.range_succ]
theorem D5 (n:Nat):(upto n).length=n:=by simp [upto]
theorem xi {n:Nat} {x:Int}:x∈upto n↔0≤x∧x < n:=by
 simp only [upto,List.mem_map,List.mem_range]
 constructor
 ·rintro ⟨j,h,rfl⟩;exact ⟨Int.natCast_nonneg j,Int.ofNat_lt.2 h⟩
 ·intro h;exact ⟨x.toNat,by omega,by simp;omega⟩
def xj (j:Nat):AV:=match j with | 0=>.ah | j + 1=>.al 1 (ints (upto (j + 1)))
theorem My (j:Nat) (h:j < 1000000000) (ψ:List AV→Prop) (hψ:ψ (ints (upto (j + 1)))):bn 1 8 (xj j) (.al 0 [.int .i64 (j:Int)]) ψ:=by
 have e1:ints (upto j)++[AV.int .i64 (j:Int)]=ints (upto (j + 1)):=by rw [zY];simp [ints]
 have jy:qB 1 [AV.int .i64 (j:Int)]:=of_eq_true (kL [(j:Int)])
 cases j with
 | zero=>
   rw [xj,mH]
   exact ⟨by simp,jy,hψ⟩
 | succ j=>
   rw [xj,mI]
   exact ⟨by rw [aw,D5];simp;omega,jy,by rw [e1];exact hψ⟩
theorem Mz (j:Nat):(xj j).ab=bu (upto j):=by
 cases j with
 | zero=>rfl
 | succ j=>rw [xj,zY];cases h:upto j <;> rfl
theorem BI:cc.n=13:=by kernel_rfl
theorem xk:cc.ps=[7]:=by kernel_rfl
theorem tc {id:Nat} {H:List aa} {K:List aa→Prop} {lc:iT} {es:List AV} (h:H[id]?=some (.loop .ready lc es)):kh id H K=K (H.set id (.loop .busy lc es)):=by
 unfold kh;rw [h]
theorem Ge {n0 id:Nat} {R:AV→List aa→Prop} {H:List aa} {lc:iT} {es:List AV} (h:H[id]?=some (.loop .busy lc es)):qR n0 id R .normal H=It n0 true (H.set id (.loop .ready lc es)) R:=by
 unfold qR;rw [h]
theorem xl {id:Nat} {H:List aa} {K:Option Code→List aa→Prop} {lc:iT} {es:List AV} (h:H[id]?=some (.loop .ready lc es)):behind id H K=K none (H.set id (.loop .eO lc es)):=by
 unfold behind;rw [h]
theorem xm {P:Px} {n0:Nat} {ia ib:IR} {env:Env} {H:List aa} {id:Nat} {R:AV→List aa→Prop}
 (h:lX P n0 ia env H fun e env1 H1=>e=.normal∧kh id H1 fun H2=>lX P n0 ib env1 H2 fun e _ H3=>qR n0 id R e H3):mi P n0 ia env H fun e env1 H1=>e=.normal∧kh id H1 fun H2=>mi P n0 ib env1 H2 fun e _ H3=>qR n0 id R e H3:=by
 refine uX h ?_
 rintro x e H' ⟨h1,h2⟩
 refine ⟨h1,?_⟩
 unfold kh at *
 split at h2
 ·rename_i e'
  exact uX h2 fun _ _ _ h=>h
 ·exact h2.elim
theorem acZ (n:Nat) (hn:n < 1000000000):Pure Tryz.prog 200 [.ah,.fn (.func 201) [] [.ai (.int .i64 n)]] (bu (upto n)):=by
 refine fun H=>X1.calls rfl ?_
 simp only [Rz,Ry]
 simp +contextual only [mJ,sZ,Nat.reduceEqDiff,Nat.reduceAdd,↓reduceIte,reduceCtorEq]
 have el:∀ X:List aa,(H++X).length=H.length + X.length:=fun X=>List.length_append
 obtain ⟨es,Ar⟩:∃ es,es=kW cc.n [(2,AV.ptr H.length 0),(6,AV.fn (.func 201) [] [.ai (.int .i64 n)])]:=⟨_,rfl⟩
 have ees:es=[.any,.any,.ptr H.length 0,.any,.any,.any,.fn (.func 201) [] [.ai (.int .i64 n)],.any,.any,.any,.any,.any,.any]:=by rw [Ar,BI];rfl
 let G:Nat→List aa:=fun j=>H++[.cells [xj j],.loop .ready cc es]
 have hG:∀ j,(G j).length=H.length + 2:=fun j=>by simp [G]
 have g1:∀ j,(G j)[H.length + 1]?=some (.loop .ready cc es):=fun j=>by simp [G]
 refine tb (P:=Tryz.prog) (R:=fun r H'=>r=.tuple []∧H'=G n) 201 [] [.ai (.int .i64 n)] cc _ _ _ Tryz.call201 ?_ ?_
 ·rw [← Ar]
  have e1:(H++[aa.cells [AV.ah]]).length=H.length + 1:=by simp
  have e2:(H++[aa.cells [AV.ah]]++[.loop .ready cc es])=G 0:=by simp [G,xj]
  rw [e1,e2]
  refine acY n (by omega) (H.length + 1) G (fun j=>by rw [hG,hG]) fun j hj=>?_
  refine oO (lc:=cc) (es:=es) (g1 j) PO PR ⟨by rw [ees,BI];rfl,by rw [xk];rfl,by rw [xk,BI];rfl,?_,?_⟩ (xm ?_)
  ·rw [ees];intro x hx;simp only [List.mem_cons,List.not_mem_nil,or_false] at hx
   rcases hx with rfl | rfl | rfl | rfl | rfl | rfl | rfl | rfl | rfl | rfl | rfl | rfl | rfl <;> rfl
  ·intro x hx;simp only [List.mem_cons,List.not_mem_nil,or_false] at hx;subst hx;rfl
  ·have ez:(cc.ps.zip [AV.int .i64 (j:Int)]).reverse++bX 0 es=(7,.int .i64 (j:Int))::bX 0 es:=by rw [xk];rfl
   rw [ez,ees]
   simp only [He,Hf]
   have hb:∀ K,kh (H.length + 1) (G j) K=K (H++[.cells [xj j],.loop .busy cc es]):=fun K=>by rw [tc (g1 j)];simp [G]
   simp +contextual only [hb,sZ,Nat.reduceEqDiff,Nat.reduceAdd,Nat.reduceLT,↓reduceIte,reduceCtorEq]
   refine My j (by omega) _ ?_
   have hz:∀ x:AV,(H++[aa.cells [x],.loop .busy cc es])[H.length + 1]?=some (.loop .busy cc es):=fun x=>by simp
   have kQ:(AV.al 1 (ints (upto (j + 1)))).aV (H.length + 1)=true:=by rw [b9];exact bb _ _
   simp +contextual only [kQ,sZ,Nat.reduceEqDiff,Nat.reduceAdd,Nat.reduceLT,↓reduceIte]
   rw [Ge (hz _)]
   refine ⟨by simp [G],rfl,?_⟩
   simp [G,xj]
   exact List.take_of_length_le (by simp)
 ·rintro r G' ⟨rfl,rfl⟩
  have e1:(H++[aa.cells [AV.ah]]).length=H.length + 1:=by simp
  rw [e1,xl (g1 n)]
  have e3:(G n).set (H.length + 1) (.loop .eO cc es)=H++[.cells [xj n],.loop .eO cc es]:=by simp [G]
  rw [e3]
  simp +contextual only [pP,sZ,Nat.reduceAdd,Nat.reduceLT,↓reduceIte,reduceCtorEq]
  have e4:(xj n).ab.ab=bu (upto n):=by rw [Mz];exact (aH _).2.1
  rw [e4]
  exact Lt ((aH _).2.2.1 _) rfl
theorem ac0 (n:Nat) (hn:n < 1000000000):Pure Tryz.prog 152 [.fn (.func 201) [] [.ai (.int .i64 n)]] (bu (upto n)):=by
 refine fun H=>XD.2.calls rfl ?_
 simp only [XD,aF]
 simp +contextual only [sZ,Nat.reduceAdd,↓reduceIte,reduceCtorEq]
 refine ae (acZ n hn) ?_
 have e4:(bu (upto n)).ab=bu (upto n):=(aH _).2.1
 simp +contextual only [e4,sZ,↓reduceIte,reduceCtorEq]
 exact aZ ((aH _).2.2.1 _) rfl
theorem ac1 (n:Int):Pure Tryz.prog 153 [.int .i64 n] (.fn (.func 201) [] [.ai (.int .i64 n)]):=by
 refine fun H=>XE.2.calls rfl ?_
 simp only [XE,aF]
 simp +contextual only [sZ,Nat.reduceEqDiff,Nat.reduceAdd,↓reduceIte,reduceCtorEq]
 exact aZ rfl rfl
end Go.aL
end
section
set_option maxRecDepth 100000
namespace Go.aL
open Go Go.Proofs Go.fN
def jA (c:Cx) (i k:Int) (p:PP):Prop:=∀ H,Du c H→aq Tryz.prog 87 [.ptr c.d 0,.int .i64 i,.int .i64 k,eC p] H (iS c (Sh c.O p (c.tm i) (c.tm k)) H)
theorem ac2 {c:Cx} {b:List Int} {vb:AV} (hb:IL vb b) {q:Nat} {i j:Int} {l:List PP} (hj:0≤j∧j < b.length) (hl:l.length=b.length) (h:jA c i (b.getD j.toNat 0) (l.getD j.toNat default)) {G:List aa} (hD:Du c G) (gq:G[q]?=some (.cells [vb])) :
 aq Tryz.prog 154 [.int .i64 j,.ai (.ptr c.d 0),.ai (.int .i64 i),.ptr q 0,.ai (.al 0 (eB l))] G (iS c (¬ Sh c.O (l.getD j.toNat default) (c.tm i) (c.tm (b.getD j.toNat 0))) G):=by
 refine XF.2.calls rfl ?_
 simp only [XF,aF]
 obtain ⟨b1,b2,b3,b4⟩:=hb.one
 obtain ⟨p1,p2,p3,p4,p5,p6,p7,p8,p9⟩:=a7 (l.getD j.toNat default)
 simp +contextual only [gq,b2,hb.lens,hb.idx,BG,rN,rO,p4,sZ,Nat.reduceEqDiff,Nat.reduceAdd,Nat.reduceLT,↓reduceIte,reduceCtorEq]
 refine ⟨hj,⟨hj.1,by omega⟩,af (h G hD) ?_⟩
 rintro r G' ⟨z,rfl,hz,hU,jH⟩
 simp +contextual only [sZ,↓reduceIte,reduceCtorEq]
 refine eG (b:=!z) rfl ?_ hU jH
 rw [← hz];cases z <;> simp
theorem cu {b:List Int} {f:Int→T} {j:Nat} (h:j < b.length):(b.map f).getD j default=f (b.getD j 0):=by simp [h]
theorem Vk {c:Cx} {b:List Int} {vb:AV} (hb:IL vb b) (lb:b.length < 1000000000) {q:Nat} (hq:q≠c.e∧q≠c.g) {i:Int} {l:List PP} (h:∀ j,j < b.length→j < l.length→jA c i (b.getD j 0) (l.getD j default)) {G:List aa} (hD:Du c G) (gq:G[q]?=some (.cells [vb])) :
 aq Tryz.prog 151 [.al 0 (eB l),.ptr q 0,.ai (.ptr c.d 0),.ai (.int .i64 i)] G (iS c (lS (Sh c.O) l (c.tm i) (b.map c.tm)) G):=by
 refine XC.2.calls rfl ?_
 simp only [XC,aF]
 obtain ⟨b1,b2,b3,b4⟩:=hb.one
 simp +contextual only [gq,b2,hb.aN,hb.len (by omega),eL,sZ,Nat.reduceEqDiff,Nat.reduceAdd,Nat.reduceLT,↓reduceIte,reduceCtorEq]
 have e1:lS (Sh c.O) l (c.tm i) (b.map c.tm)↔l.length=b.length∧∀ j,j < b.length→Sh c.O (l.getD j default) (c.tm i) (c.tm (b.getD j 0)):=by
  unfold lS
  rw [List.length_map]
  refine and_congr_right fun _=>⟨fun h j hj=>?_,fun h j hj=>?_⟩
  ·have:=h j hj;rwa [cu hj] at this
  ·rw [cu hj];exact h j hj
 refine fun Np=>⟨fun he=>?_,fun dW=>?_⟩
 ·refine ae (ac1 _) ?_
  simp +contextual only [sZ,Nat.reduceEqDiff,Nat.reduceAdd,↓reduceIte]
  refine ae (ac0 b.length lb) ?_
  have k2:∀ l,(bu l).ab=bu l:=fun l=>(aH l).2.1
  simp +contextual only [k2,sZ,Nat.reduceEqDiff,Nat.reduceAdd,↓reduceIte,reduceCtorEq]
  refine af (DQ (SD.Bu c G) (.inl rfl:IL (bu (upto b.length)) (upto b.length)) (by rw [D5];omega) 154 [] [.ai (.ptr c.d 0),.ai (.int .i64 i),.ptr q 0,.ai (.al 0 (eB l))] rfl rfl (Q:=fun j=>¬ Sh c.O (l.getD j.toNat default) (c.tm i) (c.tm (b.getD j.toNat 0)))
   (fun x hx G' dN=>?_) ⟨hD,Up.refl c G⟩) ?_
  ·have hx:=xi.1 hx
   exact (ac2 hb ⟨hx.1,hx.2⟩ (by omega) (h x.toNat (by omega) (by omega)) dN.1 (by rw [dN.2.get q hq.1 hq.2,gq])).mono fun r H' hr=>hr.sb dN
  ·rintro r G' ⟨z,rfl,hz,dN⟩
   simp +contextual only [sZ,Nat.reduceEqDiff,↓reduceIte,reduceCtorEq]
   refine eG (b:=!z) rfl ?_ dN.2 dN.1
   rw [e1]
   cases z with
   | true=>
     obtain ⟨x,hx,hn⟩:=hz.1 rfl
     have hx:=xi.1 hx
     exact ⟨fun h=>by simp at h,fun h=>absurd (h.2 x.toNat (by omega)) hn⟩
   | false=>
     refine ⟨fun _=>⟨by omega,fun j hj=>?_⟩,fun _=>rfl⟩
     by_cases hs:Sh c.O (l.getD j default) (c.tm i) (c.tm (b.getD j 0))
     ·exact hs
     ·exact absurd (hz.2 ⟨(j:Int),xi.2 ⟨by omega,by omega⟩,hs⟩) (by simp)
 ·refine eG rfl ⟨fun h=>by simp at h,fun h=>?_⟩ (Up.refl c G) hD
  have:=(e1.1 h).1
  exact absurd (by omega) dW
end Go.aL
end
section
set_option maxRecDepth 100000
namespace Go.aL
open Go Go.Proofs Go.fN
theorem Gf {P:Px} {t:DT} {f:AV→Env} {v:AV} {H0 H:List aa} {K1 K2:Env→List aa→Prop} (h:iw v H0 fun x=>jq P t (f x) H K1) (hk:∀ e G,K1 e G→K2 e G):iw v H0 fun x=>jq P t (f x) H K2:=by
 unfold iw at *
 split at h
 ·exact dJ h hk
 ·unfold fx at *
  split at h <;> first | exact dJ h hk | exact h.elim | (intro hl;exact dJ (h hl) hk) | skip
  all_goals (split at h <;> first | exact dJ h hk | exact h.elim)
structure CS (c:Cx) (H:List aa) (p q:Nat) (ts ps:List Int) (G:List aa):Prop where
 du:Du c G
 gp:G[p]?=some (cW ts)
 gq:G[q]?=some (cW ps)
 len:G.length=H.length + 2
 up:∀ j,j < H.length→j≠c.e→j≠c.g→G[j]?=H[j]?
structure PQ (H:List aa) (p q:Nat):Prop where
 ne:p≠q
 p1:H.length≤p
 q1:H.length≤q
theorem CS.call {c:Cx} {H G G':List aa} {p q:Nat} {ts ps:List Int} (hD:Du c H) (w:PQ H p q) (h:CS c H p q ts ps G) (hU:Up c G G') (jH:Du c G'):CS c H p q ts ps G':=by
 obtain ⟨l1,l2,l3⟩:=hD.lt
 obtain ⟨w1,w2,w3⟩:=w
 exact ⟨jH,by rw [hU.get p (by omega) (by omega),h.gp],by rw [hU.get q (by omega) (by omega),h.gq],by rw [hU.len,h.len],fun j h1 h2 h3=>by rw [hU.get j h2 h3,h.up j h1 h2 h3]⟩
theorem CS.ac3 {c:Cx} {H G:List aa} {p q:Nat} {ts ps ts':List Int} (hD:Du c H) (w:PQ H p q) (h:CS c H p q ts ps G):CS c H p q ts' ps (G.set p (cW ts')):=by
 obtain ⟨l1,l2,l3⟩:=hD.lt
 obtain ⟨w1,w2,w3⟩:=w
 have hp:=aO h.gp
 exact ⟨h.du.set (by omega) (by omega) (by omega),by rw [List.getElem?_set_self hp],by rw [List.getElem?_set_ne w1,h.gq],by rw [List.length_set,h.len],fun j h1 h2 h3=>by rw [List.getElem?_set_ne (by omega),h.up j h1 h2 h3]⟩
theorem CS.ac4 {c:Cx} {H G:List aa} {p q:Nat} {ts ps ps':List Int} (hD:Du c H) (w:PQ H p q) (h:CS c H p q ts ps G):CS c H p q ts ps' (G.set q (cW ps')):=by
 obtain ⟨l1,l2,l3⟩:=hD.lt
 obtain ⟨w1,w2,w3⟩:=w
 have hq:=aO h.gq
 exact ⟨h.du.set (by omega) (by omega) (by omega),by rw [List.getElem?_set_ne (Ne.symm w1),h.gp],by rw [List.getElem?_set_self hq],by rw [List.length_set,h.len],fun j h1 h2 h3=>by rw [List.getElem?_set_ne (by omega),h.up j h1 h2 h3]⟩
theorem CS.fin {c:Cx} {H G:List aa} {p q:Nat} {ts ps:List Int} (hD:Du c H) (h:CS c H p q ts ps G) {b:Bool} {Q:Prop} (hb:b=true↔Q) {s:Nat}:bW H.length [.t s] [(s,.bool b)] G (iS c Q H):=by
 obtain ⟨l1,l2,l3⟩:=hD.lt
 refine aX H.length (Nat.le_refl _) (by rw [ay,if_pos rfl];rfl) ?_
 rw [ay,if_pos rfl]
 refine ⟨b,rfl,hb,⟨by rw [List.length_take,h.len];omega,fun j h1 h2=>?_⟩,h.du.take l1 l2 l3⟩
 rw [List.getElem?_take]
 split
 ·rename_i hj;exact h.up j hj h1 h2
 ·rename_i hj;rw [List.getElem?_eq_none (by omega)]
def Jy (c:Cx) (to:List Int) (l:List PP) (a b:List Int):Prop:=
 to.length=b.length∧l.length=b.length∧
 (∀ j,j < b.length→(0≤to.getD j 0∧to.getD j 0 < a.length)∧
   (if (l.getD j default).nil then E c.O (c.tm (a.getD (to.getD j 0).toNat 0)) (c.tm (b.getD j 0)) else Sh c.O (l.getD j default) (c.tm (a.getD (to.getD j 0).toNat 0)) (c.tm (b.getD j 0))))∧
 (∀ x:Nat,x < a.length→0 < dr to l x b.length→dB to x b.length≤1)∧∃ x:Nat,x < a.length∧dr to l x b.length=0
theorem D6 {c:Cx} {to:List Int} {l:List PP} {a b:List Int}:Jy c to l a b↔RZ (E c.O) (Sh c.O) to l (a.map c.tm) (b.map c.tm):=by
 unfold Jy RZ
 simp only [List.length_map]
 refine and_congr_right fun _=>and_congr_right fun _=>and_congr_left fun _=>⟨fun h j hj=>?_,fun h j hj=>?_⟩
 ·obtain ⟨h1,h2⟩:=h j hj
  refine ⟨h1,?_⟩
  rw [cu (by omega),cu hj];exact h2
 ·obtain ⟨h1,h2⟩:=h j hj
  rw [cu (by omega),cu hj] at h2
  exact ⟨h1,h2⟩
structure CI (c:Cx) (to:List Int) (l:List PP) (a b ts ps:List Int) (j:Nat):Prop where
 lt:ts.length=a.length
 lp:ps.length=a.length
 t:∀ x:Nat,x < a.length→ts.getD x 0=dB to x j
 p:∀ x:Nat,x < a.length→ps.getD x 0=dr to l x j
 ok:∀ j',j' < j→(0≤to.getD j' 0∧to.getD j' 0 < a.length)∧
  (if (l.getD j' default).nil then E c.O (c.tm (a.getD (to.getD j' 0).toNat 0)) (c.tm (b.getD j' 0)) else Sh c.O (l.getD j' default) (c.tm (a.getD (to.getD j' 0).toNat 0)) (c.tm (b.getD j' 0)))
theorem CI.step {c:Cx} {to:List Int} {l:List PP} {a b ts ps ps':List Int} {j z:Nat} (h:CI c to l a b ts ps j) (hz:z < a.length) (ht:to.getD j 0=z) (hp:ps'=if (l.getD j default).nil then ps.set z (ps.getD z 0 + 1) else ps)
 (hq:if (l.getD j default).nil then E c.O (c.tm (a.getD z 0)) (c.tm (b.getD j 0)) else Sh c.O (l.getD j default) (c.tm (a.getD z 0)) (c.tm (b.getD j 0))):CI c to l a b (ts.set z (ts.getD z 0 + 1)) ps' (j + 1):=by
 obtain ⟨h1,h2,h3,h4,h5⟩:=h
 refine ⟨by simp [h1],by rw [hp];split <;> simp [h2],fun x hx=>?_,fun x hx=>?_,fun j' vg=>?_⟩
 ·rw [lN (by omega),dB,ht]
  by_cases e:x=z
  ·subst e;rw [if_pos rfl,if_pos rfl,h3 x hx];omega
  ·rw [if_neg e,if_neg (by omega),h3 x hx];omega
 ·rw [hp,dr,ht]
  by_cases hn:(l.getD j default).nil
  ·rw [if_pos hn,lN (by omega)]
   by_cases e:x=z
   ·subst e;rw [if_pos rfl,if_pos ⟨rfl,hn⟩,h4 x hx];omega
   ·rw [if_neg e,if_neg (fun h=>by have:=h.1;omega),h4 x hx];omega
  ·rw [if_neg hn,if_neg (fun h=>hn h.2),h4 x hx];omega
 ·by_cases e:j'=j
  ·subst e;rw [ht];exact ⟨by omega,hq⟩
  ·exact h5 j' (by omega)
theorem td (to:List Int) (x:Int):∀ n,dB to x n≤n
 | 0=>Nat.le_refl _
 | n + 1=>by rw [dB];have:=td to x n;split <;> omega
theorem Jz (to:List Int) (l:List PP) (x:Int) (n:Nat):dr to l x n≤n:=Nat.le_trans (oA n) (td to x n)
theorem D7 {m n:Nat} (hm:m < 9223372036854775808) (hn:n < 9223372036854775808):IntKind.i64.wrap ((m:Int) + (n:Int))=0↔m=0∧n=0:=by
 rw [IntKind.wrap_i64]
 omega
theorem zZ (n x:Nat):(dT 0 n 0).getD x 0=0:=by
 simp only [dT,List.replicate_zero,List.nil_append,Nat.sub_zero,List.getD_eq_getElem?_getD,List.getElem?_replicate]
 split <;> rfl
end Go.aL
end
section
set_option maxRecDepth 100000
namespace Go.aL
open Go Go.Proofs Go.fN
theorem ac5 {c:Cx} {a b:List Int} {va vb:AV} (ha:IL va a) (hb:IL vb b) (la:a.length≤1000000000) (lb:b.length≤1000000000) (p:PP) (hs:∀ x∈a,∀ y∈b,kM c x y) (hh:∀ x∈a,∀ y∈b,∀ q∈p.l,jA c x y q) {H:List aa} (hD:Du c H) :
 aq Tryz.prog 156 [.ptr c.d 0,va,vb,eC p] H (iS c (Jy c p.to p.l a b) H):=by
 refine XH.2.calls rfl ?_
 simp only [XH,aF]
 obtain ⟨a1,a2,a3,a4⟩:=ha.one
 obtain ⟨b1,b2,b3,b4⟩:=hb.one
 obtain ⟨p1,p2,p3,p4,p5,p6,p7,p8,p9⟩:=a7 p
 have no:¬ Jy c p.to p.l a b→bW H.length [.t 8] [(8,.bool false)] H (iS c (Jy c p.to p.l a b) H):=fun h=>eG rfl ⟨fun h=>by simp at h,fun h'=>absurd h' h⟩ (Up.refl c H) hD
 by_cases h1:p.to.length=b.length
 ·by_cases h2:p.l.length=b.length
  ·have d1:decide ((p.to.length:Int)≠b.length)=false:=decide_eq_false (by omega)
   have d2:decide ((p.l.length:Int)≠b.length)=false:=decide_eq_false (by omega)
   simp +contextual only [a2,b2,p1,Qs,Mx,ha.aN,hb.aN,hb.len (by omega),aw,eL,h1,h2,not_true_eq_false,decide_false,sZ,Nat.reduceEqDiff,Nat.reduceAdd,↓reduceIte,reduceCtorEq]
   intro _
   refine Gf (K1:=fun e G=>get e 0=.ptr c.d 0∧get e 1=va∧get e 2=vb∧get e 7=.ai (eC p)∧∃ x y,get e 9=.bc x 0 a.length a.length∧get e 10=.bc y 0 a.length a.length∧PQ H x y∧CS c H x y (dT 0 a.length 0) (dT 0 a.length 0) G) ?_ ?_
   ·have key:∀ G,G=H++[cW (dT 0 a.length 0),cW (dT 0 a.length 0)]→CS c H H.length (H.length + 1) (dT 0 a.length 0) (dT 0 a.length 0) G∧CS c H (H.length + 1) H.length (dT 0 a.length 0) (dT 0 a.length 0) G:=by
     rintro G rfl
     exact ⟨⟨hD.rp _,by simp,by simp,by simp,fun j hj _ _=>List.getElem?_append_left hj⟩,⟨hD.rp _,by simp,by simp,by simp,fun j hj _ _=>List.getElem?_append_left hj⟩⟩
    have A:=key _ rfl
    simp +contextual only [a2,ha.w9,ha.aN,mkI _ _ _ la,sZ,Nat.reduceEqDiff,Nat.reduceAdd,↓reduceIte,reduceCtorEq]
    refine ⟨⟨_,_,rfl,rfl,⟨by omega,by omega,by omega⟩,?_⟩,⟨_,_,rfl,rfl,⟨by omega,by omega,by omega⟩,?_⟩⟩
    ·exact A.1
    ·exact A.2
   ·rintro e G ⟨e0,e1,e2,e7,x,y,e9,e10,hw,yD⟩
    simp +contextual only [e0,e1,e2,e7,e9,e10,Qs,aw,h1,sZ,Nat.reduceEqDiff,↓reduceIte,reduceCtorEq]
    intro _
    refine aJ b.length (fun j (s:List aa×List Int×List Int)=>CS c H x y s.2.1 s.2.2 s.1∧CI c p.to p.l a b s.2.1 s.2.2 j)
     (fun j s=>[(0,.ptr c.d 0),(1,va),(2,vb),(7,.ai (eC p)),(9,.bc x 0 a.length a.length),(10,.bc y 0 a.length a.length),(37,.al 0 (ints p.to)),(38,.int .i64 b.length),(39,.int .i64 j)])
     (fun j s=>s.1) (G,dT 0 a.length 0,dT 0 a.length 0) ⟨⟨yD,?_⟩,aA _ _ _⟩ fun j s hj hI=>?_
    ·exact ⟨by simp [dT],by simp [dT],fun z _=>by rw [zZ];rfl,fun z _=>by rw [zZ];rfl,fun j h=>by omega⟩
    ·obtain ⟨G,ts,ps⟩:=s
     obtain ⟨yD,GG⟩:=hI
     simp only at yD GG
     by_cases MA:(j:Int) < b.length
     ·have qq:j < b.length:=by omega
      obtain ⟨to,B7⟩:∃ to,p.to.getD j 0=to:=⟨_,rfl⟩
      by_cases r1:to < 0
      ·simp +contextual only [MA,decide_true,cK,Int.toNat_natCast,B7,r1,sZ,Nat.reduceEqDiff,↓reduceIte,reduceCtorEq]
       refine ⟨by omega,yD.fin hD ⟨fun h=>by simp at h,fun h=>?_⟩⟩
       have:=(h.2.2.1 j qq).1;omega
      ·by_cases r2:(a.length:Int)≤to
       ·simp +contextual only [MA,decide_true,decide_false,a2,ha.aN,ha.len (by omega),cK,Int.toNat_natCast,B7,r1,r2,sZ,Nat.reduceEqDiff,↓reduceIte,reduceCtorEq]
        refine ⟨by omega,yD.fin hD ⟨fun h=>by simp at h,fun h=>?_⟩⟩
        have:=(h.2.2.1 j qq).1;omega
       ·obtain ⟨z,rfl⟩:=Int.eq_ofNat_of_zero_le (show 0≤to by omega)
        have hz:z < a.length:=by omega
        have gt:=yD.gp
        have gp:=yD.gq
        have lt:=GG.lt
        have lp:=GG.lp
        have Zq:z < ts.length:=by omega
        have UJ:z < ps.length:=by omega
        simp +contextual only [MA,decide_true,decide_false,a2,ha.aN,ha.len (by omega),cK,Int.toNat_natCast,B7,r1,r2,lj,gt,Bw Zq,Mk Zq,sZ,Nat.reduceEqDiff,↓reduceIte,reduceCtorEq]
        have JA:=yD.ac3 (ts':=ts.set z (IntKind.i64.wrap (ts.getD z 0 + 1))) hD hw
        have tz:=GG.t z hz
        have B4:=td p.to z j
        rw [dL _ (by omega)] at JA ⊢
        generalize G.set x (cW (ts.set z (ts.getD z 0 + 1)))=G1 at JA ⊢
        have ql:p.l.getD j default∈p.l:=ey (by omega)
        obtain ⟨q,hq⟩:∃ q,p.l.getD j default=q:=⟨_,rfl⟩
        rw [hq] at ql
        obtain ⟨q1,q2,q3,q4,q5,q6,q7,q8,q9⟩:=a7 q
        refine ⟨by omega,hz,hz,?_⟩
        simp +contextual only [Mx,BG,rN,rO,hq,Int.toNat_natCast,q1,q2,q3,D4,Ew,Qs,aw,eL,sZ,Nat.reduceEqDiff,↓reduceIte,reduceCtorEq]
        refine ⟨by omega,fun hr=>⟨fun hi l1 l2=>⟨fun J7=>?_,fun J7=>?_⟩,fun hi=>?_⟩,fun hr=>?_⟩
        ·have hwz:=(D7 l1 l2).1 J7
         have uw:(p.l.getD j default).nil:=by rw [hq];exact ⟨hr,hi,List.length_eq_zero_iff.1 hwz.1,List.length_eq_zero_iff.1 hwz.2⟩
         have gp1:=JA.gq
         have Qu:=JA.ac4 (ps':=ps.set z (IntKind.i64.wrap (ps.getD z 0 + 1))) hD hw
         have tp:=GG.p z hz
         have ple:=Jz p.to p.l z j
         simp +contextual only [lj,gp1,Bw UJ,Mk UJ,sZ,Nat.reduceEqDiff,↓reduceIte,reduceCtorEq]
         rw [dL _ (by omega)] at Qu ⊢
         generalize G1.set y (cW (ps.set z (ps.getD z 0 + 1)))=G2 at Qu ⊢
         refine ⟨hz,hz,?_⟩
         simp +contextual only [a2,b2,ha.lens,hb.lens,ha.idx,hb.idx,Int.toNat_natCast,sZ,Nat.reduceEqDiff,Nat.reduceAdd,↓reduceIte,reduceCtorEq]
         refine ⟨by omega,by omega,af (hs _ (aP hz) _ (aP qq) G2 Qu.du) ?_⟩
         rintro r G3 ⟨w,rfl,Zr,hU,Mj⟩
         have MB:=Qu.call hD hw hU Mj
         cases w with
         | false=>
           simp +contextual only [Bool.not_false,sZ,Nat.reduceEqDiff,↓reduceIte,reduceCtorEq]
           refine MB.fin hD ⟨fun h=>by simp at h,fun h=>?_⟩
           have:=(h.2.2.1 j qq).2
           rw [if_pos uw,B7,Int.toNat_natCast] at this
           exact Zr.2 this
         | true=>
           simp +contextual only [Bool.not_true,sZ,Nat.reduceEqDiff,↓reduceIte,reduceCtorEq]
           refine ⟨j + 1,(G3,_,_),⟨qq,MB,GG.step hz B7 (by rw [if_pos uw]) (by rw [if_pos uw];exact Zr.1 rfl)⟩,by omega,aC (by rw [au j (by omega)]) rfl⟩
        all_goals
         have uw:¬ (p.l.getD j default).nil:=by
          rw [hq]
          rintro ⟨n1,n2,n3,n4⟩
          first | exact hr n1 | exact hi n2 | exact J7 ((D7 l1 l2).2 ⟨by rw [n3];rfl,by rw [n4];rfl⟩)
         simp +contextual only [a2,b2,q4,ha.lens,hb.lens,ha.idx,hb.idx,Int.toNat_natCast,rO,sZ,Nat.reduceEqDiff,Nat.reduceAdd,↓reduceIte,reduceCtorEq]
         refine ⟨by omega,by omega,af (hh _ (aP hz) _ (aP qq) q ql G1 JA.du) ?_⟩
         rintro r G3 ⟨w,rfl,Zr,hU,Mj⟩
         have MB:=JA.call hD hw hU Mj
         cases w with
         | false=>
           simp +contextual only [Bool.not_false,sZ,Nat.reduceEqDiff,↓reduceIte,reduceCtorEq]
           refine MB.fin hD ⟨fun h=>by simp at h,fun h=>?_⟩
           have:=(h.2.2.1 j qq).2
           rw [if_neg uw,B7,hq,Int.toNat_natCast] at this
           exact Zr.2 this
         | true=>
           simp +contextual only [Bool.not_true,sZ,Nat.reduceEqDiff,↓reduceIte,reduceCtorEq]
           refine ⟨j + 1,(G3,_,_),⟨qq,MB,GG.step hz B7 (by rw [if_neg uw]) (by rw [if_neg uw,hq];exact Zr.1 rfl)⟩,by omega,aC (by rw [au j (by omega)]) rfl⟩
     ·have Zs:j=b.length:=by omega
      subst Zs
      simp +contextual only [MA,decide_false,a2,ha.aN,ha.len (by omega),sZ,Nat.reduceEqDiff,↓reduceIte,reduceCtorEq]
      refine aJ a.length (fun x' (f:Bool)=>(∀ z:Nat,z < x'→0 < dr p.to p.l z b.length→dB p.to z b.length≤1)∧(f=true↔∃ z:Nat,z < x'∧dr p.to p.l z b.length=0))
       (fun x' f=>[(9,.bc x 0 a.length a.length),(10,.bc y 0 a.length a.length),(14,.bool f),(112,.int .i64 a.length),(113,.int .i64 x')]) (fun _ _=>G) false
       ⟨⟨fun z h=>by omega,⟨fun h=>by simp at h,fun ⟨z,h,_⟩=>by omega⟩⟩,aA _ _ _⟩ fun z f hz hI=>?_
      obtain ⟨jW,Et⟩:=hI
      by_cases Nl:(z:Int) < a.length
      ·have jh:z < a.length:=by omega
       have gt:=yD.gp
       have gp:=yD.gq
       have lt:=GG.lt
       have lp:=GG.lp
       have Zq:z < ts.length:=by omega
       have UJ:z < ps.length:=by omega
       have tz:=GG.t z jh
       have pz:=GG.p z jh
       by_cases k1:dr p.to p.l z b.length=0
       ·have p0:ps.getD z 0=0:=by omega
        cases f <;>
         (simp +contextual only [Nl,decide_true,lj,gp,Bw UJ,p0,Int.lt_irrefl,decide_false,sZ,Nat.reduceEqDiff,↓reduceIte,reduceCtorEq]
          refine ⟨jh,?_⟩
          first
           | refine ⟨jh,z + 1,true,⟨jh,fun z' JR=>?_,⟨fun _=>⟨z,by omega,k1⟩,fun _=>rfl⟩⟩,by omega,aC (by rw [au z (by omega)]) rfl⟩
           | refine ⟨z + 1,true,⟨jh,fun z' JR=>?_,⟨fun _=>⟨z,by omega,k1⟩,fun _=>rfl⟩⟩,by omega,aC (by rw [au z (by omega)]) rfl⟩
          by_cases e:z'=z
          ·subst e;intro h;omega
          ·exact jW z' (by omega))
       ·have p0:(0 < ps.getD z 0)=True:=eq_true (by omega)
        have p1':(ps.getD z 0=0)=False:=eq_false (by omega)
        by_cases k2:dB p.to z b.length≤1
        ·have t0:(1 < ts.getD z 0)=False:=eq_false (by omega)
         have nxt:(∀ z':Nat,z' < z + 1→0 < dr p.to p.l z' b.length→dB p.to z' b.length≤1):=by
          intro z' JR
          by_cases e:z'=z
          ·subst e;intro _;exact k2
          ·exact jW z' (by omega)
         have nfr:(f=true↔∃ z':Nat,z' < z + 1∧dr p.to p.l z' b.length=0):=by
          rw [Et]
          constructor
          ·rintro ⟨z',h1,h2⟩;exact ⟨z',by omega,h2⟩
          ·rintro ⟨z',h1,h2⟩
           have:z'≠z:=fun e=>k1 (e ▸ h2)
           exact ⟨z',by omega,h2⟩
         cases f <;>
          (simp +contextual only [Nl,decide_true,lj,gt,gp,Bw Zq,Bw UJ,p0,p1',t0,decide_false,sZ,Nat.reduceEqDiff,↓reduceIte,reduceCtorEq]
           refine ⟨jh,jh,?_⟩
           first
            | exact ⟨jh,z + 1,_,⟨jh,nxt,nfr⟩,by omega,aC (by rw [au z (by omega)]) rfl⟩
            | exact ⟨z + 1,_,⟨jh,nxt,nfr⟩,by omega,aC (by rw [au z (by omega)]) rfl⟩)
        ·have t0:(1 < ts.getD z 0)=True:=eq_true (by omega)
         simp +contextual only [Nl,decide_true,lj,gt,gp,Bw Zq,Bw UJ,p0,t0,sZ,Nat.reduceEqDiff,↓reduceIte,reduceCtorEq]
         refine ⟨jh,jh,yD.fin hD ⟨fun h=>by simp at h,fun h=>?_⟩⟩
         exact absurd (h.2.2.2.1 z jh (by omega)) k2
      ·have hze:z=a.length:=by omega
       subst hze
       simp +contextual only [Nl,decide_false,sZ,Nat.reduceEqDiff,↓reduceIte,reduceCtorEq]
       refine yD.fin hD ?_
       rw [Et]
       exact ⟨fun h=>⟨h1,h2,GG.ok,jW,h⟩,fun h=>h.2.2.2.2⟩
  ·have d1:decide ((p.to.length:Int)≠b.length)=false:=decide_eq_false (by omega)
   have d2:((p.l.length:Int)=b.length)=False:=eq_false (by omega)
   simp +contextual only [b2,p1,Qs,Mx,hb.aN,hb.len (by omega),aw,eL,h1,d2,not_true_eq_false,not_false_eq_true,decide_false,decide_true,sZ,Nat.reduceEqDiff,Nat.reduceAdd,↓reduceIte,reduceCtorEq]
   intro _ _
   exact no fun h=>h2 h.2.1
 ·have d1:((p.to.length:Int)=b.length)=False:=eq_false (by omega)
  simp +contextual only [b2,p1,Qs,hb.aN,hb.len (by omega),aw,d1,not_false_eq_true,decide_true,sZ,Nat.reduceEqDiff,Nat.reduceAdd,↓reduceIte,reduceCtorEq]
  intro _
  exact no fun h=>h1 h.1
end Go.aL
end
section
set_option maxRecDepth 100000
set_option maxHeartbeats 0
namespace Go.aL
open Go Go.Proofs
noncomputable def yu:=aF Tryz.call87 Tryz.func87 Tryz.ntmps87 [(0,0,1),(0,1,1),(0,2,1),(12,7,2000),(13,11,2000),(17,10,2000),(20,36,2000),(23,3,2000),(24,20,2000),(24,27,2000),(26,10,2000)] [(0,[2,4,5,7]),(1,[2,4,5,7,9,10]),(2,[2,4,5,7,9,10,11]),(3,[2,4,5,7,9,10,11,14]),(4,[2,4,5,7,9,10,11,76]),(5,[8]),(6,[2,4,5,7,9,10,11,15,16]),(7,[2,4,5,7,9,10,11,15,16,85]),(8,[2,4,5,7,9,10,11,15,16,85,86]),(9,[2,4,7,9,103]),(10,[8]),(11,[2,4,7,9,107]),(12,[8]),(13,[8]),(14,[2,4,5,7,9,10,11,15,16,85,128]),(15,[2,4,7,11,17]),(16,[7,11,17,20,22]),(17,[8]),(18,[4,7,9,10,11,15,16,85,156]),(19,[4,7,11,15,16,23,24]),(20,[4,7,11,23,24,202]),(21,[8]),(22,[4,7,11,23,24,207]),(23,[8]),(24,[8]),(25,[4,7,9,10,15,16,241]),(26,[8]),(27,[8])] [(1,(.take 0 true (.take 1 true (.take 2 true (.take 3 true (.take 4 true (.take 5 true (.take 6 true (.take 7 true (.take 8 true (.take 9 true (.take 10 true (.take 11 true (.take 12 true (.take 13 true (.take 14 true (.take 15 true (.br 16 (.take 17 true (.br 18 .done .nil)) .nil)))))))))))))))))),(12,(.take 0 true (.take 1 true (.take 2 true (.take 3 true (.take 4 true (.take 5 true (.take 6 true (.br 7 (.take 8 true .done) .nil))))))))),(13,(.take 0 true (.take 1 true (.take 2 true (.take 3 true (.take 4 true (.take 5 true (.take 6 true (.take 7 true (.take 8 true (.take 9 true (.take 10 true (.br 11 (.take 12 true .done) .nil))))))))))))),(19,(.take 0 true (.take 1 true (.take 2 true (.take 3 true (.take 4 true (.take 5 true (.take 6 true (.take 7 true .done))))))))),(20,(.take 0 true (.take 1 true (.take 2 true (.take 3 true (.take 4 true (.take 5 true (.take 6 true (.take 7 true (.take 8 true (.take 9 true (.take 10 true (.take 11 true (.take 12 true (.take 13 true (.take 14 true (.take 15 true (.take 16 true (.take 17 true (.take 18 true (.take 19 true (.take 20 true (.take 21 true (.take 22 true (.take 23 true (.take 24 true (.take 25 true (.take 26 true (.take 27 true (.take 28 true (.take 29 true (.take 30 true (.take 31 true (.take 32 true (.take 33 true (.take 34 true (.take 35 true (.br 36 (.take 37 true (.take 38 true .done)) .nil)))))))))))))))))))))))))))))))))))))),(24,(.take 0 true (.take 1 true (.take 2 true (.take 3 true (.take 4 true (.take 5 true (.take 6 true (.take 7 true (.take 8 true (.take 9 true (.take 10 true (.take 11 true (.take 12 true (.take 13 true (.take 14 true (.take 15 true (.take 16 true (.take 17 true (.take 18 true (.take 19 true (.br 20 (.take 21 true (.take 22 true (.take 23 true (.take 24 true (.take 25 true (.take 26 true (.br 27 (.take 28 true (.take 29 true .done)) .nil))))))) .nil))))))))))))))))))))))]
end Go.aL
end
section
set_option maxRecDepth 100000
namespace Go.aL
open Go Go.Proofs Go.fN
theorem D8 {O:Od} {p:PP} {a b:T} (h:Sh O p a b):a.k=2:=(qj.1 h).1
theorem Sh1 {O:Od} {p:PP} {a b:T} (hr:p.r=1) (ha:a.k=2):Sh O p a b↔p.to=[]∧(0≤p.i∧p.i < a.l.length)∧((p.l=[]∧E O (a.l.getD p.i.toNat default) b)∨∃ q,p.l=[q]∧Sh O q (a.l.getD p.i.toNat default) b):=by
 rw [qj,Fs];simp [hr,ha]
theorem Sh2 {O:Od} {p:PP} {a b:T} (hr:p.r=2) (ha:a.k=2):Sh O p a b↔p.to=[]∧p.i=0∧b.k=2∧O.pl b.n < O.pl a.n∧lS (Sh O) p.l a b.l:=by
 rw [qj,Fs];simp [hr,ha]
theorem Sh3 {O:Od} {p:PP} {a b:T} (hr:p.r=3) (ha:a.k=2):Sh O p a b↔p.to=[]∧b.k=2∧O.pl a.n=O.pl b.n∧O.sp (O.pl a.n)≠3∧D2 (E O) (Sh O) p.i p.l a (side (O.sp (O.pl a.n)) a.l) (side (O.sp (O.pl a.n)) b.l) b.l:=by
 rw [qj,Fs];simp [hr,ha]
theorem Sh4 {O:Od} {p:PP} {a b:T} (hr:p.r=4) (ha:a.k=2):Sh O p a b↔p.i=0∧b.k=2∧O.pl a.n=O.pl b.n∧O.sp (O.pl a.n)=3∧RZ (E O) (Sh O) p.to p.l a.l b.l:=by
 rw [qj,Fs];simp [hr,ha]
theorem Sh0 {O:Od} {p:PP} {a b:T} (h1:p.r≠1) (h2:p.r≠2) (h3:p.r≠3) (h4:p.r≠4):¬ Sh O p a b:=by
 rw [qj,Fs];simp [h1,h2,h3,h4]
theorem slT (l:List Int) (n:Int) (h:0≤n∧n≤l.length) (φ:AV→Prop):bm 1 (.al 0 (ints l)) none (some (.int .i64 n)) none φ=φ (.al 0 (ints (l.take n.toNat))):=by
 have er:dl (AV.al 0 (ints l))=some (ints l):=rfl
 have e2:((ints l).take n.toNat).drop 0=ints (l.take n.toNat):=by rw [List.drop_zero,lO]
 simp only [bm,eR,er,dQ,e2,eq_iff_iff]
 constructor
 ·intro h;exact h.2.2.2.2
 ·intro h'
  refine ⟨fun own xs he z hz=>?_,by omega,by omega,by have:=aw l;omega,h'⟩
  cases he
  obtain ⟨y,_,rfl⟩:=List.mem_map.1 hz
  rfl
theorem Zt (x:PP) (r:List PP) (φ:AV→Prop):bm 4 (.al 0 (eB (x::r))) (some (.int .i64 1)) none none φ=φ (.al 0 (eB r)):=by
 have er:dl (AV.al 0 (eB (x::r)))=some (eB (x::r)):=rfl
 have e1:(1:Int).toNat=1:=rfl
 have e2:((eB (x::r)).take (eB (x::r)).length).drop 1=eB r:=by rw [List.take_length];rfl
 simp only [bm,eR,er,dQ,e1,e2,eq_iff_iff]
 constructor
 ·intro h;exact h.2.2.2.2
 ·intro h
  refine ⟨fun own xs he z hz=>of_eq_true (rN 0 (x::r)) own xs he z hz,by omega,by simp [eL],Nat.le_refl _,h⟩
theorem pc {s:Int} {l:List Int} {x:Int}:x∈bG s l↔x∈l:=by unfold bG;split <;> simp
theorem Zu {c:Cx} (hc:c.Ok) {p:PP} {i k:Int} (hi:c.dV i) (hk:c.dV k) (fJ:∀ q∈p.l,∀ x y,c.dV x→c.dV y→jA c x y q) (Ay:p.r=1):jA c i k p:=by
 intro H hD
 refine yu.2.calls rfl ?_
 simp only [yu,aF]
 obtain ⟨p1,p2,p3,p4,p5,p6,p7,p8,p9⟩:=a7 p
 have k2:∀ l,(bu l).ab=bu l:=fun l=>(aH l).2.1
 have ki:=hc.kids i hi
 have kk:=hc.kids k hk
 have l1:=hc.kl i hi
 have l2:=hc.kl k hk
 obtain ⟨a1,a2,a3,a4,a5⟩:=aH (c.kd i)
 obtain ⟨b1,b2,b3,b4,b5⟩:=aH (c.kd k)
 have ii:IL (bu (c.kd i)) (c.kd i):=.inl rfl
 have ik:IL (bu (c.kd k)) (c.kd k):=.inl rfl
 have ei:(c.nd.getD i.toNat default).snd=c.kd i:=rfl
 have ek:(c.nd.getD k.toNat default).snd=c.kd k:=rfl
 obtain ⟨m1,m2,m3⟩:=hD.lt
 have nA:Du c (H++[.cells [bu (c.kd k)]]):=hD.rp _
 have fin:∀ G (b:Bool),Up c (H++[.cells [bu (c.kd k)]]) G→Du c G→(b=true↔Sh c.O p (c.tm i) (c.tm k))→bW H.length [.t 8] [(8,.bool b)] G (iS c (Sh c.O p (c.tm i) (c.tm k)) H):=by
  intro G b u d hb
  refine aX H.length (Nat.le_refl _) (by rw [ay,if_pos rfl];rfl) ?_
  rw [ay,if_pos rfl]
  exact ⟨b,rfl,hb,u.take,d.take m1 m2 m3⟩
 have fin0:¬ Sh c.O p (c.tm i) (c.tm k)→bW H.length [.t 8] [(8,.bool false)] (H++[.cells [bu (c.kd k)]]) (iS c (Sh c.O p (c.tm i) (c.tm k)) H):=
  fun h=>fin _ _ (Up.refl c _) nA ⟨fun h=>by simp at h,fun h'=>absurd h' h⟩
 have spv:∀ x:AV,ag [AV.ah] 0 [x]=[x]:=fun x=>rfl
 simp +contextual only [p1,hD.d,mS,Ev,cJ,bV,k2,ei,ek,b1,b3,b4,b5,List.map_cons,List.map_nil,spv,List.all_cons,List.all_nil,Bool.and_true,bH,cP,sZ,Nat.reduceEqDiff,Nat.reduceAdd,Nat.reduceLT,↓reduceIte,reduceCtorEq]
 refine ⟨hi,hk,af (qg hc hi nA) ?_⟩
 rintro r H2 ⟨rfl,rfl⟩
 cases hb:sc c i with
 | false=>
   have ki2:¬ (c.tm i).k=2:=of_decide_eq_false hb
   simp +contextual only [dH,fG,fH,fI,hb,Bool.not_false,sZ,Nat.reduceEqDiff,↓reduceIte,reduceCtorEq]
   exact fin0 fun h=>ki2 (D8 h)
 | true=>
 have ki2:(c.tm i).k=2:=of_decide_eq_true hb
 have kid:∀ (j:Int),(0≤j∧j < (c.kd i).length)→(c.tm i).l.getD j.toNat default=c.tm ((c.kd i).getD j.toNat 0):=fun j hj=>by rw [← ki.1,cu (by omega)]
 have klen:(c.tm i).l.length=(c.kd i).length:=by rw [← ki.1];simp
 have kn:∀ (j:Int),(0≤j∧j < (c.kd i).length)→c.dV ((c.kd i).getD j.toNat 0):=fun j hj=>ki.2 _ (aP (by omega))
 have lvun:(AV.tuple [.int .i64 (dG c i),.bool (uE c i k)]).ab=.tuple [.int .i64 (dG c i),.bool (uE c i k)]:=rfl
 have hS:=Sh1 (O:=c.O) (b:=c.tm k) Ay ki2
 rw [klen] at hS
 simp +contextual only [dH,fG,fH,fI,hb,Bool.not_true,D4,Qs,Ay,not_true_eq_false,not_false_eq_true,decide_true,decide_false,aw,sZ,Nat.reduceEqDiff,Nat.reduceAdd,↓reduceIte,reduceCtorEq,Int.reduceEq]
 refine fun _=>⟨fun h0=>?_,fun h0=>fin0 fun h=>?_⟩
 ·have B7:p.to=[]:=List.length_eq_zero_iff.1 (by omega)
  refine af (F5 hc hi hk nA) ?_
  rintro r H2 ⟨rfl,rfl⟩
  by_cases hI:0≤p.i∧p.i < (c.kd i).length
  ·have n1:(p.i < 0)=False:=eq_false (by omega)
   have n2:(((c.kd i).length:Int)≤p.i)=False:=eq_false (by omega)
   have hkn:=kn p.i hI
   rw [kid p.i hI] at hS
   by_cases hL:p.l.length≤1
   ·have n3:(1 < (p.l.length:Int))=False:=eq_false (by omega)
    by_cases hL0:p.l.length=0
    ·have n4:((p.l.length:Int)=0)=True:=eq_true (by omega)
     simp +contextual only [k2,ii.aN,ii.len (by omega),ii.lens,ii.idx,D4,Ew,Mx,eL,lvun,decide_true,decide_false,Ay,n1,n2,n3,n4,sZ,Nat.reduceEqDiff,Nat.reduceAdd,Nat.reduceLT,↓reduceIte,reduceCtorEq]
     refine fun _=>⟨hI,af (ku hc hkn hk _ nA) ?_⟩
     rintro r G ⟨x,rfl,hx,hU,jH⟩
     simp +contextual only [sZ,↓reduceIte,reduceCtorEq]
     refine fin G x hU jH ?_
     rw [hx,hS]
     have:p.l=[]:=List.length_eq_zero_iff.1 hL0
     simp [B7,hI,this]
    ·have n4:((p.l.length:Int)=0)=False:=eq_false (by omega)
     have hm:p.l.getD 0 default∈p.l:=ey (by omega)
     obtain ⟨q1,q2,q3,q4,q5,q6,q7,q8,q9⟩:=a7 (p.l.getD 0 default)
     have t0:(0:Int).toNat=0:=rfl
     simp +contextual only [k2,ii.aN,ii.len (by omega),ii.lens,ii.idx,D4,Ew,Mx,BG,rN,rO,eL,lvun,decide_true,decide_false,Ay,n1,n2,n3,n4,t0,q4,sZ,Nat.reduceEqDiff,Nat.reduceAdd,Nat.reduceLT,↓reduceIte,reduceCtorEq]
     refine fun _=>⟨hI,⟨by omega,by omega⟩,af (fJ _ hm _ _ hkn hk _ nA) ?_⟩
     rintro r G ⟨x,rfl,hx,hU,jH⟩
     simp +contextual only [sZ,↓reduceIte,reduceCtorEq]
     refine fin G x hU jH ?_
     rw [hx,hS]
     obtain ⟨q,hq⟩:∃ q,p.l=[q]:=List.length_eq_one_iff.1 (by omega)
     simp [B7,hI,hq]
   ·have n3:(1 < (p.l.length:Int))=True:=eq_true (by omega)
    simp +contextual only [k2,ii.aN,ii.len (by omega),D4,Ew,Mx,eL,lvun,decide_true,decide_false,Ay,n1,n2,n3,sZ,Nat.reduceEqDiff,Nat.reduceAdd,Nat.reduceLT,↓reduceIte,reduceCtorEq]
    refine fun _=>fin0 fun h=>?_
    rcases (hS.1 h).2.2 with h | ⟨q,h,_⟩
    ·rw [h.1] at hL;simp at hL
    ·rw [h] at hL;simp at hL
  ·by_cases hI0:p.i < 0
   ·simp +contextual only [D4,Ew,lvun,decide_true,Ay,hI0,sZ,Nat.reduceEqDiff,Nat.reduceAdd,Nat.reduceLT,↓reduceIte,reduceCtorEq]
    exact fin0 fun h=>hI (hS.1 h).2.1
   ·have n2:(((c.kd i).length:Int)≤p.i)=True:=eq_true (by omega)
    simp +contextual only [k2,ii.aN,ii.len (by omega),D4,Ew,lvun,decide_true,decide_false,Ay,hI0,n2,sZ,Nat.reduceEqDiff,Nat.reduceAdd,Nat.reduceLT,↓reduceIte,reduceCtorEq]
    exact fin0 fun h=>hI (hS.1 h).2.1
 ·rw [(hS.1 h).1] at h0;simp at h0
theorem Zv {c:Cx} (hc:c.Ok) {p:PP} {i k:Int} (hi:c.dV i) (hk:c.dV k) (fJ:∀ q∈p.l,∀ x y,c.dV x→c.dV y→jA c x y q) (sn:p.r=2):jA c i k p:=by
 intro H hD
 refine yu.2.calls rfl ?_
 simp only [yu,aF]
 obtain ⟨p1,p2,p3,p4,p5,p6,p7,p8,p9⟩:=a7 p
 have k2:∀ l,(bu l).ab=bu l:=fun l=>(aH l).2.1
 have ki:=hc.kids i hi
 have kk:=hc.kids k hk
 have l1:=hc.kl i hi
 have l2:=hc.kl k hk
 obtain ⟨a1,a2,a3,a4,a5⟩:=aH (c.kd i)
 obtain ⟨b1,b2,b3,b4,b5⟩:=aH (c.kd k)
 have ii:IL (bu (c.kd i)) (c.kd i):=.inl rfl
 have ik:IL (bu (c.kd k)) (c.kd k):=.inl rfl
 have ei:(c.nd.getD i.toNat default).snd=c.kd i:=rfl
 have ek:(c.nd.getD k.toNat default).snd=c.kd k:=rfl
 obtain ⟨m1,m2,m3⟩:=hD.lt
 have nA:Du c (H++[.cells [bu (c.kd k)]]):=hD.rp _
 have fin:∀ G (b:Bool),Up c (H++[.cells [bu (c.kd k)]]) G→Du c G→(b=true↔Sh c.O p (c.tm i) (c.tm k))→bW H.length [.t 8] [(8,.bool b)] G (iS c (Sh c.O p (c.tm i) (c.tm k)) H):=by
  intro G b u d hb
  refine aX H.length (Nat.le_refl _) (by rw [ay,if_pos rfl];rfl) ?_
  rw [ay,if_pos rfl]
  exact ⟨b,rfl,hb,u.take,d.take m1 m2 m3⟩
 have fin0:¬ Sh c.O p (c.tm i) (c.tm k)→bW H.length [.t 8] [(8,.bool false)] (H++[.cells [bu (c.kd k)]]) (iS c (Sh c.O p (c.tm i) (c.tm k)) H):=
  fun h=>fin _ _ (Up.refl c _) nA ⟨fun h=>by simp at h,fun h'=>absurd h' h⟩
 have spv:∀ x:AV,ag [AV.ah] 0 [x]=[x]:=fun x=>rfl
 simp +contextual only [p1,hD.d,mS,Ev,cJ,bV,k2,ei,ek,b1,b3,b4,b5,List.map_cons,List.map_nil,spv,List.all_cons,List.all_nil,Bool.and_true,bH,cP,sZ,Nat.reduceEqDiff,Nat.reduceAdd,Nat.reduceLT,↓reduceIte,reduceCtorEq]
 refine ⟨hi,hk,af (qg hc hi nA) ?_⟩
 rintro r H2 ⟨rfl,rfl⟩
 cases hb:sc c i with
 | false=>
   have ki2:¬ (c.tm i).k=2:=of_decide_eq_false hb
   simp +contextual only [dH,fG,fH,fI,hb,Bool.not_false,sZ,Nat.reduceEqDiff,↓reduceIte,reduceCtorEq]
   exact fin0 fun h=>ki2 (D8 h)
 | true=>
 have ki2:(c.tm i).k=2:=of_decide_eq_true hb
 have kid:∀ (j:Int),(0≤j∧j < (c.kd i).length)→(c.tm i).l.getD j.toNat default=c.tm ((c.kd i).getD j.toNat 0):=fun j hj=>by rw [← ki.1,cu (by omega)]
 have klen:(c.tm i).l.length=(c.kd i).length:=by rw [← ki.1];simp
 have kn:∀ (j:Int),(0≤j∧j < (c.kd i).length)→c.dV ((c.kd i).getD j.toNat 0):=fun j hj=>ki.2 _ (aP (by omega))
 have lvun:(AV.tuple [.int .i64 (dG c i),.bool (uE c i k)]).ab=.tuple [.int .i64 (dG c i),.bool (uE c i k)]:=rfl
 have hS:=Sh2 (O:=c.O) (b:=c.tm k) sn ki2
 have e1:((2:Int)=1)=False:=by simp
 simp +contextual only [dH,fG,fH,fI,hb,Bool.not_true,D4,Ew,Qs,sn,not_true_eq_false,not_false_eq_true,decide_true,decide_false,aw,sZ,Nat.reduceEqDiff,Nat.reduceAdd,↓reduceIte,reduceCtorEq,Int.reduceEq]
 have fAll:∀ (G:List aa) (Q:Prop) (b0:Bool),True:=fun _ _ _=>trivial
 have hAS:lS (Sh c.O) p.l (c.tm i) ((c.kd k).map c.tm)↔lS (Sh c.O) p.l (c.tm i) (c.tm k).l:=by rw [kk.1]
 refine fun _=>⟨fun h0=>⟨fun uJ=>fin0 fun h=>uJ (hS.1 h).2.1,fun uJ=>?_⟩,fun h0=>fin0 fun h=>?_⟩
 ·have B7:p.to=[]:=List.length_eq_zero_iff.1 (by omega)
  refine af (F5 hc hi hk nA) ?_
  rintro r H2 ⟨rfl,rfl⟩
  simp +contextual only [D4,lvun,decide_true,decide_false,sn,e1,sZ,Nat.reduceEqDiff,Nat.reduceAdd,Nat.reduceLT,↓reduceIte]
  refine af (qg hc hi nA) ?_
  rintro r H2 ⟨rfl,rfl⟩
  simp +contextual only [dH,fG,fH,fI,sZ,Nat.reduceEqDiff,Nat.reduceAdd,↓reduceIte]
  refine af (qg hc hk nA) ?_
  rintro r H2 ⟨rfl,rfl⟩
  have opi:qf c i=c.O.pl (c.tm i).n:=by rw [qf,if_pos ki2]
  cases F7:sc c k with
  | false=>
    have kk2:¬ (c.tm k).k=2:=of_decide_eq_false F7
    simp +contextual only [dH,fG,fH,fI,F7,sZ,Nat.reduceEqDiff,↓reduceIte,reduceCtorEq]
    exact fin0 fun h=>kk2 (hS.1 h).2.2.1
  | true=>
    have kk2:(c.tm k).k=2:=of_decide_eq_true F7
    have opk:qf c k=c.O.pl (c.tm k).n:=by rw [qf,if_pos kk2]
    by_cases aK:qf c k < qf c i
    ·simp +contextual only [Mx,decide_true,dH,fG,fH,fI,F7,aK,sZ,Nat.reduceEqDiff,Nat.reduceAdd,↓reduceIte,reduceCtorEq]
     refine af (Vk ik (by omega) (q:=H.length) ⟨by omega,by omega⟩ (fun j h1 h2=>fJ _ (ey h2) _ _ hi (kk.2 _ (aP h1))) nA (by simp)) ?_
     rintro r G ⟨x,rfl,hx,hU,jH⟩
     simp +contextual only [sZ,Nat.reduceEqDiff,↓reduceIte,reduceCtorEq]
     refine fin G x hU jH ?_
     rw [hx,hS,hAS]
     rw [opi,opk] at aK
     simp [B7,uJ,kk2,aK]
    ·simp +contextual only [decide_false,dH,fG,fH,fI,F7,aK,sZ,Nat.reduceEqDiff,↓reduceIte,reduceCtorEq]
     refine fin0 fun h=>aK ?_
     rw [opi,opk]
     exact (hS.1 h).2.2.2.1
 ·rw [(hS.1 h).1] at h0;simp at h0
theorem Zw {c:Cx} (hc:c.Ok) {p:PP} {i k:Int} (hi:c.dV i) (hk:c.dV k) (fJ:∀ q∈p.l,∀ x y,c.dV x→c.dV y→jA c x y q) (Qv:p.r=4):jA c i k p:=by
 intro H hD
 refine yu.2.calls rfl ?_
 simp only [yu,aF]
 obtain ⟨p1,p2,p3,p4,p5,p6,p7,p8,p9⟩:=a7 p
 have k2:∀ l,(bu l).ab=bu l:=fun l=>(aH l).2.1
 have ki:=hc.kids i hi
 have kk:=hc.kids k hk
 have l1:=hc.kl i hi
 have l2:=hc.kl k hk
 obtain ⟨a1,a2,a3,a4,a5⟩:=aH (c.kd i)
 obtain ⟨b1,b2,b3,b4,b5⟩:=aH (c.kd k)
 have ii:IL (bu (c.kd i)) (c.kd i):=.inl rfl
 have ik:IL (bu (c.kd k)) (c.kd k):=.inl rfl
 have ei:(c.nd.getD i.toNat default).snd=c.kd i:=rfl
 have ek:(c.nd.getD k.toNat default).snd=c.kd k:=rfl
 obtain ⟨m1,m2,m3⟩:=hD.lt
 have nA:Du c (H++[.cells [bu (c.kd k)]]):=hD.rp _
 have fin:∀ G (b:Bool),Up c (H++[.cells [bu (c.kd k)]]) G→Du c G→(b=true↔Sh c.O p (c.tm i) (c.tm k))→bW H.length [.t 8] [(8,.bool b)] G (iS c (Sh c.O p (c.tm i) (c.tm k)) H):=by
  intro G b u d hb
  refine aX H.length (Nat.le_refl _) (by rw [ay,if_pos rfl];rfl) ?_
  rw [ay,if_pos rfl]
  exact ⟨b,rfl,hb,u.take,d.take m1 m2 m3⟩
 have fin0:¬ Sh c.O p (c.tm i) (c.tm k)→bW H.length [.t 8] [(8,.bool false)] (H++[.cells [bu (c.kd k)]]) (iS c (Sh c.O p (c.tm i) (c.tm k)) H):=
  fun h=>fin _ _ (Up.refl c _) nA ⟨fun h=>by simp at h,fun h'=>absurd h' h⟩
 have spv:∀ x:AV,ag [AV.ah] 0 [x]=[x]:=fun x=>rfl
 simp +contextual only [p1,hD.d,mS,Ev,cJ,bV,k2,ei,ek,b1,b3,b4,b5,List.map_cons,List.map_nil,spv,List.all_cons,List.all_nil,Bool.and_true,bH,cP,sZ,Nat.reduceEqDiff,Nat.reduceAdd,Nat.reduceLT,↓reduceIte,reduceCtorEq]
 refine ⟨hi,hk,af (qg hc hi nA) ?_⟩
 rintro r H2 ⟨rfl,rfl⟩
 cases hb:sc c i with
 | false=>
   have ki2:¬ (c.tm i).k=2:=of_decide_eq_false hb
   simp +contextual only [dH,fG,fH,fI,hb,Bool.not_false,sZ,Nat.reduceEqDiff,↓reduceIte,reduceCtorEq]
   exact fin0 fun h=>ki2 (D8 h)
 | true=>
 have ki2:(c.tm i).k=2:=of_decide_eq_true hb
 have kid:∀ (j:Int),(0≤j∧j < (c.kd i).length)→(c.tm i).l.getD j.toNat default=c.tm ((c.kd i).getD j.toNat 0):=fun j hj=>by rw [← ki.1,cu (by omega)]
 have klen:(c.tm i).l.length=(c.kd i).length:=by rw [← ki.1];simp
 have kn:∀ (j:Int),(0≤j∧j < (c.kd i).length)→c.dV ((c.kd i).getD j.toNat 0):=fun j hj=>ki.2 _ (aP (by omega))
 have lvun:(AV.tuple [.int .i64 (dG c i),.bool (uE c i k)]).ab=.tuple [.int .i64 (dG c i),.bool (uE c i k)]:=rfl
 have hS:=Sh4 (O:=c.O) (b:=c.tm k) Qv ki2
 have e1:((4:Int)=1)=False:=by simp
 simp +contextual only [dH,fG,fH,fI,hb,Bool.not_true,D4,Ew,Qv,not_true_eq_false,not_false_eq_true,decide_true,decide_false,sZ,Nat.reduceEqDiff,Nat.reduceAdd,↓reduceIte,reduceCtorEq,Int.reduceEq]
 refine ⟨fun uJ=>fin0 fun h=>uJ (hS.1 h).1,fun uJ=>?_⟩
 refine af (F5 hc hi hk nA) ?_
 rintro r H2 ⟨rfl,rfl⟩
 have opi:qf c i=c.O.pl (c.tm i).n:=by rw [qf,if_pos ki2]
 have osi:dG c i=c.O.sp (c.O.pl (c.tm i).n):=by rw [dG,if_pos ki2]
 cases hl:uE c i k with
 | false=>
   simp +contextual only [D4,decide_true,decide_false,Qv,e1,sZ,Nat.reduceEqDiff,Nat.reduceAdd,Nat.reduceLT,↓reduceIte,reduceCtorEq,Int.reduceEq]
   exact fin0 fun h=>by
    have:=hS.1 h
    rw [kN.2 ⟨ki2,this.2.1,this.2.2.1⟩] at hl
    cases hl
 | true=>
   have MC:=kN.1 hl
   by_cases BJ:dG c i=3
   ·simp +contextual only [p4,k2,D4,rO,decide_true,decide_false,Qv,e1,BJ,sZ,Nat.reduceEqDiff,Nat.reduceAdd,Nat.reduceLT,↓reduceIte,reduceCtorEq,Int.reduceEq]
    refine af (ac5 ii ik (by omega) (by omega) p (fun x hx y hy=>ku hc (ki.2 x hx) (kk.2 y hy)) (fun x hx y hy q hq=>fJ q hq _ _ (ki.2 x hx) (kk.2 y hy)) nA) ?_
    rintro r G ⟨x,rfl,hx,hU,jH⟩
    simp +contextual only [sZ,Nat.reduceEqDiff,↓reduceIte,reduceCtorEq]
    refine fin G x hU jH ?_
    rw [hx,hS,D6,ki.1,kk.1]
    rw [osi] at BJ
    exact ⟨fun h=>⟨uJ,MC.2.1,MC.2.2,BJ,h⟩,fun h=>h.2.2.2.2⟩
   ·have JB:(dG c i=3)=False:=eq_false BJ
    simp +contextual only [D4,decide_true,decide_false,Qv,e1,JB,sZ,Nat.reduceEqDiff,Nat.reduceAdd,Nat.reduceLT,↓reduceIte,reduceCtorEq,Int.reduceEq]
    refine fin0 fun h=>BJ ?_
    rw [osi];exact (hS.1 h).2.2.2.1
theorem Zx {c:Cx} (hc:c.Ok) {p:PP} {i k:Int} (hi:c.dV i) (hk:c.dV k) (fJ:∀ q∈p.l,∀ x y,c.dV x→c.dV y→jA c x y q) (Ay:p.r≠1) (sn:p.r≠2) (Nq:p.r≠3) (Qv:p.r≠4):jA c i k p:=by
 intro H hD
 refine yu.2.calls rfl ?_
 simp only [yu,aF]
 obtain ⟨p1,p2,p3,p4,p5,p6,p7,p8,p9⟩:=a7 p
 have k2:∀ l,(bu l).ab=bu l:=fun l=>(aH l).2.1
 have ki:=hc.kids i hi
 have kk:=hc.kids k hk
 have l1:=hc.kl i hi
 have l2:=hc.kl k hk
 obtain ⟨a1,a2,a3,a4,a5⟩:=aH (c.kd i)
 obtain ⟨b1,b2,b3,b4,b5⟩:=aH (c.kd k)
 have ii:IL (bu (c.kd i)) (c.kd i):=.inl rfl
 have ik:IL (bu (c.kd k)) (c.kd k):=.inl rfl
 have ei:(c.nd.getD i.toNat default).snd=c.kd i:=rfl
 have ek:(c.nd.getD k.toNat default).snd=c.kd k:=rfl
 obtain ⟨m1,m2,m3⟩:=hD.lt
 have nA:Du c (H++[.cells [bu (c.kd k)]]):=hD.rp _
 have fin:∀ G (b:Bool),Up c (H++[.cells [bu (c.kd k)]]) G→Du c G→(b=true↔Sh c.O p (c.tm i) (c.tm k))→bW H.length [.t 8] [(8,.bool b)] G (iS c (Sh c.O p (c.tm i) (c.tm k)) H):=by
  intro G b u d hb
  refine aX H.length (Nat.le_refl _) (by rw [ay,if_pos rfl];rfl) ?_
  rw [ay,if_pos rfl]
  exact ⟨b,rfl,hb,u.take,d.take m1 m2 m3⟩
 have fin0:¬ Sh c.O p (c.tm i) (c.tm k)→bW H.length [.t 8] [(8,.bool false)] (H++[.cells [bu (c.kd k)]]) (iS c (Sh c.O p (c.tm i) (c.tm k)) H):=
  fun h=>fin _ _ (Up.refl c _) nA ⟨fun h=>by simp at h,fun h'=>absurd h' h⟩
 have spv:∀ x:AV,ag [AV.ah] 0 [x]=[x]:=fun x=>rfl
 simp +contextual only [p1,hD.d,mS,Ev,cJ,bV,k2,ei,ek,b1,b3,b4,b5,List.map_cons,List.map_nil,spv,List.all_cons,List.all_nil,Bool.and_true,bH,cP,sZ,Nat.reduceEqDiff,Nat.reduceAdd,Nat.reduceLT,↓reduceIte,reduceCtorEq]
 refine ⟨hi,hk,af (qg hc hi nA) ?_⟩
 rintro r H2 ⟨rfl,rfl⟩
 cases hb:sc c i with
 | false=>
   have ki2:¬ (c.tm i).k=2:=of_decide_eq_false hb
   simp +contextual only [dH,fG,fH,fI,hb,Bool.not_false,sZ,Nat.reduceEqDiff,↓reduceIte,reduceCtorEq]
   exact fin0 fun h=>ki2 (D8 h)
 | true=>
 have ki2:(c.tm i).k=2:=of_decide_eq_true hb
 have kid:∀ (j:Int),(0≤j∧j < (c.kd i).length)→(c.tm i).l.getD j.toNat default=c.tm ((c.kd i).getD j.toNat 0):=fun j hj=>by rw [← ki.1,cu (by omega)]
 have klen:(c.tm i).l.length=(c.kd i).length:=by rw [← ki.1];simp
 have kn:∀ (j:Int),(0≤j∧j < (c.kd i).length)→c.dV ((c.kd i).getD j.toNat 0):=fun j hj=>ki.2 _ (aP (by omega))
 have lvun:(AV.tuple [.int .i64 (dG c i),.bool (uE c i k)]).ab=.tuple [.int .i64 (dG c i),.bool (uE c i k)]:=rfl
 have hS:=Sh0 (O:=c.O) (a:=c.tm i) (b:=c.tm k) Ay sn Nq Qv
 simp +contextual only [dH,fG,fH,fI,hb,Bool.not_true,D4,Ew,Qs,Ay,Nq,Qv,not_true_eq_false,not_false_eq_true,decide_true,decide_false,aw,sZ,Nat.reduceEqDiff,Nat.reduceAdd,↓reduceIte,reduceCtorEq]
 refine fun _=>⟨fun h0=>⟨fun uJ=>fin0 hS,fun uJ=>?_⟩,fun h0=>fin0 hS⟩
 refine af (F5 hc hi hk nA) ?_
 rintro r H2 ⟨rfl,rfl⟩
 simp +contextual only [D4,lvun,decide_false,Ay,sn,Nq,Qv,sZ,Nat.reduceEqDiff,Nat.reduceAdd,Nat.reduceLT,↓reduceIte,reduceCtorEq]
 exact fin0 hS
end Go.aL
end
section
set_option maxRecDepth 100000
namespace Go.aL
open Go Go.Proofs Go.fN
theorem Zy {O:Od} {f:Int→T} {at':Int} {l:List PP} {a:T} {x y kd:List Int} {bl:List T} (hb:kd.map f=bl):D2 (E O) (Sh O) at' l a (x.map f) (y.map f) bl ↔
 (0≤at'∧at' < x.length∧at'≤y.length)∧(∀ j,j < at'.toNat→E O (f (x.getD j 0)) (f (y.getD j 0)))∧
 (if at'=y.length then lS (Sh O) l a (kd.map f) else ∃ q r,l=q::r∧Sh O q (f (x.getD at'.toNat 0)) (f (y.getD at'.toNat 0))∧lS (Sh O) r a (kd.map f)):=by
 unfold D2
 rw [hb]
 simp only [List.length_map]
 refine and_congr_right fun h=>?_
 have e:∀ j,j < at'.toNat→((x.map f).getD j default=f (x.getD j 0)∧(y.map f).getD j default=f (y.getD j 0)):=fun j hj=>⟨cu (by omega),cu (by omega)⟩
 refine and_congr ⟨fun k j hj=>?_,fun k j hj=>?_⟩ ?_
 ·have:=k j hj;rwa [(e j hj).1,(e j hj).2] at this
 ·rw [(e j hj).1,(e j hj).2];exact k j hj
 ·split
  ·exact Iff.rfl
  ·rw [cu (by omega),cu (by omega)]
theorem Zz {c:Cx} (hc:c.Ok) {p:PP} {i k:Int} (hi:c.dV i) (hk:c.dV k) (fJ:∀ q∈p.l,∀ x y,c.dV x→c.dV y→jA c x y q) (Nq:p.r=3):jA c i k p:=by
 intro H hD
 refine yu.2.calls rfl ?_
 simp only [yu,aF]
 obtain ⟨p1,p2,p3,p4,p5,p6,p7,p8,p9⟩:=a7 p
 have k2:∀ l,(bu l).ab=bu l:=fun l=>(aH l).2.1
 have ki:=hc.kids i hi
 have kk:=hc.kids k hk
 have l1:=hc.kl i hi
 have l2:=hc.kl k hk
 obtain ⟨a1,a2,a3,a4,a5⟩:=aH (c.kd i)
 obtain ⟨b1,b2,b3,b4,b5⟩:=aH (c.kd k)
 have ii:IL (bu (c.kd i)) (c.kd i):=.inl rfl
 have ik:IL (bu (c.kd k)) (c.kd k):=.inl rfl
 have ei:(c.nd.getD i.toNat default).snd=c.kd i:=rfl
 have ek:(c.nd.getD k.toNat default).snd=c.kd k:=rfl
 obtain ⟨m1,m2,m3⟩:=hD.lt
 have nA:Du c (H++[.cells [bu (c.kd k)]]):=hD.rp _
 have fin:∀ G (b:Bool),Up c (H++[.cells [bu (c.kd k)]]) G→Du c G→(b=true↔Sh c.O p (c.tm i) (c.tm k))→bW H.length [.t 8] [(8,.bool b)] G (iS c (Sh c.O p (c.tm i) (c.tm k)) H):=by
  intro G b u d hb
  refine aX H.length (Nat.le_refl _) (by rw [ay,if_pos rfl];rfl) ?_
  rw [ay,if_pos rfl]
  exact ⟨b,rfl,hb,u.take,d.take m1 m2 m3⟩
 have fin0:¬ Sh c.O p (c.tm i) (c.tm k)→bW H.length [.t 8] [(8,.bool false)] (H++[.cells [bu (c.kd k)]]) (iS c (Sh c.O p (c.tm i) (c.tm k)) H):=
  fun h=>fin _ _ (Up.refl c _) nA ⟨fun h=>by simp at h,fun h'=>absurd h' h⟩
 have spv:∀ x:AV,ag [AV.ah] 0 [x]=[x]:=fun x=>rfl
 simp +contextual only [p1,hD.d,mS,Ev,cJ,bV,k2,ei,ek,b1,b3,b4,b5,List.map_cons,List.map_nil,spv,List.all_cons,List.all_nil,Bool.and_true,bH,cP,sZ,Nat.reduceEqDiff,Nat.reduceAdd,Nat.reduceLT,↓reduceIte,reduceCtorEq]
 refine ⟨hi,hk,af (qg hc hi nA) ?_⟩
 rintro r H2 ⟨rfl,rfl⟩
 cases hb:sc c i with
 | false=>
   have ki2:¬ (c.tm i).k=2:=of_decide_eq_false hb
   simp +contextual only [dH,fG,fH,fI,hb,Bool.not_false,sZ,Nat.reduceEqDiff,↓reduceIte,reduceCtorEq]
   exact fin0 fun h=>ki2 (D8 h)
 | true=>
 have ki2:(c.tm i).k=2:=of_decide_eq_true hb
 have kid:∀ (j:Int),(0≤j∧j < (c.kd i).length)→(c.tm i).l.getD j.toNat default=c.tm ((c.kd i).getD j.toNat 0):=fun j hj=>by rw [← ki.1,cu (by omega)]
 have klen:(c.tm i).l.length=(c.kd i).length:=by rw [← ki.1];simp
 have kn:∀ (j:Int),(0≤j∧j < (c.kd i).length)→c.dV ((c.kd i).getD j.toNat 0):=fun j hj=>ki.2 _ (aP (by omega))
 have lvun:(AV.tuple [.int .i64 (dG c i),.bool (uE c i k)]).ab=.tuple [.int .i64 (dG c i),.bool (uE c i k)]:=rfl
 have hS:=Sh3 (O:=c.O) (b:=c.tm k) Nq ki2
 have e1:((3:Int)=1)=False:=by simp
 simp +contextual only [dH,fG,fH,fI,hb,Bool.not_true,D4,Qs,Nq,not_true_eq_false,not_false_eq_true,decide_true,decide_false,aw,sZ,Nat.reduceEqDiff,Nat.reduceAdd,↓reduceIte,reduceCtorEq,Int.reduceEq]
 refine fun _=>⟨fun h0=>?_,fun h0=>fin0 fun h=>?_⟩
 ·have B7:p.to=[]:=List.length_eq_zero_iff.1 (by omega)
  refine af (F5 hc hi hk nA) ?_
  rintro r H2 ⟨rfl,rfl⟩
  simp +contextual only [k2,D4,lvun,decide_true,decide_false,Nq,e1,sZ,Nat.reduceEqDiff,Nat.reduceAdd,Nat.reduceLT,↓reduceIte,Int.reduceEq]
  refine aE (Jl (c.kd i) (dG c i) (by omega)) ?_
  simp +contextual only [k2,sZ,Nat.reduceEqDiff,Nat.reduceAdd,Nat.reduceLT,↓reduceIte]
  refine aE (Jl (c.kd k) (dG c i) (by omega)) ?_
  have opi:qf c i=c.O.pl (c.tm i).n:=by rw [qf,if_pos ki2]
  have osi:dG c i=c.O.sp (c.O.pl (c.tm i).n):=by rw [dG,if_pos ki2]
  have hx:side (c.O.sp (c.O.pl (c.tm i).n)) (c.tm i).l=(bG (dG c i) (c.kd i)).map c.tm:=by rw [← osi,← ki.1,jO]
  have hy:side (c.O.sp (c.O.pl (c.tm i).n)) (c.tm k).l=(bG (dG c i) (c.kd k)).map c.tm:=by rw [← osi,← kk.1,jO]
  rw [hx,hy,Zy (kd:=c.kd k) kk.1] at hS
  have lx:(bG (dG c i) (c.kd i)).length=(c.kd i).length:=jM
  have ly:(bG (dG c i) (c.kd k)).length=(c.kd k).length:=jM
  have nx:∀ z∈bG (dG c i) (c.kd i),c.dV z:=fun z hz=>ki.2 z (pc.1 hz)
  have ny:∀ z∈bG (dG c i) (c.kd k),c.dV z:=fun z hz=>kk.2 z (pc.1 hz)
  generalize bG (dG c i) (c.kd i)=x at *
  generalize bG (dG c i) (c.kd k)=y at *
  have ix:IL (.al 0 (ints x)) x:=.inr rfl
  have iy:IL (.al 0 (ints y)) y:=.inr rfl
  cases hl:uE c i k with
  | false=>
    simp +contextual only [Bool.not_false,sZ,Nat.reduceEqDiff,↓reduceIte,reduceCtorEq]
    exact fin0 fun h=>by
     have:=hS.1 h
     rw [kN.2 ⟨ki2,this.2.1,this.2.2.1⟩] at hl
     cases hl
  | true=>
  have MC:=kN.1 hl
  by_cases BJ:dG c i=3
  ·have ac7:(dG c i=3)=True:=eq_true BJ
   simp +contextual only [decide_true,Bool.not_true,ac7,sZ,Nat.reduceEqDiff,↓reduceIte,reduceCtorEq]
   refine fin0 fun h=>(hS.1 h).2.2.2.1 ?_
   rw [← osi];exact BJ
  ·have JB:(dG c i=3)=False:=eq_false BJ
   have lvun':True:=trivial
   by_cases hI:0≤p.i∧p.i < x.length∧p.i≤y.length
   ·have n1:(p.i < 0)=False:=eq_false (by omega)
    have n2:((x.length:Int)≤p.i)=False:=eq_false (by omega)
    have n3:((y.length:Int) < p.i)=False:=eq_false (by omega)
    simp +contextual only [Option.map_some,Option.map_none,Ew,decide_false,Bool.not_true,JB,n1,n2,n3,ix.aN,iy.aN,ix.w9,iy.w9,slT x p.i ⟨hI.1,by omega⟩,slT y p.i ⟨hI.1,by omega⟩,sZ,Nat.reduceEqDiff,Nat.reduceAdd,↓reduceIte,reduceCtorEq]
    refine af (Y1 (SD.Bu c _) (.inr rfl:IL (.al 0 (ints (x.take p.i.toNat))) (x.take p.i.toNat)) (.inr rfl:IL (.al 0 (ints (y.take p.i.toNat))) (y.take p.i.toNat)) (by rw [List.length_take];omega) (by rw [List.length_take];omega) 79 [.ptr c.d 0] [] rfl rfl (Q:=fun x y=>E c.O (c.tm x) (c.tm y))
     (fun u hu v hv G hG=>(ku hc (nx u (List.mem_of_mem_take hu)) (ny v (List.mem_of_mem_take hv)) G hG.1).mono fun r H' hr=>hr.sb hG) ⟨nA,Up.refl c _⟩) ?_
    rintro r G ⟨z,rfl,hz,hG⟩
    have JR:z=true↔∀ j,j < p.i.toNat→E c.O (c.tm (x.getD j 0)) (c.tm (y.getD j 0)):=by
     rw [hz]
     have lt1:(x.take p.i.toNat).length=p.i.toNat:=by rw [List.length_take];omega
     have lt2:(y.take p.i.toNat).length=p.i.toNat:=by rw [List.length_take];omega
     rw [lt1,lt2]
     have et:∀ (l:List Int) j,j < p.i.toNat→(l.take p.i.toNat).getD j 0=l.getD j 0:=fun l j hj=>by simp [List.getD_eq_getElem?_getD,hj]
     constructor
     ·rintro ⟨_,h⟩ j hj;have:=h j hj;rwa [et _ _ hj,et _ _ hj] at this
     ·intro h;exact ⟨rfl,fun j hj=>by rw [et _ _ hj,et _ _ hj];exact h j hj⟩
    have finG:∀ G' (b:Bool),Up c G G'→Du c G'→(b=true↔Sh c.O p (c.tm i) (c.tm k))→bW H.length [.t 8] [(8,.bool b)] G' (iS c (Sh c.O p (c.tm i) (c.tm k)) H):=fun G' b u d hb=>fin G' b (hG.2.trans u) d hb
    have finG0:¬ Sh c.O p (c.tm i) (c.tm k)→bW H.length [.t 8] [(8,.bool false)] G (iS c (Sh c.O p (c.tm i) (c.tm k)) H):=
     fun h=>finG _ _ (Up.refl c _) hG.1 ⟨fun h=>by simp at h,fun h'=>absurd h' h⟩
    have gq:G[H.length]?=some (.cells [bu (c.kd k)]):=by rw [hG.2.get H.length (by omega) (by omega)];simp
    cases z with
    | false=>
      simp +contextual only [Bool.not_false,sZ,Nat.reduceEqDiff,↓reduceIte,reduceCtorEq]
      exact finG0 fun h=>absurd (JR.2 (hS.1 h).2.2.2.2.2.1) (by simp)
    | true=>
      have hz1:=JR.1 rfl
      by_cases he:p.i=y.length
      ·have n4:(p.i=(y.length:Int))=True:=eq_true he
       simp +contextual only [Ew,Mx,decide_true,Bool.not_true,iy.len (by omega),iy.aN,n4,sZ,Nat.reduceEqDiff,Nat.reduceAdd,↓reduceIte,reduceCtorEq]
       refine af (Vk ik (by omega) (q:=H.length) ⟨by omega,by omega⟩ (fun j h1 h2=>fJ _ (ey h2) _ _ hi (kk.2 _ (aP h1))) hG.1 gq) ?_
       rintro r G' ⟨w,rfl,hw,hU,jH⟩
       simp +contextual only [sZ,↓reduceIte,reduceCtorEq]
       refine finG G' w hU jH ?_
       rw [hw,hS]
       rw [if_pos he]
       rw [osi] at BJ
       exact ⟨fun h=>⟨B7,MC.2.1,MC.2.2,BJ,hI,hz1,h⟩,fun h=>h.2.2.2.2.2.2⟩
      ·have n4:(p.i=(y.length:Int))=False:=eq_false he
       rw [if_neg he] at hS
       cases vA:p.l with
       | nil=>
         have n5:(0 < ((0:Nat):Int))=False:=eq_false (by simp)
         simp +contextual only [Ew,Mx,eL,decide_false,Bool.not_true,iy.len (by omega),iy.aN,n4,vA,lG,n5,sZ,Nat.reduceEqDiff,↓reduceIte,reduceCtorEq]
         exact finG0 fun h=>by
          obtain ⟨q,r,e,_⟩:=(hS.1 h).2.2.2.2.2.2
          rw [vA] at e;cases e
       | cons q r=>
         have n5:(0 < ((r.length + 1:Nat):Int))=True:=eq_true (by omega)
         have n6:(q::r).getD (0:Int).toNat default=q:=rfl
         obtain ⟨q1,q2,q3,q4,q5,q6,q7,q8,q9⟩:=a7 q
         simp only [vA] at hS fJ
         simp +contextual only [Ew,Mx,BG,rN,rO,eL,decide_true,decide_false,Bool.not_true,iy.len (by omega),iy.aN,n4,vA,lG,n5,n6,ix.idx,iy.idx,ix.lens,iy.lens,q4,sZ,Nat.reduceEqDiff,Nat.reduceAdd,↓reduceIte,reduceCtorEq]
         refine ⟨by omega,by omega,by omega,af (fJ q List.mem_cons_self _ _ (nx _ (aP (by omega))) (ny _ (aP (by omega))) G hG.1) ?_⟩
         rintro r' G2 ⟨w,rfl,hw,hU,B5⟩
         cases w with
         | false=>
           simp +contextual only [sZ,Nat.reduceEqDiff,↓reduceIte,reduceCtorEq]
           refine finG G2 false hU B5 ⟨fun h=>by simp at h,fun h=>?_⟩
           obtain ⟨q',r',e,h',_⟩:=(hS.1 h).2.2.2.2.2.2
           cases e
           exact hw.2 h'
         | true=>
           have gq2:G2[H.length]?=some (.cells [bu (c.kd k)]):=by rw [hU.get H.length (by omega) (by omega),gq]
           simp +contextual only [Option.map_some,Option.map_none,Mx,Zt,vA,sZ,Nat.reduceEqDiff,Nat.reduceAdd,↓reduceIte,reduceCtorEq]
           refine af (Vk ik (by omega) (q:=H.length) ⟨by omega,by omega⟩ (fun j h1 h2=>fJ _ (List.mem_cons_of_mem _ (ey h2)) _ _ hi (kk.2 _ (aP h1))) B5 gq2) ?_
           rintro r' G3 ⟨v,rfl,hv,Y6,Mj⟩
           simp +contextual only [sZ,Nat.reduceEqDiff,↓reduceIte,reduceCtorEq]
           refine finG G3 v (hU.trans Y6) Mj ?_
           rw [hv,hS]
           rw [osi] at BJ
           constructor
           ·exact fun h=>⟨B7,MC.2.1,MC.2.2,BJ,hI,hz1,q,r,rfl,hw.1 rfl,h⟩
           ·rintro ⟨_,_,_,_,_,_,q',r',e,_,h⟩
            cases e
            exact h
   ·have bad:¬ Sh c.O p (c.tm i) (c.tm k):=fun h=>hI (hS.1 h).2.2.2.2.1
    by_cases m1':p.i < 0
    ·have n1:(p.i < 0)=True:=eq_true m1'
     simp +contextual only [Ew,decide_true,decide_false,Bool.not_true,JB,n1,sZ,Nat.reduceEqDiff,↓reduceIte,reduceCtorEq]
     exact fin0 bad
    ·have n1:(p.i < 0)=False:=eq_false m1'
     by_cases m2':(x.length:Int)≤p.i
     ·have n2:((x.length:Int)≤p.i)=True:=eq_true m2'
      simp +contextual only [Ew,decide_true,decide_false,Bool.not_true,JB,n1,n2,ix.aN,ix.w9,sZ,Nat.reduceEqDiff,↓reduceIte,reduceCtorEq]
      exact fin0 bad
     ·have n2:((x.length:Int)≤p.i)=False:=eq_false m2'
      have n3:((y.length:Int) < p.i)=True:=eq_true (by omega)
      simp +contextual only [Ew,decide_true,decide_false,Bool.not_true,JB,n1,n2,n3,ix.aN,iy.aN,ix.w9,iy.w9,sZ,Nat.reduceEqDiff,↓reduceIte,reduceCtorEq]
      exact fin0 bad
 ·rw [(hS.1 h).1] at h0;simp at h0
end Go.aL
end
section
set_option maxRecDepth 100000
namespace Go.aL
open Go Go.Proofs Go.fN
theorem c87 {c:Cx} (hc:c.Ok):∀ (N:Nat) (p:PP) (i k:Int),pz p≤N→c.dV i→c.dV k→jA c i k p:=by
 intro N
 induction N with
 | zero=>intro p i k h;have:=BE p;omega
 | succ N ih=>
 intro p i k hN hi hk
 have fJ:∀ q∈p.l,∀ x y,c.dV x→c.dV y→jA c x y q:=fun q hq x y hx hy=>ih q x y (by have:=BF hq;omega) hx hy
 by_cases h1:p.r=1
 ·exact Zu hc hi hk fJ h1
 by_cases h2:p.r=2
 ·exact Zv hc hi hk fJ h2
 by_cases h3:p.r=3
 ·exact Zz hc hi hk fJ h3
 by_cases h4:p.r=4
 ·exact Zw hc hi hk fJ h4
 exact Zx hc hi hk fJ h1 h2 h3 h4
theorem Vl {c:Cx} (hc:c.Ok) {p:PP} {i k:Int} (hi:c.dV i) (hk:c.dV k):jA c i k p:=c87 hc _ p i k (Nat.le_refl _) hi hk
open Classical in
noncomputable def D9 (s:Sg) (ps ss:List Int) (a b:T) (p:PP):Int:=if gE s ps ss [a,b]=0 then (if Sh (ky ps ss) p a b then 0 else 61) else gE s ps ss [a,b]
theorem c28 (s:Sg) (ps ss:List Int) (a b:T) (p:PP):Pure Tryz.prog 28 [s.av,eX ps ss,a.av,b.av,eC p] (.int .i64 (D9 s ps ss a b p)):=by
 refine fun H=>k28.2.calls rfl ?_
 simp only [k28,aF]
 obtain ⟨q1,q2,q3,q4,q5,q6⟩:=bo ps ss
 obtain ⟨p1,p2,p3,p4,p5,p6,p7,p8,p9⟩:=a7 p
 simp +contextual only [aB,q1,q4,p1,bZ,sZ,Nat.reduceEqDiff,Nat.reduceAdd,↓reduceIte,reduceCtorEq]
 refine ae (Zl s ps ss [a,b]) ?_
 by_cases h0:gE s ps ss [a,b]=0
 ·have hr:=rM h0
  have hw:=mW hr.tree
  have hc:=hr.cx (by simp) (by simp) H.length
  have hd:=zP ps ss (ts:=[a,b]) (by simp) H
  simp +contextual only [q4,bZ,h0,sZ,Nat.reduceEqDiff,Nat.reduceAdd,↓reduceIte]
  refine af (YW ps ss [a,b] H (by simp at hw;omega)) ?_
  rintro r G ⟨rfl,rfl⟩
  have a0:=uh (ps:=ps) (ss:=ss) (ts:=[a,b]) (n:=H.length) (j:=0) (by simp)
  have a1:=uh (ps:=ps) (ss:=ss) (ts:=[a,b]) (n:=H.length) (j:=1) (by simp)
  have hl:=cI [a,b] 0
  rw [Qo]
  generalize aU [a,b] 0=ks at a0 a1 hl ⊢
  have nE:ks.length=2:=hl
  simp +contextual only [cK,nE,dK,rO,p4,sZ,Nat.reduceEqDiff,Nat.reduceAdd,Nat.reduceLT,↓reduceIte,reduceCtorEq]
  refine ⟨by decide,by decide,af (Vl hc a0.1 a1.1 _ hd) ?_⟩
  rintro r G ⟨x,rfl,hx,hU,hD⟩
  rw [a0.2,a1.2] at hx
  have xH:x=true↔Sh (ky ps ss) p a b:=hx
  have ZA:=hU.low (by simp [gK]) (by simp [gK])
  cases x with
  | true=>
    simp +contextual only [Bool.not_true,sZ,↓reduceIte,reduceCtorEq]
    exact Pq ZA rfl rfl ⟨by rw [D9,if_pos h0,if_pos (xH.1 rfl)],rfl⟩
  | false=>
    simp +contextual only [Bool.not_false,sZ,↓reduceIte,reduceCtorEq]
    exact Pq ZA rfl rfl ⟨by rw [D9,if_pos h0,if_neg (fun h=>absurd (xH.2 h) (by simp))],rfl⟩
 ·simp +contextual only [h0,sZ,Nat.reduceEqDiff,↓reduceIte,reduceCtorEq]
  exact aZ rfl (by rw [D9,if_neg h0])
end Go.aL
end
section
set_option maxRecDepth 100000
set_option maxHeartbeats 0
namespace Go.aL
open Go Go.Proofs
noncomputable def Ea:=aF Tryz.call86 Tryz.func86 Tryz.ntmps86 [(0,0,1),(0,1,1),(3,6,2000),(8,2,2000),(9,7,2000),(10,7,2000),(10,8,1),(10,10,1),(13,3,2000),(16,3,1000),(19,3,2000),(20,9,2000),(21,1,1),(21,6,1),(21,11,1),(21,13,1),(27,3,2000),(29,1,1),(29,13,2000),(29,17,1),(33,1,1),(33,5,2000),(33,9,1)] [(0,[1,3,5,6]),(1,[1,3,5,6,7,8]),(2,[1,3,5,6,7,8,9]),(3,[1,3,5,6,7,8,9,47]),(4,[1,3,5,6,7,8,9]),(5,[1,3,5,6,7,8,9,10]),(6,[1,3,5,6,7,8,10,52]),(7,[1,3,5,6,7,8,10,52,53]),(8,[3,5,6,7,10]),(9,[3,5,6,7,10,67]),(10,[6,10]),(11,[6]),(12,[1,3,6,7,8,10,52,79]),(13,[3,6,7,8,10,11,13]),(14,[3,6,7,8,10,11,89,90,91]),(15,[3,6,7,8,10,11,89,90,91,92]),(16,[3,6,7,8,10,11,14,15,89,90,91]),(17,[3,6,7,8,10,11,14,15,16,89,90,91]),(18,[3,6,7,8,10,11,14,15,16,89,90,91,97]),(19,[3,6,7,8,10,11,14,15,16,89,90,91]),(20,[3,6,7,8,10,11,15,16,89,90,91]),(21,[3,6,7,8,10,11,89,90,91]),(22,[3,6,7,8,10,11,89,90,91]),(23,[6]),(24,[1,3,6,7,8,10,128]),(25,[1,3,6,7,8,10,18]),(26,[1,3,6,8,10,20,21]),(27,[1,3,6,8,10,20,21]),(28,[1,3,6,8,10,20,21,152]),(29,[1,3,6,8,10]),(30,[1,3,6,10,170,171,172]),(31,[1,3,6,10,170,171,172,173]),(32,[1,3,6,10,23,170,171,172]),(33,[1,3,6,10,170,171,172]),(34,[1,3,6,10,170,171,172]),(35,[6])] [(1,(.take 0 true (.take 1 true (.take 2 true (.take 3 true (.take 4 true (.take 5 true (.take 6 true (.take 7 true (.take 8 false (.take 9 false (.take 10 false (.take 12 false (.br 11 (.take 13 false (.take 14 false (.take 15 false (.br 16 (.br 17 (.br 18 (.br 19 .done .nil) .nil) .nil) (.br 17 (.br 16 (.br 18 (.br 19 .done .nil) .nil) .nil) .nil))))) (.br 16 (.br 11 (.take 13 false (.take 14 false (.take 15 false (.br 17 (.br 18 (.br 19 .done .nil) .nil) .nil)))) (.br 17 (.br 11 (.take 13 false (.take 14 false (.take 15 false (.br 18 (.br 19 .done .nil) .nil)))) (.br 18 (.take 11 true (.take 13 true (.take 14 true (.take 15 true (.br 19 .done .nil))))) .nil)) .nil)) (.br 17 (.br 11 (.take 13 false (.take 14 false (.take 15 false (.br 16 (.br 18 (.br 19 .done .nil) .nil) .nil)))) (.br 16 (.br 11 (.take 13 false (.take 14 false (.take 15 false (.br 18 (.br 19 .done .nil) .nil)))) (.br 18 (.take 11 true (.take 13 true (.take 14 true (.take 15 true (.br 19 .done .nil))))) .nil)) .nil)) .nil)))))))))))))))),(3,(.take 0 true (.take 1 true (.take 2 true (.take 3 true (.take 4 true (.take 5 true (.br 6 (.take 7 true .done) .nil)))))))),(9,(.take 0 true (.take 1 true (.take 2 true (.take 3 true (.take 4 true (.take 5 true (.take 6 true (.br 7 (.take 8 true .done) .nil))))))))),(10,(.take 0 true (.take 1 true (.take 2 true (.take 3 true (.take 4 true (.take 5 true (.take 6 true (.br 7 (.take 8 true (.take 9 true (.br 10 .done .nil))) .nil))))))))),(20,(.take 0 true (.take 1 true (.take 2 true (.take 3 true (.take 4 true (.take 5 true (.take 6 true (.take 7 true (.take 8 true (.br 9 (.br 10 .done .nil) .nil))))))))))),(21,(.take 0 false (.take 2 false (.take 3 false (.take 5 false (.br 1 (.br 4 (.br 6 (.take 7 true (.take 8 true (.take 10 true (.br 9 (.br 11 (.take 12 true (.br 13 .done .nil)) .nil) .nil)))) (.br 7 (.take 8 false (.br 6 (.take 10 true (.br 9 (.br 11 (.take 12 true (.br 13 .done .nil)) .nil) .nil)) .nil)) .nil)) (.br 6 (.take 7 true (.take 8 true (.br 4 (.take 10 true (.br 9 (.br 11 (.take 12 true (.br 13 .done .nil)) .nil) .nil)) .nil))) (.br 7 (.take 8 false (.br 4 (.br 6 (.take 10 true (.br 9 (.br 11 (.take 12 true (.br 13 .done .nil)) .nil) .nil)) .nil) (.br 6 (.br 4 (.take 10 true (.br 9 (.br 11 (.take 12 true (.br 13 .done .nil)) .nil) .nil)) .nil) .nil))) .nil))) (.br 6 (.br 1 (.take 7 true (.take 8 true (.br 4 (.take 10 true (.br 9 (.br 11 (.take 12 true (.br 13 .done .nil)) .nil) .nil)) .nil))) (.br 7 (.take 8 false (.br 1 (.br 4 (.take 10 true (.br 9 (.br 11 (.take 12 true (.br 13 .done .nil)) .nil) .nil)) .nil) .nil)) .nil)) (.br 7 (.take 8 false (.br 1 (.br 4 (.br 6 (.take 10 true (.br 9 (.br 11 (.take 12 true (.br 13 .done .nil)) .nil) .nil)) .nil) (.br 6 (.br 4 (.take 10 true (.br 9 (.br 11 (.take 12 true (.br 13 .done .nil)) .nil) .nil)) .nil) .nil)) (.br 6 (.br 1 (.br 4 (.take 10 true (.br 9 (.br 11 (.take 12 true (.br 13 .done .nil)) .nil) .nil)) .nil) .nil) .nil))) .nil)))))))),(26,(.take 0 true (.take 1 true (.take 2 true (.take 3 true (.take 4 true (.take 5 true (.take 6 true (.take 7 true .done))))))))),(29,(.take 0 false (.take 2 false (.take 3 false (.take 4 false (.take 8 false (.take 9 false (.br 1 (.take 5 true (.take 6 true (.take 7 true (.take 10 true (.take 11 true (.take 12 true (.br 13 (.take 14 true (.br 15 (.take 16 true (.br 17 .done .nil)) .nil)) .nil))))))) (.br 5 (.take 6 false (.take 7 false (.br 1 (.take 10 true (.take 11 true (.take 12 true (.br 13 (.take 14 true (.br 15 (.take 16 true (.br 17 .done .nil)) .nil)) .nil)))) (.br 10 (.take 11 false (.take 12 false (.br 1 (.br 13 (.take 14 true (.br 15 (.take 16 true (.br 17 .done .nil)) .nil)) .nil) (.br 13 (.take 14 false (.br 1 (.br 15 (.take 16 true (.br 17 .done .nil)) .nil) .nil)) .nil)))) .nil)))) (.br 10 (.take 11 false (.take 12 false (.br 1 (.take 5 true (.take 6 true (.take 7 true (.br 13 (.take 14 true (.br 15 (.take 16 true (.br 17 .done .nil)) .nil)) .nil)))) (.br 5 (.take 6 false (.take 7 false (.br 1 (.br 13 (.take 14 true (.br 15 (.take 16 true (.br 17 .done .nil)) .nil)) .nil) (.br 13 (.take 14 false (.br 1 (.br 15 (.take 16 true (.br 17 .done .nil)) .nil) .nil)) .nil)))) .nil)))) .nil)))))))))),(33,(.take 0 false (.take 2 false (.take 3 false (.take 4 false (.br 1 (.br 5 (.take 6 true (.br 7 (.take 8 true (.br 9 .done .nil)) .nil)) .nil) (.br 5 (.take 6 false (.br 1 (.br 7 (.take 8 true (.br 9 .done .nil)) .nil) .nil)) .nil)))))))]
end Go.aL
end
section
set_option maxRecDepth 100000
namespace Go.aL
open Go Go.Proofs Go.fN
def pk (l:List PP):AV:=match l with | []=>.ah | _::_=>.al 4 (eB l)
def uk (l:List Int):AV:=match l with | []=>.ah | _::_=>.al 1 (ints l)
theorem iK (l:List PP):(pk l).val=true∧(pk l).cells=[pk l]∧(pk l).one=true∧(∀ n,(pk l).aV n=true)∧(pk l).drop=.al 0 (eB l)∧∀ n,(pk l).ab.aV n=true:=by
 cases l with
 | nil=>exact ⟨rfl,rfl,rfl,fun _=>rfl,rfl,fun _=>rfl⟩
 | cons x r=>exact ⟨rfl,rfl,rfl,fun n=>by rw [pk,b9];exact iY _ _,rfl,fun n=>by rw [pk,wz,b9];exact iY _ _⟩
theorem lU (l:List Int):(uk l).val=true∧(uk l).cells=[uk l]∧(uk l).one=true∧(∀ n,(uk l).aV n=true)∧(uk l).drop=.al 0 (ints l)∧∀ n,(uk l).ab.aV n=true:=by
 cases l with
 | nil=>exact ⟨rfl,rfl,rfl,fun _=>rfl,rfl,fun _=>rfl⟩
 | cons x r=>exact ⟨rfl,rfl,rfl,fun n=>by rw [uk,b9];exact bb _ _,rfl,fun n=>by rw [uk,wz,b9];exact bb _ _⟩
theorem MD (a b:List PP):eB (a++b)=eB a++eB b:=by simp [lT]
theorem Eb (l:List PP) (q:PP) (h:l.length < 1000000000) (o:Nat) (ψ:List AV→Prop):bn 4 64 (pk l) (.al o [eC q]) ψ=ψ (eB (l++[q])):=by
 have jy:qB 4 [eC q]:=of_eq_true (Vi [q])
 rw [MD]
 cases l with
 | nil=>rw [pk,mH];simp [jy,eB]
 | cons x r=>
   rw [pk,mI,eL]
   have e:eB [q]=[eC q]:=rfl
   rw [e]
   simp only [jy,List.length_cons,List.length_nil,true_and,eq_iff_iff]
   simp only [List.length_cons] at h
   exact ⟨fun h=>h.2,fun k=>⟨by omega,k⟩⟩
theorem R2 (l:List Int) (q:Int) (h:l.length < 1000000000) (o:Nat) (ψ:List AV→Prop):bn 1 8 (uk l) (.al o [.int .i64 q]) ψ=ψ (ints (l++[q])):=by
 have jy:qB 1 [AV.int .i64 q]:=of_eq_true (kL [q])
 have e:ints [q]=[AV.int .i64 q]:=rfl
 cases l with
 | nil=>rw [uk,mH];simp [jy,ints]
 | cons x r=>
   rw [uk,mI,aw,← lP,e]
   simp only [jy,List.length_cons,List.length_nil,true_and,eq_iff_iff]
   simp only [List.length_cons] at h
   exact ⟨fun h=>h.2,fun k=>⟨by omega,k⟩⟩
theorem jP (q:PP):aT (eC q)=eC q:=by rw [oB];rfl
theorem rP (l:List PP) (q:PP):AV.al 4 (eB (l++[q]))=pk (l++[q]):=by cases l <;> rfl
theorem Ec (l:List Int) (q:Int):AV.al 1 (ints (l++[q]))=uk (l++[q]):=by cases l <;> rfl
theorem d3 {α:Type} (x y z u d:α) (r:List α):(x::y::z::u::r).getD 3 d=u:=by simp
theorem s3 {α:Type} (x y z w u:α) (r:List α):(x::y::z::w::r).set 3 u=x::y::z::u::r:=by simp
theorem Vm (a b c d y:AV):ag [a,b,c,d] 1 [y]=[a,y,c,d]:=by simp [ag]
theorem JC (a b c d x y z u:AV):ag [a,b,c,d] 0 [x,y,z,u]=[x,y,z,u]:=by simp [ag]
theorem R3 (r i:Int) (to:List Int) (l:List PP) (φ:AV→Prop):dm (some (.cells [.int .i64 r,.int .i64 i,uk to,pk l])) (some 4) 0 φ=φ (eC (.mk r i to l)):=by
 have e:List.map AV.drop [AV.int .i64 r,.int .i64 i,uk to,pk l]=[.int .i64 r,.int .i64 i,.al 0 (ints to),.al 0 (eB l)]:=by
  simp only [List.map_cons,List.map_nil,(iK l).2.2.2.2.1,(lU to).2.2.2.2.1];rfl
 simp only [dm,List.drop_zero,List.length_cons,List.length_nil,List.take_succ_cons,List.take_zero,e,eC]
 simp
def ZB (c:Cx) (i k:Int) (H:List aa) (r:AV) (H':List aa):Prop:=∃ p,r=eC p∧Sh c.O p (c.tm i) (c.tm k)∧Up c H H'∧Du c H'
def pn (c:Cx) (i k:Int):Prop:=∀ H,Du c H→aq Tryz.prog 86 [.ptr c.d 0,.int .i64 i,.int .i64 k] H (ZB c i k H)
structure PB (c:Cx) (H:List aa) (x y:Nat) (i k:Int) (es:List AV) (G:List aa):Prop where
 du:Du c G
 gx:G[x]?=some (.cells [bu (c.kd i)])
 gy:G[y]?=some (.cells [bu (c.kd k)])
 g6:G[H.length]?=some (.cells [.int .i64 0,.int .i64 0,.ah,.ah])
 gp:G[H.length + 3]?=some (.cells es)
 len:G.length=H.length + 4
 up:∀ j,j < H.length→j≠c.e→j≠c.g→G[j]?=H[j]?
structure XY (H:List aa) (x y:Nat):Prop where
 x1:H.length < x
 x2:x < H.length + 3
 y1:H.length < y
 y2:y < H.length + 3
theorem PB.call {c:Cx} {H G G':List aa} {x y:Nat} {i k:Int} {es:List AV} (hD:Du c H) (w:XY H x y) (h:PB c H x y i k es G) (hU:Up c G G') (jH:Du c G'):PB c H x y i k es G':=by
 obtain ⟨l1,l2,l3⟩:=hD.lt
 obtain ⟨w1,w2,w3,w4⟩:=w
 exact ⟨jH,by rw [hU.get x (by omega) (by omega),h.gx],by rw [hU.get y (by omega) (by omega),h.gy],by rw [hU.get _ (by omega) (by omega),h.g6],by rw [hU.get _ (by omega) (by omega),h.gp],by rw [hU.len,h.len],fun j h1 h2 h3=>by rw [hU.get j h2 h3,h.up j h1 h2 h3]⟩
theorem PB.set {c:Cx} {H G:List aa} {x y:Nat} {i k:Int} {es es':List AV} (hD:Du c H) (w:XY H x y) (h:PB c H x y i k es G):PB c H x y i k es' (G.set (H.length + 3) (.cells es')):=by
 obtain ⟨l1,l2,l3⟩:=hD.lt
 obtain ⟨w1,w2,w3,w4⟩:=w
 have hp:=aO h.gp
 exact ⟨h.du.set (by omega) (by omega) (by omega),by rw [List.getElem?_set_ne (by omega),h.gx],by rw [List.getElem?_set_ne (by omega),h.gy],by rw [List.getElem?_set_ne (by omega),h.g6],by rw [List.getElem?_set_self hp],by rw [List.length_set,h.len],fun j h1 h2 h3=>by rw [List.getElem?_set_ne (by omega),h.up j h1 h2 h3]⟩
theorem ac8 {c:Cx} {k x:Int} (h1:kM c x k) (h2:iz c x k) {H:List aa} (hD:Du c H):aq Tryz.prog 147 [.int .i64 x,.ai (.ptr c.d 0),.ai (.int .i64 k)] H (iS c (E c.O (c.tm x) (c.tm k)∨R c.O (c.tm x) (c.tm k)) H):=by
 refine Xz.2.calls rfl ?_
 simp only [Xz,aF]
 simp +contextual only [sZ,Nat.reduceEqDiff,Nat.reduceAdd,↓reduceIte,reduceCtorEq]
 refine af (h1 H hD) ?_
 rintro r H' ⟨b,rfl,hb,hU,jH⟩
 cases b with
 | true=>
   simp +contextual only [sZ,Nat.reduceEqDiff,↓reduceIte,reduceCtorEq]
   exact eG rfl ⟨fun _=>.inl (hb.1 rfl),fun _=>rfl⟩ hU jH
 | false=>
   simp +contextual only [sZ,Nat.reduceEqDiff,Nat.reduceAdd,↓reduceIte,reduceCtorEq]
   refine af (h2 H' jH) ?_
   rintro r H2 ⟨z,rfl,hz,RU,B5⟩
   simp +contextual only [sZ,Nat.reduceEqDiff,↓reduceIte,reduceCtorEq]
   refine eG rfl ⟨fun h=>.inr (hz.1 h),fun h=>hz.2 (h.resolve_left fun h=>absurd (hb.2 h) (by simp))⟩ (hU.trans RU) B5
theorem ac9 {c:Cx} {a b:List Int} {va vb:AV} (ha:IL va a) (hb:IL vb b) {p q:Nat} {x y:Int} (hx:0≤x∧x < a.length) (hy:0≤y∧y < b.length) (h:iz c (a.getD x.toNat 0) (b.getD y.toNat 0)) {G:List aa} (hD:Du c G) (gp:G[p]?=some (.cells [va])) (gq:G[q]?=some (.cells [vb])) :
 aq Tryz.prog 148 [.int .i64 x,.ai (.ptr c.d 0),.ptr p 0,.ptr q 0,.ai (.int .i64 y)] G (iS c (R c.O (c.tm (a.getD x.toNat 0)) (c.tm (b.getD y.toNat 0))) G):=by
 refine XA.2.calls rfl ?_
 simp only [XA,aF]
 obtain ⟨a1,a2,a3,a4⟩:=ha.one
 obtain ⟨b1,b2,b3,b4⟩:=hb.one
 simp +contextual only [gp,gq,a2,b2,ha.lens,hb.lens,ha.idx,hb.idx,sZ,Nat.reduceEqDiff,Nat.reduceAdd,Nat.reduceLT,↓reduceIte,reduceCtorEq]
 refine ⟨hx,hy,af (h G hD) ?_⟩
 rintro r G' ⟨z,rfl,hz,hU,jH⟩
 simp +contextual only [sZ,↓reduceIte,reduceCtorEq]
 exact eG rfl hz hU jH
def R4:IR:=(.loop (.seq (.region [⟨none,some 173,(.bin .lss (.t 172) (.t 171))⟩] (.some [1,3,6,10,170,171,172,173])) (.seq (.cond (.t 173) .skip (.exit 5)) (.seq (.block 6 (.seq (.region [⟨none,some 174,(.indexAddr 1 (.t 170) (.t 172))⟩,⟨none,some 175,(.load .none (.t 174))⟩,⟨none,some 23,(.set (.t 175) false)⟩] (.some [1,3,6,10,23,170,171,172])) (.draw (.take .false ⟨none,some 176,(.fieldAddr 3 .none (.t 10))⟩ (.take .false ⟨none,some 178,(.load .none (.t 3))⟩ (.take .false ⟨none,some 179,(.set (.t 1) false)⟩ (.take .false ⟨none,some 180,(.set (.t 23) false)⟩ (.br ⟨none,some 177,(.eH (.t 176))⟩ (.br ⟨none,some 181,(.call (.c (.fn (.func 86) [] [])) [(.t 178),(.t 179),(.t 180)] (.some 1999))⟩ (.take .true ⟨none,some 182,(.buildSlice 0 4 (.agg [(.int .i64 0),(.int .i64 0),.ah,.ah]) 1 [(0,(.t 181))])⟩ (.br ⟨none,some 183,(.append 4 64 (.t 177) (.t 182))⟩ (.take .true ⟨none,some 184,(.fieldAddr 3 .none (.t 10))⟩ (.br ⟨none,none,(.fw (.t 184) 183)⟩ .done .nil)) .nil)) .nil) (.br ⟨none,some 181,(.call (.c (.fn (.func 86) [] [])) [(.t 178),(.t 179),(.t 180)] (.some 1999))⟩ (.take .false ⟨none,some 182,(.buildSlice 0 4 (.agg [(.int .i64 0),(.int .i64 0),.ah,.ah]) 1 [(0,(.t 181))])⟩ (.br ⟨none,some 177,(.eH (.t 176))⟩ (.br ⟨none,some 183,(.append 4 64 (.t 177) (.t 182))⟩ (.take .true ⟨none,some 184,(.fieldAddr 3 .none (.t 10))⟩ (.br ⟨none,none,(.fw (.t 184) 183)⟩ .done .nil)) .nil) .nil)) .nil)))))) (.some [1,3,6,10,170,171,172])))) (.region [⟨none,some 185,(.bin .add (.t 172) (.c (.int .i64 1)))⟩,⟨none,some 172,(.set (.t 185) false)⟩] (.some [1,3,6,10,170,171,172]))))))
theorem Gg {c:Cx} {H:List aa} (hD:Du c H) {x y:Nat} (w:XY H x y) {i k:Int} {rl at':Int} {l0:List PP} (Aj:l0.length≤1) {b:List Int} {vb:AV} (hb:IL vb b) (lb:b.length≤100000000) (hp:∀ z∈b,pn c i z) {G:List aa} (h:PB c H x y i k [.int .i64 rl,.int .i64 at',.ah,pk l0] G) :
 lX ⟨Tryz.prog,none⟩ H.length R4 [(1,.int .i64 i),(3,.ai (.ptr c.d 0)),(6,.ptr H.length 0),(10,.ptr (H.length + 3) 0),(170,vb),(171,.int .i64 b.length),(172,.int .i64 0)] G fun e aG G'=>
  e=.exit 5∧get aG 6=.ptr H.length 0∧get aG 10=.ptr (H.length + 3) 0∧∃ qs,lS (Sh c.O) qs (c.tm i) (b.map c.tm)∧PB c H x y i k [.int .i64 rl,.int .i64 at',.ah,pk (l0++qs)] G':=by
 obtain ⟨b1,b2,b3,b4⟩:=hb.one
 unfold R4
 refine aJ b.length (fun j (s:List aa×List PP)=>PB c H x y i k [.int .i64 rl,.int .i64 at',.ah,pk (l0++s.2)] s.1∧s.2.length=j∧∀ j',j' < j→Sh c.O (s.2.getD j' default) (c.tm i) (c.tm (b.getD j' 0)))
  (fun j s=>[(1,.int .i64 i),(3,.ai (.ptr c.d 0)),(6,.ptr H.length 0),(10,.ptr (H.length + 3) 0),(170,vb),(171,.int .i64 b.length),(172,.int .i64 j)]) (fun j s=>s.1) (G,[]) ⟨⟨by rw [List.append_nil];exact h,rfl,fun j h=>by omega⟩,aA _ _ _⟩ fun j s hj hI=>?_
 obtain ⟨G,qs⟩:=s
 obtain ⟨lh,hlen,So⟩:=hI
 simp only at lh hlen So
 by_cases MA:(j:Int) < b.length
 ·have qq:j < b.length:=by omega
  have gp:=lh.gp
  have hl:(l0++qs).length < 1000000000:=by rw [List.length_append];omega
  have nB:=fun es=>lh.set (es':=es) hD w
  simp +contextual only [MA,decide_true,hb.lens,hb.idx,Int.toNat_natCast,gp,d3,s3,sZ,Nat.reduceEqDiff,Nat.reduceAdd,Nat.reduceLT,↓reduceIte,reduceCtorEq]
  have fin:∀ (q:PP) (G':List aa),Sh c.O q (c.tm i) (c.tm (b.getD j 0))→PB c H x y i k [.int .i64 rl,.int .i64 at',.ah,pk (l0++(qs++[q]))] G'→∃ (j':Nat) (t:List aa×List PP),(j'≤b.length∧PB c H x y i k [.int .i64 rl,.int .i64 at',.ah,pk (l0++t.2)] t.1∧t.2.length=j'∧∀ j'',j'' < j'→Sh c.O (t.2.getD j'' default) (c.tm i) (c.tm (b.getD j'' 0)))∧b.length - j' < b.length - j∧
   sle H.length [(1,.int .i64 i),(3,.ai (.ptr c.d 0)),(6,.ptr H.length 0),(10,.ptr (H.length + 3) 0),(170,vb),(171,.int .i64 b.length),(172,.int .i64 (IntKind.i64.wrap (j + 1)))] G' [(1,.int .i64 i),(3,.ai (.ptr c.d 0)),(6,.ptr H.length 0),(10,.ptr (H.length + 3) 0),(170,vb),(171,.int .i64 b.length),(172,.int .i64 j')] t.1:=by
   intro q G' hq ada
   refine ⟨j + 1,(G',qs++[q]),⟨qq,ada,by simp [hlen],fun j'' ahy=>?_⟩,by omega,aC (by rw [au j (by omega)]) rfl⟩
   by_cases e:j''=j
   ·subst e
    have:(qs++[q]).getD j'' default=q:=by rw [← hlen];simp
    rw [this];exact hq
   ·have:(qs++[q]).getD j'' default=qs.getD j'' default:=by
     rw [List.getD_eq_getElem?_getD,List.getD_eq_getElem?_getD,List.getElem?_append_left (by omega)]
    rw [this];exact So j'' (by omega)
  refine ⟨by omega,?_,?_⟩
  ·refine af (hp _ (aP qq) _ (nB _).du) ?_
   rintro r G2 ⟨q,rfl,hq,hU,B5⟩
   have ME:=(nB _).call hD w hU B5
   have gp2:=ME.gp
   have BK:=fun es=>ME.set (es':=es) hD w
   obtain ⟨q1,q2,q3,q4,q5,q6,q7,q8,q9⟩:=a7 q
   obtain ⟨v1,v2,v3,v4,v5,v6⟩:=iK (l0++(qs++[q]))
   simp +contextual only [q1,q2,jP,Eb _ _ hl,gp2,s3,List.append_assoc,sZ,Nat.reduceEqDiff,Nat.reduceAdd,Nat.reduceLT,↓reduceIte]
   have el:AV.al 4 (eB (l0++(qs++[q])))=pk (l0++(qs++[q])):=by rw [← List.append_assoc];exact rP _ _
   rw [el]
   exact ⟨iY _ _,fin q _ hq (BK _)⟩
  ·refine af (hp _ (aP qq) _ lh.du) ?_
   rintro r G2 ⟨q,rfl,hq,hU,B5⟩
   have ME:=lh.call hD w hU B5
   have gp2:=ME.gp
   have BK:=fun es=>ME.set (es':=es) hD w
   have gp3:=fun es=>(BK es).gp
   have xn:=fun es es'=>(BK es).set (es':=es') hD w
   obtain ⟨q1,q2,q3,q4,q5,q6,q7,q8,q9⟩:=a7 q
   obtain ⟨v1,v2,v3,v4,v5,v6⟩:=iK (l0++(qs++[q]))
   simp +contextual only [q1,q2,jP,Eb _ _ hl,gp2,gp3,d3,s3,List.append_assoc,sZ,Nat.reduceEqDiff,Nat.reduceAdd,Nat.reduceLT,↓reduceIte]
   have el:AV.al 4 (eB (l0++(qs++[q])))=pk (l0++(qs++[q])):=by rw [← List.append_assoc];exact rP _ _
   rw [el]
   exact ⟨iY _ _,fin q _ hq (xn _ _)⟩
 ·have e:j=b.length:=by omega
  simp +contextual only [MA,decide_false,sZ,Nat.reduceEqDiff,↓reduceIte]
  refine ⟨qs,⟨by rw [hlen,e,List.length_map],fun j' vg=>?_⟩,lh⟩
  rw [List.length_map] at vg
  rw [cu vg];exact So j' (by omega)
end Go.aL
end
