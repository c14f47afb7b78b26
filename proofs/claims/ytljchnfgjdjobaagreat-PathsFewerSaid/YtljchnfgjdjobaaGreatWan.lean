/- Part 14 of 18 of the proof. -/
import Derived.Test.YtljchnfgjdjobaaGreatWak
import Derived.Test.YtljchnfgjdjobaaGreatWam
import Derived.Test.YtljchnfgjdjobaaGreatWac
import Derived.Test.YtljchnfgjdjobaaGreatWag
import Derived.KernelRfl
set_option linter.unusedVariables false
set_option linter.unusedSimpArgs false
set_option linter.defProp false
set_option linter.unusedSectionVars false
section
namespace Go.fm
open Go.aH
inductive PP where
 | mk (r i:Int) (to:List Int) (l:List PP)
 deriving Inhabited
def PP.r:PP→Int | .mk r _ _ _=>r
def PP.i:PP→Int | .mk _ i _ _=>i
def PP.to:PP→List Int | .mk _ _ to _=>to
def PP.l:PP→List PP | .mk _ _ _ l=>l
mutual
def pz:PP→Nat
 | .mk _ _ _ l=>WS l + 1
def WS:List PP→Nat
 | []=>0
 | x::r=>pz x + WS r
end
theorem Gf {x:PP}:∀ {l:List PP},x∈l→pz x≤WS l
 | y::r,h=>by
   rw [WS]
   rcases List.mem_cons.1 h with rfl | h
   ·omega
   ·have:=Gf h;omega
theorem AG (p:PP):0 < pz p:=by cases p;rw [pz];omega
theorem AH {p x:PP} (h:x∈p.l):pz x < pz p:=by
 obtain ⟨r,i,to,l⟩:=p
 have:pz x≤WS l:=Gf h
 rw [pz];omega
theorem dZ {l:List PP} {i:Nat} (h:i < l.length):l.getD i default∈l:=by
 rw [List.getD_eq_getElem?_getD,List.getElem?_eq_getElem h];exact List.getElem_mem h
theorem Ic {l:List T} {i:Nat} (h:i < l.length):l.getD i default∈l:=by
 rw [List.getD_eq_getElem?_getD,List.getElem?_eq_getElem h];exact List.getElem_mem h
def PP.nil (q:PP):Prop:=q.r=0∧q.i=0∧q.to=[]∧q.l=[]
instance (q:PP):Decidable q.nil:=by
 unfold PP.nil
 have:Decidable (q.l=[]):=by cases q.l with
  | nil=>exact isTrue rfl
  | cons a b=>exact isFalse (by simp)
 exact inferInstance
def dy (to:List Int) (x:Int):Nat→Nat
 | 0=>0
 | n + 1=>dy to x n + if to.getD n 0=x then 1 else 0
def dk (to:List Int) (l:List PP) (x:Int):Nat→Nat
 | 0=>0
 | n + 1=>dk to l x n + if to.getD n 0=x∧(l.getD n default).nil then 1 else 0
theorem yI {to:List Int} {x:Int} {j:Nat}:∀ {n:Nat},j < n→to.getD j 0=x→1≤dy to x n
 | n + 1,h,e=>by
   rw [dy]
   by_cases hj:j=n
   ·subst hj;rw [if_pos e];omega
   ·have:=yI (n:=n) (by omega) e;omega
theorem sA {to:List Int} {x:Int} {j j':Nat} (hj:j < j') (e:to.getD j 0=x) (e':to.getD j' 0=x):∀ {n:Nat},j' < n→2≤dy to x n
 | n + 1,h=>by
   rw [dy]
   by_cases hn:j'=n
   ·subst hn;rw [if_pos e'];have:=yI hj e;omega
   ·have:=sA hj e e' (n:=n) (by omega);omega
theorem yJ {to:List Int} {x:Int} {j j' n:Nat} (h:dy to x n≤1) (hj:j < n) (uq:j' < n) (e:to.getD j 0=x) (e':to.getD j' 0=x):j=j':=by
 rcases Nat.lt_trichotomy j j' with h1 | h1 | h1
 ·have:=sA h1 e e' uq;omega
 ·exact h1
 ·have:=sA h1 e' e hj;omega
theorem iB {to:List Int} {l:List PP} {x:Int}:∀ {n:Nat},0 < dk to l x n↔∃ j,j < n∧to.getD j 0=x∧(l.getD j default).nil
 | 0=>by simp [dk]
 | n + 1=>by
   rw [dk]
   have ih:=iB (to:=to) (l:=l) (x:=x) (n:=n)
   by_cases h:to.getD n 0=x∧(l.getD n default).nil
   ·rw [if_pos h]
    exact ⟨fun _=>⟨n,by omega,h⟩,fun _=>by omega⟩
   ·rw [if_neg h,Nat.add_zero,ih]
    constructor
    ·rintro ⟨j,h1,h2⟩;exact ⟨j,by omega,h2⟩
    ·rintro ⟨j,h1,h2⟩
     have:j≠n:=fun e=>h (e ▸ h2)
     exact ⟨j,by omega,h2⟩
theorem nZ {to:List Int} {l:List PP} {x:Int}:∀ n,dk to l x n≤dy to x n
 | 0=>Nat.le_refl _
 | n + 1=>by
   rw [dk,dy]
   have:=nZ (to:=to) (l:=l) (x:=x) n
   by_cases h:to.getD n 0=x∧(l.getD n default).nil
   ·rw [if_pos h,if_pos h.1];omega
   ·rw [if_neg h];omega
def lD (S:PP→T→T→Prop) (l:List PP) (a:T) (bs:List T):Prop:=l.length=bs.length∧∀ j,j < bs.length→S (l.getD j default) a (bs.getD j default)
def P8 (Q:T→T→Prop) (S:PP→T→T→Prop) (to:List Int) (l:List PP) (az bs:List T):Prop:=
 to.length=bs.length∧l.length=bs.length∧
 (∀ j,j < bs.length→(0≤to.getD j 0∧to.getD j 0 < az.length)∧
   (if (l.getD j default).nil then Q (az.getD (to.getD j 0).toNat default) (bs.getD j default) else S (l.getD j default) (az.getD (to.getD j 0).toNat default) (bs.getD j default)))∧
 (∀ x:Nat,x < az.length→0 < dk to l x bs.length→dy to x bs.length≤1)∧∃ x:Nat,x < az.length∧dk to l x bs.length=0
def C2 (Q:T→T→Prop) (S:PP→T→T→Prop) (i:Int) (l:List PP) (a:T) (az bs:List T) (bl:List T):Prop:=
 (0≤i∧i < az.length∧i≤bs.length)∧(∀ j,j < i.toNat→Q (az.getD j default) (bs.getD j default))∧
 (if i=bs.length then lD S l a bl else ∃ q r,l=q::r∧S q (az.getD i.toNat default) (bs.getD i.toNat default)∧lD S r a bl)
def Fs (O:Od) (S:PP→T→T→Prop) (p:PP) (a b:T):Prop:=
 a.k=2∧(
  (p.r=1∧p.to=[]∧(0≤p.i∧p.i < a.l.length)∧((p.l=[]∧E O (a.l.getD p.i.toNat default) b)∨∃ q,p.l=[q]∧S q (a.l.getD p.i.toNat default) b))∨
  (p.r=2∧p.to=[]∧p.i=0∧b.k=2∧O.pl b.n < O.pl a.n∧lD S p.l a b.l)∨
  (p.r=3∧p.to=[]∧b.k=2∧O.pl a.n=O.pl b.n∧O.sp (O.pl a.n)≠3∧C2 (E O) S p.i p.l a (side (O.sp (O.pl a.n)) a.l) (side (O.sp (O.pl a.n)) b.l) b.l)∨
  (p.r=4∧p.i=0∧b.k=2∧O.pl a.n=O.pl b.n∧O.sp (O.pl a.n)=3∧P8 (E O) S p.to p.l a.l b.l))
theorem mI {S S':PP→T→T→Prop} {l:List PP} {a:T} {bs:List T} (h:∀ q∈l,∀ a b,S q a b↔S' q a b):lD S l a bs↔lD S' l a bs:=by
 refine and_congr_right fun hl=>?_
 constructor
 ·exact fun k j hj=>(h _ (dZ (by omega)) _ _).1 (k j hj)
 ·exact fun k j hj=>(h _ (dZ (by omega)) _ _).2 (k j hj)
theorem Ie {Q:T→T→Prop} {S S':PP→T→T→Prop} {to:List Int} {l:List PP} {az bs:List T} (h:∀ q∈l,∀ a b,S q a b↔S' q a b):P8 Q S to l az bs↔P8 Q S' to l az bs:=by
 refine and_congr_right fun _=>and_congr_right fun hl=>and_congr_left fun _=>?_
 constructor
 ·intro k j hj
  refine ⟨(k j hj).1,?_⟩
  have:=(k j hj).2
  split at this
  ·rename_i e;rw [if_pos e];exact this
  ·rename_i e;rw [if_neg e];exact (h _ (dZ (by omega)) _ _).1 this
 ·intro k j hj
  refine ⟨(k j hj).1,?_⟩
  have:=(k j hj).2
  split at this
  ·rename_i e;rw [if_pos e];exact this
  ·rename_i e;rw [if_neg e];exact (h _ (dZ (by omega)) _ _).2 this
theorem EZ {Q:T→T→Prop} {S S':PP→T→T→Prop} {i:Int} {l:List PP} {a:T} {az bs bl:List T} (h:∀ q∈l,∀ a b,S q a b↔S' q a b):C2 Q S i l a az bs bl↔C2 Q S' i l a az bs bl:=by
 refine and_congr_right fun _=>and_congr_right fun _=>?_
 split
 ·exact mI h
 ·constructor
  ·rintro ⟨q,r,rfl,h1,h2⟩
   exact ⟨q,r,rfl,(h q List.mem_cons_self _ _).1 h1,(mI fun x hx=>h x (List.mem_cons_of_mem _ hx)).1 h2⟩
  ·rintro ⟨q,r,rfl,h1,h2⟩
   exact ⟨q,r,rfl,(h q List.mem_cons_self _ _).2 h1,(mI fun x hx=>h x (List.mem_cons_of_mem _ hx)).2 h2⟩
theorem C3 {O:Od} {S S':PP→T→T→Prop} {p:PP} {a b:T} (h:∀ q∈p.l,∀ a b,S q a b↔S' q a b):Fs O S p a b↔Fs O S' p a b:=by
 refine and_congr_right fun _=>or_congr ?_ (or_congr ?_ (or_congr ?_ ?_))
 ·refine and_congr_right fun _=>and_congr_right fun _=>and_congr_right fun _=>or_congr Iff.rfl ?_
  constructor
  ·rintro ⟨q,e,k⟩;exact ⟨q,e,(h q (by rw [e];simp) _ _).1 k⟩
  ·rintro ⟨q,e,k⟩;exact ⟨q,e,(h q (by rw [e];simp) _ _).2 k⟩
 ·rw [mI h]
 ·rw [EZ h]
 ·rw [Ie h]
def P9 (O:Od):Nat→PP→T→T→Prop
 | 0=>fun _ _ _=>False
 | f + 1=>Fs O (P9 O f)
def Sh (O:Od) (p:PP) (a b:T):Prop:=P9 O (pz p) p a b
theorem pK (O:Od):∀ (f g:Nat) (p:PP) (a b:T),pz p≤f→pz p≤g→(P9 O f p a b↔P9 O g p a b)
 | 0,_,p,a,b,h,_=>by have:=AG p;omega
 | _ + 1,0,p,a,b,_,h=>by have:=AG p;omega
 | f + 1,g + 1,p,a,b,h1,h2=>by
   simp only [P9]
   refine C3 fun q hq a b=>?_
   have:=AH hq
   exact pK O f g q a b (by omega) (by omega)
theorem pL {O:Od} {p:PP} {a b:T}:Sh O p a b↔Fs O (Sh O) p a b:=by
 have e:P9 O (pz p) p a b↔P9 O (pz p + 1) p a b:=pK O _ _ p a b (by omega) (by omega)
 unfold Sh
 rw [e]
 show Fs O (P9 O (pz p)) p a b↔_
 refine C3 fun q hq a b=>?_
 have:=AH hq
 exact pK O _ _ q a b (by omega) (by omega)
theorem Qa {G:T→T→Prop}:∀ (n:Nat) {l m:List T},n < l.length→n≤m.length→(∀ j,j < n→l.getD j default=m.getD j default)→(n=m.length∨G (l.getD n default) (m.getD n default))→Lx G l m
 | 0,x::l,[],_,_,_,_=>trivial
 | 0,x::l,y::m,_,_,_,h=>.inr (by simpa using h)
 | n + 1,x::l,[],_,h,_,_=>by simp at h
 | n + 1,x::l,y::m,h1,h2,h3,h4=>by
   refine .inl ⟨h3 0 (by omega),Qa n (by simpa using h1) (by simpa using h2) (fun j hj=>h3 (j + 1) (by omega)) ?_⟩
   simpa using h4
theorem E0 {β:Type} (f:T→β) (a:List T):a.map f=(List.range a.length).map fun i=>f (a.getD i default):=by
 apply List.ext_getElem
 ·simp
 ·intro i h1 h2
  have:i < a.length:=by simpa using h1
  simp [this]
theorem yK {β:Type} (f:T→β) (a:List T) (p:Nat→Bool):(a.map f).Perm (((List.range a.length).filter p).map (fun i=>f (a.getD i default))++((List.range a.length).filter fun i=>!p i).map fun i=>f (a.getD i default)):=by
 rw [E0,← List.map_append]
 exact (List.filter_append_perm p (List.range a.length)).symm.map _
theorem pg (n:Nat) (p:Nat→Bool):((List.range n).filter p).Nodup:=List.Pairwise.filter p List.nodup_range
theorem Th {O:Od} {S:PP→T→T→Prop} {to:List Int} {l:List PP} {az bs:List T} (h:P8 (E O) S to l az bs) (hS:∀ q∈l,∀ a b,S q a b→R O a b):Mu (Gt O.sp) (az.map (norm O)) (bs.map (norm O)):=by
 obtain ⟨h1,h2,h3,h4,x0,IV,h5⟩:=h
 let n:=bs.length
 let U:Nat→Bool:=fun i=>decide (dk to l i n=0)
 let Z:Nat→Bool:=fun j=>!decide (l.getD j default).nil
 have pu:=yK (norm O) az U
 have pz:=yK (norm O) bs Z
 refine Wg (X:=((List.range az.length).filter U).map fun i=>norm O (az.getD i default)) (Y:=((List.range bs.length).filter Z).map fun i=>norm O (bs.getD i default)) (C:=((List.range bs.length).filter fun i=>!Z i).map fun i=>norm O (bs.getD i default)) ?_ pz ?_ ?_
 ·refine pu.trans (List.Perm.append_left _ ?_)
  have hp:(((List.range bs.length).filter fun j=>!Z j).map fun j=>(to.getD j 0).toNat).Perm ((List.range az.length).filter fun i=>!U i):=by
   rw [List.perm_ext_iff_of_nodup]
   ·intro i
    simp only [Z,U,n,List.mem_map,List.mem_filter,List.mem_range,Bool.not_not,Bool.not_eq_true',decide_eq_true_eq,decide_eq_false_iff_not]
    constructor
    ·rintro ⟨j,⟨hj,hn⟩,rfl⟩
     have:=(h3 j hj).1
     refine ⟨by omega,?_⟩
     have:0 < dk to l ((to.getD j 0).toNat:Int) bs.length:=iB.2 ⟨j,hj,by omega,hn⟩
     omega
    ·rintro ⟨hi,hu⟩
     obtain ⟨j,k1,k2,k3⟩:=iB.1 (show 0 < dk to l (i:Int) bs.length by omega)
     exact ⟨j,⟨k1,k3⟩,by omega⟩
   ·rw [List.Nodup,List.pairwise_map]
    refine List.Pairwise.imp_of_mem ?_ (pg _ _)
    intro j j' hj uq eM he
    simp only [Z,List.mem_filter,List.mem_range,Bool.not_not,decide_eq_true_eq] at hj uq
    have b1:=(h3 j hj.1).1
    have b2:=(h3 j' uq.1).1
    have e1:to.getD j 0=(((to.getD j 0).toNat:Nat):Int):=by omega
    have e2:to.getD j' 0=(((to.getD j 0).toNat:Nat):Int):=by omega
    have hp:0 < dk to l (((to.getD j 0).toNat:Nat):Int) bs.length:=iB.2 ⟨j,hj.1,e1,hj.2⟩
    exact eM (yJ (h4 _ (by omega) hp) hj.1 uq.1 e1 e2)
   ·exact pg _ _
  refine (hp.map fun i=>norm O (az.getD i default)).symm.trans ?_
  rw [List.map_map]
  refine List.Perm.of_eq (List.map_congr_left fun j hj=>?_)
  simp only [Z,List.mem_filter,List.mem_range,Bool.not_not,decide_eq_true_eq] at hj
  have:=(h3 j hj.1).2
  rw [if_pos hj.2] at this
  exact this
 ·intro e
  have:norm O (az.getD x0 default)∈((List.range az.length).filter U).map fun i=>norm O (az.getD i default):=
   List.mem_map.2 ⟨x0,List.mem_filter.2 ⟨List.mem_range.2 IV,by simp [U,n,h5]⟩,rfl⟩
  rw [e] at this
  cases this
 ·intro y hy
  obtain ⟨j,hj,rfl⟩:=List.mem_map.1 hy
  simp only [Z,List.mem_filter,List.mem_range,Bool.not_eq_true',decide_eq_false_iff_not] at hj
  obtain ⟨hj,hn⟩:=hj
  have b1:=h3 j hj
  rw [if_neg hn] at b1
  refine ⟨norm O (az.getD (to.getD j 0).toNat default),List.mem_map.2 ⟨(to.getD j 0).toNat,List.mem_filter.2 ⟨List.mem_range.2 (by omega),?_⟩,rfl⟩,hS _ (dZ (by omega)) _ _ b1.2⟩
  simp only [U,n,decide_eq_true_eq]
  by_cases hp:0 < dk to l ((to.getD j 0).toNat:Int) bs.length
  ·have ht:=h4 _ (by omega) hp
   obtain ⟨j',k1,k2,k3⟩:=iB.1 hp
   have:=yJ ht hj k1 (by omega) k2
   exact absurd (this ▸ k3) hn
  ·omega
theorem oJ {f:T→T} {l:List T} {i:Nat} (h:i < l.length):(l.map f).getD i default=f (l.getD i default):=by
 simp [h]
theorem aaj {O:Od}:∀ (N:Nat) {p:PP} {a b:T},pz p≤N→Sh O p a b→R O a b:=by
 intro N
 induction N with
 | zero=>intro p a b h;have:=AG p;omega
 | succ N ih=>
 intro p a b hN h
 have hm:∀ q∈p.l,∀ a b,Sh O q a b→R O a b:=fun q hq a b hs=>ih (by have:=AH hq;omega) hs
 have iI:∀ {l:List PP} {bs:List T},(∀ q∈l,q∈p.l)→lD (Sh O) l a bs→∀ y∈bs,R O a y:=by
  intro l bs hq hl y hy
  obtain ⟨j,hj,rfl⟩:=List.mem_iff_getElem.1 hy
  have:=hl.2 j hj
  have e:bs.getD j default=bs[j]:=by simp [hj]
  rw [e] at this
  exact hm _ (hq _ (dZ (by have:=hl.1;omega))) _ _ this
 obtain ⟨ha,h⟩:=pL.1 h
 rcases h with ⟨_,_,hi,h⟩ | ⟨_,_,_,hb,hp,h⟩ | ⟨_,_,hb,hp,hs,h1,h2,h3⟩ | ⟨_,_,hb,hp,hs,h⟩
 ·refine Wj ha (Ic (i:=p.i.toNat) (by omega)) ?_
  rcases h with ⟨_,h⟩ | ⟨q,e,h⟩
  ·exact .inl h
  ·exact .inr (hm q (by rw [e];simp) _ _ h)
 ·exact qM.2 ⟨ha,.inr ⟨hb,.inl ⟨hp,iI (fun _ h=>h) h⟩⟩⟩
 ·refine qM.2 ⟨ha,.inr ⟨hb,.inr (.inl ⟨hp.symm,hs,?_,?_⟩)⟩⟩
  ·split at h3
   ·exact iI (fun _ h=>h) h3
   ·obtain ⟨q,r,e,_,h3⟩:=h3
    exact iI (fun x hx=>by rw [e];exact List.mem_cons_of_mem _ hx) h3
  ·rw [CF,CF]
   have hla:p.i.toNat < (side (O.sp (O.pl a.n)) a.l).length:=by omega
   refine Qa p.i.toNat (by simpa using hla) (by simp;omega) (fun j hj=>?_) ?_
   ·rw [oJ (by omega),oJ (by omega)]
    exact h2 j hj
   ·by_cases hi:p.i=(side (O.sp (O.pl a.n)) b.l).length
    ·left;simp;omega
    ·rw [if_neg hi] at h3
     obtain ⟨q,r,e,h3,_⟩:=h3
     right
     rw [oJ (by omega),oJ (by omega)]
     exact hm q (by rw [e];simp) _ _ h3
 ·exact qM.2 ⟨ha,.inr ⟨hb,.inr (.inr ⟨hp.symm,hs,Th h hm⟩)⟩⟩
theorem Sh.gt {O:Od} {p:PP} {a b:T} (h:Sh O p a b):R O a b:=aaj _ (Nat.le_refl _) h
end Go.fm
end
section
set_option maxRecDepth 100000
namespace Go.aH
open Go Go.Proofs Go.fm
mutual
def eg:PP→AV
 | .mk r i to l=>.agg [.int .i64 r,.int .i64 i,.ap 0 (ints to),.ap 0 (ee l)]
def ee:List PP→List AV
 | []=>[]
 | x::r=>eg x::ee r
end
theorem n7 (p:PP):eg p=.agg [.int .i64 p.r,.int .i64 p.i,.ap 0 (ints p.to),.ap 0 (ee p.l)]:=by cases p;rw [eg];rfl
theorem lE:∀ l,ee l=l.map eg
 | []=>rfl
 | x::r=>by simp [ee,lE r]
theorem eG (l:List PP):(ee l).length=l.length:=by simp [lE]
mutual
theorem fQ (n:Nat):∀ p,(eg p).aZ n=true
 | .mk r i to l=>by simp [eg,AV.aZ,aj,aY,iN n l]
theorem iN (n:Nat):∀ l,aj n (ee l)=true
 | []=>rfl
 | x::r=>by simp [ee,aj,fQ n x,iN n r]
end
theorem a7 (p:PP):(eg p).val=true∧(eg p).cells.length=4∧(eg p).cells.all AV.one=true∧(eg p).ab=eg p∧(eg p).drop=eg p∧(∀ n,(eg p).aZ n=true)∧AV.agg (eg p).cells=eg p∧(eg p).cells.map AV.drop=(eg p).cells∧(eg p).cells.map AV.ab=(eg p).cells:=by
 refine ⟨?_,?_,?_,?_,?_,fun n=>fQ n p,?_,?_,?_⟩ <;> (rw [n7];rfl)
theorem C4 (p:PP) (φ:AV→Prop):ak 0 none (.ai (eg p)) φ=φ (.ai (.int .i64 p.r)):=by rw [n7];simp [ak,apart,AV.cells,AV.one]
theorem Dx (p:PP) (φ:AV→Prop):ak 1 none (.ai (eg p)) φ=φ (.ai (.int .i64 p.i)):=by rw [n7];simp [ak,apart,AV.cells,AV.one]
theorem OF (p:PP) (φ:AV→Prop):ak 2 none (.ai (eg p)) φ=φ (.ai (.ap 0 (ints p.to))):=by rw [n7];simp [ak,apart,AV.cells,AV.one]
theorem KO (p:PP) (φ:AV→Prop):ak 3 none (.ai (eg p)) φ=φ (.ai (.ap 0 (ee p.l))):=by rw [n7];simp [ak,apart,AV.cells,AV.one]
theorem qZ (o:Nat) (l:List PP):(∀ (own:Nat) (xs:List AV),AV.ap o (ee l)=AV.ap own xs→∀ z∈xs,z.cells.length=4)=True:=by
 simp only [eq_iff_iff,iff_true]
 intro own xs e z hz
 cases e
 rw [lE] at hz
 obtain ⟨y,_,rfl⟩:=List.mem_map.1 hz
 exact (a7 y).2.1
theorem yL (l:List PP) (i:Nat) (h:i < l.length):(ee l).getD i .any=eg (l.getD i default):=by
 simp [lE,h]
theorem AI (e o:Nat) (l:List PP) (k:IntKind) (i:Int) (φ:AV→Prop):ay e (.ap o (ee l)) (.int k i) φ=((0≤i∧i < l.length)∧φ (.ai (eg (l.getD i.toNat default)))):=by
 simp only [ay,eG,eq_iff_iff]
 constructor
 ·rintro ⟨h0,h,h2⟩;rw [yL _ _ h] at h2;exact ⟨by omega,h2⟩
 ·rintro ⟨⟨h0,h⟩,h2⟩
  have h:i.toNat < l.length:=by omega
  rw [yL _ _ h];exact ⟨h0,h,h2⟩
theorem ra (p:PP) (H:List aa) (φ:AV→Prop):aR (some 4) (.ai (eg p)) H φ=φ (eg p):=by
 obtain ⟨_,h2,_,_,_,_,h7,_⟩:=a7 p
 simp [aR,h2,h7]
theorem Ti (l:List PP):sR 4 (ee l)=True:=by
 simp only [eq_iff_iff,iff_true]
 intro z hz
 rw [lE] at hz
 obtain ⟨y,_,rfl⟩:=List.mem_map.1 hz
 obtain ⟨h1,h2,h3,h4,h5,_⟩:=a7 y
 first | exact ⟨h1,h2,h3⟩ | exact ⟨h2,h1,h3⟩ | exact ⟨h1,h2⟩ | (constructor <;> first | assumption | simp [*])
def AJ (P:Px) (id:Nat) (xs:List AV) (H:List aa) (K:AV→List aa→Prop):Prop:=∃ bN,w7 xs bN∧lU P id bN H K
@[congr] theorem OG {P:Px} {id:Nat} {xs xs':List AV} {H H':List aa} {K:AV→List aa→Prop} (h:gD xs=xs') (h2:H=H'):AJ P id xs H K=AJ P id xs' H' K:=by subst h;subst h2;rfl
theorem Gg {P:Px} {env:Env} {H:List aa} (id:Nat) (args:List IX) (pass:Option Nat) (K:AV→Env→List aa→Prop):oU P (.nk id) args pass env H K=AJ P id (aD env pass 0 args) H (fun r H'=>K r (cL env (bg args pass)) H'):=_root_.id rfl
theorem Tj (id:Nat):(AV.nk id).ab=.nk id:=_root_.id rfl
theorem yM {P:Program} {id:Nat} {xs:List AV} {H:List aa} {R K:AV→List aa→Prop} (hc:jH P id xs H R) (hk:∀ r H',R r H'→K r H'):AJ (P:Px) id xs H K:=⟨xs,cp _,fy.mono hc hk⟩
theorem sB {P:Program} (g:FuncId) (first cap:List AV) (lc:iH) (env:Env) (H:List aa) (K:Option Code→List aa→Prop) {R:AV→List aa→Prop} (he:∀ (vs:Array Value) (w:World),(callFunc g vs).run P w=.ok (.enter g vs) w)
 (hc:aq P g (first.map AV.ab++[.nk H.length]++cap.map AV.ab) (H++[.loop .ready lc (kH lc.n env)]) R) (hk:∀ r H',R r H'→behind H.length H' K):vN (P:Px) (.fn (.func g) first cap) lc env H K:=
 ⟨he,_,cp _,dU.of (hc.mono hk)⟩
theorem aak (n:Nat) (hn:n < 4611686018427387904) (id:Nat) (G:Nat→List aa) (hl:∀ j,(G j).length=(G 0).length) (hy:∀ j,j < n→jH Tryz.prog id [.int .i64 (j:Int)] (G j) fun r H'=>r=.bool true∧H'=G (j + 1)) :
 aq Tryz.prog 201 [.nk id,.ai (.int .i64 n)] (G 0) fun r H'=>r=.tuple []∧H'=G n:=by
 refine Vm.2.calls rfl ?_
 simp only [Vm,aJ]
 simp +contextual only [sZ,Nat.reduceEqDiff,Nat.reduceAdd,↓reduceIte,reduceCtorEq]
 refine aP n (fun j=>True) (fun j=>[(0,.nk id),(1,.ai (.int .i64 n)),(3,.int .i64 j)]) G ⟨trivial,aA _ _ _⟩ fun j hj _=>?_
 by_cases hjn:(j:Int) < n
 ·simp +contextual only [hjn,decide_true,Gg,Tj,sZ,Nat.reduceEqDiff,Nat.reduceAdd,↓reduceIte,reduceCtorEq]
  refine yM (hy j (by omega)) ?_
  rintro r H' ⟨rfl,rfl⟩
  simp +contextual only [sZ,Nat.reduceEqDiff,↓reduceIte,reduceCtorEq]
  exact ⟨j + 1,by omega,by omega,aI (by rw [ax j (by omega)]) rfl⟩
 ·have e:j=n:=by omega
  subst e
  simp +contextual only [hjn,decide_false,sZ,Nat.reduceEqDiff,↓reduceIte,reduceCtorEq]
  exact iL (hl j).symm rfl
end Go.aH
end
section
set_option maxRecDepth 100000
namespace Go.aH
open Go Go.Proofs Go.fm
def upto (n:Nat):List Int:=(List.range n).map Int.ofNat
theorem yN (n:Nat):upto (n + 1)=upto n++[(n:Int)]:=by simp [upto,List.range_succ]
theorem C5 (n:Nat):(upto n).length=n:=by simp [upto]
theorem wh {n:Nat} {x:Int}:x∈upto n↔0≤x∧x < n:=by
 simp only [upto,List.mem_map,List.mem_range]
 constructor
 ·rintro ⟨j,h,rfl⟩;exact ⟨Int.natCast_nonneg j,Int.ofNat_lt.2 h⟩
 ·intro h;exact ⟨x.toNat,by omega,by simp;omega⟩
def wi (j:Nat):AV:=match j with | 0=>.ah | j + 1=>.ap 1 (ints (upto (j + 1)))
theorem KP (j:Nat) (h:j < 1000000000) (ψ:List AV→Prop) (hψ:ψ (ints (upto (j + 1)))):bp 1 8 (wi j) (.ap 0 [.int .i64 (j:Int)]) ψ:=by
 have e1:ints (upto j)++[AV.int .i64 (j:Int)]=ints (upto (j + 1)):=by rw [yN];simp [ints]
 have jr:sR 1 [AV.int .i64 (j:Int)]:=of_eq_true (ms [(j:Int)])
 cases j with
 | zero=>
   rw [wi,mj]
   exact ⟨by simp,jr,hψ⟩
 | succ j=>
   rw [wi,kM]
   exact ⟨by rw [aw,C5];simp;omega,jr,by rw [e1];exact hψ⟩
theorem KQ (j:Nat):(wi j).ab=bm (upto j):=by
 cases j with
 | zero=>rfl
 | succ j=>rw [wi,yN];cases h:upto j <;> rfl
theorem AK:bZ.n=13:=by kernel_rfl
theorem wj:bZ.ps=[7]:=by kernel_rfl
theorem sC {id:Nat} {H:List aa} {K:List aa→Prop} {lc:iH} {es:List AV} (h:H[id]?=some (.loop .ready lc es)):jO id H K=K (H.set id (.loop .busy lc es)):=by
 unfold jO;rw [h]
theorem E1 {n0 id:Nat} {R:AV→List aa→Prop} {H:List aa} {lc:iH} {es:List AV} (h:H[id]?=some (.loop .busy lc es)):qk n0 id R .normal H=Hb n0 true (H.set id (.loop .ready lc es)) R:=by
 unfold qk;rw [h]
theorem wm {id:Nat} {H:List aa} {K:Option Code→List aa→Prop} {lc:iH} {es:List AV} (h:H[id]?=some (.loop .ready lc es)):behind id H K=K none (H.set id (.loop .eI lc es)):=by
 unfold behind;rw [h]
theorem wo {P:Px} {n0:Nat} {ia ib:IR} {env:Env} {H:List aa} {id:Nat} {R:AV→List aa→Prop}
 (h:lI P n0 ia env H fun e env1 H1=>e=.normal∧jO id H1 fun H2=>lI P n0 ib env1 H2 fun e _ H3=>qk n0 id R e H3):mP P n0 ia env H fun e env1 H1=>e=.normal∧jO id H1 fun H2=>mP P n0 ib env1 H2 fun e _ H3=>qk n0 id R e H3:=by
 refine ul h ?_
 rintro x e H' ⟨h1,h2⟩
 refine ⟨h1,?_⟩
 unfold jO at *
 split at h2
 ·rename_i e'
  exact ul h2 fun _ _ _ h=>h
 ·exact h2.elim
theorem aal (n:Nat) (hn:n < 1000000000):Pure Tryz.prog 200 [.ah,.fn (.func 201) [] [.ai (.int .i64 n)]] (bm (upto n)):=by
 refine fun H=>Vl.calls rfl ?_
 simp only [Ps,Pq]
 simp +contextual only [mq,sZ,Nat.reduceEqDiff,Nat.reduceAdd,↓reduceIte,reduceCtorEq]
 have el:∀ X:List aa,(H++X).length=H.length + X.length:=fun X=>List.length_append
 obtain ⟨es,zj⟩:∃ es,es=kH bZ.n [(2,AV.ptr H.length 0),(6,AV.fn (.func 201) [] [.ai (.int .i64 n)])]:=⟨_,rfl⟩
 have ees:es=[.any,.any,.ptr H.length 0,.any,.any,.any,.fn (.func 201) [] [.ai (.int .i64 n)],.any,.any,.any,.any,.any,.any]:=by rw [zj,AK];rfl
 let G:Nat→List aa:=fun j=>H++[.cells [wi j],.loop .ready bZ es]
 have hG:∀ j,(G j).length=H.length + 2:=fun j=>by simp [G]
 have g1:∀ j,(G j)[H.length + 1]?=some (.loop .ready bZ es):=fun j=>by simp [G]
 refine sB (P:=Tryz.prog) (R:=fun r H'=>r=.tuple []∧H'=G n) 201 [] [.ai (.int .i64 n)] bZ _ _ _ Tryz.call201 ?_ ?_
 ·rw [← zj]
  have e1:(H++[aa.cells [AV.ah]]).length=H.length + 1:=by simp
  have e2:(H++[aa.cells [AV.ah]]++[.loop .ready bZ es])=G 0:=by simp [G,wi]
  rw [e1,e2]
  refine aak n (by omega) (H.length + 1) G (fun j=>by rw [hG,hG]) fun j hj=>?_
  refine ot (lc:=bZ) (es:=es) (g1 j) MQ MR ⟨by rw [ees,AK];rfl,by rw [wj];rfl,by rw [wj,AK];rfl,?_,?_⟩ (wo ?_)
  ·rw [ees];intro x hx;simp only [List.mem_cons,List.not_mem_nil,or_false] at hx
   rcases hx with rfl | rfl | rfl | rfl | rfl | rfl | rfl | rfl | rfl | rfl | rfl | rfl | rfl <;> rfl
  ·intro x hx;simp only [List.mem_cons,List.not_mem_nil,or_false] at hx;subst hx;rfl
  ·have ez:(bZ.ps.zip [AV.int .i64 (j:Int)]).reverse++bX 0 es=(7,.int .i64 (j:Int))::bX 0 es:=by rw [wj];rfl
   rw [ez,ees]
   simp only [FN,FO]
   have hb:∀ K,jO (H.length + 1) (G j) K=K (H++[.cells [wi j],.loop .busy bZ es]):=fun K=>by rw [sC (g1 j)];simp [G]
   simp +contextual only [hb,sZ,Nat.reduceEqDiff,Nat.reduceAdd,Nat.reduceLT,↓reduceIte,reduceCtorEq]
   refine KP j (by omega) _ ?_
   have hz:∀ x:AV,(H++[aa.cells [x],.loop .busy bZ es])[H.length + 1]?=some (.loop .busy bZ es):=fun x=>by simp
   have kB:(AV.ap 1 (ints (upto (j + 1)))).aZ (H.length + 1)=true:=by rw [b8];exact aY _ _
   simp +contextual only [kB,sZ,Nat.reduceEqDiff,Nat.reduceAdd,Nat.reduceLT,↓reduceIte]
   rw [E1 (hz _)]
   refine ⟨by simp [G],rfl,?_⟩
   simp [G,wi]
   exact List.take_of_length_le (by simp)
 ·rintro r G' ⟨rfl,rfl⟩
  have e1:(H++[aa.cells [AV.ah]]).length=H.length + 1:=by simp
  rw [e1,wm (g1 n)]
  have e3:(G n).set (H.length + 1) (.loop .eI bZ es)=H++[.cells [wi n],.loop .eI bZ es]:=by simp [G]
  rw [e3]
  simp +contextual only [po,sZ,Nat.reduceAdd,Nat.reduceLT,↓reduceIte,reduceCtorEq]
  have e4:(wi n).ab.ab=bm (upto n):=by rw [KQ];exact (aC _).2.1
  rw [e4]
  exact Kh ((aC _).2.2.1 _) rfl
theorem aam (n:Nat) (hn:n < 1000000000):Pure Tryz.prog 152 [.fn (.func 201) [] [.ai (.int .i64 n)]] (bm (upto n)):=by
 refine fun H=>U6.2.calls rfl ?_
 simp only [U6,aJ]
 simp +contextual only [sZ,Nat.reduceAdd,↓reduceIte,reduceCtorEq]
 refine ae (aal n hn) ?_
 have e4:(bm (upto n)).ab=bm (upto n):=(aC _).2.1
 simp +contextual only [e4,sZ,↓reduceIte,reduceCtorEq]
 exact bh ((aC _).2.2.1 _) rfl
theorem aan (n:Int):Pure Tryz.prog 153 [.int .i64 n] (.fn (.func 201) [] [.ai (.int .i64 n)]):=by
 refine fun H=>U7.2.calls rfl ?_
 simp only [U7,aJ]
 simp +contextual only [sZ,Nat.reduceEqDiff,Nat.reduceAdd,↓reduceIte,reduceCtorEq]
 exact bh rfl rfl
end Go.aH
end
section
set_option maxRecDepth 100000
namespace Go.aH
open Go Go.Proofs Go.fm
def ji (c:Cx) (i k:Int) (p:PP):Prop:=∀ H,Du c H→aq Tryz.prog 87 [.ptr c.d 0,.int .i64 i,.int .i64 k,eg p] H (iF c (Sh c.O p (c.tm i) (c.tm k)) H)
theorem aao {c:Cx} {b:List Int} {vb:AV} (hb:IL vb b) {q:Nat} {i j:Int} {l:List PP} (hj:0≤j∧j < b.length) (hl:l.length=b.length) (h:ji c i (b.getD j.toNat 0) (l.getD j.toNat default)) {G:List aa} (hD:Du c G) (gq:G[q]?=some (.cells [vb])) :
 aq Tryz.prog 154 [.int .i64 j,.ai (.ptr c.d 0),.ai (.int .i64 i),.ptr q 0,.ai (.ap 0 (ee l))] G (iF c (¬ Sh c.O (l.getD j.toNat default) (c.tm i) (c.tm (b.getD j.toNat 0))) G):=by
 refine U8.2.calls rfl ?_
 simp only [U8,aJ]
 obtain ⟨b1,b2,b3,b4⟩:=hb.one
 obtain ⟨p1,p2,p3,p4,p5,p6,p7,p8,p9⟩:=a7 (l.getD j.toNat default)
 simp +contextual only [gq,b2,hb.lens,hb.idx,AI,qZ,ra,p4,sZ,Nat.reduceEqDiff,Nat.reduceAdd,Nat.reduceLT,↓reduceIte,reduceCtorEq]
 refine ⟨hj,⟨hj.1,by omega⟩,af (h G hD) ?_⟩
 rintro r G' ⟨z,rfl,hz,hU,jn⟩
 simp +contextual only [sZ,↓reduceIte,reduceCtorEq]
 refine eB (b:=!z) rfl ?_ hU jn
 rw [← hz];cases z <;> simp
theorem cq {b:List Int} {f:Int→T} {j:Nat} (h:j < b.length):(b.map f).getD j default=f (b.getD j 0):=by simp [h]
theorem Tk {c:Cx} {b:List Int} {vb:AV} (hb:IL vb b) (lb:b.length < 1000000000) {q:Nat} (hq:q≠c.e∧q≠c.g) {i:Int} {l:List PP} (h:∀ j,j < b.length→j < l.length→ji c i (b.getD j 0) (l.getD j default)) {G:List aa} (hD:Du c G) (gq:G[q]?=some (.cells [vb])) :
 aq Tryz.prog 151 [.ap 0 (ee l),.ptr q 0,.ai (.ptr c.d 0),.ai (.int .i64 i)] G (iF c (lD (Sh c.O) l (c.tm i) (b.map c.tm)) G):=by
 refine U5.2.calls rfl ?_
 simp only [U5,aJ]
 obtain ⟨b1,b2,b3,b4⟩:=hb.one
 simp +contextual only [gq,b2,hb.aL,hb.len (by omega),eG,sZ,Nat.reduceEqDiff,Nat.reduceAdd,Nat.reduceLT,↓reduceIte,reduceCtorEq]
 have e1:lD (Sh c.O) l (c.tm i) (b.map c.tm)↔l.length=b.length∧∀ j,j < b.length→Sh c.O (l.getD j default) (c.tm i) (c.tm (b.getD j 0)):=by
  unfold lD
  rw [List.length_map]
  refine and_congr_right fun _=>⟨fun h j hj=>?_,fun h j hj=>?_⟩
  ·have:=h j hj;rwa [cq hj] at this
  ·rw [cq hj];exact h j hj
 refine fun LB=>⟨fun he=>?_,fun eM=>?_⟩
 ·refine ae (aan _) ?_
  simp +contextual only [sZ,Nat.reduceEqDiff,Nat.reduceAdd,↓reduceIte]
  refine ae (aam b.length lb) ?_
  have k2:∀ l,(bm l).ab=bm l:=fun l=>(aC l).2.1
  simp +contextual only [k2,sZ,Nat.reduceEqDiff,Nat.reduceAdd,↓reduceIte,reduceCtorEq]
  refine af (CL (SD.Au c G) (.inl rfl:IL (bm (upto b.length)) (upto b.length)) (by rw [C5];omega) 154 [] [.ai (.ptr c.d 0),.ai (.int .i64 i),.ptr q 0,.ai (.ap 0 (ee l))] rfl rfl (Q:=fun j=>¬ Sh c.O (l.getD j.toNat default) (c.tm i) (c.tm (b.getD j.toNat 0)))
   (fun x hx G' ey=>?_) ⟨hD,Up.refl c G⟩) ?_
  ·have hx:=wh.1 hx
   exact (aao hb ⟨hx.1,hx.2⟩ (by omega) (h x.toNat (by omega) (by omega)) ey.1 (by rw [ey.2.get q hq.1 hq.2,gq])).mono fun r H' hr=>hr.sb ey
  ·rintro r G' ⟨z,rfl,hz,ey⟩
   simp +contextual only [sZ,Nat.reduceEqDiff,↓reduceIte,reduceCtorEq]
   refine eB (b:=!z) rfl ?_ ey.2 ey.1
   rw [e1]
   cases z with
   | true=>
     obtain ⟨x,hx,hn⟩:=hz.1 rfl
     have hx:=wh.1 hx
     exact ⟨fun h=>by simp at h,fun h=>absurd (h.2 x.toNat (by omega)) hn⟩
   | false=>
     refine ⟨fun _=>⟨by omega,fun j hj=>?_⟩,fun _=>rfl⟩
     by_cases hs:Sh c.O (l.getD j default) (c.tm i) (c.tm (b.getD j 0))
     ·exact hs
     ·exact absurd (hz.2 ⟨(j:Int),wh.2 ⟨by omega,by omega⟩,hs⟩) (by simp)
 ·refine eB rfl ⟨fun h=>by simp at h,fun h=>?_⟩ (Up.refl c G) hD
  have:=(e1.1 h).1
  exact absurd (by omega) eM
end Go.aH
end
section
set_option maxRecDepth 100000
namespace Go.aH
open Go Go.Proofs Go.fm
theorem E2 {P:Px} {t:DT} {f:AV→Env} {v:AV} {H0 H:List aa} {K1 K2:Env→List aa→Prop} (h:g9 v H0 fun x=>jc P t (f x) H K1) (hk:∀ e G,K1 e G→K2 e G):g9 v H0 fun x=>jc P t (f x) H K2:=by
 unfold g9 at *
 split at h
 ·exact dG h hk
 ·unfold fq at *
  split at h <;> first | exact dG h hk | exact h.elim | (intro hl;exact dG (h hl) hk) | skip
  all_goals (split at h <;> first | exact dG h hk | exact h.elim)
structure CS (c:Cx) (H:List aa) (p q:Nat) (ts ps:List Int) (G:List aa):Prop where
 du:Du c G
 gp:G[p]?=some (cV ts)
 gq:G[q]?=some (cV ps)
 len:G.length=H.length + 2
 up:∀ j,j < H.length→j≠c.e→j≠c.g→G[j]?=H[j]?
structure PQ (H:List aa) (p q:Nat):Prop where
 ne:p≠q
 p1:H.length≤p
 q1:H.length≤q
theorem CS.call {c:Cx} {H G G':List aa} {p q:Nat} {ts ps:List Int} (hD:Du c H) (w:PQ H p q) (h:CS c H p q ts ps G) (hU:Up c G G') (jn:Du c G'):CS c H p q ts ps G':=by
 obtain ⟨l1,l2,l3⟩:=hD.lt
 obtain ⟨w1,w2,w3⟩:=w
 exact ⟨jn,by rw [hU.get p (by omega) (by omega),h.gp],by rw [hU.get q (by omega) (by omega),h.gq],by rw [hU.len,h.len],fun j h1 h2 h3=>by rw [hU.get j h2 h3,h.up j h1 h2 h3]⟩
theorem CS.aap {c:Cx} {H G:List aa} {p q:Nat} {ts ps ts':List Int} (hD:Du c H) (w:PQ H p q) (h:CS c H p q ts ps G):CS c H p q ts' ps (G.set p (cV ts')):=by
 obtain ⟨l1,l2,l3⟩:=hD.lt
 obtain ⟨w1,w2,w3⟩:=w
 have hp:=aK h.gp
 exact ⟨h.du.set (by omega) (by omega) (by omega),by rw [List.getElem?_set_self hp],by rw [List.getElem?_set_ne w1,h.gq],by rw [List.length_set,h.len],fun j h1 h2 h3=>by rw [List.getElem?_set_ne (by omega),h.up j h1 h2 h3]⟩
theorem CS.aaq {c:Cx} {H G:List aa} {p q:Nat} {ts ps ps':List Int} (hD:Du c H) (w:PQ H p q) (h:CS c H p q ts ps G):CS c H p q ts ps' (G.set q (cV ps')):=by
 obtain ⟨l1,l2,l3⟩:=hD.lt
 obtain ⟨w1,w2,w3⟩:=w
 have hq:=aK h.gq
 exact ⟨h.du.set (by omega) (by omega) (by omega),by rw [List.getElem?_set_ne (Ne.symm w1),h.gp],by rw [List.getElem?_set_self hq],by rw [List.length_set,h.len],fun j h1 h2 h3=>by rw [List.getElem?_set_ne (by omega),h.up j h1 h2 h3]⟩
theorem CS.fin {c:Cx} {H G:List aa} {p q:Nat} {ts ps:List Int} (hD:Du c H) (h:CS c H p q ts ps G) {b:Bool} {Q:Prop} (hb:b=true↔Q) {s:Nat}:bR H.length [.t s] [(s,.bool b)] G (iF c Q H):=by
 obtain ⟨l1,l2,l3⟩:=hD.lt
 refine aO H.length (Nat.le_refl _) (by rw [au,if_pos rfl];rfl) ?_
 rw [au,if_pos rfl]
 refine ⟨b,rfl,hb,⟨by rw [List.length_take,h.len];omega,fun j h1 h2=>?_⟩,h.du.take l1 l2 l3⟩
 rw [List.getElem?_take]
 split
 ·rename_i hj;exact h.up j hj h1 h2
 ·rename_i hj;rw [List.getElem?_eq_none (by omega)]
def Ig (c:Cx) (to:List Int) (l:List PP) (a b:List Int):Prop:=
 to.length=b.length∧l.length=b.length∧
 (∀ j,j < b.length→(0≤to.getD j 0∧to.getD j 0 < a.length)∧
   (if (l.getD j default).nil then E c.O (c.tm (a.getD (to.getD j 0).toNat 0)) (c.tm (b.getD j 0)) else Sh c.O (l.getD j default) (c.tm (a.getD (to.getD j 0).toNat 0)) (c.tm (b.getD j 0))))∧
 (∀ x:Nat,x < a.length→0 < dk to l x b.length→dy to x b.length≤1)∧∃ x:Nat,x < a.length∧dk to l x b.length=0
theorem C6 {c:Cx} {to:List Int} {l:List PP} {a b:List Int}:Ig c to l a b↔P8 (E c.O) (Sh c.O) to l (a.map c.tm) (b.map c.tm):=by
 unfold Ig P8
 simp only [List.length_map]
 refine and_congr_right fun _=>and_congr_right fun _=>and_congr_left fun _=>⟨fun h j hj=>?_,fun h j hj=>?_⟩
 ·obtain ⟨h1,h2⟩:=h j hj
  refine ⟨h1,?_⟩
  rw [cq (by omega),cq hj];exact h2
 ·obtain ⟨h1,h2⟩:=h j hj
  rw [cq (by omega),cq hj] at h2
  exact ⟨h1,h2⟩
structure CI (c:Cx) (to:List Int) (l:List PP) (a b ts ps:List Int) (j:Nat):Prop where
 lt:ts.length=a.length
 lp:ps.length=a.length
 t:∀ x:Nat,x < a.length→ts.getD x 0=dy to x j
 p:∀ x:Nat,x < a.length→ps.getD x 0=dk to l x j
 ok:∀ j',j' < j→(0≤to.getD j' 0∧to.getD j' 0 < a.length)∧
  (if (l.getD j' default).nil then E c.O (c.tm (a.getD (to.getD j' 0).toNat 0)) (c.tm (b.getD j' 0)) else Sh c.O (l.getD j' default) (c.tm (a.getD (to.getD j' 0).toNat 0)) (c.tm (b.getD j' 0)))
theorem CI.step {c:Cx} {to:List Int} {l:List PP} {a b ts ps ps':List Int} {j z:Nat} (h:CI c to l a b ts ps j) (hz:z < a.length) (ht:to.getD j 0=z) (hp:ps'=if (l.getD j default).nil then ps.set z (ps.getD z 0 + 1) else ps)
 (hq:if (l.getD j default).nil then E c.O (c.tm (a.getD z 0)) (c.tm (b.getD j 0)) else Sh c.O (l.getD j default) (c.tm (a.getD z 0)) (c.tm (b.getD j 0))):CI c to l a b (ts.set z (ts.getD z 0 + 1)) ps' (j + 1):=by
 obtain ⟨h1,h2,h3,h4,h5⟩:=h
 refine ⟨by simp [h1],by rw [hp];split <;> simp [h2],fun x hx=>?_,fun x hx=>?_,fun j' uq=>?_⟩
 ·rw [lj (by omega),dy,ht]
  by_cases e:x=z
  ·subst e;rw [if_pos rfl,if_pos rfl,h3 x hx];omega
  ·rw [if_neg e,if_neg (by omega),h3 x hx];omega
 ·rw [hp,dk,ht]
  by_cases hn:(l.getD j default).nil
  ·rw [if_pos hn,lj (by omega)]
   by_cases e:x=z
   ·subst e;rw [if_pos rfl,if_pos ⟨rfl,hn⟩,h4 x hx];omega
   ·rw [if_neg e,if_neg (fun h=>by have:=h.1;omega),h4 x hx];omega
  ·rw [if_neg hn,if_neg (fun h=>hn h.2),h4 x hx];omega
 ·by_cases e:j'=j
  ·subst e;rw [ht];exact ⟨by omega,hq⟩
  ·exact h5 j' (by omega)
theorem sD (to:List Int) (x:Int):∀ n,dy to x n≤n
 | 0=>Nat.le_refl _
 | n + 1=>by rw [dy];have:=sD to x n;split <;> omega
theorem Ih (to:List Int) (l:List PP) (x:Int) (n:Nat):dk to l x n≤n:=Nat.le_trans (nZ n) (sD to x n)
theorem C7 {m n:Nat} (hm:m < 9223372036854775808) (hn:n < 9223372036854775808):IntKind.i64.wrap ((m:Int) + (n:Int))=0↔m=0∧n=0:=by
 rw [IntKind.wrap_i64]
 omega
theorem yO (n x:Nat):(dO 0 n 0).getD x 0=0:=by
 simp only [dO,List.replicate_zero,List.nil_append,Nat.sub_zero,List.getD_eq_getElem?_getD,List.getElem?_replicate]
 split <;> rfl
end Go.aH
end
section
set_option maxRecDepth 100000
namespace Go.aH
open Go Go.Proofs Go.fm
theorem aar {c:Cx} {a b:List Int} {va vb:AV} (ha:IL va a) (hb:IL vb b) (la:a.length≤1000000000) (lb:b.length≤1000000000) (p:PP) (hs:∀ x∈a,∀ y∈b,kx c x y) (hh:∀ x∈a,∀ y∈b,∀ q∈p.l,ji c x y q) {H:List aa} (hD:Du c H) :
 aq Tryz.prog 156 [.ptr c.d 0,va,vb,eg p] H (iF c (Ig c p.to p.l a b) H):=by
 refine Vb.2.calls rfl ?_
 simp only [Vb,aJ]
 obtain ⟨a1,a2,a3,a4⟩:=ha.one
 obtain ⟨b1,b2,b3,b4⟩:=hb.one
 obtain ⟨p1,p2,p3,p4,p5,p6,p7,p8,p9⟩:=a7 p
 have no:¬ Ig c p.to p.l a b→bR H.length [.t 8] [(8,.bool false)] H (iF c (Ig c p.to p.l a b) H):=fun h=>eB rfl ⟨fun h=>by simp at h,fun h'=>absurd h' h⟩ (Up.refl c H) hD
 by_cases h1:p.to.length=b.length
 ·by_cases h2:p.l.length=b.length
  ·have d1:decide ((p.to.length:Int)≠b.length)=false:=decide_eq_false (by omega)
   have d2:decide ((p.l.length:Int)≠b.length)=false:=decide_eq_false (by omega)
   simp +contextual only [a2,b2,p1,OF,KO,ha.aL,hb.aL,hb.len (by omega),aw,eG,h1,h2,not_true_eq_false,decide_false,sZ,Nat.reduceEqDiff,Nat.reduceAdd,↓reduceIte,reduceCtorEq]
   intro _
   refine E2 (K1:=fun e G=>get e 0=.ptr c.d 0∧get e 1=va∧get e 2=vb∧get e 7=.ai (eg p)∧∃ x y,get e 9=.a8 x 0 a.length a.length∧get e 10=.a8 y 0 a.length a.length∧PQ H x y∧CS c H x y (dO 0 a.length 0) (dO 0 a.length 0) G) ?_ ?_
   ·have key:∀ G,G=H++[cV (dO 0 a.length 0),cV (dO 0 a.length 0)]→CS c H H.length (H.length + 1) (dO 0 a.length 0) (dO 0 a.length 0) G∧CS c H (H.length + 1) H.length (dO 0 a.length 0) (dO 0 a.length 0) G:=by
     rintro G rfl
     exact ⟨⟨hD.sn _,by simp,by simp,by simp,fun j hj _ _=>List.getElem?_append_left hj⟩,⟨hD.sn _,by simp,by simp,by simp,fun j hj _ _=>List.getElem?_append_left hj⟩⟩
    have A:=key _ rfl
    simp +contextual only [a2,ha.v8,ha.aL,mkI _ _ _ la,sZ,Nat.reduceEqDiff,Nat.reduceAdd,↓reduceIte,reduceCtorEq]
    refine ⟨⟨_,_,rfl,rfl,⟨by omega,by omega,by omega⟩,?_⟩,⟨_,_,rfl,rfl,⟨by omega,by omega,by omega⟩,?_⟩⟩
    ·exact A.1
    ·exact A.2
   ·rintro e G ⟨e0,e1,e2,e7,x,y,e9,e10,hw,wP⟩
    simp +contextual only [e0,e1,e2,e7,e9,e10,OF,aw,h1,sZ,Nat.reduceEqDiff,↓reduceIte,reduceCtorEq]
    intro _
    refine aE b.length (fun j (s:List aa×List Int×List Int)=>CS c H x y s.2.1 s.2.2 s.1∧CI c p.to p.l a b s.2.1 s.2.2 j)
     (fun j s=>[(0,.ptr c.d 0),(1,va),(2,vb),(7,.ai (eg p)),(9,.a8 x 0 a.length a.length),(10,.a8 y 0 a.length a.length),(37,.ap 0 (ints p.to)),(38,.int .i64 b.length),(39,.int .i64 j)])
     (fun j s=>s.1) (G,dO 0 a.length 0,dO 0 a.length 0) ⟨⟨wP,?_⟩,aA _ _ _⟩ fun j s hj hI=>?_
    ·exact ⟨by simp [dO],by simp [dO],fun z _=>by rw [yO];rfl,fun z _=>by rw [yO];rfl,fun j h=>by omega⟩
    ·obtain ⟨G,ts,ps⟩:=s
     obtain ⟨wP,Ft⟩:=hI
     simp only at wP Ft
     by_cases KR:(j:Int) < b.length
     ·have pO:j < b.length:=by omega
      obtain ⟨to,A7⟩:∃ to,p.to.getD j 0=to:=⟨_,rfl⟩
      by_cases r1:to < 0
      ·simp +contextual only [KR,decide_true,cG,Int.toNat_natCast,A7,r1,sZ,Nat.reduceEqDiff,↓reduceIte,reduceCtorEq]
       refine ⟨by omega,wP.fin hD ⟨fun h=>by simp at h,fun h=>?_⟩⟩
       have:=(h.2.2.1 j pO).1;omega
      ·by_cases r2:(a.length:Int)≤to
       ·simp +contextual only [KR,decide_true,decide_false,a2,ha.aL,ha.len (by omega),cG,Int.toNat_natCast,A7,r1,r2,sZ,Nat.reduceEqDiff,↓reduceIte,reduceCtorEq]
        refine ⟨by omega,wP.fin hD ⟨fun h=>by simp at h,fun h=>?_⟩⟩
        have:=(h.2.2.1 j pO).1;omega
       ·obtain ⟨z,rfl⟩:=Int.eq_ofNat_of_zero_le (show 0≤to by omega)
        have hz:z < a.length:=by omega
        have gt:=wP.gp
        have gp:=wP.gq
        have lt:=Ft.lt
        have lp:=Ft.lp
        have WT:z < ts.length:=by omega
        have T8:z < ps.length:=by omega
        simp +contextual only [KR,decide_true,decide_false,a2,ha.aL,ha.len (by omega),cG,Int.toNat_natCast,A7,r1,r2,kO,gt,Aw WT,KC WT,sZ,Nat.reduceEqDiff,↓reduceIte,reduceCtorEq]
        have Ii:=wP.aap (ts':=ts.set z (IntKind.i64.wrap (ts.getD z 0 + 1))) hD hw
        have tz:=Ft.t z hz
        have A5:=sD p.to z j
        rw [eu _ (by omega)] at Ii ⊢
        generalize G.set x (cV (ts.set z (ts.getD z 0 + 1)))=G1 at Ii ⊢
        have ql:p.l.getD j default∈p.l:=dZ (by omega)
        obtain ⟨q,hq⟩:∃ q,p.l.getD j default=q:=⟨_,rfl⟩
        rw [hq] at ql
        obtain ⟨q1,q2,q3,q4,q5,q6,q7,q8,q9⟩:=a7 q
        refine ⟨by omega,hz,hz,?_⟩
        simp +contextual only [KO,AI,qZ,ra,hq,Int.toNat_natCast,q1,q2,q3,C4,Dx,OF,aw,eG,sZ,Nat.reduceEqDiff,↓reduceIte,reduceCtorEq]
        refine ⟨by omega,fun hr=>⟨fun hi l1 l2=>⟨fun IU=>?_,fun IU=>?_⟩,fun hi=>?_⟩,fun hr=>?_⟩
        ·have hwz:=(C7 l1 l2).1 IU
         have tP:(p.l.getD j default).nil:=by rw [hq];exact ⟨hr,hi,List.length_eq_zero_iff.1 hwz.1,List.length_eq_zero_iff.1 hwz.2⟩
         have gp1:=Ii.gq
         have OH:=Ii.aaq (ps':=ps.set z (IntKind.i64.wrap (ps.getD z 0 + 1))) hD hw
         have tp:=Ft.p z hz
         have ple:=Ih p.to p.l z j
         simp +contextual only [kO,gp1,Aw T8,KC T8,sZ,Nat.reduceEqDiff,↓reduceIte,reduceCtorEq]
         rw [eu _ (by omega)] at OH ⊢
         generalize G1.set y (cV (ps.set z (ps.getD z 0 + 1)))=G2 at OH ⊢
         refine ⟨hz,hz,?_⟩
         simp +contextual only [a2,b2,ha.lens,hb.lens,ha.idx,hb.idx,Int.toNat_natCast,sZ,Nat.reduceEqDiff,Nat.reduceAdd,↓reduceIte,reduceCtorEq]
         refine ⟨by omega,by omega,af (hs _ (aN hz) _ (aN pO) G2 OH.du) ?_⟩
         rintro r G3 ⟨w,rfl,WU,hU,KB⟩
         have KS:=OH.call hD hw hU KB
         cases w with
         | false=>
           simp +contextual only [Bool.not_false,sZ,Nat.reduceEqDiff,↓reduceIte,reduceCtorEq]
           refine KS.fin hD ⟨fun h=>by simp at h,fun h=>?_⟩
           have:=(h.2.2.1 j pO).2
           rw [if_pos tP,A7,Int.toNat_natCast] at this
           exact WU.2 this
         | true=>
           simp +contextual only [Bool.not_true,sZ,Nat.reduceEqDiff,↓reduceIte,reduceCtorEq]
           refine ⟨j + 1,(G3,_,_),⟨pO,KS,Ft.step hz A7 (by rw [if_pos tP]) (by rw [if_pos tP];exact WU.1 rfl)⟩,by omega,aI (by rw [ax j (by omega)]) rfl⟩
        all_goals
         have tP:¬ (p.l.getD j default).nil:=by
          rw [hq]
          rintro ⟨n1,n2,n3,n4⟩
          first | exact hr n1 | exact hi n2 | exact IU ((C7 l1 l2).2 ⟨by rw [n3];rfl,by rw [n4];rfl⟩)
         simp +contextual only [a2,b2,q4,ha.lens,hb.lens,ha.idx,hb.idx,Int.toNat_natCast,ra,sZ,Nat.reduceEqDiff,Nat.reduceAdd,↓reduceIte,reduceCtorEq]
         refine ⟨by omega,by omega,af (hh _ (aN hz) _ (aN pO) q ql G1 Ii.du) ?_⟩
         rintro r G3 ⟨w,rfl,WU,hU,KB⟩
         have KS:=Ii.call hD hw hU KB
         cases w with
         | false=>
           simp +contextual only [Bool.not_false,sZ,Nat.reduceEqDiff,↓reduceIte,reduceCtorEq]
           refine KS.fin hD ⟨fun h=>by simp at h,fun h=>?_⟩
           have:=(h.2.2.1 j pO).2
           rw [if_neg tP,A7,hq,Int.toNat_natCast] at this
           exact WU.2 this
         | true=>
           simp +contextual only [Bool.not_true,sZ,Nat.reduceEqDiff,↓reduceIte,reduceCtorEq]
           refine ⟨j + 1,(G3,_,_),⟨pO,KS,Ft.step hz A7 (by rw [if_neg tP]) (by rw [if_neg tP,hq];exact WU.1 rfl)⟩,by omega,aI (by rw [ax j (by omega)]) rfl⟩
     ·have WV:j=b.length:=by omega
      subst WV
      simp +contextual only [KR,decide_false,a2,ha.aL,ha.len (by omega),sZ,Nat.reduceEqDiff,↓reduceIte,reduceCtorEq]
      refine aE a.length (fun x' (f:Bool)=>(∀ z:Nat,z < x'→0 < dk p.to p.l z b.length→dy p.to z b.length≤1)∧(f=true↔∃ z:Nat,z < x'∧dk p.to p.l z b.length=0))
       (fun x' f=>[(9,.a8 x 0 a.length a.length),(10,.a8 y 0 a.length a.length),(14,.bool f),(112,.int .i64 a.length),(113,.int .i64 x')]) (fun _ _=>G) false
       ⟨⟨fun z h=>by omega,⟨fun h=>by simp at h,fun ⟨z,h,_⟩=>by omega⟩⟩,aA _ _ _⟩ fun z f hz hI=>?_
      obtain ⟨j3,Dr⟩:=hI
      by_cases Ly:(z:Int) < a.length
      ·have iV:z < a.length:=by omega
       have gt:=wP.gp
       have gp:=wP.gq
       have lt:=Ft.lt
       have lp:=Ft.lp
       have WT:z < ts.length:=by omega
       have T8:z < ps.length:=by omega
       have tz:=Ft.t z iV
       have pz:=Ft.p z iV
       by_cases k1:dk p.to p.l z b.length=0
       ·have p0:ps.getD z 0=0:=by omega
        cases f <;>
         (simp +contextual only [Ly,decide_true,kO,gp,Aw T8,p0,Int.lt_irrefl,decide_false,sZ,Nat.reduceEqDiff,↓reduceIte,reduceCtorEq]
          refine ⟨iV,?_⟩
          first
           | refine ⟨iV,z + 1,true,⟨iV,fun z' Dw=>?_,⟨fun _=>⟨z,by omega,k1⟩,fun _=>rfl⟩⟩,by omega,aI (by rw [ax z (by omega)]) rfl⟩
           | refine ⟨z + 1,true,⟨iV,fun z' Dw=>?_,⟨fun _=>⟨z,by omega,k1⟩,fun _=>rfl⟩⟩,by omega,aI (by rw [ax z (by omega)]) rfl⟩
          by_cases e:z'=z
          ·subst e;intro h;omega
          ·exact j3 z' (by omega))
       ·have p0:(0 < ps.getD z 0)=True:=eq_true (by omega)
        have p1':(ps.getD z 0=0)=False:=eq_false (by omega)
        by_cases k2:dy p.to z b.length≤1
        ·have t0:(1 < ts.getD z 0)=False:=eq_false (by omega)
         have nxt:(∀ z':Nat,z' < z + 1→0 < dk p.to p.l z' b.length→dy p.to z' b.length≤1):=by
          intro z' Dw
          by_cases e:z'=z
          ·subst e;intro _;exact k2
          ·exact j3 z' (by omega)
         have nfr:(f=true↔∃ z':Nat,z' < z + 1∧dk p.to p.l z' b.length=0):=by
          rw [Dr]
          constructor
          ·rintro ⟨z',h1,h2⟩;exact ⟨z',by omega,h2⟩
          ·rintro ⟨z',h1,h2⟩
           have:z'≠z:=fun e=>k1 (e ▸ h2)
           exact ⟨z',by omega,h2⟩
         cases f <;>
          (simp +contextual only [Ly,decide_true,kO,gt,gp,Aw WT,Aw T8,p0,p1',t0,decide_false,sZ,Nat.reduceEqDiff,↓reduceIte,reduceCtorEq]
           refine ⟨iV,iV,?_⟩
           first
            | exact ⟨iV,z + 1,_,⟨iV,nxt,nfr⟩,by omega,aI (by rw [ax z (by omega)]) rfl⟩
            | exact ⟨z + 1,_,⟨iV,nxt,nfr⟩,by omega,aI (by rw [ax z (by omega)]) rfl⟩)
        ·have t0:(1 < ts.getD z 0)=True:=eq_true (by omega)
         simp +contextual only [Ly,decide_true,kO,gt,gp,Aw WT,Aw T8,p0,t0,sZ,Nat.reduceEqDiff,↓reduceIte,reduceCtorEq]
         refine ⟨iV,iV,wP.fin hD ⟨fun h=>by simp at h,fun h=>?_⟩⟩
         exact absurd (h.2.2.2.1 z iV (by omega)) k2
      ·have hze:z=a.length:=by omega
       subst hze
       simp +contextual only [Ly,decide_false,sZ,Nat.reduceEqDiff,↓reduceIte,reduceCtorEq]
       refine wP.fin hD ?_
       rw [Dr]
       exact ⟨fun h=>⟨h1,h2,Ft.ok,j3,h⟩,fun h=>h.2.2.2.2⟩
  ·have d1:decide ((p.to.length:Int)≠b.length)=false:=decide_eq_false (by omega)
   have d2:((p.l.length:Int)=b.length)=False:=eq_false (by omega)
   simp +contextual only [b2,p1,OF,KO,hb.aL,hb.len (by omega),aw,eG,h1,d2,not_true_eq_false,not_false_eq_true,decide_false,decide_true,sZ,Nat.reduceEqDiff,Nat.reduceAdd,↓reduceIte,reduceCtorEq]
   intro _ _
   exact no fun h=>h2 h.2.1
 ·have d1:((p.to.length:Int)=b.length)=False:=eq_false (by omega)
  simp +contextual only [b2,p1,OF,hb.aL,hb.len (by omega),aw,d1,not_false_eq_true,decide_true,sZ,Nat.reduceEqDiff,Nat.reduceAdd,↓reduceIte,reduceCtorEq]
  intro _
  exact no fun h=>h1 h.1
end Go.aH
end
section
set_option maxRecDepth 100000
set_option maxHeartbeats 0
namespace Go.aH
open Go Go.Proofs
noncomputable def xt:=aJ Tryz.call87 Tryz.func87 Tryz.ntmps87 [(0,0,1),(0,1,1),(0,2,1),(12,7,2000),(13,11,2000),(17,10,2000),(20,36,2000),(23,3,2000),(24,20,2000),(24,27,2000),(26,10,2000)] [(0,[2,4,5,7]),(1,[2,4,5,7,9,10]),(2,[2,4,5,7,9,10,11]),(3,[2,4,5,7,9,10,11,14]),(4,[2,4,5,7,9,10,11,76]),(5,[8]),(6,[2,4,5,7,9,10,11,15,16]),(7,[2,4,5,7,9,10,11,15,16,85]),(8,[2,4,5,7,9,10,11,15,16,85,86]),(9,[2,4,7,9,103]),(10,[8]),(11,[2,4,7,9,107]),(12,[8]),(13,[8]),(14,[2,4,5,7,9,10,11,15,16,85,128]),(15,[2,4,7,11,17]),(16,[7,11,17,20,22]),(17,[8]),(18,[4,7,9,10,11,15,16,85,156]),(19,[4,7,11,15,16,23,24]),(20,[4,7,11,23,24,202]),(21,[8]),(22,[4,7,11,23,24,207]),(23,[8]),(24,[8]),(25,[4,7,9,10,15,16,241]),(26,[8]),(27,[8])] [(1,(.take 0 true (.take 1 true (.take 2 true (.take 3 true (.take 4 true (.take 5 true (.take 6 true (.take 7 true (.take 8 true (.take 9 true (.take 10 true (.take 11 true (.take 12 true (.take 13 true (.take 14 true (.take 15 true (.br 16 (.take 17 true (.br 18 .done .nil)) .nil)))))))))))))))))),(12,(.take 0 true (.take 1 true (.take 2 true (.take 3 true (.take 4 true (.take 5 true (.take 6 true (.br 7 (.take 8 true .done) .nil))))))))),(13,(.take 0 true (.take 1 true (.take 2 true (.take 3 true (.take 4 true (.take 5 true (.take 6 true (.take 7 true (.take 8 true (.take 9 true (.take 10 true (.br 11 (.take 12 true .done) .nil))))))))))))),(19,(.take 0 true (.take 1 true (.take 2 true (.take 3 true (.take 4 true (.take 5 true (.take 6 true (.take 7 true .done))))))))),(20,(.take 0 true (.take 1 true (.take 2 true (.take 3 true (.take 4 true (.take 5 true (.take 6 true (.take 7 true (.take 8 true (.take 9 true (.take 10 true (.take 11 true (.take 12 true (.take 13 true (.take 14 true (.take 15 true (.take 16 true (.take 17 true (.take 18 true (.take 19 true (.take 20 true (.take 21 true (.take 22 true (.take 23 true (.take 24 true (.take 25 true (.take 26 true (.take 27 true (.take 28 true (.take 29 true (.take 30 true (.take 31 true (.take 32 true (.take 33 true (.take 34 true (.take 35 true (.br 36 (.take 37 true (.take 38 true .done)) .nil)))))))))))))))))))))))))))))))))))))),(24,(.take 0 true (.take 1 true (.take 2 true (.take 3 true (.take 4 true (.take 5 true (.take 6 true (.take 7 true (.take 8 true (.take 9 true (.take 10 true (.take 11 true (.take 12 true (.take 13 true (.take 14 true (.take 15 true (.take 16 true (.take 17 true (.take 18 true (.take 19 true (.br 20 (.take 21 true (.take 22 true (.take 23 true (.take 24 true (.take 25 true (.take 26 true (.br 27 (.take 28 true (.take 29 true .done)) .nil))))))) .nil))))))))))))))))))))))]
end Go.aH
end
section
set_option maxRecDepth 100000
namespace Go.aH
open Go Go.Proofs Go.fm
theorem C8 {O:Od} {p:PP} {a b:T} (h:Sh O p a b):a.k=2:=(pL.1 h).1
theorem Sh1 {O:Od} {p:PP} {a b:T} (hr:p.r=1) (ha:a.k=2):Sh O p a b↔p.to=[]∧(0≤p.i∧p.i < a.l.length)∧((p.l=[]∧E O (a.l.getD p.i.toNat default) b)∨∃ q,p.l=[q]∧Sh O q (a.l.getD p.i.toNat default) b):=by
 rw [pL,Fs];simp [hr,ha]
theorem Sh2 {O:Od} {p:PP} {a b:T} (hr:p.r=2) (ha:a.k=2):Sh O p a b↔p.to=[]∧p.i=0∧b.k=2∧O.pl b.n < O.pl a.n∧lD (Sh O) p.l a b.l:=by
 rw [pL,Fs];simp [hr,ha]
theorem Sh3 {O:Od} {p:PP} {a b:T} (hr:p.r=3) (ha:a.k=2):Sh O p a b↔p.to=[]∧b.k=2∧O.pl a.n=O.pl b.n∧O.sp (O.pl a.n)≠3∧C2 (E O) (Sh O) p.i p.l a (side (O.sp (O.pl a.n)) a.l) (side (O.sp (O.pl a.n)) b.l) b.l:=by
 rw [pL,Fs];simp [hr,ha]
theorem Sh4 {O:Od} {p:PP} {a b:T} (hr:p.r=4) (ha:a.k=2):Sh O p a b↔p.i=0∧b.k=2∧O.pl a.n=O.pl b.n∧O.sp (O.pl a.n)=3∧P8 (E O) (Sh O) p.to p.l a.l b.l:=by
 rw [pL,Fs];simp [hr,ha]
theorem Sh0 {O:Od} {p:PP} {a b:T} (h1:p.r≠1) (h2:p.r≠2) (h3:p.r≠3) (h4:p.r≠4):¬ Sh O p a b:=by
 rw [pL,Fs];simp [h1,h2,h3,h4]
theorem slT (l:List Int) (n:Int) (h:0≤n∧n≤l.length) (φ:AV→Prop):aV 1 (.ap 0 (ints l)) none (some (.int .i64 n)) none φ=φ (.ap 0 (ints (l.take n.toNat))):=by
 have er:dw (AV.ap 0 (ints l))=some (ints l):=rfl
 have e2:((ints l).take n.toNat).drop 0=ints (l.take n.toNat):=by rw [List.drop_zero,ln]
 simp only [aV,eJ,er,dx,e2,eq_iff_iff]
 constructor
 ·intro h;exact h.2.2.2.2
 ·intro h'
  refine ⟨fun own xs he z hz=>?_,by omega,by omega,by have:=aw l;omega,h'⟩
  cases he
  obtain ⟨y,_,rfl⟩:=List.mem_map.1 hz
  rfl
theorem WW (x:PP) (r:List PP) (φ:AV→Prop):aV 4 (.ap 0 (ee (x::r))) (some (.int .i64 1)) none none φ=φ (.ap 0 (ee r)):=by
 have er:dw (AV.ap 0 (ee (x::r)))=some (ee (x::r)):=rfl
 have e1:(1:Int).toNat=1:=rfl
 have e2:((ee (x::r)).take (ee (x::r)).length).drop 1=ee r:=by rw [List.take_length];rfl
 simp only [aV,eJ,er,dx,e1,e2,eq_iff_iff]
 constructor
 ·intro h;exact h.2.2.2.2
 ·intro h
  refine ⟨fun own xs he z hz=>of_eq_true (qZ 0 (x::r)) own xs he z hz,by omega,by simp [eG],Nat.le_refl _,h⟩
theorem oK {s:Int} {l:List Int} {x:Int}:x∈bC s l↔x∈l:=by unfold bC;split <;> simp
theorem WX {c:Cx} (hc:c.Ok) {p:PP} {i k:Int} (hi:c.dP i) (hk:c.dP k) (fT:∀ q∈p.l,∀ x y,c.dP x→c.dP y→ji c x y q) (zt:p.r=1):ji c i k p:=by
 intro H hD
 refine xt.2.calls rfl ?_
 simp only [xt,aJ]
 obtain ⟨p1,p2,p3,p4,p5,p6,p7,p8,p9⟩:=a7 p
 have k2:∀ l,(bm l).ab=bm l:=fun l=>(aC l).2.1
 have ki:=hc.kids i hi
 have kk:=hc.kids k hk
 have l1:=hc.kl i hi
 have l2:=hc.kl k hk
 obtain ⟨a1,a2,a3,a4,a5⟩:=aC (c.kd i)
 obtain ⟨b1,b2,b3,b4,b5⟩:=aC (c.kd k)
 have ii:IL (bm (c.kd i)) (c.kd i):=.inl rfl
 have ik:IL (bm (c.kd k)) (c.kd k):=.inl rfl
 have ei:(c.nd.getD i.toNat default).snd=c.kd i:=rfl
 have ek:(c.nd.getD k.toNat default).snd=c.kd k:=rfl
 obtain ⟨m1,m2,m3⟩:=hD.lt
 have nc:Du c (H++[.cells [bm (c.kd k)]]):=hD.sn _
 have fin:∀ G (b:Bool),Up c (H++[.cells [bm (c.kd k)]]) G→Du c G→(b=true↔Sh c.O p (c.tm i) (c.tm k))→bR H.length [.t 8] [(8,.bool b)] G (iF c (Sh c.O p (c.tm i) (c.tm k)) H):=by
  intro G b u d hb
  refine aO H.length (Nat.le_refl _) (by rw [au,if_pos rfl];rfl) ?_
  rw [au,if_pos rfl]
  exact ⟨b,rfl,hb,u.take,d.take m1 m2 m3⟩
 have fin0:¬ Sh c.O p (c.tm i) (c.tm k)→bR H.length [.t 8] [(8,.bool false)] (H++[.cells [bm (c.kd k)]]) (iF c (Sh c.O p (c.tm i) (c.tm k)) H):=
  fun h=>fin _ _ (Up.refl c _) nc ⟨fun h=>by simp at h,fun h'=>absurd h' h⟩
 have spv:∀ x:AV,ag [AV.ah] 0 [x]=[x]:=fun x=>rfl
 simp +contextual only [p1,hD.d,mE,Dv,cF,bT,k2,ei,ek,b1,b3,b4,b5,List.map_cons,List.map_nil,spv,List.all_cons,List.all_nil,Bool.and_true,bG,cZ,sZ,Nat.reduceEqDiff,Nat.reduceAdd,Nat.reduceLT,↓reduceIte,reduceCtorEq]
 refine ⟨hi,hk,af (pI hc hi nc) ?_⟩
 rintro r H2 ⟨rfl,rfl⟩
 cases hb:rq c i with
 | false=>
   have ki2:¬ (c.tm i).k=2:=of_decide_eq_false hb
   simp +contextual only [dE,fA,fB,fC,hb,Bool.not_false,sZ,Nat.reduceEqDiff,↓reduceIte,reduceCtorEq]
   exact fin0 fun h=>ki2 (C8 h)
 | true=>
 have ki2:(c.tm i).k=2:=of_decide_eq_true hb
 have kid:∀ (j:Int),(0≤j∧j < (c.kd i).length)→(c.tm i).l.getD j.toNat default=c.tm ((c.kd i).getD j.toNat 0):=fun j hj=>by rw [← ki.1,cq (by omega)]
 have klen:(c.tm i).l.length=(c.kd i).length:=by rw [← ki.1];simp
 have kn:∀ (j:Int),(0≤j∧j < (c.kd i).length)→c.dP ((c.kd i).getD j.toNat 0):=fun j hj=>ki.2 _ (aN (by omega))
 have lvun:(AV.tuple [.int .i64 (dD c i),.bool (tW c i k)]).ab=.tuple [.int .i64 (dD c i),.bool (tW c i k)]:=rfl
 have hS:=Sh1 (O:=c.O) (b:=c.tm k) zt ki2
 rw [klen] at hS
 simp +contextual only [dE,fA,fB,fC,hb,Bool.not_true,C4,OF,zt,not_true_eq_false,not_false_eq_true,decide_true,decide_false,aw,sZ,Nat.reduceEqDiff,Nat.reduceAdd,↓reduceIte,reduceCtorEq,Int.reduceEq]
 refine fun _=>⟨fun h0=>?_,fun h0=>fin0 fun h=>?_⟩
 ·have A7:p.to=[]:=List.length_eq_zero_iff.1 (by omega)
  refine af (ER hc hi hk nc) ?_
  rintro r H2 ⟨rfl,rfl⟩
  by_cases hI:0≤p.i∧p.i < (c.kd i).length
  ·have n1:(p.i < 0)=False:=eq_false (by omega)
   have n2:(((c.kd i).length:Int)≤p.i)=False:=eq_false (by omega)
   have hkn:=kn p.i hI
   rw [kid p.i hI] at hS
   by_cases hL:p.l.length≤1
   ·have n3:(1 < (p.l.length:Int))=False:=eq_false (by omega)
    by_cases hL0:p.l.length=0
    ·have n4:((p.l.length:Int)=0)=True:=eq_true (by omega)
     simp +contextual only [k2,ii.aL,ii.len (by omega),ii.lens,ii.idx,C4,Dx,KO,eG,lvun,decide_true,decide_false,zt,n1,n2,n3,n4,sZ,Nat.reduceEqDiff,Nat.reduceAdd,Nat.reduceLT,↓reduceIte,reduceCtorEq]
     refine fun _=>⟨hI,af (jW hc hkn hk _ nc) ?_⟩
     rintro r G ⟨x,rfl,hx,hU,jn⟩
     simp +contextual only [sZ,↓reduceIte,reduceCtorEq]
     refine fin G x hU jn ?_
     rw [hx,hS]
     have:p.l=[]:=List.length_eq_zero_iff.1 hL0
     simp [A7,hI,this]
    ·have n4:((p.l.length:Int)=0)=False:=eq_false (by omega)
     have hm:p.l.getD 0 default∈p.l:=dZ (by omega)
     obtain ⟨q1,q2,q3,q4,q5,q6,q7,q8,q9⟩:=a7 (p.l.getD 0 default)
     have t0:(0:Int).toNat=0:=rfl
     simp +contextual only [k2,ii.aL,ii.len (by omega),ii.lens,ii.idx,C4,Dx,KO,AI,qZ,ra,eG,lvun,decide_true,decide_false,zt,n1,n2,n3,n4,t0,q4,sZ,Nat.reduceEqDiff,Nat.reduceAdd,Nat.reduceLT,↓reduceIte,reduceCtorEq]
     refine fun _=>⟨hI,⟨by omega,by omega⟩,af (fT _ hm _ _ hkn hk _ nc) ?_⟩
     rintro r G ⟨x,rfl,hx,hU,jn⟩
     simp +contextual only [sZ,↓reduceIte,reduceCtorEq]
     refine fin G x hU jn ?_
     rw [hx,hS]
     obtain ⟨q,hq⟩:∃ q,p.l=[q]:=List.length_eq_one_iff.1 (by omega)
     simp [A7,hI,hq]
   ·have n3:(1 < (p.l.length:Int))=True:=eq_true (by omega)
    simp +contextual only [k2,ii.aL,ii.len (by omega),C4,Dx,KO,eG,lvun,decide_true,decide_false,zt,n1,n2,n3,sZ,Nat.reduceEqDiff,Nat.reduceAdd,Nat.reduceLT,↓reduceIte,reduceCtorEq]
    refine fun _=>fin0 fun h=>?_
    rcases (hS.1 h).2.2 with h | ⟨q,h,_⟩
    ·rw [h.1] at hL;simp at hL
    ·rw [h] at hL;simp at hL
  ·by_cases hI0:p.i < 0
   ·simp +contextual only [C4,Dx,lvun,decide_true,zt,hI0,sZ,Nat.reduceEqDiff,Nat.reduceAdd,Nat.reduceLT,↓reduceIte,reduceCtorEq]
    exact fin0 fun h=>hI (hS.1 h).2.1
   ·have n2:(((c.kd i).length:Int)≤p.i)=True:=eq_true (by omega)
    simp +contextual only [k2,ii.aL,ii.len (by omega),C4,Dx,lvun,decide_true,decide_false,zt,hI0,n2,sZ,Nat.reduceEqDiff,Nat.reduceAdd,Nat.reduceLT,↓reduceIte,reduceCtorEq]
    exact fin0 fun h=>hI (hS.1 h).2.1
 ·rw [(hS.1 h).1] at h0;simp at h0
theorem WY {c:Cx} (hc:c.Ok) {p:PP} {i k:Int} (hi:c.dP i) (hk:c.dP k) (fT:∀ q∈p.l,∀ x y,c.dP x→c.dP y→ji c x y q) (rE:p.r=2):ji c i k p:=by
 intro H hD
 refine xt.2.calls rfl ?_
 simp only [xt,aJ]
 obtain ⟨p1,p2,p3,p4,p5,p6,p7,p8,p9⟩:=a7 p
 have k2:∀ l,(bm l).ab=bm l:=fun l=>(aC l).2.1
 have ki:=hc.kids i hi
 have kk:=hc.kids k hk
 have l1:=hc.kl i hi
 have l2:=hc.kl k hk
 obtain ⟨a1,a2,a3,a4,a5⟩:=aC (c.kd i)
 obtain ⟨b1,b2,b3,b4,b5⟩:=aC (c.kd k)
 have ii:IL (bm (c.kd i)) (c.kd i):=.inl rfl
 have ik:IL (bm (c.kd k)) (c.kd k):=.inl rfl
 have ei:(c.nd.getD i.toNat default).snd=c.kd i:=rfl
 have ek:(c.nd.getD k.toNat default).snd=c.kd k:=rfl
 obtain ⟨m1,m2,m3⟩:=hD.lt
 have nc:Du c (H++[.cells [bm (c.kd k)]]):=hD.sn _
 have fin:∀ G (b:Bool),Up c (H++[.cells [bm (c.kd k)]]) G→Du c G→(b=true↔Sh c.O p (c.tm i) (c.tm k))→bR H.length [.t 8] [(8,.bool b)] G (iF c (Sh c.O p (c.tm i) (c.tm k)) H):=by
  intro G b u d hb
  refine aO H.length (Nat.le_refl _) (by rw [au,if_pos rfl];rfl) ?_
  rw [au,if_pos rfl]
  exact ⟨b,rfl,hb,u.take,d.take m1 m2 m3⟩
 have fin0:¬ Sh c.O p (c.tm i) (c.tm k)→bR H.length [.t 8] [(8,.bool false)] (H++[.cells [bm (c.kd k)]]) (iF c (Sh c.O p (c.tm i) (c.tm k)) H):=
  fun h=>fin _ _ (Up.refl c _) nc ⟨fun h=>by simp at h,fun h'=>absurd h' h⟩
 have spv:∀ x:AV,ag [AV.ah] 0 [x]=[x]:=fun x=>rfl
 simp +contextual only [p1,hD.d,mE,Dv,cF,bT,k2,ei,ek,b1,b3,b4,b5,List.map_cons,List.map_nil,spv,List.all_cons,List.all_nil,Bool.and_true,bG,cZ,sZ,Nat.reduceEqDiff,Nat.reduceAdd,Nat.reduceLT,↓reduceIte,reduceCtorEq]
 refine ⟨hi,hk,af (pI hc hi nc) ?_⟩
 rintro r H2 ⟨rfl,rfl⟩
 cases hb:rq c i with
 | false=>
   have ki2:¬ (c.tm i).k=2:=of_decide_eq_false hb
   simp +contextual only [dE,fA,fB,fC,hb,Bool.not_false,sZ,Nat.reduceEqDiff,↓reduceIte,reduceCtorEq]
   exact fin0 fun h=>ki2 (C8 h)
 | true=>
 have ki2:(c.tm i).k=2:=of_decide_eq_true hb
 have kid:∀ (j:Int),(0≤j∧j < (c.kd i).length)→(c.tm i).l.getD j.toNat default=c.tm ((c.kd i).getD j.toNat 0):=fun j hj=>by rw [← ki.1,cq (by omega)]
 have klen:(c.tm i).l.length=(c.kd i).length:=by rw [← ki.1];simp
 have kn:∀ (j:Int),(0≤j∧j < (c.kd i).length)→c.dP ((c.kd i).getD j.toNat 0):=fun j hj=>ki.2 _ (aN (by omega))
 have lvun:(AV.tuple [.int .i64 (dD c i),.bool (tW c i k)]).ab=.tuple [.int .i64 (dD c i),.bool (tW c i k)]:=rfl
 have hS:=Sh2 (O:=c.O) (b:=c.tm k) rE ki2
 have e1:((2:Int)=1)=False:=by simp
 simp +contextual only [dE,fA,fB,fC,hb,Bool.not_true,C4,Dx,OF,rE,not_true_eq_false,not_false_eq_true,decide_true,decide_false,aw,sZ,Nat.reduceEqDiff,Nat.reduceAdd,↓reduceIte,reduceCtorEq,Int.reduceEq]
 have fAll:∀ (G:List aa) (Q:Prop) (b0:Bool),True:=fun _ _ _=>trivial
 have hAS:lD (Sh c.O) p.l (c.tm i) ((c.kd k).map c.tm)↔lD (Sh c.O) p.l (c.tm i) (c.tm k).l:=by rw [kk.1]
 refine fun _=>⟨fun h0=>⟨fun tZ=>fin0 fun h=>tZ (hS.1 h).2.1,fun tZ=>?_⟩,fun h0=>fin0 fun h=>?_⟩
 ·have A7:p.to=[]:=List.length_eq_zero_iff.1 (by omega)
  refine af (ER hc hi hk nc) ?_
  rintro r H2 ⟨rfl,rfl⟩
  simp +contextual only [C4,lvun,decide_true,decide_false,rE,e1,sZ,Nat.reduceEqDiff,Nat.reduceAdd,Nat.reduceLT,↓reduceIte]
  refine af (pI hc hi nc) ?_
  rintro r H2 ⟨rfl,rfl⟩
  simp +contextual only [dE,fA,fB,fC,sZ,Nat.reduceEqDiff,Nat.reduceAdd,↓reduceIte]
  refine af (pI hc hk nc) ?_
  rintro r H2 ⟨rfl,rfl⟩
  have opi:pH c i=c.O.pl (c.tm i).n:=by rw [pH,if_pos ki2]
  cases ET:rq c k with
  | false=>
    have kk2:¬ (c.tm k).k=2:=of_decide_eq_false ET
    simp +contextual only [dE,fA,fB,fC,ET,sZ,Nat.reduceEqDiff,↓reduceIte,reduceCtorEq]
    exact fin0 fun h=>kk2 (hS.1 h).2.2.1
  | true=>
    have kk2:(c.tm k).k=2:=of_decide_eq_true ET
    have opk:pH c k=c.O.pl (c.tm k).n:=by rw [pH,if_pos kk2]
    by_cases aX:pH c k < pH c i
    ·simp +contextual only [KO,decide_true,dE,fA,fB,fC,ET,aX,sZ,Nat.reduceEqDiff,Nat.reduceAdd,↓reduceIte,reduceCtorEq]
     refine af (Tk ik (by omega) (q:=H.length) ⟨by omega,by omega⟩ (fun j h1 h2=>fT _ (dZ h2) _ _ hi (kk.2 _ (aN h1))) nc (by simp)) ?_
     rintro r G ⟨x,rfl,hx,hU,jn⟩
     simp +contextual only [sZ,Nat.reduceEqDiff,↓reduceIte,reduceCtorEq]
     refine fin G x hU jn ?_
     rw [hx,hS,hAS]
     rw [opi,opk] at aX
     simp [A7,tZ,kk2,aX]
    ·simp +contextual only [decide_false,dE,fA,fB,fC,ET,aX,sZ,Nat.reduceEqDiff,↓reduceIte,reduceCtorEq]
     refine fin0 fun h=>aX ?_
     rw [opi,opk]
     exact (hS.1 h).2.2.2.1
 ·rw [(hS.1 h).1] at h0;simp at h0
theorem WZ {c:Cx} (hc:c.Ok) {p:PP} {i k:Int} (hi:c.dP i) (hk:c.dP k) (fT:∀ q∈p.l,∀ x y,c.dP x→c.dP y→ji c x y q) (OI:p.r=4):ji c i k p:=by
 intro H hD
 refine xt.2.calls rfl ?_
 simp only [xt,aJ]
 obtain ⟨p1,p2,p3,p4,p5,p6,p7,p8,p9⟩:=a7 p
 have k2:∀ l,(bm l).ab=bm l:=fun l=>(aC l).2.1
 have ki:=hc.kids i hi
 have kk:=hc.kids k hk
 have l1:=hc.kl i hi
 have l2:=hc.kl k hk
 obtain ⟨a1,a2,a3,a4,a5⟩:=aC (c.kd i)
 obtain ⟨b1,b2,b3,b4,b5⟩:=aC (c.kd k)
 have ii:IL (bm (c.kd i)) (c.kd i):=.inl rfl
 have ik:IL (bm (c.kd k)) (c.kd k):=.inl rfl
 have ei:(c.nd.getD i.toNat default).snd=c.kd i:=rfl
 have ek:(c.nd.getD k.toNat default).snd=c.kd k:=rfl
 obtain ⟨m1,m2,m3⟩:=hD.lt
 have nc:Du c (H++[.cells [bm (c.kd k)]]):=hD.sn _
 have fin:∀ G (b:Bool),Up c (H++[.cells [bm (c.kd k)]]) G→Du c G→(b=true↔Sh c.O p (c.tm i) (c.tm k))→bR H.length [.t 8] [(8,.bool b)] G (iF c (Sh c.O p (c.tm i) (c.tm k)) H):=by
  intro G b u d hb
  refine aO H.length (Nat.le_refl _) (by rw [au,if_pos rfl];rfl) ?_
  rw [au,if_pos rfl]
  exact ⟨b,rfl,hb,u.take,d.take m1 m2 m3⟩
 have fin0:¬ Sh c.O p (c.tm i) (c.tm k)→bR H.length [.t 8] [(8,.bool false)] (H++[.cells [bm (c.kd k)]]) (iF c (Sh c.O p (c.tm i) (c.tm k)) H):=
  fun h=>fin _ _ (Up.refl c _) nc ⟨fun h=>by simp at h,fun h'=>absurd h' h⟩
 have spv:∀ x:AV,ag [AV.ah] 0 [x]=[x]:=fun x=>rfl
 simp +contextual only [p1,hD.d,mE,Dv,cF,bT,k2,ei,ek,b1,b3,b4,b5,List.map_cons,List.map_nil,spv,List.all_cons,List.all_nil,Bool.and_true,bG,cZ,sZ,Nat.reduceEqDiff,Nat.reduceAdd,Nat.reduceLT,↓reduceIte,reduceCtorEq]
 refine ⟨hi,hk,af (pI hc hi nc) ?_⟩
 rintro r H2 ⟨rfl,rfl⟩
 cases hb:rq c i with
 | false=>
   have ki2:¬ (c.tm i).k=2:=of_decide_eq_false hb
   simp +contextual only [dE,fA,fB,fC,hb,Bool.not_false,sZ,Nat.reduceEqDiff,↓reduceIte,reduceCtorEq]
   exact fin0 fun h=>ki2 (C8 h)
 | true=>
 have ki2:(c.tm i).k=2:=of_decide_eq_true hb
 have kid:∀ (j:Int),(0≤j∧j < (c.kd i).length)→(c.tm i).l.getD j.toNat default=c.tm ((c.kd i).getD j.toNat 0):=fun j hj=>by rw [← ki.1,cq (by omega)]
 have klen:(c.tm i).l.length=(c.kd i).length:=by rw [← ki.1];simp
 have kn:∀ (j:Int),(0≤j∧j < (c.kd i).length)→c.dP ((c.kd i).getD j.toNat 0):=fun j hj=>ki.2 _ (aN (by omega))
 have lvun:(AV.tuple [.int .i64 (dD c i),.bool (tW c i k)]).ab=.tuple [.int .i64 (dD c i),.bool (tW c i k)]:=rfl
 have hS:=Sh4 (O:=c.O) (b:=c.tm k) OI ki2
 have e1:((4:Int)=1)=False:=by simp
 simp +contextual only [dE,fA,fB,fC,hb,Bool.not_true,C4,Dx,OI,not_true_eq_false,not_false_eq_true,decide_true,decide_false,sZ,Nat.reduceEqDiff,Nat.reduceAdd,↓reduceIte,reduceCtorEq,Int.reduceEq]
 refine ⟨fun tZ=>fin0 fun h=>tZ (hS.1 h).1,fun tZ=>?_⟩
 refine af (ER hc hi hk nc) ?_
 rintro r H2 ⟨rfl,rfl⟩
 have opi:pH c i=c.O.pl (c.tm i).n:=by rw [pH,if_pos ki2]
 have osi:dD c i=c.O.sp (c.O.pl (c.tm i).n):=by rw [dD,if_pos ki2]
 cases hl:tW c i k with
 | false=>
   simp +contextual only [C4,decide_true,decide_false,OI,e1,sZ,Nat.reduceEqDiff,Nat.reduceAdd,Nat.reduceLT,↓reduceIte,reduceCtorEq,Int.reduceEq]
   exact fin0 fun h=>by
    have:=hS.1 h
    rw [ky.2 ⟨ki2,this.2.1,this.2.2.1⟩] at hl
    cases hl
 | true=>
   have KT:=ky.1 hl
   by_cases AL:dD c i=3
   ·simp +contextual only [p4,k2,C4,ra,decide_true,decide_false,OI,e1,AL,sZ,Nat.reduceEqDiff,Nat.reduceAdd,Nat.reduceLT,↓reduceIte,reduceCtorEq,Int.reduceEq]
    refine af (aar ii ik (by omega) (by omega) p (fun x hx y hy=>jW hc (ki.2 x hx) (kk.2 y hy)) (fun x hx y hy q hq=>fT q hq _ _ (ki.2 x hx) (kk.2 y hy)) nc) ?_
    rintro r G ⟨x,rfl,hx,hU,jn⟩
    simp +contextual only [sZ,Nat.reduceEqDiff,↓reduceIte,reduceCtorEq]
    refine fin G x hU jn ?_
    rw [hx,hS,C6,ki.1,kk.1]
    rw [osi] at AL
    exact ⟨fun h=>⟨tZ,KT.2.1,KT.2.2,AL,h⟩,fun h=>h.2.2.2.2⟩
   ·have Ij:(dD c i=3)=False:=eq_false AL
    simp +contextual only [C4,decide_true,decide_false,OI,e1,Ij,sZ,Nat.reduceEqDiff,Nat.reduceAdd,Nat.reduceLT,↓reduceIte,reduceCtorEq,Int.reduceEq]
    refine fin0 fun h=>AL ?_
    rw [osi];exact (hS.1 h).2.2.2.1
theorem W0 {c:Cx} (hc:c.Ok) {p:PP} {i k:Int} (hi:c.dP i) (hk:c.dP k) (fT:∀ q∈p.l,∀ x y,c.dP x→c.dP y→ji c x y q) (zt:p.r≠1) (rE:p.r≠2) (LD:p.r≠3) (OI:p.r≠4):ji c i k p:=by
 intro H hD
 refine xt.2.calls rfl ?_
 simp only [xt,aJ]
 obtain ⟨p1,p2,p3,p4,p5,p6,p7,p8,p9⟩:=a7 p
 have k2:∀ l,(bm l).ab=bm l:=fun l=>(aC l).2.1
 have ki:=hc.kids i hi
 have kk:=hc.kids k hk
 have l1:=hc.kl i hi
 have l2:=hc.kl k hk
 obtain ⟨a1,a2,a3,a4,a5⟩:=aC (c.kd i)
 obtain ⟨b1,b2,b3,b4,b5⟩:=aC (c.kd k)
 have ii:IL (bm (c.kd i)) (c.kd i):=.inl rfl
 have ik:IL (bm (c.kd k)) (c.kd k):=.inl rfl
 have ei:(c.nd.getD i.toNat default).snd=c.kd i:=rfl
 have ek:(c.nd.getD k.toNat default).snd=c.kd k:=rfl
 obtain ⟨m1,m2,m3⟩:=hD.lt
 have nc:Du c (H++[.cells [bm (c.kd k)]]):=hD.sn _
 have fin:∀ G (b:Bool),Up c (H++[.cells [bm (c.kd k)]]) G→Du c G→(b=true↔Sh c.O p (c.tm i) (c.tm k))→bR H.length [.t 8] [(8,.bool b)] G (iF c (Sh c.O p (c.tm i) (c.tm k)) H):=by
  intro G b u d hb
  refine aO H.length (Nat.le_refl _) (by rw [au,if_pos rfl];rfl) ?_
  rw [au,if_pos rfl]
  exact ⟨b,rfl,hb,u.take,d.take m1 m2 m3⟩
 have fin0:¬ Sh c.O p (c.tm i) (c.tm k)→bR H.length [.t 8] [(8,.bool false)] (H++[.cells [bm (c.kd k)]]) (iF c (Sh c.O p (c.tm i) (c.tm k)) H):=
  fun h=>fin _ _ (Up.refl c _) nc ⟨fun h=>by simp at h,fun h'=>absurd h' h⟩
 have spv:∀ x:AV,ag [AV.ah] 0 [x]=[x]:=fun x=>rfl
 simp +contextual only [p1,hD.d,mE,Dv,cF,bT,k2,ei,ek,b1,b3,b4,b5,List.map_cons,List.map_nil,spv,List.all_cons,List.all_nil,Bool.and_true,bG,cZ,sZ,Nat.reduceEqDiff,Nat.reduceAdd,Nat.reduceLT,↓reduceIte,reduceCtorEq]
 refine ⟨hi,hk,af (pI hc hi nc) ?_⟩
 rintro r H2 ⟨rfl,rfl⟩
 cases hb:rq c i with
 | false=>
   have ki2:¬ (c.tm i).k=2:=of_decide_eq_false hb
   simp +contextual only [dE,fA,fB,fC,hb,Bool.not_false,sZ,Nat.reduceEqDiff,↓reduceIte,reduceCtorEq]
   exact fin0 fun h=>ki2 (C8 h)
 | true=>
 have ki2:(c.tm i).k=2:=of_decide_eq_true hb
 have kid:∀ (j:Int),(0≤j∧j < (c.kd i).length)→(c.tm i).l.getD j.toNat default=c.tm ((c.kd i).getD j.toNat 0):=fun j hj=>by rw [← ki.1,cq (by omega)]
 have klen:(c.tm i).l.length=(c.kd i).length:=by rw [← ki.1];simp
 have kn:∀ (j:Int),(0≤j∧j < (c.kd i).length)→c.dP ((c.kd i).getD j.toNat 0):=fun j hj=>ki.2 _ (aN (by omega))
 have lvun:(AV.tuple [.int .i64 (dD c i),.bool (tW c i k)]).ab=.tuple [.int .i64 (dD c i),.bool (tW c i k)]:=rfl
 have hS:=Sh0 (O:=c.O) (a:=c.tm i) (b:=c.tm k) zt rE LD OI
 simp +contextual only [dE,fA,fB,fC,hb,Bool.not_true,C4,Dx,OF,zt,LD,OI,not_true_eq_false,not_false_eq_true,decide_true,decide_false,aw,sZ,Nat.reduceEqDiff,Nat.reduceAdd,↓reduceIte,reduceCtorEq]
 refine fun _=>⟨fun h0=>⟨fun tZ=>fin0 hS,fun tZ=>?_⟩,fun h0=>fin0 hS⟩
 refine af (ER hc hi hk nc) ?_
 rintro r H2 ⟨rfl,rfl⟩
 simp +contextual only [C4,lvun,decide_false,zt,rE,LD,OI,sZ,Nat.reduceEqDiff,Nat.reduceAdd,Nat.reduceLT,↓reduceIte,reduceCtorEq]
 exact fin0 hS
end Go.aH
end
section
set_option maxRecDepth 100000
namespace Go.aH
open Go Go.Proofs Go.fm
theorem W1 {O:Od} {f:Int→T} {at':Int} {l:List PP} {a:T} {x y kd:List Int} {bl:List T} (hb:kd.map f=bl):C2 (E O) (Sh O) at' l a (x.map f) (y.map f) bl ↔
 (0≤at'∧at' < x.length∧at'≤y.length)∧(∀ j,j < at'.toNat→E O (f (x.getD j 0)) (f (y.getD j 0)))∧
 (if at'=y.length then lD (Sh O) l a (kd.map f) else ∃ q r,l=q::r∧Sh O q (f (x.getD at'.toNat 0)) (f (y.getD at'.toNat 0))∧lD (Sh O) r a (kd.map f)):=by
 unfold C2
 rw [hb]
 simp only [List.length_map]
 refine and_congr_right fun h=>?_
 have e:∀ j,j < at'.toNat→((x.map f).getD j default=f (x.getD j 0)∧(y.map f).getD j default=f (y.getD j 0)):=fun j hj=>⟨cq (by omega),cq (by omega)⟩
 refine and_congr ⟨fun k j hj=>?_,fun k j hj=>?_⟩ ?_
 ·have:=k j hj;rwa [(e j hj).1,(e j hj).2] at this
 ·rw [(e j hj).1,(e j hj).2];exact k j hj
 ·split
  ·exact Iff.rfl
  ·rw [cq (by omega),cq (by omega)]
theorem W2 {c:Cx} (hc:c.Ok) {p:PP} {i k:Int} (hi:c.dP i) (hk:c.dP k) (fT:∀ q∈p.l,∀ x y,c.dP x→c.dP y→ji c x y q) (LD:p.r=3):ji c i k p:=by
 intro H hD
 refine xt.2.calls rfl ?_
 simp only [xt,aJ]
 obtain ⟨p1,p2,p3,p4,p5,p6,p7,p8,p9⟩:=a7 p
 have k2:∀ l,(bm l).ab=bm l:=fun l=>(aC l).2.1
 have ki:=hc.kids i hi
 have kk:=hc.kids k hk
 have l1:=hc.kl i hi
 have l2:=hc.kl k hk
 obtain ⟨a1,a2,a3,a4,a5⟩:=aC (c.kd i)
 obtain ⟨b1,b2,b3,b4,b5⟩:=aC (c.kd k)
 have ii:IL (bm (c.kd i)) (c.kd i):=.inl rfl
 have ik:IL (bm (c.kd k)) (c.kd k):=.inl rfl
 have ei:(c.nd.getD i.toNat default).snd=c.kd i:=rfl
 have ek:(c.nd.getD k.toNat default).snd=c.kd k:=rfl
 obtain ⟨m1,m2,m3⟩:=hD.lt
 have nc:Du c (H++[.cells [bm (c.kd k)]]):=hD.sn _
 have fin:∀ G (b:Bool),Up c (H++[.cells [bm (c.kd k)]]) G→Du c G→(b=true↔Sh c.O p (c.tm i) (c.tm k))→bR H.length [.t 8] [(8,.bool b)] G (iF c (Sh c.O p (c.tm i) (c.tm k)) H):=by
  intro G b u d hb
  refine aO H.length (Nat.le_refl _) (by rw [au,if_pos rfl];rfl) ?_
  rw [au,if_pos rfl]
  exact ⟨b,rfl,hb,u.take,d.take m1 m2 m3⟩
 have fin0:¬ Sh c.O p (c.tm i) (c.tm k)→bR H.length [.t 8] [(8,.bool false)] (H++[.cells [bm (c.kd k)]]) (iF c (Sh c.O p (c.tm i) (c.tm k)) H):=
  fun h=>fin _ _ (Up.refl c _) nc ⟨fun h=>by simp at h,fun h'=>absurd h' h⟩
 have spv:∀ x:AV,ag [AV.ah] 0 [x]=[x]:=fun x=>rfl
 simp +contextual only [p1,hD.d,mE,Dv,cF,bT,k2,ei,ek,b1,b3,b4,b5,List.map_cons,List.map_nil,spv,List.all_cons,List.all_nil,Bool.and_true,bG,cZ,sZ,Nat.reduceEqDiff,Nat.reduceAdd,Nat.reduceLT,↓reduceIte,reduceCtorEq]
 refine ⟨hi,hk,af (pI hc hi nc) ?_⟩
 rintro r H2 ⟨rfl,rfl⟩
 cases hb:rq c i with
 | false=>
   have ki2:¬ (c.tm i).k=2:=of_decide_eq_false hb
   simp +contextual only [dE,fA,fB,fC,hb,Bool.not_false,sZ,Nat.reduceEqDiff,↓reduceIte,reduceCtorEq]
   exact fin0 fun h=>ki2 (C8 h)
 | true=>
 have ki2:(c.tm i).k=2:=of_decide_eq_true hb
 have kid:∀ (j:Int),(0≤j∧j < (c.kd i).length)→(c.tm i).l.getD j.toNat default=c.tm ((c.kd i).getD j.toNat 0):=fun j hj=>by rw [← ki.1,cq (by omega)]
 have klen:(c.tm i).l.length=(c.kd i).length:=by rw [← ki.1];simp
 have kn:∀ (j:Int),(0≤j∧j < (c.kd i).length)→c.dP ((c.kd i).getD j.toNat 0):=fun j hj=>ki.2 _ (aN (by omega))
 have lvun:(AV.tuple [.int .i64 (dD c i),.bool (tW c i k)]).ab=.tuple [.int .i64 (dD c i),.bool (tW c i k)]:=rfl
 have hS:=Sh3 (O:=c.O) (b:=c.tm k) LD ki2
 have e1:((3:Int)=1)=False:=by simp
 simp +contextual only [dE,fA,fB,fC,hb,Bool.not_true,C4,OF,LD,not_true_eq_false,not_false_eq_true,decide_true,decide_false,aw,sZ,Nat.reduceEqDiff,Nat.reduceAdd,↓reduceIte,reduceCtorEq,Int.reduceEq]
 refine fun _=>⟨fun h0=>?_,fun h0=>fin0 fun h=>?_⟩
 ·have A7:p.to=[]:=List.length_eq_zero_iff.1 (by omega)
  refine af (ER hc hi hk nc) ?_
  rintro r H2 ⟨rfl,rfl⟩
  simp +contextual only [k2,C4,lvun,decide_true,decide_false,LD,e1,sZ,Nat.reduceEqDiff,Nat.reduceAdd,Nat.reduceLT,↓reduceIte,Int.reduceEq]
  refine aF (HX (c.kd i) (dD c i) (by omega)) ?_
  simp +contextual only [k2,sZ,Nat.reduceEqDiff,Nat.reduceAdd,Nat.reduceLT,↓reduceIte]
  refine aF (HX (c.kd k) (dD c i) (by omega)) ?_
  have opi:pH c i=c.O.pl (c.tm i).n:=by rw [pH,if_pos ki2]
  have osi:dD c i=c.O.sp (c.O.pl (c.tm i).n):=by rw [dD,if_pos ki2]
  have hx:side (c.O.sp (c.O.pl (c.tm i).n)) (c.tm i).l=(bC (dD c i) (c.kd i)).map c.tm:=by rw [← osi,← ki.1,jy]
  have hy:side (c.O.sp (c.O.pl (c.tm i).n)) (c.tm k).l=(bC (dD c i) (c.kd k)).map c.tm:=by rw [← osi,← kk.1,jy]
  rw [hx,hy,W1 (kd:=c.kd k) kk.1] at hS
  have lx:(bC (dD c i) (c.kd i)).length=(c.kd i).length:=jv
  have ly:(bC (dD c i) (c.kd k)).length=(c.kd k).length:=jv
  have nx:∀ z∈bC (dD c i) (c.kd i),c.dP z:=fun z hz=>ki.2 z (oK.1 hz)
  have ny:∀ z∈bC (dD c i) (c.kd k),c.dP z:=fun z hz=>kk.2 z (oK.1 hz)
  generalize bC (dD c i) (c.kd i)=x at *
  generalize bC (dD c i) (c.kd k)=y at *
  have ix:IL (.ap 0 (ints x)) x:=.inr rfl
  have iy:IL (.ap 0 (ints y)) y:=.inr rfl
  cases hl:tW c i k with
  | false=>
    simp +contextual only [Bool.not_false,sZ,Nat.reduceEqDiff,↓reduceIte,reduceCtorEq]
    exact fin0 fun h=>by
     have:=hS.1 h
     rw [ky.2 ⟨ki2,this.2.1,this.2.2.1⟩] at hl
     cases hl
  | true=>
  have KT:=ky.1 hl
  by_cases AL:dD c i=3
  ·have aat:(dD c i=3)=True:=eq_true AL
   simp +contextual only [decide_true,Bool.not_true,aat,sZ,Nat.reduceEqDiff,↓reduceIte,reduceCtorEq]
   refine fin0 fun h=>(hS.1 h).2.2.2.1 ?_
   rw [← osi];exact AL
  ·have Ij:(dD c i=3)=False:=eq_false AL
   have lvun':True:=trivial
   by_cases hI:0≤p.i∧p.i < x.length∧p.i≤y.length
   ·have n1:(p.i < 0)=False:=eq_false (by omega)
    have n2:((x.length:Int)≤p.i)=False:=eq_false (by omega)
    have n3:((y.length:Int) < p.i)=False:=eq_false (by omega)
    simp +contextual only [Option.map_some,Option.map_none,Dx,decide_false,Bool.not_true,Ij,n1,n2,n3,ix.aL,iy.aL,ix.v8,iy.v8,slT x p.i ⟨hI.1,by omega⟩,slT y p.i ⟨hI.1,by omega⟩,sZ,Nat.reduceEqDiff,Nat.reduceAdd,↓reduceIte,reduceCtorEq]
    refine af (Wr (SD.Au c _) (.inr rfl:IL (.ap 0 (ints (x.take p.i.toNat))) (x.take p.i.toNat)) (.inr rfl:IL (.ap 0 (ints (y.take p.i.toNat))) (y.take p.i.toNat)) (by rw [List.length_take];omega) (by rw [List.length_take];omega) 79 [.ptr c.d 0] [] rfl rfl (Q:=fun x y=>E c.O (c.tm x) (c.tm y))
     (fun u hu v hv G hG=>(jW hc (nx u (List.mem_of_mem_take hu)) (ny v (List.mem_of_mem_take hv)) G hG.1).mono fun r H' hr=>hr.sb hG) ⟨nc,Up.refl c _⟩) ?_
    rintro r G ⟨z,rfl,hz,hG⟩
    have Dw:z=true↔∀ j,j < p.i.toNat→E c.O (c.tm (x.getD j 0)) (c.tm (y.getD j 0)):=by
     rw [hz]
     have lt1:(x.take p.i.toNat).length=p.i.toNat:=by rw [List.length_take];omega
     have lt2:(y.take p.i.toNat).length=p.i.toNat:=by rw [List.length_take];omega
     rw [lt1,lt2]
     have et:∀ (l:List Int) j,j < p.i.toNat→(l.take p.i.toNat).getD j 0=l.getD j 0:=fun l j hj=>by simp [List.getD_eq_getElem?_getD,hj]
     constructor
     ·rintro ⟨_,h⟩ j hj;have:=h j hj;rwa [et _ _ hj,et _ _ hj] at this
     ·intro h;exact ⟨rfl,fun j hj=>by rw [et _ _ hj,et _ _ hj];exact h j hj⟩
    have finG:∀ G' (b:Bool),Up c G G'→Du c G'→(b=true↔Sh c.O p (c.tm i) (c.tm k))→bR H.length [.t 8] [(8,.bool b)] G' (iF c (Sh c.O p (c.tm i) (c.tm k)) H):=fun G' b u d hb=>fin G' b (hG.2.trans u) d hb
    have finG0:¬ Sh c.O p (c.tm i) (c.tm k)→bR H.length [.t 8] [(8,.bool false)] G (iF c (Sh c.O p (c.tm i) (c.tm k)) H):=
     fun h=>finG _ _ (Up.refl c _) hG.1 ⟨fun h=>by simp at h,fun h'=>absurd h' h⟩
    have gq:G[H.length]?=some (.cells [bm (c.kd k)]):=by rw [hG.2.get H.length (by omega) (by omega)];simp
    cases z with
    | false=>
      simp +contextual only [Bool.not_false,sZ,Nat.reduceEqDiff,↓reduceIte,reduceCtorEq]
      exact finG0 fun h=>absurd (Dw.2 (hS.1 h).2.2.2.2.2.1) (by simp)
    | true=>
      have hz1:=Dw.1 rfl
      by_cases he:p.i=y.length
      ·have n4:(p.i=(y.length:Int))=True:=eq_true he
       simp +contextual only [Dx,KO,decide_true,Bool.not_true,iy.len (by omega),iy.aL,n4,sZ,Nat.reduceEqDiff,Nat.reduceAdd,↓reduceIte,reduceCtorEq]
       refine af (Tk ik (by omega) (q:=H.length) ⟨by omega,by omega⟩ (fun j h1 h2=>fT _ (dZ h2) _ _ hi (kk.2 _ (aN h1))) hG.1 gq) ?_
       rintro r G' ⟨w,rfl,hw,hU,jn⟩
       simp +contextual only [sZ,↓reduceIte,reduceCtorEq]
       refine finG G' w hU jn ?_
       rw [hw,hS]
       rw [if_pos he]
       rw [osi] at AL
       exact ⟨fun h=>⟨A7,KT.2.1,KT.2.2,AL,hI,hz1,h⟩,fun h=>h.2.2.2.2.2.2⟩
      ·have n4:(p.i=(y.length:Int))=False:=eq_false he
       rw [if_neg he] at hS
       cases wN:p.l with
       | nil=>
         have n5:(0 < ((0:Nat):Int))=False:=eq_false (by simp)
         simp +contextual only [Dx,KO,eG,decide_false,Bool.not_true,iy.len (by omega),iy.aL,n4,wN,k8,n5,sZ,Nat.reduceEqDiff,↓reduceIte,reduceCtorEq]
         exact finG0 fun h=>by
          obtain ⟨q,r,e,_⟩:=(hS.1 h).2.2.2.2.2.2
          rw [wN] at e;cases e
       | cons q r=>
         have n5:(0 < ((r.length + 1:Nat):Int))=True:=eq_true (by omega)
         have n6:(q::r).getD (0:Int).toNat default=q:=rfl
         obtain ⟨q1,q2,q3,q4,q5,q6,q7,q8,q9⟩:=a7 q
         simp only [wN] at hS fT
         simp +contextual only [Dx,KO,AI,qZ,ra,eG,decide_true,decide_false,Bool.not_true,iy.len (by omega),iy.aL,n4,wN,k8,n5,n6,ix.idx,iy.idx,ix.lens,iy.lens,q4,sZ,Nat.reduceEqDiff,Nat.reduceAdd,↓reduceIte,reduceCtorEq]
         refine ⟨by omega,by omega,by omega,af (fT q List.mem_cons_self _ _ (nx _ (aN (by omega))) (ny _ (aN (by omega))) G hG.1) ?_⟩
         rintro r' G2 ⟨w,rfl,hw,hU,A6⟩
         cases w with
         | false=>
           simp +contextual only [sZ,Nat.reduceEqDiff,↓reduceIte,reduceCtorEq]
           refine finG G2 false hU A6 ⟨fun h=>by simp at h,fun h=>?_⟩
           obtain ⟨q',r',e,h',_⟩:=(hS.1 h).2.2.2.2.2.2
           cases e
           exact hw.2 h'
         | true=>
           have gq2:G2[H.length]?=some (.cells [bm (c.kd k)]):=by rw [hU.get H.length (by omega) (by omega),gq]
           simp +contextual only [Option.map_some,Option.map_none,KO,WW,wN,sZ,Nat.reduceEqDiff,Nat.reduceAdd,↓reduceIte,reduceCtorEq]
           refine af (Tk ik (by omega) (q:=H.length) ⟨by omega,by omega⟩ (fun j h1 h2=>fT _ (List.mem_cons_of_mem _ (dZ h2)) _ _ hi (kk.2 _ (aN h1))) A6 gq2) ?_
           rintro r' G3 ⟨v,rfl,hv,Ww,KB⟩
           simp +contextual only [sZ,Nat.reduceEqDiff,↓reduceIte,reduceCtorEq]
           refine finG G3 v (hU.trans Ww) KB ?_
           rw [hv,hS]
           rw [osi] at AL
           constructor
           ·exact fun h=>⟨A7,KT.2.1,KT.2.2,AL,hI,hz1,q,r,rfl,hw.1 rfl,h⟩
           ·rintro ⟨_,_,_,_,_,_,q',r',e,_,h⟩
            cases e
            exact h
   ·have bad:¬ Sh c.O p (c.tm i) (c.tm k):=fun h=>hI (hS.1 h).2.2.2.2.1
    by_cases m1':p.i < 0
    ·have n1:(p.i < 0)=True:=eq_true m1'
     simp +contextual only [Dx,decide_true,decide_false,Bool.not_true,Ij,n1,sZ,Nat.reduceEqDiff,↓reduceIte,reduceCtorEq]
     exact fin0 bad
    ·have n1:(p.i < 0)=False:=eq_false m1'
     by_cases m2':(x.length:Int)≤p.i
     ·have n2:((x.length:Int)≤p.i)=True:=eq_true m2'
      simp +contextual only [Dx,decide_true,decide_false,Bool.not_true,Ij,n1,n2,ix.aL,ix.v8,sZ,Nat.reduceEqDiff,↓reduceIte,reduceCtorEq]
      exact fin0 bad
     ·have n2:((x.length:Int)≤p.i)=False:=eq_false m2'
      have n3:((y.length:Int) < p.i)=True:=eq_true (by omega)
      simp +contextual only [Dx,decide_true,decide_false,Bool.not_true,Ij,n1,n2,n3,ix.aL,iy.aL,ix.v8,iy.v8,sZ,Nat.reduceEqDiff,↓reduceIte,reduceCtorEq]
      exact fin0 bad
 ·rw [(hS.1 h).1] at h0;simp at h0
end Go.aH
end
section
set_option maxRecDepth 100000
namespace Go.aH
open Go Go.Proofs Go.fm
theorem c87 {c:Cx} (hc:c.Ok):∀ (N:Nat) (p:PP) (i k:Int),pz p≤N→c.dP i→c.dP k→ji c i k p:=by
 intro N
 induction N with
 | zero=>intro p i k h;have:=AG p;omega
 | succ N ih=>
 intro p i k hN hi hk
 have fT:∀ q∈p.l,∀ x y,c.dP x→c.dP y→ji c x y q:=fun q hq x y hx hy=>ih q x y (by have:=AH hq;omega) hx hy
 by_cases h1:p.r=1
 ·exact WX hc hi hk fT h1
 by_cases h2:p.r=2
 ·exact WY hc hi hk fT h2
 by_cases h3:p.r=3
 ·exact W2 hc hi hk fT h3
 by_cases h4:p.r=4
 ·exact WZ hc hi hk fT h4
 exact W0 hc hi hk fT h1 h2 h3 h4
theorem Tl {c:Cx} (hc:c.Ok) {p:PP} {i k:Int} (hi:c.dP i) (hk:c.dP k):ji c i k p:=c87 hc _ p i k (Nat.le_refl _) hi hk
open Classical in
noncomputable def C9 (s:Sg) (ps ss:List Int) (a b:T) (p:PP):Int:=if iA s ps ss [a,b]=0 then (if Sh (lm ps ss) p a b then 0 else 61) else iA s ps ss [a,b]
theorem c28 (s:Sg) (ps ss:List Int) (a b:T) (p:PP):Pure Tryz.prog 28 [s.av,gn ps ss,a.av,b.av,eg p] (.int .i64 (C9 s ps ss a b p)):=by
 refine fun H=>k28.2.calls rfl ?_
 simp only [k28,aJ]
 obtain ⟨q1,q2,q3,q4,q5,q6⟩:=bF ps ss
 obtain ⟨p1,p2,p3,p4,p5,p6,p7,p8,p9⟩:=a7 p
 simp +contextual only [aU,q1,q4,p1,bU,sZ,Nat.reduceEqDiff,Nat.reduceAdd,↓reduceIte,reduceCtorEq]
 refine ae (WO s ps ss [a,b]) ?_
 by_cases h0:iA s ps ss [a,b]=0
 ·have hr:=qW h0
  have hw:=mH hr.tree
  have hc:=hr.cx (by simp) (by simp) H.length
  have hd:=yG ps ss (ts:=[a,b]) (by simp) H
  simp +contextual only [q4,bU,h0,sZ,Nat.reduceEqDiff,Nat.reduceAdd,↓reduceIte]
  refine af (Wm ps ss [a,b] H (by simp at hw;omega)) ?_
  rintro r G ⟨rfl,rfl⟩
  have a0:=tG (ps:=ps) (ss:=ss) (ts:=[a,b]) (n:=H.length) (j:=0) (by simp)
  have a1:=tG (ps:=ps) (ss:=ss) (ts:=[a,b]) (n:=H.length) (j:=1) (by simp)
  have hl:=cE [a,b] 0
  rw [OC]
  generalize aT [a,b] 0=ks at a0 a1 hl ⊢
  have rn:ks.length=2:=hl
  simp +contextual only [cG,rn,dH,ra,p4,sZ,Nat.reduceEqDiff,Nat.reduceAdd,Nat.reduceLT,↓reduceIte,reduceCtorEq]
  refine ⟨by decide,by decide,af (Tl hc a0.1 a1.1 _ hd) ?_⟩
  rintro r G ⟨x,rfl,hx,hU,hD⟩
  rw [a0.2,a1.2] at hx
  have wO:x=true↔Sh (lm ps ss) p a b:=hx
  have W3:=hU.low (by simp [gE]) (by simp [gE])
  cases x with
  | true=>
    simp +contextual only [Bool.not_true,sZ,↓reduceIte,reduceCtorEq]
    exact Oe W3 rfl rfl ⟨by rw [C9,if_pos h0,if_pos (wO.1 rfl)],rfl⟩
  | false=>
    simp +contextual only [Bool.not_false,sZ,↓reduceIte,reduceCtorEq]
    exact Oe W3 rfl rfl ⟨by rw [C9,if_pos h0,if_neg (fun h=>absurd (wO.2 h) (by simp))],rfl⟩
 ·simp +contextual only [h0,sZ,Nat.reduceEqDiff,↓reduceIte,reduceCtorEq]
  exact bh rfl (by rw [C9,if_neg h0])
end Go.aH
end
section
set_option maxRecDepth 100000
set_option maxHeartbeats 0
namespace Go.aH
open Go Go.Proofs
noncomputable def Da:=aJ Tryz.call86 Tryz.func86 Tryz.ntmps86 [(0,0,1),(0,1,1),(3,6,2000),(8,2,2000),(9,7,2000),(10,7,2000),(10,8,1),(10,10,1),(13,3,2000),(16,3,1000),(19,3,2000),(20,9,2000),(21,1,1),(21,6,1),(21,11,1),(21,13,1),(27,3,2000),(29,1,1),(29,13,2000),(29,17,1),(33,1,1),(33,5,2000),(33,9,1)] [(0,[1,3,5,6]),(1,[1,3,5,6,7,8]),(2,[1,3,5,6,7,8,9]),(3,[1,3,5,6,7,8,9,47]),(4,[1,3,5,6,7,8,9]),(5,[1,3,5,6,7,8,9,10]),(6,[1,3,5,6,7,8,10,52]),(7,[1,3,5,6,7,8,10,52,53]),(8,[3,5,6,7,10]),(9,[3,5,6,7,10,67]),(10,[6,10]),(11,[6]),(12,[1,3,6,7,8,10,52,79]),(13,[3,6,7,8,10,11,13]),(14,[3,6,7,8,10,11,89,90,91]),(15,[3,6,7,8,10,11,89,90,91,92]),(16,[3,6,7,8,10,11,14,15,89,90,91]),(17,[3,6,7,8,10,11,14,15,16,89,90,91]),(18,[3,6,7,8,10,11,14,15,16,89,90,91,97]),(19,[3,6,7,8,10,11,14,15,16,89,90,91]),(20,[3,6,7,8,10,11,15,16,89,90,91]),(21,[3,6,7,8,10,11,89,90,91]),(22,[3,6,7,8,10,11,89,90,91]),(23,[6]),(24,[1,3,6,7,8,10,128]),(25,[1,3,6,7,8,10,18]),(26,[1,3,6,8,10,20,21]),(27,[1,3,6,8,10,20,21]),(28,[1,3,6,8,10,20,21,152]),(29,[1,3,6,8,10]),(30,[1,3,6,10,170,171,172]),(31,[1,3,6,10,170,171,172,173]),(32,[1,3,6,10,23,170,171,172]),(33,[1,3,6,10,170,171,172]),(34,[1,3,6,10,170,171,172]),(35,[6])] [(1,(.take 0 true (.take 1 true (.take 2 true (.take 3 true (.take 4 true (.take 5 true (.take 6 true (.take 7 true (.take 8 false (.take 9 false (.take 10 false (.take 12 false (.br 11 (.take 13 false (.take 14 false (.take 15 false (.br 16 (.br 17 (.br 18 (.br 19 .done .nil) .nil) .nil) (.br 17 (.br 16 (.br 18 (.br 19 .done .nil) .nil) .nil) .nil))))) (.br 16 (.br 11 (.take 13 false (.take 14 false (.take 15 false (.br 17 (.br 18 (.br 19 .done .nil) .nil) .nil)))) (.br 17 (.br 11 (.take 13 false (.take 14 false (.take 15 false (.br 18 (.br 19 .done .nil) .nil)))) (.br 18 (.take 11 true (.take 13 true (.take 14 true (.take 15 true (.br 19 .done .nil))))) .nil)) .nil)) (.br 17 (.br 11 (.take 13 false (.take 14 false (.take 15 false (.br 16 (.br 18 (.br 19 .done .nil) .nil) .nil)))) (.br 16 (.br 11 (.take 13 false (.take 14 false (.take 15 false (.br 18 (.br 19 .done .nil) .nil)))) (.br 18 (.take 11 true (.take 13 true (.take 14 true (.take 15 true (.br 19 .done .nil))))) .nil)) .nil)) .nil)))))))))))))))),(3,(.take 0 true (.take 1 true (.take 2 true (.take 3 true (.take 4 true (.take 5 true (.br 6 (.take 7 true .done) .nil)))))))),(9,(.take 0 true (.take 1 true (.take 2 true (.take 3 true (.take 4 true (.take 5 true (.take 6 true (.br 7 (.take 8 true .done) .nil))))))))),(10,(.take 0 true (.take 1 true (.take 2 true (.take 3 true (.take 4 true (.take 5 true (.take 6 true (.br 7 (.take 8 true (.take 9 true (.br 10 .done .nil))) .nil))))))))),(20,(.take 0 true (.take 1 true (.take 2 true (.take 3 true (.take 4 true (.take 5 true (.take 6 true (.take 7 true (.take 8 true (.br 9 (.br 10 .done .nil) .nil))))))))))),(21,(.take 0 false (.take 2 false (.take 3 false (.take 5 false (.br 1 (.br 4 (.br 6 (.take 7 true (.take 8 true (.take 10 true (.br 9 (.br 11 (.take 12 true (.br 13 .done .nil)) .nil) .nil)))) (.br 7 (.take 8 false (.br 6 (.take 10 true (.br 9 (.br 11 (.take 12 true (.br 13 .done .nil)) .nil) .nil)) .nil)) .nil)) (.br 6 (.take 7 true (.take 8 true (.br 4 (.take 10 true (.br 9 (.br 11 (.take 12 true (.br 13 .done .nil)) .nil) .nil)) .nil))) (.br 7 (.take 8 false (.br 4 (.br 6 (.take 10 true (.br 9 (.br 11 (.take 12 true (.br 13 .done .nil)) .nil) .nil)) .nil) (.br 6 (.br 4 (.take 10 true (.br 9 (.br 11 (.take 12 true (.br 13 .done .nil)) .nil) .nil)) .nil) .nil))) .nil))) (.br 6 (.br 1 (.take 7 true (.take 8 true (.br 4 (.take 10 true (.br 9 (.br 11 (.take 12 true (.br 13 .done .nil)) .nil) .nil)) .nil))) (.br 7 (.take 8 false (.br 1 (.br 4 (.take 10 true (.br 9 (.br 11 (.take 12 true (.br 13 .done .nil)) .nil) .nil)) .nil) .nil)) .nil)) (.br 7 (.take 8 false (.br 1 (.br 4 (.br 6 (.take 10 true (.br 9 (.br 11 (.take 12 true (.br 13 .done .nil)) .nil) .nil)) .nil) (.br 6 (.br 4 (.take 10 true (.br 9 (.br 11 (.take 12 true (.br 13 .done .nil)) .nil) .nil)) .nil) .nil)) (.br 6 (.br 1 (.br 4 (.take 10 true (.br 9 (.br 11 (.take 12 true (.br 13 .done .nil)) .nil) .nil)) .nil) .nil) .nil))) .nil)))))))),(26,(.take 0 true (.take 1 true (.take 2 true (.take 3 true (.take 4 true (.take 5 true (.take 6 true (.take 7 true .done))))))))),(29,(.take 0 false (.take 2 false (.take 3 false (.take 4 false (.take 8 false (.take 9 false (.br 1 (.take 5 true (.take 6 true (.take 7 true (.take 10 true (.take 11 true (.take 12 true (.br 13 (.take 14 true (.br 15 (.take 16 true (.br 17 .done .nil)) .nil)) .nil))))))) (.br 5 (.take 6 false (.take 7 false (.br 1 (.take 10 true (.take 11 true (.take 12 true (.br 13 (.take 14 true (.br 15 (.take 16 true (.br 17 .done .nil)) .nil)) .nil)))) (.br 10 (.take 11 false (.take 12 false (.br 1 (.br 13 (.take 14 true (.br 15 (.take 16 true (.br 17 .done .nil)) .nil)) .nil) (.br 13 (.take 14 false (.br 1 (.br 15 (.take 16 true (.br 17 .done .nil)) .nil) .nil)) .nil)))) .nil)))) (.br 10 (.take 11 false (.take 12 false (.br 1 (.take 5 true (.take 6 true (.take 7 true (.br 13 (.take 14 true (.br 15 (.take 16 true (.br 17 .done .nil)) .nil)) .nil)))) (.br 5 (.take 6 false (.take 7 false (.br 1 (.br 13 (.take 14 true (.br 15 (.take 16 true (.br 17 .done .nil)) .nil)) .nil) (.br 13 (.take 14 false (.br 1 (.br 15 (.take 16 true (.br 17 .done .nil)) .nil) .nil)) .nil)))) .nil)))) .nil)))))))))),(33,(.take 0 false (.take 2 false (.take 3 false (.take 4 false (.br 1 (.br 5 (.take 6 true (.br 7 (.take 8 true (.br 9 .done .nil)) .nil)) .nil) (.br 5 (.take 6 false (.br 1 (.br 7 (.take 8 true (.br 9 .done .nil)) .nil) .nil)) .nil)))))))]
end Go.aH
end
section
set_option maxRecDepth 100000
namespace Go.aH
open Go Go.Proofs Go.fm
def oQ (l:List PP):AV:=match l with | []=>.ah | _::_=>.ap 4 (ee l)
def tI (l:List Int):AV:=match l with | []=>.ah | _::_=>.ap 1 (ints l)
theorem iC (l:List PP):(oQ l).val=true∧(oQ l).cells=[oQ l]∧(oQ l).one=true∧(∀ n,(oQ l).aZ n=true)∧(oQ l).drop=.ap 0 (ee l)∧∀ n,(oQ l).ab.aZ n=true:=by
 cases l with
 | nil=>exact ⟨rfl,rfl,rfl,fun _=>rfl,rfl,fun _=>rfl⟩
 | cons x r=>exact ⟨rfl,rfl,rfl,fun n=>by rw [oQ,b8];exact iN _ _,rfl,fun n=>by rw [oQ,vH,b8];exact iN _ _⟩
theorem lF (l:List Int):(tI l).val=true∧(tI l).cells=[tI l]∧(tI l).one=true∧(∀ n,(tI l).aZ n=true)∧(tI l).drop=.ap 0 (ints l)∧∀ n,(tI l).ab.aZ n=true:=by
 cases l with
 | nil=>exact ⟨rfl,rfl,rfl,fun _=>rfl,rfl,fun _=>rfl⟩
 | cons x r=>exact ⟨rfl,rfl,rfl,fun n=>by rw [tI,b8];exact aY _ _,rfl,fun n=>by rw [tI,vH,b8];exact aY _ _⟩
theorem KU (a b:List PP):ee (a++b)=ee a++ee b:=by simp [lE]
theorem Db (l:List PP) (q:PP) (h:l.length < 1000000000) (o:Nat) (ψ:List AV→Prop):bp 4 64 (oQ l) (.ap o [eg q]) ψ=ψ (ee (l++[q])):=by
 have jr:sR 4 [eg q]:=of_eq_true (Ti [q])
 rw [KU]
 cases l with
 | nil=>rw [oQ,mj];simp [jr,ee]
 | cons x r=>
   rw [oQ,kM,eG]
   have e:ee [q]=[eg q]:=rfl
   rw [e]
   simp only [jr,List.length_cons,List.length_nil,true_and,eq_iff_iff]
   simp only [List.length_cons] at h
   exact ⟨fun h=>h.2,fun k=>⟨by omega,k⟩⟩
theorem Qb (l:List Int) (q:Int) (h:l.length < 1000000000) (o:Nat) (ψ:List AV→Prop):bp 1 8 (tI l) (.ap o [.int .i64 q]) ψ=ψ (ints (l++[q])):=by
 have jr:sR 1 [AV.int .i64 q]:=of_eq_true (ms [q])
 have e:ints [q]=[AV.int .i64 q]:=rfl
 cases l with
 | nil=>rw [tI,mj];simp [jr,ints]
 | cons x r=>
   rw [tI,kM,aw,← lq,e]
   simp only [jr,List.length_cons,List.length_nil,true_and,eq_iff_iff]
   simp only [List.length_cons] at h
   exact ⟨fun h=>h.2,fun k=>⟨by omega,k⟩⟩
theorem jz (q:PP):aM (eg q)=eg q:=by rw [n7];rfl
theorem rb (l:List PP) (q:PP):AV.ap 4 (ee (l++[q]))=oQ (l++[q]):=by cases l <;> rfl
theorem Dc (l:List Int) (q:Int):AV.ap 1 (ints (l++[q]))=tI (l++[q]):=by cases l <;> rfl
theorem d3 {α:Type} (x y z u d:α) (r:List α):(x::y::z::u::r).getD 3 d=u:=by simp
theorem s3 {α:Type} (x y z w u:α) (r:List α):(x::y::z::w::r).set 3 u=x::y::z::u::r:=by simp
theorem Tm (a b c d y:AV):ag [a,b,c,d] 1 [y]=[a,y,c,d]:=by simp [ag]
theorem Ik (a b c d x y z u:AV):ag [a,b,c,d] 0 [x,y,z,u]=[x,y,z,u]:=by simp [ag]
theorem Qc (r i:Int) (to:List Int) (l:List PP) (φ:AV→Prop):c8 (some (.cells [.int .i64 r,.int .i64 i,tI to,oQ l])) (some 4) 0 φ=φ (eg (.mk r i to l)):=by
 have e:List.map AV.drop [AV.int .i64 r,.int .i64 i,tI to,oQ l]=[.int .i64 r,.int .i64 i,.ap 0 (ints to),.ap 0 (ee l)]:=by
  simp only [List.map_cons,List.map_nil,(iC l).2.2.2.2.1,(lF to).2.2.2.2.1];rfl
 simp only [c8,List.drop_zero,List.length_cons,List.length_nil,List.take_succ_cons,List.take_zero,e,eg]
 simp
def W4 (c:Cx) (i k:Int) (H:List aa) (r:AV) (H':List aa):Prop:=∃ p,r=eg p∧Sh c.O p (c.tm i) (c.tm k)∧Up c H H'∧Du c H'
def oR (c:Cx) (i k:Int):Prop:=∀ H,Du c H→aq Tryz.prog 86 [.ptr c.d 0,.int .i64 i,.int .i64 k] H (W4 c i k H)
structure PB (c:Cx) (H:List aa) (x y:Nat) (i k:Int) (es:List AV) (G:List aa):Prop where
 du:Du c G
 gx:G[x]?=some (.cells [bm (c.kd i)])
 gy:G[y]?=some (.cells [bm (c.kd k)])
 g6:G[H.length]?=some (.cells [.int .i64 0,.int .i64 0,.ah,.ah])
 gp:G[H.length + 3]?=some (.cells es)
 len:G.length=H.length + 4
 up:∀ j,j < H.length→j≠c.e→j≠c.g→G[j]?=H[j]?
structure XY (H:List aa) (x y:Nat):Prop where
 x1:H.length < x
 x2:x < H.length + 3
 y1:H.length < y
 y2:y < H.length + 3
theorem PB.call {c:Cx} {H G G':List aa} {x y:Nat} {i k:Int} {es:List AV} (hD:Du c H) (w:XY H x y) (h:PB c H x y i k es G) (hU:Up c G G') (jn:Du c G'):PB c H x y i k es G':=by
 obtain ⟨l1,l2,l3⟩:=hD.lt
 obtain ⟨w1,w2,w3,w4⟩:=w
 exact ⟨jn,by rw [hU.get x (by omega) (by omega),h.gx],by rw [hU.get y (by omega) (by omega),h.gy],by rw [hU.get _ (by omega) (by omega),h.g6],by rw [hU.get _ (by omega) (by omega),h.gp],by rw [hU.len,h.len],fun j h1 h2 h3=>by rw [hU.get j h2 h3,h.up j h1 h2 h3]⟩
theorem PB.set {c:Cx} {H G:List aa} {x y:Nat} {i k:Int} {es es':List AV} (hD:Du c H) (w:XY H x y) (h:PB c H x y i k es G):PB c H x y i k es' (G.set (H.length + 3) (.cells es')):=by
 obtain ⟨l1,l2,l3⟩:=hD.lt
 obtain ⟨w1,w2,w3,w4⟩:=w
 have hp:=aK h.gp
 exact ⟨h.du.set (by omega) (by omega) (by omega),by rw [List.getElem?_set_ne (by omega),h.gx],by rw [List.getElem?_set_ne (by omega),h.gy],by rw [List.getElem?_set_ne (by omega),h.g6],by rw [List.getElem?_set_self hp],by rw [List.length_set,h.len],fun j h1 h2 h3=>by rw [List.getElem?_set_ne (by omega),h.up j h1 h2 h3]⟩
theorem aau {c:Cx} {k x:Int} (h1:kx c x k) (h2:hJ c x k) {H:List aa} (hD:Du c H):aq Tryz.prog 147 [.int .i64 x,.ai (.ptr c.d 0),.ai (.int .i64 k)] H (iF c (E c.O (c.tm x) (c.tm k)∨R c.O (c.tm x) (c.tm k)) H):=by
 refine U1.2.calls rfl ?_
 simp only [U1,aJ]
 simp +contextual only [sZ,Nat.reduceEqDiff,Nat.reduceAdd,↓reduceIte,reduceCtorEq]
 refine af (h1 H hD) ?_
 rintro r H' ⟨b,rfl,hb,hU,jn⟩
 cases b with
 | true=>
   simp +contextual only [sZ,Nat.reduceEqDiff,↓reduceIte,reduceCtorEq]
   exact eB rfl ⟨fun _=>.inl (hb.1 rfl),fun _=>rfl⟩ hU jn
 | false=>
   simp +contextual only [sZ,Nat.reduceEqDiff,Nat.reduceAdd,↓reduceIte,reduceCtorEq]
   refine af (h2 H' jn) ?_
   rintro r H2 ⟨z,rfl,hz,P3,A6⟩
   simp +contextual only [sZ,Nat.reduceEqDiff,↓reduceIte,reduceCtorEq]
   refine eB rfl ⟨fun h=>.inr (hz.1 h),fun h=>hz.2 (h.resolve_left fun h=>absurd (hb.2 h) (by simp))⟩ (hU.trans P3) A6
theorem aav {c:Cx} {a b:List Int} {va vb:AV} (ha:IL va a) (hb:IL vb b) {p q:Nat} {x y:Int} (hx:0≤x∧x < a.length) (hy:0≤y∧y < b.length) (h:hJ c (a.getD x.toNat 0) (b.getD y.toNat 0)) {G:List aa} (hD:Du c G) (gp:G[p]?=some (.cells [va])) (gq:G[q]?=some (.cells [vb])) :
 aq Tryz.prog 148 [.int .i64 x,.ai (.ptr c.d 0),.ptr p 0,.ptr q 0,.ai (.int .i64 y)] G (iF c (R c.O (c.tm (a.getD x.toNat 0)) (c.tm (b.getD y.toNat 0))) G):=by
 refine U2.2.calls rfl ?_
 simp only [U2,aJ]
 obtain ⟨a1,a2,a3,a4⟩:=ha.one
 obtain ⟨b1,b2,b3,b4⟩:=hb.one
 simp +contextual only [gp,gq,a2,b2,ha.lens,hb.lens,ha.idx,hb.idx,sZ,Nat.reduceEqDiff,Nat.reduceAdd,Nat.reduceLT,↓reduceIte,reduceCtorEq]
 refine ⟨hx,hy,af (h G hD) ?_⟩
 rintro r G' ⟨z,rfl,hz,hU,jn⟩
 simp +contextual only [sZ,↓reduceIte,reduceCtorEq]
 exact eB rfl hz hU jn
def Qd:IR:=(.loop (.seq (.region [⟨none,some 173,(.bin .lss (.t 172) (.t 171))⟩] (.some [1,3,6,10,170,171,172,173])) (.seq (.cond (.t 173) .skip (.exit 5)) (.seq (.block 6 (.seq (.region [⟨none,some 174,(.indexAddr 1 (.t 170) (.t 172))⟩,⟨none,some 175,(.load .none (.t 174))⟩,⟨none,some 23,(.set (.t 175) false)⟩] (.some [1,3,6,10,23,170,171,172])) (.draw (.take .false ⟨none,some 176,(.fieldAddr 3 .none (.t 10))⟩ (.take .false ⟨none,some 178,(.load .none (.t 3))⟩ (.take .false ⟨none,some 179,(.set (.t 1) false)⟩ (.take .false ⟨none,some 180,(.set (.t 23) false)⟩ (.br ⟨none,some 177,(.eC (.t 176))⟩ (.br ⟨none,some 181,(.call (.c (.fn (.func 86) [] [])) [(.t 178),(.t 179),(.t 180)] (.some 1999))⟩ (.take .true ⟨none,some 182,(.buildSlice 0 4 (.agg [(.int .i64 0),(.int .i64 0),.ah,.ah]) 1 [(0,(.t 181))])⟩ (.br ⟨none,some 183,(.append 4 64 (.t 177) (.t 182))⟩ (.take .true ⟨none,some 184,(.fieldAddr 3 .none (.t 10))⟩ (.br ⟨none,none,(.fp (.t 184) 183)⟩ .done .nil)) .nil)) .nil) (.br ⟨none,some 181,(.call (.c (.fn (.func 86) [] [])) [(.t 178),(.t 179),(.t 180)] (.some 1999))⟩ (.take .false ⟨none,some 182,(.buildSlice 0 4 (.agg [(.int .i64 0),(.int .i64 0),.ah,.ah]) 1 [(0,(.t 181))])⟩ (.br ⟨none,some 177,(.eC (.t 176))⟩ (.br ⟨none,some 183,(.append 4 64 (.t 177) (.t 182))⟩ (.take .true ⟨none,some 184,(.fieldAddr 3 .none (.t 10))⟩ (.br ⟨none,none,(.fp (.t 184) 183)⟩ .done .nil)) .nil) .nil)) .nil)))))) (.some [1,3,6,10,170,171,172])))) (.region [⟨none,some 185,(.bin .add (.t 172) (.c (.int .i64 1)))⟩,⟨none,some 172,(.set (.t 185) false)⟩] (.some [1,3,6,10,170,171,172]))))))
theorem E3 {c:Cx} {H:List aa} (hD:Du c H) {x y:Nat} (w:XY H x y) {i k:Int} {rl at':Int} {l0:List PP} (Dq:l0.length≤1) {b:List Int} {vb:AV} (hb:IL vb b) (lb:b.length≤100000000) (hp:∀ z∈b,oR c i z) {G:List aa} (h:PB c H x y i k [.int .i64 rl,.int .i64 at',.ah,oQ l0] G) :
 lI ⟨Tryz.prog,none⟩ H.length Qd [(1,.int .i64 i),(3,.ai (.ptr c.d 0)),(6,.ptr H.length 0),(10,.ptr (H.length + 3) 0),(170,vb),(171,.int .i64 b.length),(172,.int .i64 0)] G fun e aB G'=>
  e=.exit 5∧get aB 6=.ptr H.length 0∧get aB 10=.ptr (H.length + 3) 0∧∃ qs,lD (Sh c.O) qs (c.tm i) (b.map c.tm)∧PB c H x y i k [.int .i64 rl,.int .i64 at',.ah,oQ (l0++qs)] G':=by
 obtain ⟨b1,b2,b3,b4⟩:=hb.one
 unfold Qd
 refine aE b.length (fun j (s:List aa×List PP)=>PB c H x y i k [.int .i64 rl,.int .i64 at',.ah,oQ (l0++s.2)] s.1∧s.2.length=j∧∀ j',j' < j→Sh c.O (s.2.getD j' default) (c.tm i) (c.tm (b.getD j' 0)))
  (fun j s=>[(1,.int .i64 i),(3,.ai (.ptr c.d 0)),(6,.ptr H.length 0),(10,.ptr (H.length + 3) 0),(170,vb),(171,.int .i64 b.length),(172,.int .i64 j)]) (fun j s=>s.1) (G,[]) ⟨⟨by rw [List.append_nil];exact h,rfl,fun j h=>by omega⟩,aA _ _ _⟩ fun j s hj hI=>?_
 obtain ⟨G,qs⟩:=s
 obtain ⟨kN,hlen,Qr⟩:=hI
 simp only at kN hlen Qr
 by_cases KR:(j:Int) < b.length
 ·have pO:j < b.length:=by omega
  have gp:=kN.gp
  have hl:(l0++qs).length < 1000000000:=by rw [List.length_append];omega
  have nh:=fun es=>kN.set (es':=es) hD w
  simp +contextual only [KR,decide_true,hb.lens,hb.idx,Int.toNat_natCast,gp,d3,s3,sZ,Nat.reduceEqDiff,Nat.reduceAdd,Nat.reduceLT,↓reduceIte,reduceCtorEq]
  have fin:∀ (q:PP) (G':List aa),Sh c.O q (c.tm i) (c.tm (b.getD j 0))→PB c H x y i k [.int .i64 rl,.int .i64 at',.ah,oQ (l0++(qs++[q]))] G'→∃ (j':Nat) (t:List aa×List PP),(j'≤b.length∧PB c H x y i k [.int .i64 rl,.int .i64 at',.ah,oQ (l0++t.2)] t.1∧t.2.length=j'∧∀ j'',j'' < j'→Sh c.O (t.2.getD j'' default) (c.tm i) (c.tm (b.getD j'' 0)))∧b.length - j' < b.length - j∧
   sle H.length [(1,.int .i64 i),(3,.ai (.ptr c.d 0)),(6,.ptr H.length 0),(10,.ptr (H.length + 3) 0),(170,vb),(171,.int .i64 b.length),(172,.int .i64 (IntKind.i64.wrap (j + 1)))] G' [(1,.int .i64 i),(3,.ai (.ptr c.d 0)),(6,.ptr H.length 0),(10,.ptr (H.length + 3) 0),(170,vb),(171,.int .i64 b.length),(172,.int .i64 j')] t.1:=by
   intro q G' hq aaw
   refine ⟨j + 1,(G',qs++[q]),⟨pO,aaw,by simp [hlen],fun j'' aeD=>?_⟩,by omega,aI (by rw [ax j (by omega)]) rfl⟩
   by_cases e:j''=j
   ·subst e
    have:(qs++[q]).getD j'' default=q:=by rw [← hlen];simp
    rw [this];exact hq
   ·have:(qs++[q]).getD j'' default=qs.getD j'' default:=by
     rw [List.getD_eq_getElem?_getD,List.getD_eq_getElem?_getD,List.getElem?_append_left (by omega)]
    rw [this];exact Qr j'' (by omega)
  refine ⟨by omega,?_,?_⟩
  ·refine af (hp _ (aN pO) _ (nh _).du) ?_
   rintro r G2 ⟨q,rfl,hq,hU,A6⟩
   have KV:=(nh _).call hD w hU A6
   have gp2:=KV.gp
   have AM:=fun es=>KV.set (es':=es) hD w
   obtain ⟨q1,q2,q3,q4,q5,q6,q7,q8,q9⟩:=a7 q
   obtain ⟨v1,v2,v3,v4,v5,v6⟩:=iC (l0++(qs++[q]))
   simp +contextual only [q1,q2,jz,Db _ _ hl,gp2,s3,List.append_assoc,sZ,Nat.reduceEqDiff,Nat.reduceAdd,Nat.reduceLT,↓reduceIte]
   have el:AV.ap 4 (ee (l0++(qs++[q])))=oQ (l0++(qs++[q])):=by rw [← List.append_assoc];exact rb _ _
   rw [el]
   exact ⟨iN _ _,fin q _ hq (AM _)⟩
  ·refine af (hp _ (aN pO) _ kN.du) ?_
   rintro r G2 ⟨q,rfl,hq,hU,A6⟩
   have KV:=kN.call hD w hU A6
   have gp2:=KV.gp
   have AM:=fun es=>KV.set (es':=es) hD w
   have gp3:=fun es=>(AM es).gp
   have wu:=fun es es'=>(AM es).set (es':=es') hD w
   obtain ⟨q1,q2,q3,q4,q5,q6,q7,q8,q9⟩:=a7 q
   obtain ⟨v1,v2,v3,v4,v5,v6⟩:=iC (l0++(qs++[q]))
   simp +contextual only [q1,q2,jz,Db _ _ hl,gp2,gp3,d3,s3,List.append_assoc,sZ,Nat.reduceEqDiff,Nat.reduceAdd,Nat.reduceLT,↓reduceIte]
   have el:AV.ap 4 (ee (l0++(qs++[q])))=oQ (l0++(qs++[q])):=by rw [← List.append_assoc];exact rb _ _
   rw [el]
   exact ⟨iN _ _,fin q _ hq (wu _ _)⟩
 ·have e:j=b.length:=by omega
  simp +contextual only [KR,decide_false,sZ,Nat.reduceEqDiff,↓reduceIte]
  refine ⟨qs,⟨by rw [hlen,e,List.length_map],fun j' uq=>?_⟩,kN⟩
  rw [List.length_map] at uq
  rw [cq uq];exact Qr j' (by omega)
end Go.aH
end
