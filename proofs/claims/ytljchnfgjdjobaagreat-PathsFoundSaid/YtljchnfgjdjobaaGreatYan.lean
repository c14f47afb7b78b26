/- Part 14 of 19 of the proof. -/
import Derived.Test.YtljchnfgjdjobaaGreatYak
import Derived.Test.YtljchnfgjdjobaaGreatYam
import Derived.Test.YtljchnfgjdjobaaGreatYac
import Derived.Test.YtljchnfgjdjobaaGreatYag
import Derived.KernelRfl
set_option linter.unusedVariables false
set_option linter.unusedSimpArgs false
set_option linter.defProp false
set_option linter.unusedSectionVars false
section
namespace Go.eN
open Go.aJ
inductive PP where
 | mk (r i:Int) (to:List Int) (l:List PP)
 deriving Inhabited
def PP.r:PP→Int | .mk r _ _ _=>r
def PP.i:PP→Int | .mk _ i _ _=>i
def PP.to:PP→List Int | .mk _ _ to _=>to
def PP.l:PP→List PP | .mk _ _ _ l=>l
mutual
def pz:PP→Nat
 | .mk _ _ _ l=>X5 l + 1
def X5:List PP→Nat
 | []=>0
 | x::r=>pz x + X5 r
end
theorem Hk {x:PP}:∀ {l:List PP},x∈l→pz x≤X5 l
 | y::r,h=>by
   rw [X5]
   rcases UQ.1 h with rfl | h
   ·omega
   ·have:=Hk h;omega
theorem Bq (p:PP):0 < pz p:=by cases p;rw [pz];omega
theorem Br {p x:PP} (h:x∈p.l):pz x < pz p:=by
 obtain ⟨r,i,to,l⟩:=p
 have:pz x≤X5 l:=Hk h
 rw [pz];omega
theorem eg {l:List PP} {i:Nat} (h:i < l.length):l.getD i default∈l:=by
 rw [sc,aap h];exact adg h
theorem Ji {l:List T} {i:Nat} (h:i < l.length):l.getD i default∈l:=by
 rw [sc,aap h];exact adg h
def PP.nil (q:PP):Prop:=q.r=0∧q.i=0∧q.to=[]∧q.l=[]
instance (q:PP):Decidable q.nil:=by
 unfold PP.nil
 have:Decidable (q.l=[]):=by cases q.l with
  | nil=>exact isTrue rfl
  | cons a b=>exact isFalse (by simp)
 exact inferInstance
def dy (to:List Int) (x:Int):Nat→Nat
 | 0=>0
 | n + 1=>dy to x n + if to.getD n 0=x then 1 else 0
def dm (to:List Int) (l:List PP) (x:Int):Nat→Nat
 | 0=>0
 | n + 1=>dm to l x n + if to.getD n 0=x∧(l.getD n default).nil then 1 else 0
theorem zF {to:List Int} {x:Int} {j:Nat}:∀ {n:Nat},j < n→to.getD j 0=x→1≤dy to x n
 | n + 1,h,e=>by
   rw [dy]
   by_cases hj:j=n
   ·subst hj;rw [if_pos e];omega
   ·have:=zF (n:=n) (by omega) e;omega
theorem tn {to:List Int} {x:Int} {j j':Nat} (hj:j < j') (e:to.getD j 0=x) (e':to.getD j' 0=x):∀ {n:Nat},j' < n→2≤dy to x n
 | n + 1,h=>by
   rw [dy]
   by_cases hn:j'=n
   ·subst hn;rw [if_pos e'];have:=zF hj e;omega
   ·have:=tn hj e e' (n:=n) (by omega);omega
theorem zG {to:List Int} {x:Int} {j j' n:Nat} (h:dy to x n≤1) (hj:j < n) (vi:j' < n) (e:to.getD j 0=x) (e':to.getD j' 0=x):j=j':=by
 rcases aeg j j' with h1 | h1 | h1
 ·have:=tn h1 e e' vi;omega
 ·exact h1
 ·have:=tn h1 e' e hj;omega
theorem iK {to:List Int} {l:List PP} {x:Int}:∀ {n:Nat},0 < dm to l x n↔∃ j,j < n∧to.getD j 0=x∧(l.getD j default).nil
 | 0=>by simp [dm]
 | n + 1=>by
   rw [dm]
   have ih:=iK (to:=to) (l:=l) (x:=x) (n:=n)
   by_cases h:to.getD n 0=x∧(l.getD n default).nil
   ·rw [if_pos h]
    exact ⟨fun _=>⟨n,by omega,h⟩,fun _=>by omega⟩
   ·rw [if_neg h,adR,ih]
    constructor
    ·rintro ⟨j,h1,h2⟩;exact ⟨j,by omega,h2⟩
    ·rintro ⟨j,h1,h2⟩
     have:j≠n:=fun e=>h (e ▸ h2)
     exact ⟨j,by omega,h2⟩
theorem ox {to:List Int} {l:List PP} {x:Int}:∀ n,dm to l x n≤dy to x n
 | 0=>yo _
 | n + 1=>by
   rw [dm,dy]
   have:=ox (to:=to) (l:=l) (x:=x) n
   by_cases h:to.getD n 0=x∧(l.getD n default).nil
   ·rw [if_pos h,if_pos h.1];omega
   ·rw [if_neg h];omega
def lR (S:PP→T→T→Prop) (l:List PP) (a:T) (bs:List T):Prop:=l.length=bs.length∧∀ j,j < bs.length→S (l.getD j default) a (bs.getD j default)
def Rc (Q:T→T→Prop) (S:PP→T→T→Prop) (to:List Int) (l:List PP) (az bs:List T):Prop:=
 to.length=bs.length∧l.length=bs.length∧
 (∀ j,j < bs.length→(0≤to.getD j 0∧to.getD j 0 < az.length)∧
   (if (l.getD j default).nil then Q (az.getD (to.getD j 0).toNat default) (bs.getD j default) else S (l.getD j default) (az.getD (to.getD j 0).toNat default) (bs.getD j default)))∧
 (∀ x:Nat,x < az.length→0 < dm to l x bs.length→dy to x bs.length≤1)∧∃ x:Nat,x < az.length∧dm to l x bs.length=0
def DR (Q:T→T→Prop) (S:PP→T→T→Prop) (i:Int) (l:List PP) (a:T) (az bs:List T) (bl:List T):Prop:=
 (0≤i∧i < az.length∧i≤bs.length)∧(∀ j,j < i.toNat→Q (az.getD j default) (bs.getD j default))∧
 (if i=bs.length then lR S l a bl else ∃ q r,l=q::r∧S q (az.getD i.toNat default) (bs.getD i.toNat default)∧lR S r a bl)
def Fs (O:Od) (S:PP→T→T→Prop) (p:PP) (a b:T):Prop:=
 a.k=2∧(
  (p.r=1∧p.to=[]∧(0≤p.i∧p.i < a.l.length)∧((p.l=[]∧E O (a.l.getD p.i.toNat default) b)∨∃ q,p.l=[q]∧S q (a.l.getD p.i.toNat default) b))∨
  (p.r=2∧p.to=[]∧p.i=0∧b.k=2∧O.pl b.n < O.pl a.n∧lR S p.l a b.l)∨
  (p.r=3∧p.to=[]∧b.k=2∧O.pl a.n=O.pl b.n∧O.sp (O.pl a.n)≠3∧DR (E O) S p.i p.l a (side (O.sp (O.pl a.n)) a.l) (side (O.sp (O.pl a.n)) b.l) b.l)∨
  (p.r=4∧p.i=0∧b.k=2∧O.pl a.n=O.pl b.n∧O.sp (O.pl a.n)=3∧Rc (E O) S p.to p.l a.l b.l))
theorem mS {S S':PP→T→T→Prop} {l:List PP} {a:T} {bs:List T} (h:∀ q∈l,∀ a b,S q a b↔S' q a b):lR S l a bs↔lR S' l a bs:=by
 refine and_congr_right fun hl=>?_
 constructor
 ·exact fun k j hj=>(h _ (eg (by omega)) _ _).1 (k j hj)
 ·exact fun k j hj=>(h _ (eg (by omega)) _ _).2 (k j hj)
theorem Jj {Q:T→T→Prop} {S S':PP→T→T→Prop} {to:List Int} {l:List PP} {az bs:List T} (h:∀ q∈l,∀ a b,S q a b↔S' q a b):Rc Q S to l az bs↔Rc Q S' to l az bs:=by
 refine and_congr_right fun _=>and_congr_right fun hl=>and_congr_left fun _=>?_
 constructor
 ·intro k j hj
  refine ⟨(k j hj).1,?_⟩
  have:=(k j hj).2
  split at this
  ·rename_i e;rw [if_pos e];exact this
  ·rename_i e;rw [if_neg e];exact (h _ (eg (by omega)) _ _).1 this
 ·intro k j hj
  refine ⟨(k j hj).1,?_⟩
  have:=(k j hj).2
  split at this
  ·rename_i e;rw [if_pos e];exact this
  ·rename_i e;rw [if_neg e];exact (h _ (eg (by omega)) _ _).2 this
theorem FV {Q:T→T→Prop} {S S':PP→T→T→Prop} {i:Int} {l:List PP} {a:T} {az bs bl:List T} (h:∀ q∈l,∀ a b,S q a b↔S' q a b):DR Q S i l a az bs bl↔DR Q S' i l a az bs bl:=by
 refine and_congr_right fun _=>and_congr_right fun _=>?_
 split
 ·exact mS h
 ·constructor
  ·rintro ⟨q,r,rfl,h1,h2⟩
   exact ⟨q,r,rfl,(h q aan _ _).1 h1,(mS fun x hx=>h x (aai _ hx)).1 h2⟩
  ·rintro ⟨q,r,rfl,h1,h2⟩
   exact ⟨q,r,rfl,(h q aan _ _).2 h1,(mS fun x hx=>h x (aai _ hx)).2 h2⟩
theorem DS {O:Od} {S S':PP→T→T→Prop} {p:PP} {a b:T} (h:∀ q∈p.l,∀ a b,S q a b↔S' q a b):Fs O S p a b↔Fs O S' p a b:=by
 refine and_congr_right fun _=>or_congr ?_ (or_congr ?_ (or_congr ?_ ?_))
 ·refine and_congr_right fun _=>and_congr_right fun _=>and_congr_right fun _=>or_congr Iff.rfl ?_
  constructor
  ·rintro ⟨q,e,k⟩;exact ⟨q,e,(h q (by rw [e];simp) _ _).1 k⟩
  ·rintro ⟨q,e,k⟩;exact ⟨q,e,(h q (by rw [e];simp) _ _).2 k⟩
 ·rw [mS h]
 ·rw [FV h]
 ·rw [Jj h]
def Re (O:Od):Nat→PP→T→T→Prop
 | 0=>fun _ _ _=>False
 | f + 1=>Fs O (Re O f)
def Sh (O:Od) (p:PP) (a b:T):Prop:=Re O (pz p) p a b
theorem qk (O:Od):∀ (f g:Nat) (p:PP) (a b:T),pz p≤f→pz p≤g→(Re O f p a b↔Re O g p a b)
 | 0,_,p,a,b,h,_=>by have:=Bq p;omega
 | _ + 1,0,p,a,b,_,h=>by have:=Bq p;omega
 | f + 1,g + 1,p,a,b,h1,h2=>by
   simp only [Re]
   refine DS fun q hq a b=>?_
   have:=Br hq
   exact qk O f g q a b (by omega) (by omega)
theorem qm {O:Od} {p:PP} {a b:T}:Sh O p a b↔Fs O (Sh O) p a b:=by
 have e:Re O (pz p) p a b↔Re O (pz p + 1) p a b:=qk O _ _ p a b (by omega) (by omega)
 unfold Sh
 rw [e]
 show Fs O (Re O (pz p)) p a b↔_
 refine DS fun q hq a b=>?_
 have:=Br hq
 exact qk O _ _ q a b (by omega) (by omega)
theorem Rf {G:T→T→Prop}:∀ (n:Nat) {l m:List T},n < l.length→n≤m.length→(∀ j,j < n→l.getD j default=m.getD j default)→(n=m.length∨G (l.getD n default) (m.getD n default))→Lx G l m
 | 0,x::l,[],_,_,_,_=>trivial
 | 0,x::l,y::m,_,_,_,h=>.inr (by simpa using h)
 | n + 1,x::l,[],_,h,_,_=>by simp at h
 | n + 1,x::l,y::m,h1,h2,h3,h4=>by
   refine .inl ⟨h3 0 (by omega),Rf n (by simpa using h1) (by simpa using h2) (fun j hj=>h3 (j + 1) (by omega)) ?_⟩
   simpa using h4
theorem FW {β:Type} (f:T→β) (a:List T):a.map f=(List.range a.length).map fun i=>f (a.getD i default):=by
 apply ad1
 ·simp
 ·intro i h1 h2
  have:i < a.length:=by simpa using h1
  simp [this]
theorem zH {β:Type} (f:T→β) (a:List T) (p:Nat→Bool):(a.map f).Perm (((List.range a.length).filter p).map (fun i=>f (a.getD i default))++((List.range a.length).filter fun i=>!p i).map fun i=>f (a.getD i default)):=by
 rw [FW,← ac3]
 exact (List.filter_append_perm p (List.range a.length)).symm.map _
theorem pK (n:Nat) (p:Nat→Bool):((List.range n).filter p).Nodup:=List.Pairwise.filter p List.nodup_range
theorem Ul {O:Od} {S:PP→T→T→Prop} {to:List Int} {l:List PP} {az bs:List T} (h:Rc (E O) S to l az bs) (hS:∀ q∈l,∀ a b,S q a b→R O a b):Mu (Gt O.sp) (az.map (norm O)) (bs.map (norm O)):=by
 obtain ⟨h1,h2,h3,h4,x0,JT,h5⟩:=h
 let n:=bs.length
 let U:Nat→Bool:=fun i=>decide (dm to l i n=0)
 let Z:Nat→Bool:=fun j=>!decide (l.getD j default).nil
 have pu:=zH (norm O) az U
 have pz:=zH (norm O) bs Z
 refine Xt (X:=((List.range az.length).filter U).map fun i=>norm O (az.getD i default)) (Y:=((List.range bs.length).filter Z).map fun i=>norm O (bs.getD i default)) (C:=((List.range bs.length).filter fun i=>!Z i).map fun i=>norm O (bs.getD i default)) ?_ pz ?_ ?_
 ·refine pu.trans (List.Perm.append_left _ ?_)
  have hp:(((List.range bs.length).filter fun j=>!Z j).map fun j=>(to.getD j 0).toNat).Perm ((List.range az.length).filter fun i=>!U i):=by
   rw [List.perm_ext_iff_of_nodup]
   ·intro i
    simp only [Z,U,n,aag,ab7,abq,adQ,abr,decide_eq_true_eq,decide_eq_false_iff_not]
    constructor
    ·rintro ⟨j,⟨hj,hn⟩,rfl⟩
     have:=(h3 j hj).1
     refine ⟨by omega,?_⟩
     have:0 < dm to l ((to.getD j 0).toNat:Int) bs.length:=iK.2 ⟨j,hj,by omega,hn⟩
     omega
    ·rintro ⟨hi,hu⟩
     obtain ⟨j,k1,k2,k3⟩:=iK.1 (show 0 < dm to l (i:Int) bs.length by omega)
     exact ⟨j,⟨k1,k3⟩,by omega⟩
   ·rw [List.Nodup,List.pairwise_map]
    refine List.Pairwise.imp_of_mem ?_ (pK _ _)
    intro j j' hj vi eU he
    simp only [Z,ab7,abq,adQ,decide_eq_true_eq] at hj vi
    have b1:=(h3 j hj.1).1
    have b2:=(h3 j' vi.1).1
    have e1:to.getD j 0=(((to.getD j 0).toNat:Nat):Int):=by omega
    have e2:to.getD j' 0=(((to.getD j 0).toNat:Nat):Int):=by omega
    have hp:0 < dm to l (((to.getD j 0).toNat:Nat):Int) bs.length:=iK.2 ⟨j,hj.1,e1,hj.2⟩
    exact eU (zG (h4 _ (by omega) hp) hj.1 vi.1 e1 e2)
   ·exact pK _ _
  refine (hp.map fun i=>norm O (az.getD i default)).symm.trans ?_
  rw [adp]
  refine List.Perm.of_eq (acS fun j hj=>?_)
  simp only [Z,ab7,abq,adQ,decide_eq_true_eq] at hj
  have:=(h3 j hj.1).2
  rw [if_pos hj.2] at this
  exact this
 ·intro e
  have:norm O (az.getD x0 default)∈((List.range az.length).filter U).map fun i=>norm O (az.getD i default):=
   aag.2 ⟨x0,ab7.2 ⟨abq.2 JT,by simp [U,n,h5]⟩,rfl⟩
  rw [e] at this
  cases this
 ·intro y hy
  obtain ⟨j,hj,rfl⟩:=aag.1 hy
  simp only [Z,ab7,abq,abr,decide_eq_false_iff_not] at hj
  obtain ⟨hj,hn⟩:=hj
  have b1:=h3 j hj
  rw [if_neg hn] at b1
  refine ⟨norm O (az.getD (to.getD j 0).toNat default),aag.2 ⟨(to.getD j 0).toNat,ab7.2 ⟨abq.2 (by omega),?_⟩,rfl⟩,hS _ (eg (by omega)) _ _ b1.2⟩
  simp only [U,n,decide_eq_true_eq]
  by_cases hp:0 < dm to l ((to.getD j 0).toNat:Int) bs.length
  ·have ht:=h4 _ (by omega) hp
   obtain ⟨j',k1,k2,k3⟩:=iK.1 hp
   have:=zG ht hj k1 (by omega) k2
   exact absurd (this ▸ k3) hn
  ·omega
theorem o8 {f:T→T} {l:List T} {i:Nat} (h:i < l.length):(l.map f).getD i default=f (l.getD i default):=by
 simp [h]
theorem abA {O:Od}:∀ (N:Nat) {p:PP} {a b:T},pz p≤N→Sh O p a b→R O a b:=by
 intro N
 induction N with
 | zero=>intro p a b h;have:=Bq p;omega
 | succ N ih=>
 intro p a b hN h
 have hm:∀ q∈p.l,∀ a b,Sh O q a b→R O a b:=fun q hq a b hs=>ih (by have:=Br hq;omega) hs
 have iQ:∀ {l:List PP} {bs:List T},(∀ q∈l,q∈p.l)→lR (Sh O) l a bs→∀ y∈bs,R O a y:=by
  intro l bs hq hl y hy
  obtain ⟨j,hj,rfl⟩:=List.mem_iff_getElem.1 hy
  have:=hl.2 j hj
  have e:bs.getD j default=bs[j]:=by simp [hj]
  rw [e] at this
  exact hm _ (hq _ (eg (by have:=hl.1;omega))) _ _ this
 obtain ⟨ha,h⟩:=qm.1 h
 rcases h with ⟨_,_,hi,h⟩ | ⟨_,_,_,hb,hp,h⟩ | ⟨_,_,hb,hp,hs,h1,h2,h3⟩ | ⟨_,_,hb,hp,hs,h⟩
 ·refine Xv ha (Ji (i:=p.i.toNat) (by omega)) ?_
  rcases h with ⟨_,h⟩ | ⟨q,e,h⟩
  ·exact .inl h
  ·exact .inr (hm q (by rw [e];simp) _ _ h)
 ·exact oh.2 ⟨ha,.inr ⟨hb,.inl ⟨hp,iQ (fun _ h=>h) h⟩⟩⟩
 ·refine oh.2 ⟨ha,.inr ⟨hb,.inr (.inl ⟨hp.symm,hs,?_,?_⟩)⟩⟩
  ·split at h3
   ·exact iQ (fun _ h=>h) h3
   ·obtain ⟨q,r,e,_,h3⟩:=h3
    exact iQ (fun x hx=>by rw [e];exact aai _ hx) h3
  ·rw [rv,rv]
   have hla:p.i.toNat < (side (O.sp (O.pl a.n)) a.l).length:=by omega
   refine Rf p.i.toNat (by simpa using hla) (by simp;omega) (fun j hj=>?_) ?_
   ·rw [o8 (by omega),o8 (by omega)]
    exact h2 j hj
   ·by_cases hi:p.i=(side (O.sp (O.pl a.n)) b.l).length
    ·left;simp;omega
    ·rw [if_neg hi] at h3
     obtain ⟨q,r,e,h3,_⟩:=h3
     right
     rw [o8 (by omega),o8 (by omega)]
     exact hm q (by rw [e];simp) _ _ h3
 ·exact oh.2 ⟨ha,.inr ⟨hb,.inr (.inr ⟨hp.symm,hs,Ul h hm⟩)⟩⟩
theorem Sh.gt {O:Od} {p:PP} {a b:T} (h:Sh O p a b):R O a b:=abA _ (yo _) h
end Go.eN
end
section
set_option maxRecDepth 100000
namespace Go.aJ
open Go Go.Proofs Go.eN
mutual
def ep:PP→AV
 | .mk r i to l=>.agg [.int .i64 r,.int .i64 i,.al 0 (ints to),.al 0 (eh l)]
def eh:List PP→List AV
 | []=>[]
 | x::r=>ep x::eh r
end
theorem oz (p:PP):ep p=.agg [.int .i64 p.r,.int .i64 p.i,.al 0 (ints p.to),.al 0 (eh p.l)]:=by cases p;rw [ep];rfl
theorem lS:∀ l,eh l=l.map ep
 | []=>rfl
 | x::r=>by simp [eh,lS r]
theorem eK (l:List PP):(eh l).length=l.length:=by simp [lS]
mutual
theorem gh (n:Nat):∀ p,(ep p).a8 n=true
 | .mk r i to l=>by simp [ep,AV.a8,ak,aW,iX n l]
theorem iX (n:Nat):∀ l,ak n (eh l)=true
 | []=>rfl
 | x::r=>by simp [eh,ak,gh n x,iX n r]
end
theorem a9 (p:PP):(ep p).val=true∧(ep p).cells.length=4∧(ep p).cells.all AV.one=true∧(ep p).ae=ep p∧(ep p).drop=ep p∧(∀ n,(ep p).a8 n=true)∧AV.agg (ep p).cells=ep p∧(ep p).cells.map AV.drop=(ep p).cells∧(ep p).cells.map AV.ae=(ep p).cells:=by
 refine ⟨?_,?_,?_,?_,?_,fun n=>gh n p,?_,?_,?_⟩ <;> (rw [oz];rfl)
theorem DU (p:PP) (φ:AV→Prop):aq 0 none (.aj (ep p)) φ=φ (.aj (.int .i64 p.r)):=by rw [oz];simp [aq,apart,AV.cells,AV.one]
theorem Ep (p:PP) (φ:AV→Prop):aq 1 none (.aj (ep p)) φ=φ (.aj (.int .i64 p.i)):=by rw [oz];simp [aq,apart,AV.cells,AV.one]
theorem PV (p:PP) (φ:AV→Prop):aq 2 none (.aj (ep p)) φ=φ (.aj (.al 0 (ints p.to))):=by rw [oz];simp [aq,apart,AV.cells,AV.one]
theorem LQ (p:PP) (φ:AV→Prop):aq 3 none (.aj (ep p)) φ=φ (.aj (.al 0 (eh p.l))):=by rw [oz];simp [aq,apart,AV.cells,AV.one]
theorem rJ (o:Nat) (l:List PP):(∀ (own:Nat) (xs:List AV),AV.al o (eh l)=AV.al own xs→∀ z∈xs,z.cells.length=4)=True:=by
 simp only [eq_iff_iff,iff_true]
 intro own xs e z hz
 cases e
 rw [lS] at hz
 obtain ⟨y,_,rfl⟩:=aag.1 hz
 exact (a9 y).2.1
theorem zJ (l:List PP) (i:Nat) (h:i < l.length):(eh l).getD i .any=ep (l.getD i default):=by
 simp [lS,h]
theorem Bs (e o:Nat) (l:List PP) (k:IntKind) (i:Int) (φ:AV→Prop):aC e (.al o (eh l)) (.int k i) φ=((0≤i∧i < l.length)∧φ (.aj (ep (l.getD i.toNat default)))):=by
 simp only [aC,eK,eq_iff_iff]
 constructor
 ·rintro ⟨h0,h,h2⟩;rw [zJ _ _ h] at h2;exact ⟨by omega,h2⟩
 ·rintro ⟨⟨h0,h⟩,h2⟩
  have h:i.toNat < l.length:=by omega
  rw [zJ _ _ h];exact ⟨h0,h,h2⟩
theorem rK (p:PP) (H:List aa) (φ:AV→Prop):aV (some 4) (.aj (ep p)) H φ=φ (ep p):=by
 obtain ⟨_,h2,_,_,_,_,h7,_⟩:=a9 p
 simp [aV,h2,h7]
theorem Um (l:List PP):sq 4 (eh l)=True:=by
 simp only [eq_iff_iff,iff_true]
 intro z hz
 rw [lS] at hz
 obtain ⟨y,_,rfl⟩:=aag.1 hz
 obtain ⟨h1,h2,h3,h4,h5,_⟩:=a9 y
 first | exact ⟨h1,h2,h3⟩ | exact ⟨h2,h1,h3⟩ | exact ⟨h1,h2⟩ | (constructor <;> first | assumption | simp [*])
def Bt (P:Px) (id:Nat) (xs:List AV) (H:List aa) (K:AV→List aa→Prop):Prop:=∃ bR,xP xs bR∧me P id bR H K
@[congr] theorem PW {P:Px} {id:Nat} {xs xs':List AV} {H H':List aa} {K:AV→List aa→Prop} (h:gG xs=xs') (h2:H=H'):Bt P id xs H K=Bt P id xs' H' K:=by subst h;subst h2;rfl
theorem Hl {P:Px} {env:Env} {H:List aa} (id:Nat) (args:List IX) (pass:Option Nat) (K:AV→Env→List aa→Prop):pw P (.nF id) args pass env H K=Bt P id (aH env pass 0 args) H (fun r H'=>K r (cP env (bh args pass)) H'):=aei
theorem Un (id:Nat):(AV.nF id).ae=.nF id:=aei
theorem zK {P:Program} {id:Nat} {xs:List AV} {H:List aa} {R K:AV→List aa→Prop} (hc:jS P id xs H R) (hk:∀ r H',R r H'→K r H'):Bt (P:Px) id xs H K:=⟨xs,b9 _,fE.mono hc hk⟩
theorem tu {P:Program} (g:FuncId) (first cap:List AV) (lc:iP) (env:Env) (H:List aa) (K:Option Code→List aa→Prop) {R:AV→List aa→Prop} (he:∀ (vs:Array Value) (w:World),(callFunc g vs).run P w=.ok (.enter g vs) w)
 (hc:aw P g (first.map AV.ae++[.nF H.length]++cap.map AV.ae) (H++[.loop .ready lc (kS lc.n env)]) R) (hk:∀ r H',R r H'→behind H.length H' K):wN (P:Px) (.fn (.func g) first cap) lc env H K:=
 ⟨he,_,b9 _,dW.of (hc.mono hk)⟩
theorem abB (n:Nat) (hn:n < 4611686018427387904) (id:Nat) (G:Nat→List aa) (hl:∀ j,(G j).length=(G 0).length) (hy:∀ j,j < n→jS Tryz.prog id [.int .i64 (j:Int)] (G j) fun r H'=>r=.bool true∧H'=G (j + 1)) :
 aw Tryz.prog 201 [.nF id,.aj (.int .i64 n)] (G 0) fun r H'=>r=.tuple []∧H'=G n:=by
 refine Ww.2.calls rfl ?_
 simp only [Ww,aK]
 simp +contextual only [sZ,Nat.reduceEqDiff,Nat.reduceAdd,↓reduceIte,reduceCtorEq]
 refine aR n (fun j=>True) (fun j=>[(0,.nF id),(1,.aj (.int .i64 n)),(3,.int .i64 j)]) G ⟨trivial,aD _ _ _⟩ fun j hj _=>?_
 by_cases hjn:(j:Int) < n
 ·simp +contextual only [hjn,decide_true,Hl,Un,sZ,Nat.reduceEqDiff,Nat.reduceAdd,↓reduceIte,reduceCtorEq]
  refine zK (hy j (by omega)) ?_
  rintro r H' ⟨rfl,rfl⟩
  simp +contextual only [sZ,Nat.reduceEqDiff,↓reduceIte,reduceCtorEq]
  exact ⟨j + 1,by omega,by omega,aE (by rw [ay j (by omega)]) rfl⟩
 ·have e:j=n:=by omega
  subst e
  simp +contextual only [hjn,decide_false,sZ,Nat.reduceEqDiff,↓reduceIte,reduceCtorEq]
  exact iU (hl j).symm rfl
end Go.aJ
end
section
set_option maxRecDepth 100000
namespace Go.aJ
open Go Go.Proofs Go.eN
def upto (n:Nat):List Int:=(List.range n).map Int.ofNat
theorem zL (n:Nat):upto (n + 1)=upto n++[(n:Int)]:=by simp [upto,adx]
theorem DV (n:Nat):(upto n).length=n:=by simp [upto]
theorem xi {n:Nat} {x:Int}:x∈upto n↔0≤x∧x < n:=by
 simp only [upto,aag,abq]
 constructor
 ·rintro ⟨j,h,rfl⟩;exact ⟨Int.natCast_nonneg j,Int.ofNat_lt.2 h⟩
 ·intro h;exact ⟨x.toNat,by omega,by simp;omega⟩
def xj (j:Nat):AV:=match j with | 0=>.ah | j + 1=>.al 1 (ints (upto (j + 1)))
theorem LR (j:Nat) (h:j < 1000000000) (ψ:List AV→Prop) (hψ:ψ (ints (upto (j + 1)))):bw 1 8 (xj j) (.al 0 [.int .i64 (j:Int)]) ψ:=by
 have e1:ints (upto j)++[AV.int .i64 (j:Int)]=ints (upto (j + 1)):=by rw [zL];simp [ints]
 have jv:sq 1 [AV.int .i64 (j:Int)]:=of_eq_true (mI [(j:Int)])
 cases j with
 | zero=>
   rw [xj,mE]
   exact ⟨by simp,jv,hψ⟩
 | succ j=>
   rw [xj,kZ]
   exact ⟨by rw [ax,DV];simp;omega,jv,by rw [e1];exact hψ⟩
theorem LS (j:Nat):(xj j).ae=bo (upto j):=by
 cases j with
 | zero=>rfl
 | succ j=>rw [xj,zL];cases h:upto j <;> rfl
theorem Bu:ca.n=13:=by kernel_rfl
theorem xk:ca.ps=[7]:=by kernel_rfl
theorem tv {id:Nat} {H:List aa} {K:List aa→Prop} {lc:iP} {es:List AV} (h:H[id]?=some (.loop .ready lc es)):jZ id H K=K (H.set id (.loop .busy lc es)):=by
 unfold jZ;rw [h]
theorem FX {n0 id:Nat} {R:AV→List aa→Prop} {H:List aa} {lc:iP} {es:List AV} (h:H[id]?=some (.loop .busy lc es)):qP n0 id R .normal H=Ie n0 true (H.set id (.loop .ready lc es)) R:=by
 unfold qP;rw [h]
theorem xl {id:Nat} {H:List aa} {K:Option Code→List aa→Prop} {lc:iP} {es:List AV} (h:H[id]?=some (.loop .ready lc es)):behind id H K=K none (H.set id (.loop .eO lc es)):=by
 unfold behind;rw [h]
theorem xm {P:Px} {n0:Nat} {ia ib:IR} {env:Env} {H:List aa} {id:Nat} {R:AV→List aa→Prop}
 (h:lW P n0 ia env H fun e env1 H1=>e=.normal∧jZ id H1 fun H2=>lW P n0 ib env1 H2 fun e _ H3=>qP n0 id R e H3):m9 P n0 ia env H fun e env1 H1=>e=.normal∧jZ id H1 fun H2=>m9 P n0 ib env1 H2 fun e _ H3=>qP n0 id R e H3:=by
 refine vf h ?_
 rintro x e H' ⟨h1,h2⟩
 refine ⟨h1,?_⟩
 unfold jZ at *
 split at h2
 ·rename_i e'
  exact vf h2 fun _ _ _ h=>h
 ·exact h2.elim
theorem abC (n:Nat) (hn:n < 1000000000):Pure Tryz.prog 200 [.ah,.fn (.func 201) [] [.aj (.int .i64 n)]] (bo (upto n)):=by
 refine fun H=>Wv.calls rfl ?_
 simp only [QC,QB]
 simp +contextual only [mG,sZ,Nat.reduceEqDiff,Nat.reduceAdd,↓reduceIte,reduceCtorEq]
 have el:∀ X:List aa,(H++X).length=H.length + X.length:=fun X=>aab
 obtain ⟨es,Ab⟩:∃ es,es=kS ca.n [(2,AV.ptr H.length 0),(6,AV.fn (.func 201) [] [.aj (.int .i64 n)])]:=⟨_,rfl⟩
 have ees:es=[.any,.any,.ptr H.length 0,.any,.any,.any,.fn (.func 201) [] [.aj (.int .i64 n)],.any,.any,.any,.any,.any,.any]:=by rw [Ab,Bu];rfl
 let G:Nat→List aa:=fun j=>H++[.cells [xj j],.loop .ready ca es]
 have hG:∀ j,(G j).length=H.length + 2:=fun j=>by simp [G]
 have g1:∀ j,(G j)[H.length + 1]?=some (.loop .ready ca es):=fun j=>by simp [G]
 refine tu (P:=Tryz.prog) (R:=fun r H'=>r=.tuple []∧H'=G n) 201 [] [.aj (.int .i64 n)] ca _ _ _ Tryz.call201 ?_ ?_
 ·rw [← Ab]
  have e1:(H++[aa.cells [AV.ah]]).length=H.length + 1:=by simp
  have e2:(H++[aa.cells [AV.ah]]++[.loop .ready ca es])=G 0:=by simp [G,xj]
  rw [e1,e2]
  refine abB n (by omega) (H.length + 1) G (fun j=>by rw [hG,hG]) fun j hj=>?_
  refine oN (lc:=ca) (es:=es) (g1 j) N0 N1 ⟨by rw [ees,Bu];rfl,by rw [xk];rfl,by rw [xk,Bu];rfl,?_,?_⟩ (xm ?_)
  ·rw [ees];intro x hx;simp only [UQ,aaY,or_false] at hx
   rcases hx with rfl | rfl | rfl | rfl | rfl | rfl | rfl | rfl | rfl | rfl | rfl | rfl | rfl <;> rfl
  ·intro x hx;simp only [UQ,aaY,or_false] at hx;subst hx;rfl
  ·have ez:(ca.ps.zip [AV.int .i64 (j:Int)]).reverse++b8 0 es=(7,.int .i64 (j:Int))::b8 0 es:=by rw [xk];rfl
   rw [ez,ees]
   simp only [GM,GN]
   have hb:∀ K,jZ (H.length + 1) (G j) K=K (H++[.cells [xj j],.loop .busy ca es]):=fun K=>by rw [tv (g1 j)];simp [G]
   simp +contextual only [hb,sZ,Nat.reduceEqDiff,Nat.reduceAdd,Nat.reduceLT,↓reduceIte,reduceCtorEq]
   refine LR j (by omega) _ ?_
   have hz:∀ x:AV,(H++[aa.cells [x],.loop .busy ca es])[H.length + 1]?=some (.loop .busy ca es):=fun x=>by simp
   have kM:(AV.al 1 (ints (upto (j + 1)))).a8 (H.length + 1)=true:=by rw [ch];exact aW _ _
   simp +contextual only [kM,sZ,Nat.reduceEqDiff,Nat.reduceAdd,Nat.reduceLT,↓reduceIte]
   rw [FX (hz _)]
   refine ⟨by simp [G],rfl,?_⟩
   simp [G,xj]
   exact aak (by simp)
 ·rintro r G' ⟨rfl,rfl⟩
  have e1:(H++[aa.cells [AV.ah]]).length=H.length + 1:=by simp
  rw [e1,xl (g1 n)]
  have e3:(G n).set (H.length + 1) (.loop .eO ca es)=H++[.cells [xj n],.loop .eO ca es]:=by simp [G]
  rw [e3]
  simp +contextual only [pP,sZ,Nat.reduceAdd,Nat.reduceLT,↓reduceIte,reduceCtorEq]
  have e4:(xj n).ae.ae=bo (upto n):=by rw [LS];exact (aG _).2.1
  rw [e4]
  exact Lh ((aG _).2.2.1 _) rfl
theorem abD (n:Nat) (hn:n < 1000000000):Pure Tryz.prog 152 [.fn (.func 201) [] [.aj (.int .i64 n)]] (bo (upto n)):=by
 refine fun H=>Wi.2.calls rfl ?_
 simp only [Wi,aK]
 simp +contextual only [sZ,Nat.reduceAdd,↓reduceIte,reduceCtorEq]
 refine af (abC n hn) ?_
 have e4:(bo (upto n)).ae=bo (upto n):=(aG _).2.1
 simp +contextual only [e4,sZ,↓reduceIte,reduceCtorEq]
 exact bf ((aG _).2.2.1 _) rfl
theorem abE (n:Int):Pure Tryz.prog 153 [.int .i64 n] (.fn (.func 201) [] [.aj (.int .i64 n)]):=by
 refine fun H=>Wj.2.calls rfl ?_
 simp only [Wj,aK]
 simp +contextual only [sZ,Nat.reduceEqDiff,Nat.reduceAdd,↓reduceIte,reduceCtorEq]
 exact bf rfl rfl
end Go.aJ
end
section
set_option maxRecDepth 100000
namespace Go.aJ
open Go Go.Proofs Go.eN
def jw (c:Cx) (i k:Int) (p:PP):Prop:=∀ H,Du c H→aw Tryz.prog 87 [.ptr c.d 0,.int .i64 i,.int .i64 k,ep p] H (iO c (Sh c.O p (c.tm i) (c.tm k)) H)
theorem abF {c:Cx} {b:List Int} {vb:AV} (hb:IL vb b) {q:Nat} {i j:Int} {l:List PP} (hj:0≤j∧j < b.length) (hl:l.length=b.length) (h:jw c i (b.getD j.toNat 0) (l.getD j.toNat default)) {G:List aa} (hD:Du c G) (gq:G[q]?=some (.cells [vb])) :
 aw Tryz.prog 154 [.int .i64 j,.aj (.ptr c.d 0),.aj (.int .i64 i),.ptr q 0,.aj (.al 0 (eh l))] G (iO c (¬ Sh c.O (l.getD j.toNat default) (c.tm i) (c.tm (b.getD j.toNat 0))) G):=by
 refine Wk.2.calls rfl ?_
 simp only [Wk,aK]
 obtain ⟨b1,b2,b3,b4⟩:=hb.one
 obtain ⟨p1,p2,p3,p4,p5,p6,p7,p8,p9⟩:=a9 (l.getD j.toNat default)
 simp +contextual only [gq,b2,hb.lens,hb.idx,Bs,rJ,rK,p4,sZ,Nat.reduceEqDiff,Nat.reduceAdd,Nat.reduceLT,↓reduceIte,reduceCtorEq]
 refine ⟨hj,⟨hj.1,by omega⟩,ag (h G hD) ?_⟩
 rintro r G' ⟨z,rfl,hz,hU,jC⟩
 simp +contextual only [sZ,↓reduceIte,reduceCtorEq]
 refine eG (b:=!z) rfl ?_ hU jC
 rw [← hz];cases z <;> simp
theorem cr {b:List Int} {f:Int→T} {j:Nat} (h:j < b.length):(b.map f).getD j default=f (b.getD j 0):=by simp [h]
theorem Uo {c:Cx} {b:List Int} {vb:AV} (hb:IL vb b) (lb:b.length < 1000000000) {q:Nat} (hq:q≠c.e∧q≠c.g) {i:Int} {l:List PP} (h:∀ j,j < b.length→j < l.length→jw c i (b.getD j 0) (l.getD j default)) {G:List aa} (hD:Du c G) (gq:G[q]?=some (.cells [vb])) :
 aw Tryz.prog 151 [.al 0 (eh l),.ptr q 0,.aj (.ptr c.d 0),.aj (.int .i64 i)] G (iO c (lR (Sh c.O) l (c.tm i) (b.map c.tm)) G):=by
 refine Wh.2.calls rfl ?_
 simp only [Wh,aK]
 obtain ⟨b1,b2,b3,b4⟩:=hb.one
 simp +contextual only [gq,b2,hb.aN,hb.len (by omega),eK,sZ,Nat.reduceEqDiff,Nat.reduceAdd,Nat.reduceLT,↓reduceIte,reduceCtorEq]
 have e1:lR (Sh c.O) l (c.tm i) (b.map c.tm)↔l.length=b.length∧∀ j,j < b.length→Sh c.O (l.getD j default) (c.tm i) (c.tm (b.getD j 0)):=by
  unfold lR
  rw [acW]
  refine and_congr_right fun _=>⟨fun h j hj=>?_,fun h j hj=>?_⟩
  ·have:=h j hj;rwa [cr hj] at this
  ·rw [cr hj];exact h j hj
 refine fun MN=>⟨fun he=>?_,fun eU=>?_⟩
 ·refine af (abE _) ?_
  simp +contextual only [sZ,Nat.reduceEqDiff,Nat.reduceAdd,↓reduceIte]
  refine af (abD b.length lb) ?_
  have k2:∀ l,(bo l).ae=bo l:=fun l=>(aG l).2.1
  simp +contextual only [k2,sZ,Nat.reduceEqDiff,Nat.reduceAdd,↓reduceIte,reduceCtorEq]
  refine ag (DD (SD.Bf c G) (.inl rfl:IL (bo (upto b.length)) (upto b.length)) (by rw [DV];omega) 154 [] [.aj (.ptr c.d 0),.aj (.int .i64 i),.ptr q 0,.aj (.al 0 (eh l))] rfl rfl (Q:=fun j=>¬ Sh c.O (l.getD j.toNat default) (c.tm i) (c.tm (b.getD j.toNat 0)))
   (fun x hx G' eF=>?_) ⟨hD,Up.refl c G⟩) ?_
  ·have hx:=xi.1 hx
   exact (abF hb ⟨hx.1,hx.2⟩ (by omega) (h x.toNat (by omega) (by omega)) eF.1 (by rw [eF.2.get q hq.1 hq.2,gq])).mono fun r H' hr=>hr.sb eF
  ·rintro r G' ⟨z,rfl,hz,eF⟩
   simp +contextual only [sZ,Nat.reduceEqDiff,↓reduceIte,reduceCtorEq]
   refine eG (b:=!z) rfl ?_ eF.2 eF.1
   rw [e1]
   cases z with
   | true=>
     obtain ⟨x,hx,hn⟩:=hz.1 rfl
     have hx:=xi.1 hx
     exact ⟨fun h=>by simp at h,fun h=>absurd (h.2 x.toNat (by omega)) hn⟩
   | false=>
     refine ⟨fun _=>⟨by omega,fun j hj=>?_⟩,fun _=>rfl⟩
     by_cases hs:Sh c.O (l.getD j default) (c.tm i) (c.tm (b.getD j 0))
     ·exact hs
     ·exact absurd (hz.2 ⟨(j:Int),xi.2 ⟨by omega,by omega⟩,hs⟩) (by simp)
 ·refine eG rfl ⟨fun h=>by simp at h,fun h=>?_⟩ (Up.refl c G) hD
  have:=(e1.1 h).1
  exact absurd (by omega) eU
end Go.aJ
end
section
set_option maxRecDepth 100000
namespace Go.aJ
open Go Go.Proofs Go.eN
theorem FY {P:Px} {t:DT} {f:AV→Env} {v:AV} {H0 H:List aa} {K1 K2:Env→List aa→Prop} (h:iw v H0 fun x=>jn P t (f x) H K1) (hk:∀ e G,K1 e G→K2 e G):iw v H0 fun x=>jn P t (f x) H K2:=by
 unfold iw at *
 split at h
 ·exact dI h hk
 ·unfold fz at *
  split at h <;> first | exact dI h hk | exact h.elim | (intro hl;exact dI (h hl) hk) | skip
  all_goals (split at h <;> first | exact dI h hk | exact h.elim)
structure CS (c:Cx) (H:List aa) (p q:Nat) (ts ps:List Int) (G:List aa):Prop where
 du:Du c G
 gp:G[p]?=some (bI ts)
 gq:G[q]?=some (bI ps)
 len:G.length=H.length + 2
 up:∀ j,j < H.length→j≠c.e→j≠c.g→G[j]?=H[j]?
structure PQ (H:List aa) (p q:Nat):Prop where
 ne:p≠q
 p1:H.length≤p
 q1:H.length≤q
theorem CS.call {c:Cx} {H G G':List aa} {p q:Nat} {ts ps:List Int} (hD:Du c H) (w:PQ H p q) (h:CS c H p q ts ps G) (hU:Up c G G') (jC:Du c G'):CS c H p q ts ps G':=by
 obtain ⟨l1,l2,l3⟩:=hD.lt
 obtain ⟨w1,w2,w3⟩:=w
 exact ⟨jC,by rw [hU.get p (by omega) (by omega),h.gp],by rw [hU.get q (by omega) (by omega),h.gq],by rw [hU.len,h.len],fun j h1 h2 h3=>by rw [hU.get j h2 h3,h.up j h1 h2 h3]⟩
theorem CS.abG {c:Cx} {H G:List aa} {p q:Nat} {ts ps ts':List Int} (hD:Du c H) (w:PQ H p q) (h:CS c H p q ts ps G):CS c H p q ts' ps (G.set p (bI ts')):=by
 obtain ⟨l1,l2,l3⟩:=hD.lt
 obtain ⟨w1,w2,w3⟩:=w
 have hp:=aM h.gp
 exact ⟨h.du.set (by omega) (by omega) (by omega),by rw [Rx hp],by rw [yq w1,h.gq],by rw [acD,h.len],fun j h1 h2 h3=>by rw [yq (by omega),h.up j h1 h2 h3]⟩
theorem CS.abH {c:Cx} {H G:List aa} {p q:Nat} {ts ps ps':List Int} (hD:Du c H) (w:PQ H p q) (h:CS c H p q ts ps G):CS c H p q ts ps' (G.set q (bI ps')):=by
 obtain ⟨l1,l2,l3⟩:=hD.lt
 obtain ⟨w1,w2,w3⟩:=w
 have hq:=aM h.gq
 exact ⟨h.du.set (by omega) (by omega) (by omega),by rw [yq (Ne.symm w1),h.gp],by rw [Rx hq],by rw [acD,h.len],fun j h1 h2 h3=>by rw [yq (by omega),h.up j h1 h2 h3]⟩
theorem CS.fin {c:Cx} {H G:List aa} {p q:Nat} {ts ps:List Int} (hD:Du c H) (h:CS c H p q ts ps G) {b:Bool} {Q:Prop} (hb:b=true↔Q) {s:Nat}:bV H.length [.t s] [(s,.bool b)] G (iO c Q H):=by
 obtain ⟨l1,l2,l3⟩:=hD.lt
 refine aX H.length (yo _) (by rw [aA,if_pos rfl];rfl) ?_
 rw [aA,if_pos rfl]
 refine ⟨b,rfl,hb,⟨by rw [acN,h.len];omega,fun j h1 h2=>?_⟩,h.du.take l1 l2 l3⟩
 rw [aam]
 split
 ·rename_i hj;exact h.up j hj h1 h2
 ·rename_i hj;rw [aby (by omega)]
def Jk (c:Cx) (to:List Int) (l:List PP) (a b:List Int):Prop:=
 to.length=b.length∧l.length=b.length∧
 (∀ j,j < b.length→(0≤to.getD j 0∧to.getD j 0 < a.length)∧
   (if (l.getD j default).nil then E c.O (c.tm (a.getD (to.getD j 0).toNat 0)) (c.tm (b.getD j 0)) else Sh c.O (l.getD j default) (c.tm (a.getD (to.getD j 0).toNat 0)) (c.tm (b.getD j 0))))∧
 (∀ x:Nat,x < a.length→0 < dm to l x b.length→dy to x b.length≤1)∧∃ x:Nat,x < a.length∧dm to l x b.length=0
theorem DW {c:Cx} {to:List Int} {l:List PP} {a b:List Int}:Jk c to l a b↔Rc (E c.O) (Sh c.O) to l (a.map c.tm) (b.map c.tm):=by
 unfold Jk Rc
 simp only [acW]
 refine and_congr_right fun _=>and_congr_right fun _=>and_congr_left fun _=>⟨fun h j hj=>?_,fun h j hj=>?_⟩
 ·obtain ⟨h1,h2⟩:=h j hj
  refine ⟨h1,?_⟩
  rw [cr (by omega),cr hj];exact h2
 ·obtain ⟨h1,h2⟩:=h j hj
  rw [cr (by omega),cr hj] at h2
  exact ⟨h1,h2⟩
structure CI (c:Cx) (to:List Int) (l:List PP) (a b ts ps:List Int) (j:Nat):Prop where
 lt:ts.length=a.length
 lp:ps.length=a.length
 t:∀ x:Nat,x < a.length→ts.getD x 0=dy to x j
 p:∀ x:Nat,x < a.length→ps.getD x 0=dm to l x j
 ok:∀ j',j' < j→(0≤to.getD j' 0∧to.getD j' 0 < a.length)∧
  (if (l.getD j' default).nil then E c.O (c.tm (a.getD (to.getD j' 0).toNat 0)) (c.tm (b.getD j' 0)) else Sh c.O (l.getD j' default) (c.tm (a.getD (to.getD j' 0).toNat 0)) (c.tm (b.getD j' 0)))
theorem CI.step {c:Cx} {to:List Int} {l:List PP} {a b ts ps ps':List Int} {j z:Nat} (h:CI c to l a b ts ps j) (hz:z < a.length) (ht:to.getD j 0=z) (hp:ps'=if (l.getD j default).nil then ps.set z (ps.getD z 0 + 1) else ps)
 (hq:if (l.getD j default).nil then E c.O (c.tm (a.getD z 0)) (c.tm (b.getD j 0)) else Sh c.O (l.getD j default) (c.tm (a.getD z 0)) (c.tm (b.getD j 0))):CI c to l a b (ts.set z (ts.getD z 0 + 1)) ps' (j + 1):=by
 obtain ⟨h1,h2,h3,h4,h5⟩:=h
 refine ⟨by simp [h1],by rw [hp];split <;> simp [h2],fun x hx=>?_,fun x hx=>?_,fun j' vi=>?_⟩
 ·rw [lJ (by omega),dy,ht]
  by_cases e:x=z
  ·subst e;rw [if_pos rfl,if_pos rfl,h3 x hx];omega
  ·rw [if_neg e,if_neg (by omega),h3 x hx];omega
 ·rw [hp,dm,ht]
  by_cases hn:(l.getD j default).nil
  ·rw [if_pos hn,lJ (by omega)]
   by_cases e:x=z
   ·subst e;rw [if_pos rfl,if_pos ⟨rfl,hn⟩,h4 x hx];omega
   ·rw [if_neg e,if_neg (fun h=>by have:=h.1;omega),h4 x hx];omega
  ·rw [if_neg hn,if_neg (fun h=>hn h.2),h4 x hx];omega
 ·by_cases e:j'=j
  ·subst e;rw [ht];exact ⟨by omega,hq⟩
  ·exact h5 j' (by omega)
theorem tw (to:List Int) (x:Int):∀ n,dy to x n≤n
 | 0=>yo _
 | n + 1=>by rw [dy];have:=tw to x n;split <;> omega
theorem Jl (to:List Int) (l:List PP) (x:Int) (n:Nat):dm to l x n≤n:=abY (ox n) (tw to x n)
theorem DX {m n:Nat} (hm:m < 9223372036854775808) (hn:n < 9223372036854775808):IntKind.i64.wrap ((m:Int) + (n:Int))=0↔m=0∧n=0:=by
 rw [IntKind.wrap_i64]
 omega
theorem zM (n x:Nat):(dA 0 n 0).getD x 0=0:=by
 simp only [dA,List.replicate_zero,List.nil_append,ad7,sc,List.getElem?_replicate]
 split <;> rfl
end Go.aJ
end
section
set_option maxRecDepth 100000
namespace Go.aJ
open Go Go.Proofs Go.eN
theorem abI {c:Cx} {a b:List Int} {va vb:AV} (ha:IL va a) (hb:IL vb b) (la:a.length≤1000000000) (lb:b.length≤1000000000) (p:PP) (hs:∀ x∈a,∀ y∈b,kE c x y) (hh:∀ x∈a,∀ y∈b,∀ q∈p.l,jw c x y q) {H:List aa} (hD:Du c H) :
 aw Tryz.prog 156 [.ptr c.d 0,va,vb,ep p] H (iO c (Jk c p.to p.l a b) H):=by
 refine Wm.2.calls rfl ?_
 simp only [Wm,aK]
 obtain ⟨a1,a2,a3,a4⟩:=ha.one
 obtain ⟨b1,b2,b3,b4⟩:=hb.one
 obtain ⟨p1,p2,p3,p4,p5,p6,p7,p8,p9⟩:=a9 p
 have no:¬ Jk c p.to p.l a b→bV H.length [.t 8] [(8,.bool false)] H (iO c (Jk c p.to p.l a b) H):=fun h=>eG rfl ⟨fun h=>by simp at h,fun h'=>absurd h' h⟩ (Up.refl c H) hD
 by_cases h1:p.to.length=b.length
 ·by_cases h2:p.l.length=b.length
  ·have d1:decide ((p.to.length:Int)≠b.length)=false:=decide_eq_false (by omega)
   have d2:decide ((p.l.length:Int)≠b.length)=false:=decide_eq_false (by omega)
   simp +contextual only [a2,b2,p1,PV,LQ,ha.aN,hb.aN,hb.len (by omega),ax,eK,h1,h2,not_true_eq_false,decide_false,sZ,Nat.reduceEqDiff,Nat.reduceAdd,↓reduceIte,reduceCtorEq]
   intro _
   refine FY (K1:=fun e G=>get e 0=.ptr c.d 0∧get e 1=va∧get e 2=vb∧get e 7=.aj (ep p)∧∃ x y,get e 9=.aU x 0 a.length a.length∧get e 10=.aU y 0 a.length a.length∧PQ H x y∧CS c H x y (dA 0 a.length 0) (dA 0 a.length 0) G) ?_ ?_
   ·have key:∀ G,G=H++[bI (dA 0 a.length 0),bI (dA 0 a.length 0)]→CS c H H.length (H.length + 1) (dA 0 a.length 0) (dA 0 a.length 0) G∧CS c H (H.length + 1) H.length (dA 0 a.length 0) (dA 0 a.length 0) G:=by
     rintro G rfl
     exact ⟨⟨hD.s6 _,by simp,by simp,by simp,fun j hj _ _=>yp hj⟩,⟨hD.s6 _,by simp,by simp,by simp,fun j hj _ _=>yp hj⟩⟩
    have A:=key _ rfl
    simp +contextual only [a2,ha.xa,ha.aN,mkI _ _ _ la,sZ,Nat.reduceEqDiff,Nat.reduceAdd,↓reduceIte,reduceCtorEq]
    refine ⟨⟨_,_,rfl,rfl,⟨by omega,by omega,by omega⟩,?_⟩,⟨_,_,rfl,rfl,⟨by omega,by omega,by omega⟩,?_⟩⟩
    ·exact A.1
    ·exact A.2
   ·rintro e G ⟨e0,e1,e2,e7,x,y,e9,e10,hw,yz⟩
    simp +contextual only [e0,e1,e2,e7,e9,e10,PV,ax,h1,sZ,Nat.reduceEqDiff,↓reduceIte,reduceCtorEq]
    intro _
    refine aB b.length (fun j (s:List aa×List Int×List Int)=>CS c H x y s.2.1 s.2.2 s.1∧CI c p.to p.l a b s.2.1 s.2.2 j)
     (fun j s=>[(0,.ptr c.d 0),(1,va),(2,vb),(7,.aj (ep p)),(9,.aU x 0 a.length a.length),(10,.aU y 0 a.length a.length),(37,.al 0 (ints p.to)),(38,.int .i64 b.length),(39,.int .i64 j)])
     (fun j s=>s.1) (G,dA 0 a.length 0,dA 0 a.length 0) ⟨⟨yz,?_⟩,aD _ _ _⟩ fun j s hj hI=>?_
    ·exact ⟨by simp [dA],by simp [dA],fun z _=>by rw [zM];rfl,fun z _=>by rw [zM];rfl,fun j h=>by omega⟩
    ·obtain ⟨G,ts,ps⟩:=s
     obtain ⟨yz,Gq⟩:=hI
     simp only at yz Gq
     by_cases LU:(j:Int) < b.length
     ·have mZ:j < b.length:=by omega
      obtain ⟨to,BO⟩:∃ to,p.to.getD j 0=to:=⟨_,rfl⟩
      by_cases r1:to < 0
      ·simp +contextual only [LU,decide_true,cH,aaa,BO,r1,sZ,Nat.reduceEqDiff,↓reduceIte,reduceCtorEq]
       refine ⟨by omega,yz.fin hD ⟨fun h=>by simp at h,fun h=>?_⟩⟩
       have:=(h.2.2.1 j mZ).1;omega
      ·by_cases r2:(a.length:Int)≤to
       ·simp +contextual only [LU,decide_true,decide_false,a2,ha.aN,ha.len (by omega),cH,aaa,BO,r1,r2,sZ,Nat.reduceEqDiff,↓reduceIte,reduceCtorEq]
        refine ⟨by omega,yz.fin hD ⟨fun h=>by simp at h,fun h=>?_⟩⟩
        have:=(h.2.2.1 j mZ).1;omega
       ·obtain ⟨z,rfl⟩:=ade (show 0≤to by omega)
        have hz:z < a.length:=by omega
        have gt:=yz.gp
        have gp:=yz.gq
        have lt:=Gq.lt
        have lp:=Gq.lp
        have X6:z < ts.length:=by omega
        have Vk:z < ps.length:=by omega
        simp +contextual only [LU,decide_true,decide_false,a2,ha.aN,ha.len (by omega),cH,aaa,BO,r1,r2,ig,gt,Bh X6,DG X6,sZ,Nat.reduceEqDiff,↓reduceIte,reduceCtorEq]
        have Jm:=yz.abG (ts':=ts.set z (IntKind.i64.wrap (ts.getD z 0 + 1))) hD hw
        have tz:=Gq.t z hz
        have BM:=tw p.to z j
        rw [eD _ (by omega)] at Jm ⊢
        generalize G.set x (bI (ts.set z (ts.getD z 0 + 1)))=G1 at Jm ⊢
        have ql:p.l.getD j default∈p.l:=eg (by omega)
        obtain ⟨q,hq⟩:∃ q,p.l.getD j default=q:=⟨_,rfl⟩
        rw [hq] at ql
        obtain ⟨q1,q2,q3,q4,q5,q6,q7,q8,q9⟩:=a9 q
        refine ⟨by omega,hz,hz,?_⟩
        simp +contextual only [LQ,Bs,rJ,rK,hq,aaa,q1,q2,q3,DU,Ep,PV,ax,eK,sZ,Nat.reduceEqDiff,↓reduceIte,reduceCtorEq]
        refine ⟨by omega,fun hr=>⟨fun hi l1 l2=>⟨fun JS=>?_,fun JS=>?_⟩,fun hi=>?_⟩,fun hr=>?_⟩
        ·have hwz:=(DX l1 l2).1 JS
         have uG:(p.l.getD j default).nil:=by rw [hq];exact ⟨hr,hi,abt.1 hwz.1,abt.1 hwz.2⟩
         have gp1:=Jm.gq
         have PX:=Jm.abH (ps':=ps.set z (IntKind.i64.wrap (ps.getD z 0 + 1))) hD hw
         have tp:=Gq.p z hz
         have ple:=Jl p.to p.l z j
         simp +contextual only [ig,gp1,Bh Vk,DG Vk,sZ,Nat.reduceEqDiff,↓reduceIte,reduceCtorEq]
         rw [eD _ (by omega)] at PX ⊢
         generalize G1.set y (bI (ps.set z (ps.getD z 0 + 1)))=G2 at PX ⊢
         refine ⟨hz,hz,?_⟩
         simp +contextual only [a2,b2,ha.lens,hb.lens,ha.idx,hb.idx,aaa,sZ,Nat.reduceEqDiff,Nat.reduceAdd,↓reduceIte,reduceCtorEq]
         refine ⟨by omega,by omega,ag (hs _ (aO hz) _ (aO mZ) G2 PX.du) ?_⟩
         rintro r G3 ⟨w,rfl,X7,hU,LD⟩
         have LV:=PX.call hD hw hU LD
         cases w with
         | false=>
           simp +contextual only [Bool.not_false,sZ,Nat.reduceEqDiff,↓reduceIte,reduceCtorEq]
           refine LV.fin hD ⟨fun h=>by simp at h,fun h=>?_⟩
           have:=(h.2.2.1 j mZ).2
           rw [if_pos uG,BO,aaa] at this
           exact X7.2 this
         | true=>
           simp +contextual only [Bool.not_true,sZ,Nat.reduceEqDiff,↓reduceIte,reduceCtorEq]
           refine ⟨j + 1,(G3,_,_),⟨mZ,LV,Gq.step hz BO (by rw [if_pos uG]) (by rw [if_pos uG];exact X7.1 rfl)⟩,by omega,aE (by rw [ay j (by omega)]) rfl⟩
        all_goals
         have uG:¬ (p.l.getD j default).nil:=by
          rw [hq]
          rintro ⟨n1,n2,n3,n4⟩
          first | exact hr n1 | exact hi n2 | exact JS ((DX l1 l2).2 ⟨by rw [n3];rfl,by rw [n4];rfl⟩)
         simp +contextual only [a2,b2,q4,ha.lens,hb.lens,ha.idx,hb.idx,aaa,rK,sZ,Nat.reduceEqDiff,Nat.reduceAdd,↓reduceIte,reduceCtorEq]
         refine ⟨by omega,by omega,ag (hh _ (aO hz) _ (aO mZ) q ql G1 Jm.du) ?_⟩
         rintro r G3 ⟨w,rfl,X7,hU,LD⟩
         have LV:=Jm.call hD hw hU LD
         cases w with
         | false=>
           simp +contextual only [Bool.not_false,sZ,Nat.reduceEqDiff,↓reduceIte,reduceCtorEq]
           refine LV.fin hD ⟨fun h=>by simp at h,fun h=>?_⟩
           have:=(h.2.2.1 j mZ).2
           rw [if_neg uG,BO,hq,aaa] at this
           exact X7.2 this
         | true=>
           simp +contextual only [Bool.not_true,sZ,Nat.reduceEqDiff,↓reduceIte,reduceCtorEq]
           refine ⟨j + 1,(G3,_,_),⟨mZ,LV,Gq.step hz BO (by rw [if_neg uG]) (by rw [if_neg uG,hq];exact X7.1 rfl)⟩,by omega,aE (by rw [ay j (by omega)]) rfl⟩
     ·have Uq:j=b.length:=by omega
      subst Uq
      simp +contextual only [LU,decide_false,a2,ha.aN,ha.len (by omega),sZ,Nat.reduceEqDiff,↓reduceIte,reduceCtorEq]
      refine aB a.length (fun x' (f:Bool)=>(∀ z:Nat,z < x'→0 < dm p.to p.l z b.length→dy p.to z b.length≤1)∧(f=true↔∃ z:Nat,z < x'∧dm p.to p.l z b.length=0))
       (fun x' f=>[(9,.aU x 0 a.length a.length),(10,.aU y 0 a.length a.length),(14,.bool f),(112,.int .i64 a.length),(113,.int .i64 x')]) (fun _ _=>G) false
       ⟨⟨fun z h=>by omega,⟨fun h=>by simp at h,fun ⟨z,h,_⟩=>by omega⟩⟩,aD _ _ _⟩ fun z f hz hI=>?_
      obtain ⟨jO,Ek⟩:=hI
      by_cases Gn:(z:Int) < a.length
      ·have hZ:z < a.length:=by omega
       have gt:=yz.gp
       have gp:=yz.gq
       have lt:=Gq.lt
       have lp:=Gq.lp
       have X6:z < ts.length:=by omega
       have Vk:z < ps.length:=by omega
       have tz:=Gq.t z hZ
       have pz:=Gq.p z hZ
       by_cases k1:dm p.to p.l z b.length=0
       ·have p0:ps.getD z 0=0:=by omega
        cases f <;>
         (simp +contextual only [Gn,decide_true,ig,gp,Bh Vk,p0,Int.lt_irrefl,decide_false,sZ,Nat.reduceEqDiff,↓reduceIte,reduceCtorEq]
          refine ⟨hZ,?_⟩
          first
           | refine ⟨hZ,z + 1,true,⟨hZ,fun z' Eo=>?_,⟨fun _=>⟨z,by omega,k1⟩,fun _=>rfl⟩⟩,by omega,aE (by rw [ay z (by omega)]) rfl⟩
           | refine ⟨z + 1,true,⟨hZ,fun z' Eo=>?_,⟨fun _=>⟨z,by omega,k1⟩,fun _=>rfl⟩⟩,by omega,aE (by rw [ay z (by omega)]) rfl⟩
          by_cases e:z'=z
          ·subst e;intro h;omega
          ·exact jO z' (by omega))
       ·have p0:(0 < ps.getD z 0)=True:=eq_true (by omega)
        have p1':(ps.getD z 0=0)=False:=eq_false (by omega)
        by_cases k2:dy p.to z b.length≤1
        ·have t0:(1 < ts.getD z 0)=False:=eq_false (by omega)
         have nxt:(∀ z':Nat,z' < z + 1→0 < dm p.to p.l z' b.length→dy p.to z' b.length≤1):=by
          intro z' Eo
          by_cases e:z'=z
          ·subst e;intro _;exact k2
          ·exact jO z' (by omega)
         have nfr:(f=true↔∃ z':Nat,z' < z + 1∧dm p.to p.l z' b.length=0):=by
          rw [Ek]
          constructor
          ·rintro ⟨z',h1,h2⟩;exact ⟨z',by omega,h2⟩
          ·rintro ⟨z',h1,h2⟩
           have:z'≠z:=fun e=>k1 (e ▸ h2)
           exact ⟨z',by omega,h2⟩
         cases f <;>
          (simp +contextual only [Gn,decide_true,ig,gt,gp,Bh X6,Bh Vk,p0,p1',t0,decide_false,sZ,Nat.reduceEqDiff,↓reduceIte,reduceCtorEq]
           refine ⟨hZ,hZ,?_⟩
           first
            | exact ⟨hZ,z + 1,_,⟨hZ,nxt,nfr⟩,by omega,aE (by rw [ay z (by omega)]) rfl⟩
            | exact ⟨z + 1,_,⟨hZ,nxt,nfr⟩,by omega,aE (by rw [ay z (by omega)]) rfl⟩)
        ·have t0:(1 < ts.getD z 0)=True:=eq_true (by omega)
         simp +contextual only [Gn,decide_true,ig,gt,gp,Bh X6,Bh Vk,p0,t0,sZ,Nat.reduceEqDiff,↓reduceIte,reduceCtorEq]
         refine ⟨hZ,hZ,yz.fin hD ⟨fun h=>by simp at h,fun h=>?_⟩⟩
         exact absurd (h.2.2.2.1 z hZ (by omega)) k2
      ·have hze:z=a.length:=by omega
       subst hze
       simp +contextual only [Gn,decide_false,sZ,Nat.reduceEqDiff,↓reduceIte,reduceCtorEq]
       refine yz.fin hD ?_
       rw [Ek]
       exact ⟨fun h=>⟨h1,h2,Gq.ok,jO,h⟩,fun h=>h.2.2.2.2⟩
  ·have d1:decide ((p.to.length:Int)≠b.length)=false:=decide_eq_false (by omega)
   have d2:((p.l.length:Int)=b.length)=False:=eq_false (by omega)
   simp +contextual only [b2,p1,PV,LQ,hb.aN,hb.len (by omega),ax,eK,h1,d2,not_true_eq_false,not_false_eq_true,decide_false,decide_true,sZ,Nat.reduceEqDiff,Nat.reduceAdd,↓reduceIte,reduceCtorEq]
   intro _ _
   exact no fun h=>h2 h.2.1
 ·have d1:((p.to.length:Int)=b.length)=False:=eq_false (by omega)
  simp +contextual only [b2,p1,PV,hb.aN,hb.len (by omega),ax,d1,not_false_eq_true,decide_true,sZ,Nat.reduceEqDiff,Nat.reduceAdd,↓reduceIte,reduceCtorEq]
  intro _
  exact no fun h=>h1 h.1
end Go.aJ
end
section
set_option maxRecDepth 100000
set_option maxHeartbeats 0
namespace Go.aJ
open Go Go.Proofs
noncomputable def yi:=aK Tryz.call87 Tryz.func87 Tryz.ntmps87 [(0,0,1),(0,1,1),(0,2,1),(12,7,2000),(13,11,2000),(17,10,2000),(20,36,2000),(23,3,2000),(24,20,2000),(24,27,2000),(26,10,2000)] [(0,[2,4,5,7]),(1,[2,4,5,7,9,10]),(2,[2,4,5,7,9,10,11]),(3,[2,4,5,7,9,10,11,14]),(4,[2,4,5,7,9,10,11,76]),(5,[8]),(6,[2,4,5,7,9,10,11,15,16]),(7,[2,4,5,7,9,10,11,15,16,85]),(8,[2,4,5,7,9,10,11,15,16,85,86]),(9,[2,4,7,9,103]),(10,[8]),(11,[2,4,7,9,107]),(12,[8]),(13,[8]),(14,[2,4,5,7,9,10,11,15,16,85,128]),(15,[2,4,7,11,17]),(16,[7,11,17,20,22]),(17,[8]),(18,[4,7,9,10,11,15,16,85,156]),(19,[4,7,11,15,16,23,24]),(20,[4,7,11,23,24,202]),(21,[8]),(22,[4,7,11,23,24,207]),(23,[8]),(24,[8]),(25,[4,7,9,10,15,16,241]),(26,[8]),(27,[8])] [(1,(.take 0 true (.take 1 true (.take 2 true (.take 3 true (.take 4 true (.take 5 true (.take 6 true (.take 7 true (.take 8 true (.take 9 true (.take 10 true (.take 11 true (.take 12 true (.take 13 true (.take 14 true (.take 15 true (.br 16 (.take 17 true (.br 18 .done .nil)) .nil)))))))))))))))))),(12,(.take 0 true (.take 1 true (.take 2 true (.take 3 true (.take 4 true (.take 5 true (.take 6 true (.br 7 (.take 8 true .done) .nil))))))))),(13,(.take 0 true (.take 1 true (.take 2 true (.take 3 true (.take 4 true (.take 5 true (.take 6 true (.take 7 true (.take 8 true (.take 9 true (.take 10 true (.br 11 (.take 12 true .done) .nil))))))))))))),(19,(.take 0 true (.take 1 true (.take 2 true (.take 3 true (.take 4 true (.take 5 true (.take 6 true (.take 7 true .done))))))))),(20,(.take 0 true (.take 1 true (.take 2 true (.take 3 true (.take 4 true (.take 5 true (.take 6 true (.take 7 true (.take 8 true (.take 9 true (.take 10 true (.take 11 true (.take 12 true (.take 13 true (.take 14 true (.take 15 true (.take 16 true (.take 17 true (.take 18 true (.take 19 true (.take 20 true (.take 21 true (.take 22 true (.take 23 true (.take 24 true (.take 25 true (.take 26 true (.take 27 true (.take 28 true (.take 29 true (.take 30 true (.take 31 true (.take 32 true (.take 33 true (.take 34 true (.take 35 true (.br 36 (.take 37 true (.take 38 true .done)) .nil)))))))))))))))))))))))))))))))))))))),(24,(.take 0 true (.take 1 true (.take 2 true (.take 3 true (.take 4 true (.take 5 true (.take 6 true (.take 7 true (.take 8 true (.take 9 true (.take 10 true (.take 11 true (.take 12 true (.take 13 true (.take 14 true (.take 15 true (.take 16 true (.take 17 true (.take 18 true (.take 19 true (.br 20 (.take 21 true (.take 22 true (.take 23 true (.take 24 true (.take 25 true (.take 26 true (.br 27 (.take 28 true (.take 29 true .done)) .nil))))))) .nil))))))))))))))))))))))]
end Go.aJ
end
section
set_option maxRecDepth 100000
namespace Go.aJ
open Go Go.Proofs Go.eN
theorem DY {O:Od} {p:PP} {a b:T} (h:Sh O p a b):a.k=2:=(qm.1 h).1
theorem Sh1 {O:Od} {p:PP} {a b:T} (hr:p.r=1) (ha:a.k=2):Sh O p a b↔p.to=[]∧(0≤p.i∧p.i < a.l.length)∧((p.l=[]∧E O (a.l.getD p.i.toNat default) b)∨∃ q,p.l=[q]∧Sh O q (a.l.getD p.i.toNat default) b):=by
 rw [qm,Fs];simp [hr,ha]
theorem Sh2 {O:Od} {p:PP} {a b:T} (hr:p.r=2) (ha:a.k=2):Sh O p a b↔p.to=[]∧p.i=0∧b.k=2∧O.pl b.n < O.pl a.n∧lR (Sh O) p.l a b.l:=by
 rw [qm,Fs];simp [hr,ha]
theorem Sh3 {O:Od} {p:PP} {a b:T} (hr:p.r=3) (ha:a.k=2):Sh O p a b↔p.to=[]∧b.k=2∧O.pl a.n=O.pl b.n∧O.sp (O.pl a.n)≠3∧DR (E O) (Sh O) p.i p.l a (side (O.sp (O.pl a.n)) a.l) (side (O.sp (O.pl a.n)) b.l) b.l:=by
 rw [qm,Fs];simp [hr,ha]
theorem Sh4 {O:Od} {p:PP} {a b:T} (hr:p.r=4) (ha:a.k=2):Sh O p a b↔p.i=0∧b.k=2∧O.pl a.n=O.pl b.n∧O.sp (O.pl a.n)=3∧Rc (E O) (Sh O) p.to p.l a.l b.l:=by
 rw [qm,Fs];simp [hr,ha]
theorem Sh0 {O:Od} {p:PP} {a b:T} (h1:p.r≠1) (h2:p.r≠2) (h3:p.r≠3) (h4:p.r≠4):¬ Sh O p a b:=by
 rw [qm,Fs];simp [h1,h2,h3,h4]
theorem slT (l:List Int) (n:Int) (h:0≤n∧n≤l.length) (φ:AV→Prop):bD 1 (.al 0 (ints l)) none (some (.int .i64 n)) none φ=φ (.al 0 (ints (l.take n.toNat))):=by
 have er:dB (AV.al 0 (ints l))=some (ints l):=rfl
 have e2:((ints l).take n.toNat).drop 0=ints (l.take n.toNat):=by rw [List.drop_zero,lK]
 simp only [bD,fN,er,dV,e2,eq_iff_iff]
 constructor
 ·intro h;exact h.2.2.2.2
 ·intro h'
  refine ⟨fun own xs he z hz=>?_,by omega,by omega,by have:=ax l;omega,h'⟩
  cases he
  obtain ⟨y,_,rfl⟩:=aag.1 hz
  rfl
theorem X8 (x:PP) (r:List PP) (φ:AV→Prop):bD 4 (.al 0 (eh (x::r))) (some (.int .i64 1)) none none φ=φ (.al 0 (eh r)):=by
 have er:dB (AV.al 0 (eh (x::r)))=some (eh (x::r)):=rfl
 have e1:(1:Int).toNat=1:=rfl
 have e2:((eh (x::r)).take (eh (x::r)).length).drop 1=eh r:=by rw [aa8];rfl
 simp only [bD,fN,er,dV,e1,e2,eq_iff_iff]
 constructor
 ·intro h;exact h.2.2.2.2
 ·intro h
  refine ⟨fun own xs he z hz=>of_eq_true (rJ 0 (x::r)) own xs he z hz,by omega,by simp [eK],yo _,h⟩
theorem o9 {s:Int} {l:List Int} {x:Int}:x∈bH s l↔x∈l:=by unfold bH;split <;> simp
theorem X9 {c:Cx} (hc:c.Ok) {p:PP} {i k:Int} (hi:c.dP i) (hk:c.dP k) (fL:∀ q∈p.l,∀ x y,c.dP x→c.dP y→jw c x y q) (Aj:p.r=1):jw c i k p:=by
 intro H hD
 refine yi.2.calls rfl ?_
 simp only [yi,aK]
 obtain ⟨p1,p2,p3,p4,p5,p6,p7,p8,p9⟩:=a9 p
 have k2:∀ l,(bo l).ae=bo l:=fun l=>(aG l).2.1
 have ki:=hc.kids i hi
 have kk:=hc.kids k hk
 have l1:=hc.kl i hi
 have l2:=hc.kl k hk
 obtain ⟨a1,a2,a3,a4,a5⟩:=aG (c.kd i)
 obtain ⟨b1,b2,b3,b4,b5⟩:=aG (c.kd k)
 have ii:IL (bo (c.kd i)) (c.kd i):=.inl rfl
 have ik:IL (bo (c.kd k)) (c.kd k):=.inl rfl
 have ei:(c.nd.getD i.toNat default).snd=c.kd i:=rfl
 have ek:(c.nd.getD k.toNat default).snd=c.kd k:=rfl
 obtain ⟨m1,m2,m3⟩:=hD.lt
 have nz:Du c (H++[.cells [bo (c.kd k)]]):=hD.s6 _
 have fin:∀ G (b:Bool),Up c (H++[.cells [bo (c.kd k)]]) G→Du c G→(b=true↔Sh c.O p (c.tm i) (c.tm k))→bV H.length [.t 8] [(8,.bool b)] G (iO c (Sh c.O p (c.tm i) (c.tm k)) H):=by
  intro G b u d hb
  refine aX H.length (yo _) (by rw [aA,if_pos rfl];rfl) ?_
  rw [aA,if_pos rfl]
  exact ⟨b,rfl,hb,u.take,d.take m1 m2 m3⟩
 have fin0:¬ Sh c.O p (c.tm i) (c.tm k)→bV H.length [.t 8] [(8,.bool false)] (H++[.cells [bo (c.kd k)]]) (iO c (Sh c.O p (c.tm i) (c.tm k)) H):=
  fun h=>fin _ _ (Up.refl c _) nz ⟨fun h=>by simp at h,fun h'=>absurd h' h⟩
 have spv:∀ x:AV,ai [AV.ah] 0 [x]=[x]:=fun x=>rfl
 simp +contextual only [p1,hD.d,mP,En,cG,bY,k2,ei,ek,b1,b3,b4,b5,List.map_cons,List.map_nil,spv,List.all_cons,List.all_nil,acQ,bE,cN,sZ,Nat.reduceEqDiff,Nat.reduceAdd,Nat.reduceLT,↓reduceIte,reduceCtorEq]
 refine ⟨hi,hk,ag (qi hc hi nz) ?_⟩
 rintro r H2 ⟨rfl,rfl⟩
 cases hb:sf c i with
 | false=>
   have ki2:¬ (c.tm i).k=2:=of_decide_eq_false hb
   simp +contextual only [dF,fI,fJ,fK,hb,Bool.not_false,sZ,Nat.reduceEqDiff,↓reduceIte,reduceCtorEq]
   exact fin0 fun h=>ki2 (DY h)
 | true=>
 have ki2:(c.tm i).k=2:=of_decide_eq_true hb
 have kid:∀ (j:Int),(0≤j∧j < (c.kd i).length)→(c.tm i).l.getD j.toNat default=c.tm ((c.kd i).getD j.toNat 0):=fun j hj=>by rw [← ki.1,cr (by omega)]
 have klen:(c.tm i).l.length=(c.kd i).length:=by rw [← ki.1];simp
 have kn:∀ (j:Int),(0≤j∧j < (c.kd i).length)→c.dP ((c.kd i).getD j.toNat 0):=fun j hj=>ki.2 _ (aO (by omega))
 have lvun:(AV.tuple [.int .i64 (dE c i),.bool (uM c i k)]).ae=.tuple [.int .i64 (dE c i),.bool (uM c i k)]:=rfl
 have hS:=Sh1 (O:=c.O) (b:=c.tm k) Aj ki2
 rw [klen] at hS
 simp +contextual only [dF,fI,fJ,fK,hb,Bool.not_true,DU,PV,Aj,not_true_eq_false,not_false_eq_true,decide_true,decide_false,ax,sZ,Nat.reduceEqDiff,Nat.reduceAdd,↓reduceIte,reduceCtorEq,Int.reduceEq]
 refine fun _=>⟨fun h0=>?_,fun h0=>fin0 fun h=>?_⟩
 ·have BO:p.to=[]:=abt.1 (by omega)
  refine ag (FN hc hi hk nz) ?_
  rintro r H2 ⟨rfl,rfl⟩
  by_cases hI:0≤p.i∧p.i < (c.kd i).length
  ·have n1:(p.i < 0)=False:=eq_false (by omega)
   have n2:(((c.kd i).length:Int)≤p.i)=False:=eq_false (by omega)
   have hkn:=kn p.i hI
   rw [kid p.i hI] at hS
   by_cases hL:p.l.length≤1
   ·have n3:(1 < (p.l.length:Int))=False:=eq_false (by omega)
    by_cases hL0:p.l.length=0
    ·have n4:((p.l.length:Int)=0)=True:=eq_true (by omega)
     simp +contextual only [k2,ii.aN,ii.len (by omega),ii.lens,ii.idx,DU,Ep,LQ,eK,lvun,decide_true,decide_false,Aj,n1,n2,n3,n4,sZ,Nat.reduceEqDiff,Nat.reduceAdd,Nat.reduceLT,↓reduceIte,reduceCtorEq]
     refine fun _=>⟨hI,ag (kh hc hkn hk _ nz) ?_⟩
     rintro r G ⟨x,rfl,hx,hU,jC⟩
     simp +contextual only [sZ,↓reduceIte,reduceCtorEq]
     refine fin G x hU jC ?_
     rw [hx,hS]
     have:p.l=[]:=abt.1 hL0
     simp [BO,hI,this]
    ·have n4:((p.l.length:Int)=0)=False:=eq_false (by omega)
     have hm:p.l.getD 0 default∈p.l:=eg (by omega)
     obtain ⟨q1,q2,q3,q4,q5,q6,q7,q8,q9⟩:=a9 (p.l.getD 0 default)
     have t0:(0:Int).toNat=0:=rfl
     simp +contextual only [k2,ii.aN,ii.len (by omega),ii.lens,ii.idx,DU,Ep,LQ,Bs,rJ,rK,eK,lvun,decide_true,decide_false,Aj,n1,n2,n3,n4,t0,q4,sZ,Nat.reduceEqDiff,Nat.reduceAdd,Nat.reduceLT,↓reduceIte,reduceCtorEq]
     refine fun _=>⟨hI,⟨by omega,by omega⟩,ag (fL _ hm _ _ hkn hk _ nz) ?_⟩
     rintro r G ⟨x,rfl,hx,hU,jC⟩
     simp +contextual only [sZ,↓reduceIte,reduceCtorEq]
     refine fin G x hU jC ?_
     rw [hx,hS]
     obtain ⟨q,hq⟩:∃ q,p.l=[q]:=List.length_eq_one_iff.1 (by omega)
     simp [BO,hI,hq]
   ·have n3:(1 < (p.l.length:Int))=True:=eq_true (by omega)
    simp +contextual only [k2,ii.aN,ii.len (by omega),DU,Ep,LQ,eK,lvun,decide_true,decide_false,Aj,n1,n2,n3,sZ,Nat.reduceEqDiff,Nat.reduceAdd,Nat.reduceLT,↓reduceIte,reduceCtorEq]
    refine fun _=>fin0 fun h=>?_
    rcases (hS.1 h).2.2 with h | ⟨q,h,_⟩
    ·rw [h.1] at hL;simp at hL
    ·rw [h] at hL;simp at hL
  ·by_cases hI0:p.i < 0
   ·simp +contextual only [DU,Ep,lvun,decide_true,Aj,hI0,sZ,Nat.reduceEqDiff,Nat.reduceAdd,Nat.reduceLT,↓reduceIte,reduceCtorEq]
    exact fin0 fun h=>hI (hS.1 h).2.1
   ·have n2:(((c.kd i).length:Int)≤p.i)=True:=eq_true (by omega)
    simp +contextual only [k2,ii.aN,ii.len (by omega),DU,Ep,lvun,decide_true,decide_false,Aj,hI0,n2,sZ,Nat.reduceEqDiff,Nat.reduceAdd,Nat.reduceLT,↓reduceIte,reduceCtorEq]
    exact fin0 fun h=>hI (hS.1 h).2.1
 ·rw [(hS.1 h).1] at h0;simp at h0
theorem Ya {c:Cx} (hc:c.Ok) {p:PP} {i k:Int} (hi:c.dP i) (hk:c.dP k) (fL:∀ q∈p.l,∀ x y,c.dP x→c.dP y→jw c x y q) (sv:p.r=2):jw c i k p:=by
 intro H hD
 refine yi.2.calls rfl ?_
 simp only [yi,aK]
 obtain ⟨p1,p2,p3,p4,p5,p6,p7,p8,p9⟩:=a9 p
 have k2:∀ l,(bo l).ae=bo l:=fun l=>(aG l).2.1
 have ki:=hc.kids i hi
 have kk:=hc.kids k hk
 have l1:=hc.kl i hi
 have l2:=hc.kl k hk
 obtain ⟨a1,a2,a3,a4,a5⟩:=aG (c.kd i)
 obtain ⟨b1,b2,b3,b4,b5⟩:=aG (c.kd k)
 have ii:IL (bo (c.kd i)) (c.kd i):=.inl rfl
 have ik:IL (bo (c.kd k)) (c.kd k):=.inl rfl
 have ei:(c.nd.getD i.toNat default).snd=c.kd i:=rfl
 have ek:(c.nd.getD k.toNat default).snd=c.kd k:=rfl
 obtain ⟨m1,m2,m3⟩:=hD.lt
 have nz:Du c (H++[.cells [bo (c.kd k)]]):=hD.s6 _
 have fin:∀ G (b:Bool),Up c (H++[.cells [bo (c.kd k)]]) G→Du c G→(b=true↔Sh c.O p (c.tm i) (c.tm k))→bV H.length [.t 8] [(8,.bool b)] G (iO c (Sh c.O p (c.tm i) (c.tm k)) H):=by
  intro G b u d hb
  refine aX H.length (yo _) (by rw [aA,if_pos rfl];rfl) ?_
  rw [aA,if_pos rfl]
  exact ⟨b,rfl,hb,u.take,d.take m1 m2 m3⟩
 have fin0:¬ Sh c.O p (c.tm i) (c.tm k)→bV H.length [.t 8] [(8,.bool false)] (H++[.cells [bo (c.kd k)]]) (iO c (Sh c.O p (c.tm i) (c.tm k)) H):=
  fun h=>fin _ _ (Up.refl c _) nz ⟨fun h=>by simp at h,fun h'=>absurd h' h⟩
 have spv:∀ x:AV,ai [AV.ah] 0 [x]=[x]:=fun x=>rfl
 simp +contextual only [p1,hD.d,mP,En,cG,bY,k2,ei,ek,b1,b3,b4,b5,List.map_cons,List.map_nil,spv,List.all_cons,List.all_nil,acQ,bE,cN,sZ,Nat.reduceEqDiff,Nat.reduceAdd,Nat.reduceLT,↓reduceIte,reduceCtorEq]
 refine ⟨hi,hk,ag (qi hc hi nz) ?_⟩
 rintro r H2 ⟨rfl,rfl⟩
 cases hb:sf c i with
 | false=>
   have ki2:¬ (c.tm i).k=2:=of_decide_eq_false hb
   simp +contextual only [dF,fI,fJ,fK,hb,Bool.not_false,sZ,Nat.reduceEqDiff,↓reduceIte,reduceCtorEq]
   exact fin0 fun h=>ki2 (DY h)
 | true=>
 have ki2:(c.tm i).k=2:=of_decide_eq_true hb
 have kid:∀ (j:Int),(0≤j∧j < (c.kd i).length)→(c.tm i).l.getD j.toNat default=c.tm ((c.kd i).getD j.toNat 0):=fun j hj=>by rw [← ki.1,cr (by omega)]
 have klen:(c.tm i).l.length=(c.kd i).length:=by rw [← ki.1];simp
 have kn:∀ (j:Int),(0≤j∧j < (c.kd i).length)→c.dP ((c.kd i).getD j.toNat 0):=fun j hj=>ki.2 _ (aO (by omega))
 have lvun:(AV.tuple [.int .i64 (dE c i),.bool (uM c i k)]).ae=.tuple [.int .i64 (dE c i),.bool (uM c i k)]:=rfl
 have hS:=Sh2 (O:=c.O) (b:=c.tm k) sv ki2
 have e1:((2:Int)=1)=False:=by simp
 simp +contextual only [dF,fI,fJ,fK,hb,Bool.not_true,DU,Ep,PV,sv,not_true_eq_false,not_false_eq_true,decide_true,decide_false,ax,sZ,Nat.reduceEqDiff,Nat.reduceAdd,↓reduceIte,reduceCtorEq,Int.reduceEq]
 have fAll:∀ (G:List aa) (Q:Prop) (b0:Bool),True:=fun _ _ _=>trivial
 have hAS:lR (Sh c.O) p.l (c.tm i) ((c.kd k).map c.tm)↔lR (Sh c.O) p.l (c.tm i) (c.tm k).l:=by rw [kk.1]
 refine fun _=>⟨fun h0=>⟨fun uQ=>fin0 fun h=>uQ (hS.1 h).2.1,fun uQ=>?_⟩,fun h0=>fin0 fun h=>?_⟩
 ·have BO:p.to=[]:=abt.1 (by omega)
  refine ag (FN hc hi hk nz) ?_
  rintro r H2 ⟨rfl,rfl⟩
  simp +contextual only [DU,lvun,decide_true,decide_false,sv,e1,sZ,Nat.reduceEqDiff,Nat.reduceAdd,Nat.reduceLT,↓reduceIte]
  refine ag (qi hc hi nz) ?_
  rintro r H2 ⟨rfl,rfl⟩
  simp +contextual only [dF,fI,fJ,fK,sZ,Nat.reduceEqDiff,Nat.reduceAdd,↓reduceIte]
  refine ag (qi hc hk nz) ?_
  rintro r H2 ⟨rfl,rfl⟩
  have opi:qh c i=c.O.pl (c.tm i).n:=by rw [qh,if_pos ki2]
  cases FP:sf c k with
  | false=>
    have kk2:¬ (c.tm k).k=2:=of_decide_eq_false FP
    simp +contextual only [dF,fI,fJ,fK,FP,sZ,Nat.reduceEqDiff,↓reduceIte,reduceCtorEq]
    exact fin0 fun h=>kk2 (hS.1 h).2.2.1
  | true=>
    have kk2:(c.tm k).k=2:=of_decide_eq_true FP
    have opk:qh c k=c.O.pl (c.tm k).n:=by rw [qh,if_pos kk2]
    by_cases aS:qh c k < qh c i
    ·simp +contextual only [LQ,decide_true,dF,fI,fJ,fK,FP,aS,sZ,Nat.reduceEqDiff,Nat.reduceAdd,↓reduceIte,reduceCtorEq]
     refine ag (Uo ik (by omega) (q:=H.length) ⟨by omega,by omega⟩ (fun j h1 h2=>fL _ (eg h2) _ _ hi (kk.2 _ (aO h1))) nz (by simp)) ?_
     rintro r G ⟨x,rfl,hx,hU,jC⟩
     simp +contextual only [sZ,Nat.reduceEqDiff,↓reduceIte,reduceCtorEq]
     refine fin G x hU jC ?_
     rw [hx,hS,hAS]
     rw [opi,opk] at aS
     simp [BO,uQ,kk2,aS]
    ·simp +contextual only [decide_false,dF,fI,fJ,fK,FP,aS,sZ,Nat.reduceEqDiff,↓reduceIte,reduceCtorEq]
     refine fin0 fun h=>aS ?_
     rw [opi,opk]
     exact (hS.1 h).2.2.2.1
 ·rw [(hS.1 h).1] at h0;simp at h0
theorem Yb {c:Cx} (hc:c.Ok) {p:PP} {i k:Int} (hi:c.dP i) (hk:c.dP k) (fL:∀ q∈p.l,∀ x y,c.dP x→c.dP y→jw c x y q) (PY:p.r=4):jw c i k p:=by
 intro H hD
 refine yi.2.calls rfl ?_
 simp only [yi,aK]
 obtain ⟨p1,p2,p3,p4,p5,p6,p7,p8,p9⟩:=a9 p
 have k2:∀ l,(bo l).ae=bo l:=fun l=>(aG l).2.1
 have ki:=hc.kids i hi
 have kk:=hc.kids k hk
 have l1:=hc.kl i hi
 have l2:=hc.kl k hk
 obtain ⟨a1,a2,a3,a4,a5⟩:=aG (c.kd i)
 obtain ⟨b1,b2,b3,b4,b5⟩:=aG (c.kd k)
 have ii:IL (bo (c.kd i)) (c.kd i):=.inl rfl
 have ik:IL (bo (c.kd k)) (c.kd k):=.inl rfl
 have ei:(c.nd.getD i.toNat default).snd=c.kd i:=rfl
 have ek:(c.nd.getD k.toNat default).snd=c.kd k:=rfl
 obtain ⟨m1,m2,m3⟩:=hD.lt
 have nz:Du c (H++[.cells [bo (c.kd k)]]):=hD.s6 _
 have fin:∀ G (b:Bool),Up c (H++[.cells [bo (c.kd k)]]) G→Du c G→(b=true↔Sh c.O p (c.tm i) (c.tm k))→bV H.length [.t 8] [(8,.bool b)] G (iO c (Sh c.O p (c.tm i) (c.tm k)) H):=by
  intro G b u d hb
  refine aX H.length (yo _) (by rw [aA,if_pos rfl];rfl) ?_
  rw [aA,if_pos rfl]
  exact ⟨b,rfl,hb,u.take,d.take m1 m2 m3⟩
 have fin0:¬ Sh c.O p (c.tm i) (c.tm k)→bV H.length [.t 8] [(8,.bool false)] (H++[.cells [bo (c.kd k)]]) (iO c (Sh c.O p (c.tm i) (c.tm k)) H):=
  fun h=>fin _ _ (Up.refl c _) nz ⟨fun h=>by simp at h,fun h'=>absurd h' h⟩
 have spv:∀ x:AV,ai [AV.ah] 0 [x]=[x]:=fun x=>rfl
 simp +contextual only [p1,hD.d,mP,En,cG,bY,k2,ei,ek,b1,b3,b4,b5,List.map_cons,List.map_nil,spv,List.all_cons,List.all_nil,acQ,bE,cN,sZ,Nat.reduceEqDiff,Nat.reduceAdd,Nat.reduceLT,↓reduceIte,reduceCtorEq]
 refine ⟨hi,hk,ag (qi hc hi nz) ?_⟩
 rintro r H2 ⟨rfl,rfl⟩
 cases hb:sf c i with
 | false=>
   have ki2:¬ (c.tm i).k=2:=of_decide_eq_false hb
   simp +contextual only [dF,fI,fJ,fK,hb,Bool.not_false,sZ,Nat.reduceEqDiff,↓reduceIte,reduceCtorEq]
   exact fin0 fun h=>ki2 (DY h)
 | true=>
 have ki2:(c.tm i).k=2:=of_decide_eq_true hb
 have kid:∀ (j:Int),(0≤j∧j < (c.kd i).length)→(c.tm i).l.getD j.toNat default=c.tm ((c.kd i).getD j.toNat 0):=fun j hj=>by rw [← ki.1,cr (by omega)]
 have klen:(c.tm i).l.length=(c.kd i).length:=by rw [← ki.1];simp
 have kn:∀ (j:Int),(0≤j∧j < (c.kd i).length)→c.dP ((c.kd i).getD j.toNat 0):=fun j hj=>ki.2 _ (aO (by omega))
 have lvun:(AV.tuple [.int .i64 (dE c i),.bool (uM c i k)]).ae=.tuple [.int .i64 (dE c i),.bool (uM c i k)]:=rfl
 have hS:=Sh4 (O:=c.O) (b:=c.tm k) PY ki2
 have e1:((4:Int)=1)=False:=by simp
 simp +contextual only [dF,fI,fJ,fK,hb,Bool.not_true,DU,Ep,PY,not_true_eq_false,not_false_eq_true,decide_true,decide_false,sZ,Nat.reduceEqDiff,Nat.reduceAdd,↓reduceIte,reduceCtorEq,Int.reduceEq]
 refine ⟨fun uQ=>fin0 fun h=>uQ (hS.1 h).1,fun uQ=>?_⟩
 refine ag (FN hc hi hk nz) ?_
 rintro r H2 ⟨rfl,rfl⟩
 have opi:qh c i=c.O.pl (c.tm i).n:=by rw [qh,if_pos ki2]
 have osi:dE c i=c.O.sp (c.O.pl (c.tm i).n):=by rw [dE,if_pos ki2]
 cases hl:uM c i k with
 | false=>
   simp +contextual only [DU,decide_true,decide_false,PY,e1,sZ,Nat.reduceEqDiff,Nat.reduceAdd,Nat.reduceLT,↓reduceIte,reduceCtorEq,Int.reduceEq]
   exact fin0 fun h=>by
    have:=hS.1 h
    rw [kF.2 ⟨ki2,this.2.1,this.2.2.1⟩] at hl
    cases hl
 | true=>
   have LW:=kF.1 hl
   by_cases Bv:dE c i=3
   ·simp +contextual only [p4,k2,DU,rK,decide_true,decide_false,PY,e1,Bv,sZ,Nat.reduceEqDiff,Nat.reduceAdd,Nat.reduceLT,↓reduceIte,reduceCtorEq,Int.reduceEq]
    refine ag (abI ii ik (by omega) (by omega) p (fun x hx y hy=>kh hc (ki.2 x hx) (kk.2 y hy)) (fun x hx y hy q hq=>fL q hq _ _ (ki.2 x hx) (kk.2 y hy)) nz) ?_
    rintro r G ⟨x,rfl,hx,hU,jC⟩
    simp +contextual only [sZ,Nat.reduceEqDiff,↓reduceIte,reduceCtorEq]
    refine fin G x hU jC ?_
    rw [hx,hS,DW,ki.1,kk.1]
    rw [osi] at Bv
    exact ⟨fun h=>⟨uQ,LW.2.1,LW.2.2,Bv,h⟩,fun h=>h.2.2.2.2⟩
   ·have Jn:(dE c i=3)=False:=eq_false Bv
    simp +contextual only [DU,decide_true,decide_false,PY,e1,Jn,sZ,Nat.reduceEqDiff,Nat.reduceAdd,Nat.reduceLT,↓reduceIte,reduceCtorEq,Int.reduceEq]
    refine fin0 fun h=>Bv ?_
    rw [osi];exact (hS.1 h).2.2.2.1
theorem Yc {c:Cx} (hc:c.Ok) {p:PP} {i k:Int} (hi:c.dP i) (hk:c.dP k) (fL:∀ q∈p.l,∀ x y,c.dP x→c.dP y→jw c x y q) (Aj:p.r≠1) (sv:p.r≠2) (MP:p.r≠3) (PY:p.r≠4):jw c i k p:=by
 intro H hD
 refine yi.2.calls rfl ?_
 simp only [yi,aK]
 obtain ⟨p1,p2,p3,p4,p5,p6,p7,p8,p9⟩:=a9 p
 have k2:∀ l,(bo l).ae=bo l:=fun l=>(aG l).2.1
 have ki:=hc.kids i hi
 have kk:=hc.kids k hk
 have l1:=hc.kl i hi
 have l2:=hc.kl k hk
 obtain ⟨a1,a2,a3,a4,a5⟩:=aG (c.kd i)
 obtain ⟨b1,b2,b3,b4,b5⟩:=aG (c.kd k)
 have ii:IL (bo (c.kd i)) (c.kd i):=.inl rfl
 have ik:IL (bo (c.kd k)) (c.kd k):=.inl rfl
 have ei:(c.nd.getD i.toNat default).snd=c.kd i:=rfl
 have ek:(c.nd.getD k.toNat default).snd=c.kd k:=rfl
 obtain ⟨m1,m2,m3⟩:=hD.lt
 have nz:Du c (H++[.cells [bo (c.kd k)]]):=hD.s6 _
 have fin:∀ G (b:Bool),Up c (H++[.cells [bo (c.kd k)]]) G→Du c G→(b=true↔Sh c.O p (c.tm i) (c.tm k))→bV H.length [.t 8] [(8,.bool b)] G (iO c (Sh c.O p (c.tm i) (c.tm k)) H):=by
  intro G b u d hb
  refine aX H.length (yo _) (by rw [aA,if_pos rfl];rfl) ?_
  rw [aA,if_pos rfl]
  exact ⟨b,rfl,hb,u.take,d.take m1 m2 m3⟩
 have fin0:¬ Sh c.O p (c.tm i) (c.tm k)→bV H.length [.t 8] [(8,.bool false)] (H++[.cells [bo (c.kd k)]]) (iO c (Sh c.O p (c.tm i) (c.tm k)) H):=
  fun h=>fin _ _ (Up.refl c _) nz ⟨fun h=>by simp at h,fun h'=>absurd h' h⟩
 have spv:∀ x:AV,ai [AV.ah] 0 [x]=[x]:=fun x=>rfl
 simp +contextual only [p1,hD.d,mP,En,cG,bY,k2,ei,ek,b1,b3,b4,b5,List.map_cons,List.map_nil,spv,List.all_cons,List.all_nil,acQ,bE,cN,sZ,Nat.reduceEqDiff,Nat.reduceAdd,Nat.reduceLT,↓reduceIte,reduceCtorEq]
 refine ⟨hi,hk,ag (qi hc hi nz) ?_⟩
 rintro r H2 ⟨rfl,rfl⟩
 cases hb:sf c i with
 | false=>
   have ki2:¬ (c.tm i).k=2:=of_decide_eq_false hb
   simp +contextual only [dF,fI,fJ,fK,hb,Bool.not_false,sZ,Nat.reduceEqDiff,↓reduceIte,reduceCtorEq]
   exact fin0 fun h=>ki2 (DY h)
 | true=>
 have ki2:(c.tm i).k=2:=of_decide_eq_true hb
 have kid:∀ (j:Int),(0≤j∧j < (c.kd i).length)→(c.tm i).l.getD j.toNat default=c.tm ((c.kd i).getD j.toNat 0):=fun j hj=>by rw [← ki.1,cr (by omega)]
 have klen:(c.tm i).l.length=(c.kd i).length:=by rw [← ki.1];simp
 have kn:∀ (j:Int),(0≤j∧j < (c.kd i).length)→c.dP ((c.kd i).getD j.toNat 0):=fun j hj=>ki.2 _ (aO (by omega))
 have lvun:(AV.tuple [.int .i64 (dE c i),.bool (uM c i k)]).ae=.tuple [.int .i64 (dE c i),.bool (uM c i k)]:=rfl
 have hS:=Sh0 (O:=c.O) (a:=c.tm i) (b:=c.tm k) Aj sv MP PY
 simp +contextual only [dF,fI,fJ,fK,hb,Bool.not_true,DU,Ep,PV,Aj,MP,PY,not_true_eq_false,not_false_eq_true,decide_true,decide_false,ax,sZ,Nat.reduceEqDiff,Nat.reduceAdd,↓reduceIte,reduceCtorEq]
 refine fun _=>⟨fun h0=>⟨fun uQ=>fin0 hS,fun uQ=>?_⟩,fun h0=>fin0 hS⟩
 refine ag (FN hc hi hk nz) ?_
 rintro r H2 ⟨rfl,rfl⟩
 simp +contextual only [DU,lvun,decide_false,Aj,sv,MP,PY,sZ,Nat.reduceEqDiff,Nat.reduceAdd,Nat.reduceLT,↓reduceIte,reduceCtorEq]
 exact fin0 hS
end Go.aJ
end
section
set_option maxRecDepth 100000
namespace Go.aJ
open Go Go.Proofs Go.eN
theorem Yd {O:Od} {f:Int→T} {at':Int} {l:List PP} {a:T} {x y kd:List Int} {bl:List T} (hb:kd.map f=bl):DR (E O) (Sh O) at' l a (x.map f) (y.map f) bl ↔
 (0≤at'∧at' < x.length∧at'≤y.length)∧(∀ j,j < at'.toNat→E O (f (x.getD j 0)) (f (y.getD j 0)))∧
 (if at'=y.length then lR (Sh O) l a (kd.map f) else ∃ q r,l=q::r∧Sh O q (f (x.getD at'.toNat 0)) (f (y.getD at'.toNat 0))∧lR (Sh O) r a (kd.map f)):=by
 unfold DR
 rw [hb]
 simp only [acW]
 refine and_congr_right fun h=>?_
 have e:∀ j,j < at'.toNat→((x.map f).getD j default=f (x.getD j 0)∧(y.map f).getD j default=f (y.getD j 0)):=fun j hj=>⟨cr (by omega),cr (by omega)⟩
 refine and_congr ⟨fun k j hj=>?_,fun k j hj=>?_⟩ ?_
 ·have:=k j hj;rwa [(e j hj).1,(e j hj).2] at this
 ·rw [(e j hj).1,(e j hj).2];exact k j hj
 ·split
  ·exact Iff.rfl
  ·rw [cr (by omega),cr (by omega)]
theorem Ye {c:Cx} (hc:c.Ok) {p:PP} {i k:Int} (hi:c.dP i) (hk:c.dP k) (fL:∀ q∈p.l,∀ x y,c.dP x→c.dP y→jw c x y q) (MP:p.r=3):jw c i k p:=by
 intro H hD
 refine yi.2.calls rfl ?_
 simp only [yi,aK]
 obtain ⟨p1,p2,p3,p4,p5,p6,p7,p8,p9⟩:=a9 p
 have k2:∀ l,(bo l).ae=bo l:=fun l=>(aG l).2.1
 have ki:=hc.kids i hi
 have kk:=hc.kids k hk
 have l1:=hc.kl i hi
 have l2:=hc.kl k hk
 obtain ⟨a1,a2,a3,a4,a5⟩:=aG (c.kd i)
 obtain ⟨b1,b2,b3,b4,b5⟩:=aG (c.kd k)
 have ii:IL (bo (c.kd i)) (c.kd i):=.inl rfl
 have ik:IL (bo (c.kd k)) (c.kd k):=.inl rfl
 have ei:(c.nd.getD i.toNat default).snd=c.kd i:=rfl
 have ek:(c.nd.getD k.toNat default).snd=c.kd k:=rfl
 obtain ⟨m1,m2,m3⟩:=hD.lt
 have nz:Du c (H++[.cells [bo (c.kd k)]]):=hD.s6 _
 have fin:∀ G (b:Bool),Up c (H++[.cells [bo (c.kd k)]]) G→Du c G→(b=true↔Sh c.O p (c.tm i) (c.tm k))→bV H.length [.t 8] [(8,.bool b)] G (iO c (Sh c.O p (c.tm i) (c.tm k)) H):=by
  intro G b u d hb
  refine aX H.length (yo _) (by rw [aA,if_pos rfl];rfl) ?_
  rw [aA,if_pos rfl]
  exact ⟨b,rfl,hb,u.take,d.take m1 m2 m3⟩
 have fin0:¬ Sh c.O p (c.tm i) (c.tm k)→bV H.length [.t 8] [(8,.bool false)] (H++[.cells [bo (c.kd k)]]) (iO c (Sh c.O p (c.tm i) (c.tm k)) H):=
  fun h=>fin _ _ (Up.refl c _) nz ⟨fun h=>by simp at h,fun h'=>absurd h' h⟩
 have spv:∀ x:AV,ai [AV.ah] 0 [x]=[x]:=fun x=>rfl
 simp +contextual only [p1,hD.d,mP,En,cG,bY,k2,ei,ek,b1,b3,b4,b5,List.map_cons,List.map_nil,spv,List.all_cons,List.all_nil,acQ,bE,cN,sZ,Nat.reduceEqDiff,Nat.reduceAdd,Nat.reduceLT,↓reduceIte,reduceCtorEq]
 refine ⟨hi,hk,ag (qi hc hi nz) ?_⟩
 rintro r H2 ⟨rfl,rfl⟩
 cases hb:sf c i with
 | false=>
   have ki2:¬ (c.tm i).k=2:=of_decide_eq_false hb
   simp +contextual only [dF,fI,fJ,fK,hb,Bool.not_false,sZ,Nat.reduceEqDiff,↓reduceIte,reduceCtorEq]
   exact fin0 fun h=>ki2 (DY h)
 | true=>
 have ki2:(c.tm i).k=2:=of_decide_eq_true hb
 have kid:∀ (j:Int),(0≤j∧j < (c.kd i).length)→(c.tm i).l.getD j.toNat default=c.tm ((c.kd i).getD j.toNat 0):=fun j hj=>by rw [← ki.1,cr (by omega)]
 have klen:(c.tm i).l.length=(c.kd i).length:=by rw [← ki.1];simp
 have kn:∀ (j:Int),(0≤j∧j < (c.kd i).length)→c.dP ((c.kd i).getD j.toNat 0):=fun j hj=>ki.2 _ (aO (by omega))
 have lvun:(AV.tuple [.int .i64 (dE c i),.bool (uM c i k)]).ae=.tuple [.int .i64 (dE c i),.bool (uM c i k)]:=rfl
 have hS:=Sh3 (O:=c.O) (b:=c.tm k) MP ki2
 have e1:((3:Int)=1)=False:=by simp
 simp +contextual only [dF,fI,fJ,fK,hb,Bool.not_true,DU,PV,MP,not_true_eq_false,not_false_eq_true,decide_true,decide_false,ax,sZ,Nat.reduceEqDiff,Nat.reduceAdd,↓reduceIte,reduceCtorEq,Int.reduceEq]
 refine fun _=>⟨fun h0=>?_,fun h0=>fin0 fun h=>?_⟩
 ·have BO:p.to=[]:=abt.1 (by omega)
  refine ag (FN hc hi hk nz) ?_
  rintro r H2 ⟨rfl,rfl⟩
  simp +contextual only [k2,DU,lvun,decide_true,decide_false,MP,e1,sZ,Nat.reduceEqDiff,Nat.reduceAdd,Nat.reduceLT,↓reduceIte,Int.reduceEq]
  refine aL (I5 (c.kd i) (dE c i) (by omega)) ?_
  simp +contextual only [k2,sZ,Nat.reduceEqDiff,Nat.reduceAdd,Nat.reduceLT,↓reduceIte]
  refine aL (I5 (c.kd k) (dE c i) (by omega)) ?_
  have opi:qh c i=c.O.pl (c.tm i).n:=by rw [qh,if_pos ki2]
  have osi:dE c i=c.O.sp (c.O.pl (c.tm i).n):=by rw [dE,if_pos ki2]
  have hx:side (c.O.sp (c.O.pl (c.tm i).n)) (c.tm i).l=(bH (dE c i) (c.kd i)).map c.tm:=by rw [← osi,← ki.1,jH]
  have hy:side (c.O.sp (c.O.pl (c.tm i).n)) (c.tm k).l=(bH (dE c i) (c.kd k)).map c.tm:=by rw [← osi,← kk.1,jH]
  rw [hx,hy,Yd (kd:=c.kd k) kk.1] at hS
  have lx:(bH (dE c i) (c.kd i)).length=(c.kd i).length:=jF
  have ly:(bH (dE c i) (c.kd k)).length=(c.kd k).length:=jF
  have nx:∀ z∈bH (dE c i) (c.kd i),c.dP z:=fun z hz=>ki.2 z (o9.1 hz)
  have ny:∀ z∈bH (dE c i) (c.kd k),c.dP z:=fun z hz=>kk.2 z (o9.1 hz)
  generalize bH (dE c i) (c.kd i)=x at *
  generalize bH (dE c i) (c.kd k)=y at *
  have ix:IL (.al 0 (ints x)) x:=.inr rfl
  have iy:IL (.al 0 (ints y)) y:=.inr rfl
  cases hl:uM c i k with
  | false=>
    simp +contextual only [Bool.not_false,sZ,Nat.reduceEqDiff,↓reduceIte,reduceCtorEq]
    exact fin0 fun h=>by
     have:=hS.1 h
     rw [kF.2 ⟨ki2,this.2.1,this.2.2.1⟩] at hl
     cases hl
  | true=>
  have LW:=kF.1 hl
  by_cases Bv:dE c i=3
  ·have abK:(dE c i=3)=True:=eq_true Bv
   simp +contextual only [decide_true,Bool.not_true,abK,sZ,Nat.reduceEqDiff,↓reduceIte,reduceCtorEq]
   refine fin0 fun h=>(hS.1 h).2.2.2.1 ?_
   rw [← osi];exact Bv
  ·have Jn:(dE c i=3)=False:=eq_false Bv
   have lvun':True:=trivial
   by_cases hI:0≤p.i∧p.i < x.length∧p.i≤y.length
   ·have n1:(p.i < 0)=False:=eq_false (by omega)
    have n2:((x.length:Int)≤p.i)=False:=eq_false (by omega)
    have n3:((y.length:Int) < p.i)=False:=eq_false (by omega)
    simp +contextual only [Option.map_some,Option.map_none,Ep,decide_false,Bool.not_true,Jn,n1,n2,n3,ix.aN,iy.aN,ix.xa,iy.xa,slT x p.i ⟨hI.1,by omega⟩,slT y p.i ⟨hI.1,by omega⟩,sZ,Nat.reduceEqDiff,Nat.reduceAdd,↓reduceIte,reduceCtorEq]
    refine ag (XD (SD.Bf c _) (.inr rfl:IL (.al 0 (ints (x.take p.i.toNat))) (x.take p.i.toNat)) (.inr rfl:IL (.al 0 (ints (y.take p.i.toNat))) (y.take p.i.toNat)) (by rw [acN];omega) (by rw [acN];omega) 79 [.ptr c.d 0] [] rfl rfl (Q:=fun x y=>E c.O (c.tm x) (c.tm y))
     (fun u hu v hv G hG=>(kh hc (nx u (acX hu)) (ny v (acX hv)) G hG.1).mono fun r H' hr=>hr.sb hG) ⟨nz,Up.refl c _⟩) ?_
    rintro r G ⟨z,rfl,hz,hG⟩
    have Eo:z=true↔∀ j,j < p.i.toNat→E c.O (c.tm (x.getD j 0)) (c.tm (y.getD j 0)):=by
     rw [hz]
     have lt1:(x.take p.i.toNat).length=p.i.toNat:=by rw [acN];omega
     have lt2:(y.take p.i.toNat).length=p.i.toNat:=by rw [acN];omega
     rw [lt1,lt2]
     have et:∀ (l:List Int) j,j < p.i.toNat→(l.take p.i.toNat).getD j 0=l.getD j 0:=fun l j hj=>by simp [sc,hj]
     constructor
     ·rintro ⟨_,h⟩ j hj;have:=h j hj;rwa [et _ _ hj,et _ _ hj] at this
     ·intro h;exact ⟨rfl,fun j hj=>by rw [et _ _ hj,et _ _ hj];exact h j hj⟩
    have finG:∀ G' (b:Bool),Up c G G'→Du c G'→(b=true↔Sh c.O p (c.tm i) (c.tm k))→bV H.length [.t 8] [(8,.bool b)] G' (iO c (Sh c.O p (c.tm i) (c.tm k)) H):=fun G' b u d hb=>fin G' b (hG.2.trans u) d hb
    have finG0:¬ Sh c.O p (c.tm i) (c.tm k)→bV H.length [.t 8] [(8,.bool false)] G (iO c (Sh c.O p (c.tm i) (c.tm k)) H):=
     fun h=>finG _ _ (Up.refl c _) hG.1 ⟨fun h=>by simp at h,fun h'=>absurd h' h⟩
    have gq:G[H.length]?=some (.cells [bo (c.kd k)]):=by rw [hG.2.get H.length (by omega) (by omega)];simp
    cases z with
    | false=>
      simp +contextual only [Bool.not_false,sZ,Nat.reduceEqDiff,↓reduceIte,reduceCtorEq]
      exact finG0 fun h=>absurd (Eo.2 (hS.1 h).2.2.2.2.2.1) (by simp)
    | true=>
      have hz1:=Eo.1 rfl
      by_cases he:p.i=y.length
      ·have n4:(p.i=(y.length:Int))=True:=eq_true he
       simp +contextual only [Ep,LQ,decide_true,Bool.not_true,iy.len (by omega),iy.aN,n4,sZ,Nat.reduceEqDiff,Nat.reduceAdd,↓reduceIte,reduceCtorEq]
       refine ag (Uo ik (by omega) (q:=H.length) ⟨by omega,by omega⟩ (fun j h1 h2=>fL _ (eg h2) _ _ hi (kk.2 _ (aO h1))) hG.1 gq) ?_
       rintro r G' ⟨w,rfl,hw,hU,jC⟩
       simp +contextual only [sZ,↓reduceIte,reduceCtorEq]
       refine finG G' w hU jC ?_
       rw [hw,hS]
       rw [if_pos he]
       rw [osi] at Bv
       exact ⟨fun h=>⟨BO,LW.2.1,LW.2.2,Bv,hI,hz1,h⟩,fun h=>h.2.2.2.2.2.2⟩
      ·have n4:(p.i=(y.length:Int))=False:=eq_false he
       rw [if_neg he] at hS
       cases uN:p.l with
       | nil=>
         have n5:(0 < ((0:Nat):Int))=False:=eq_false (by simp)
         simp +contextual only [Ep,LQ,eK,decide_false,Bool.not_true,iy.len (by omega),iy.aN,n4,uN,lF,n5,sZ,Nat.reduceEqDiff,↓reduceIte,reduceCtorEq]
         exact finG0 fun h=>by
          obtain ⟨q,r,e,_⟩:=(hS.1 h).2.2.2.2.2.2
          rw [uN] at e;cases e
       | cons q r=>
         have n5:(0 < ((r.length + 1:Nat):Int))=True:=eq_true (by omega)
         have n6:(q::r).getD (0:Int).toNat default=q:=rfl
         obtain ⟨q1,q2,q3,q4,q5,q6,q7,q8,q9⟩:=a9 q
         simp only [uN] at hS fL
         simp +contextual only [Ep,LQ,Bs,rJ,rK,eK,decide_true,decide_false,Bool.not_true,iy.len (by omega),iy.aN,n4,uN,lF,n5,n6,ix.idx,iy.idx,ix.lens,iy.lens,q4,sZ,Nat.reduceEqDiff,Nat.reduceAdd,↓reduceIte,reduceCtorEq]
         refine ⟨by omega,by omega,by omega,ag (fL q aan _ _ (nx _ (aO (by omega))) (ny _ (aO (by omega))) G hG.1) ?_⟩
         rintro r' G2 ⟨w,rfl,hw,hU,BN⟩
         cases w with
         | false=>
           simp +contextual only [sZ,Nat.reduceEqDiff,↓reduceIte,reduceCtorEq]
           refine finG G2 false hU BN ⟨fun h=>by simp at h,fun h=>?_⟩
           obtain ⟨q',r',e,h',_⟩:=(hS.1 h).2.2.2.2.2.2
           cases e
           exact hw.2 h'
         | true=>
           have gq2:G2[H.length]?=some (.cells [bo (c.kd k)]):=by rw [hU.get H.length (by omega) (by omega),gq]
           simp +contextual only [Option.map_some,Option.map_none,LQ,X8,uN,sZ,Nat.reduceEqDiff,Nat.reduceAdd,↓reduceIte,reduceCtorEq]
           refine ag (Uo ik (by omega) (q:=H.length) ⟨by omega,by omega⟩ (fun j h1 h2=>fL _ (aai _ (eg h2)) _ _ hi (kk.2 _ (aO h1))) BN gq2) ?_
           rintro r' G3 ⟨v,rfl,hv,XI,LD⟩
           simp +contextual only [sZ,Nat.reduceEqDiff,↓reduceIte,reduceCtorEq]
           refine finG G3 v (hU.trans XI) LD ?_
           rw [hv,hS]
           rw [osi] at Bv
           constructor
           ·exact fun h=>⟨BO,LW.2.1,LW.2.2,Bv,hI,hz1,q,r,rfl,hw.1 rfl,h⟩
           ·rintro ⟨_,_,_,_,_,_,q',r',e,_,h⟩
            cases e
            exact h
   ·have bad:¬ Sh c.O p (c.tm i) (c.tm k):=fun h=>hI (hS.1 h).2.2.2.2.1
    by_cases m1':p.i < 0
    ·have n1:(p.i < 0)=True:=eq_true m1'
     simp +contextual only [Ep,decide_true,decide_false,Bool.not_true,Jn,n1,sZ,Nat.reduceEqDiff,↓reduceIte,reduceCtorEq]
     exact fin0 bad
    ·have n1:(p.i < 0)=False:=eq_false m1'
     by_cases m2':(x.length:Int)≤p.i
     ·have n2:((x.length:Int)≤p.i)=True:=eq_true m2'
      simp +contextual only [Ep,decide_true,decide_false,Bool.not_true,Jn,n1,n2,ix.aN,ix.xa,sZ,Nat.reduceEqDiff,↓reduceIte,reduceCtorEq]
      exact fin0 bad
     ·have n2:((x.length:Int)≤p.i)=False:=eq_false m2'
      have n3:((y.length:Int) < p.i)=True:=eq_true (by omega)
      simp +contextual only [Ep,decide_true,decide_false,Bool.not_true,Jn,n1,n2,n3,ix.aN,iy.aN,ix.xa,iy.xa,sZ,Nat.reduceEqDiff,↓reduceIte,reduceCtorEq]
      exact fin0 bad
 ·rw [(hS.1 h).1] at h0;simp at h0
end Go.aJ
end
section
set_option maxRecDepth 100000
namespace Go.aJ
open Go Go.Proofs Go.eN
theorem c87 {c:Cx} (hc:c.Ok):∀ (N:Nat) (p:PP) (i k:Int),pz p≤N→c.dP i→c.dP k→jw c i k p:=by
 intro N
 induction N with
 | zero=>intro p i k h;have:=Bq p;omega
 | succ N ih=>
 intro p i k hN hi hk
 have fL:∀ q∈p.l,∀ x y,c.dP x→c.dP y→jw c x y q:=fun q hq x y hx hy=>ih q x y (by have:=Br hq;omega) hx hy
 by_cases h1:p.r=1
 ·exact X9 hc hi hk fL h1
 by_cases h2:p.r=2
 ·exact Ya hc hi hk fL h2
 by_cases h3:p.r=3
 ·exact Ye hc hi hk fL h3
 by_cases h4:p.r=4
 ·exact Yb hc hi hk fL h4
 exact Yc hc hi hk fL h1 h2 h3 h4
theorem Ur {c:Cx} (hc:c.Ok) {p:PP} {i k:Int} (hi:c.dP i) (hk:c.dP k):jw c i k p:=c87 hc _ p i k (yo _) hi hk
open Classical in
noncomputable def DZ (s:Sg) (ps ss:List Int) (a b:T) (p:PP):Int:=if iJ s ps ss [a,b]=0 then (if Sh (ko ps ss) p a b then 0 else 61) else iJ s ps ss [a,b]
theorem c28 (s:Sg) (ps ss:List Int) (a b:T) (p:PP):Pure Tryz.prog 28 [s.av,fa ps ss,a.av,b.av,ep p] (.int .i64 (DZ s ps ss a b p)):=by
 refine fun H=>k28.2.calls rfl ?_
 simp only [k28,aK]
 obtain ⟨q1,q2,q3,q4,q5,q6⟩:=bi ps ss
 obtain ⟨p1,p2,p3,p4,p5,p6,p7,p8,p9⟩:=a9 p
 simp +contextual only [aZ,q1,q4,p1,cW,sZ,Nat.reduceEqDiff,Nat.reduceAdd,↓reduceIte,reduceCtorEq]
 refine af (X0 s ps ss [a,b]) ?_
 by_cases h0:iJ s ps ss [a,b]=0
 ·have hr:=rH h0
  have hw:=mR hr.tree
  have hc:=hr.cx (by simp) (by simp) H.length
  have hd:=zC ps ss (ts:=[a,b]) (by simp) H
  simp +contextual only [q4,cW,h0,sZ,Nat.reduceEqDiff,Nat.reduceAdd,↓reduceIte]
  refine ag (Xy ps ss [a,b] H (by simp at hw;omega)) ?_
  rintro r G ⟨rfl,rfl⟩
  have a0:=uv (ps:=ps) (ss:=ss) (ts:=[a,b]) (n:=H.length) (j:=0) (by simp)
  have a1:=uv (ps:=ps) (ss:=ss) (ts:=[a,b]) (n:=H.length) (j:=1) (by simp)
  have hl:=cF [a,b] 0
  rw [PT]
  generalize aY [a,b] 0=ks at a0 a1 hl ⊢
  have pi:ks.length=2:=hl
  simp +contextual only [cH,pi,dh,rK,p4,sZ,Nat.reduceEqDiff,Nat.reduceAdd,Nat.reduceLT,↓reduceIte,reduceCtorEq]
  refine ⟨by decide,by decide,ag (Ur hc a0.1 a1.1 _ hd) ?_⟩
  rintro r G ⟨x,rfl,hx,hU,hD⟩
  rw [a0.2,a1.2] at hx
  have qp:x=true↔Sh (ko ps ss) p a b:=hx
  have Yf:=hU.low (by simp [gK]) (by simp [gK])
  cases x with
  | true=>
    simp +contextual only [Bool.not_true,sZ,↓reduceIte,reduceCtorEq]
    exact Pq Yf rfl rfl ⟨by rw [DZ,if_pos h0,if_pos (qp.1 rfl)],rfl⟩
  | false=>
    simp +contextual only [Bool.not_false,sZ,↓reduceIte,reduceCtorEq]
    exact Pq Yf rfl rfl ⟨by rw [DZ,if_pos h0,if_neg (fun h=>absurd (qp.2 h) (by simp))],rfl⟩
 ·simp +contextual only [h0,sZ,Nat.reduceEqDiff,↓reduceIte,reduceCtorEq]
  exact bf rfl (by rw [DZ,if_neg h0])
end Go.aJ
end
section
set_option maxRecDepth 100000
set_option maxHeartbeats 0
namespace Go.aJ
open Go Go.Proofs
noncomputable def D0:=aK Tryz.call86 Tryz.func86 Tryz.ntmps86 [(0,0,1),(0,1,1),(3,6,2000),(8,2,2000),(9,7,2000),(10,7,2000),(10,8,1),(10,10,1),(13,3,2000),(16,3,1000),(19,3,2000),(20,9,2000),(21,1,1),(21,6,1),(21,11,1),(21,13,1),(27,3,2000),(29,1,1),(29,13,2000),(29,17,1),(33,1,1),(33,5,2000),(33,9,1)] [(0,[1,3,5,6]),(1,[1,3,5,6,7,8]),(2,[1,3,5,6,7,8,9]),(3,[1,3,5,6,7,8,9,47]),(4,[1,3,5,6,7,8,9]),(5,[1,3,5,6,7,8,9,10]),(6,[1,3,5,6,7,8,10,52]),(7,[1,3,5,6,7,8,10,52,53]),(8,[3,5,6,7,10]),(9,[3,5,6,7,10,67]),(10,[6,10]),(11,[6]),(12,[1,3,6,7,8,10,52,79]),(13,[3,6,7,8,10,11,13]),(14,[3,6,7,8,10,11,89,90,91]),(15,[3,6,7,8,10,11,89,90,91,92]),(16,[3,6,7,8,10,11,14,15,89,90,91]),(17,[3,6,7,8,10,11,14,15,16,89,90,91]),(18,[3,6,7,8,10,11,14,15,16,89,90,91,97]),(19,[3,6,7,8,10,11,14,15,16,89,90,91]),(20,[3,6,7,8,10,11,15,16,89,90,91]),(21,[3,6,7,8,10,11,89,90,91]),(22,[3,6,7,8,10,11,89,90,91]),(23,[6]),(24,[1,3,6,7,8,10,128]),(25,[1,3,6,7,8,10,18]),(26,[1,3,6,8,10,20,21]),(27,[1,3,6,8,10,20,21]),(28,[1,3,6,8,10,20,21,152]),(29,[1,3,6,8,10]),(30,[1,3,6,10,170,171,172]),(31,[1,3,6,10,170,171,172,173]),(32,[1,3,6,10,23,170,171,172]),(33,[1,3,6,10,170,171,172]),(34,[1,3,6,10,170,171,172]),(35,[6])] [(1,(.take 0 true (.take 1 true (.take 2 true (.take 3 true (.take 4 true (.take 5 true (.take 6 true (.take 7 true (.take 8 false (.take 9 false (.take 10 false (.take 12 false (.br 11 (.take 13 false (.take 14 false (.take 15 false (.br 16 (.br 17 (.br 18 (.br 19 .done .nil) .nil) .nil) (.br 17 (.br 16 (.br 18 (.br 19 .done .nil) .nil) .nil) .nil))))) (.br 16 (.br 11 (.take 13 false (.take 14 false (.take 15 false (.br 17 (.br 18 (.br 19 .done .nil) .nil) .nil)))) (.br 17 (.br 11 (.take 13 false (.take 14 false (.take 15 false (.br 18 (.br 19 .done .nil) .nil)))) (.br 18 (.take 11 true (.take 13 true (.take 14 true (.take 15 true (.br 19 .done .nil))))) .nil)) .nil)) (.br 17 (.br 11 (.take 13 false (.take 14 false (.take 15 false (.br 16 (.br 18 (.br 19 .done .nil) .nil) .nil)))) (.br 16 (.br 11 (.take 13 false (.take 14 false (.take 15 false (.br 18 (.br 19 .done .nil) .nil)))) (.br 18 (.take 11 true (.take 13 true (.take 14 true (.take 15 true (.br 19 .done .nil))))) .nil)) .nil)) .nil)))))))))))))))),(3,(.take 0 true (.take 1 true (.take 2 true (.take 3 true (.take 4 true (.take 5 true (.br 6 (.take 7 true .done) .nil)))))))),(9,(.take 0 true (.take 1 true (.take 2 true (.take 3 true (.take 4 true (.take 5 true (.take 6 true (.br 7 (.take 8 true .done) .nil))))))))),(10,(.take 0 true (.take 1 true (.take 2 true (.take 3 true (.take 4 true (.take 5 true (.take 6 true (.br 7 (.take 8 true (.take 9 true (.br 10 .done .nil))) .nil))))))))),(20,(.take 0 true (.take 1 true (.take 2 true (.take 3 true (.take 4 true (.take 5 true (.take 6 true (.take 7 true (.take 8 true (.br 9 (.br 10 .done .nil) .nil))))))))))),(21,(.take 0 false (.take 2 false (.take 3 false (.take 5 false (.br 1 (.br 4 (.br 6 (.take 7 true (.take 8 true (.take 10 true (.br 9 (.br 11 (.take 12 true (.br 13 .done .nil)) .nil) .nil)))) (.br 7 (.take 8 false (.br 6 (.take 10 true (.br 9 (.br 11 (.take 12 true (.br 13 .done .nil)) .nil) .nil)) .nil)) .nil)) (.br 6 (.take 7 true (.take 8 true (.br 4 (.take 10 true (.br 9 (.br 11 (.take 12 true (.br 13 .done .nil)) .nil) .nil)) .nil))) (.br 7 (.take 8 false (.br 4 (.br 6 (.take 10 true (.br 9 (.br 11 (.take 12 true (.br 13 .done .nil)) .nil) .nil)) .nil) (.br 6 (.br 4 (.take 10 true (.br 9 (.br 11 (.take 12 true (.br 13 .done .nil)) .nil) .nil)) .nil) .nil))) .nil))) (.br 6 (.br 1 (.take 7 true (.take 8 true (.br 4 (.take 10 true (.br 9 (.br 11 (.take 12 true (.br 13 .done .nil)) .nil) .nil)) .nil))) (.br 7 (.take 8 false (.br 1 (.br 4 (.take 10 true (.br 9 (.br 11 (.take 12 true (.br 13 .done .nil)) .nil) .nil)) .nil) .nil)) .nil)) (.br 7 (.take 8 false (.br 1 (.br 4 (.br 6 (.take 10 true (.br 9 (.br 11 (.take 12 true (.br 13 .done .nil)) .nil) .nil)) .nil) (.br 6 (.br 4 (.take 10 true (.br 9 (.br 11 (.take 12 true (.br 13 .done .nil)) .nil) .nil)) .nil) .nil)) (.br 6 (.br 1 (.br 4 (.take 10 true (.br 9 (.br 11 (.take 12 true (.br 13 .done .nil)) .nil) .nil)) .nil) .nil) .nil))) .nil)))))))),(26,(.take 0 true (.take 1 true (.take 2 true (.take 3 true (.take 4 true (.take 5 true (.take 6 true (.take 7 true .done))))))))),(29,(.take 0 false (.take 2 false (.take 3 false (.take 4 false (.take 8 false (.take 9 false (.br 1 (.take 5 true (.take 6 true (.take 7 true (.take 10 true (.take 11 true (.take 12 true (.br 13 (.take 14 true (.br 15 (.take 16 true (.br 17 .done .nil)) .nil)) .nil))))))) (.br 5 (.take 6 false (.take 7 false (.br 1 (.take 10 true (.take 11 true (.take 12 true (.br 13 (.take 14 true (.br 15 (.take 16 true (.br 17 .done .nil)) .nil)) .nil)))) (.br 10 (.take 11 false (.take 12 false (.br 1 (.br 13 (.take 14 true (.br 15 (.take 16 true (.br 17 .done .nil)) .nil)) .nil) (.br 13 (.take 14 false (.br 1 (.br 15 (.take 16 true (.br 17 .done .nil)) .nil) .nil)) .nil)))) .nil)))) (.br 10 (.take 11 false (.take 12 false (.br 1 (.take 5 true (.take 6 true (.take 7 true (.br 13 (.take 14 true (.br 15 (.take 16 true (.br 17 .done .nil)) .nil)) .nil)))) (.br 5 (.take 6 false (.take 7 false (.br 1 (.br 13 (.take 14 true (.br 15 (.take 16 true (.br 17 .done .nil)) .nil)) .nil) (.br 13 (.take 14 false (.br 1 (.br 15 (.take 16 true (.br 17 .done .nil)) .nil) .nil)) .nil)))) .nil)))) .nil)))))))))),(33,(.take 0 false (.take 2 false (.take 3 false (.take 4 false (.br 1 (.br 5 (.take 6 true (.br 7 (.take 8 true (.br 9 .done .nil)) .nil)) .nil) (.br 5 (.take 6 false (.br 1 (.br 7 (.take 8 true (.br 9 .done .nil)) .nil) .nil)) .nil)))))))]
end Go.aJ
end
section
set_option maxRecDepth 100000
namespace Go.aJ
open Go Go.Proofs Go.eN
def pk (l:List PP):AV:=match l with | []=>.ah | _::_=>.al 4 (eh l)
def ux (l:List Int):AV:=match l with | []=>.ah | _::_=>.al 1 (ints l)
theorem iL (l:List PP):(pk l).val=true∧(pk l).cells=[pk l]∧(pk l).one=true∧(∀ n,(pk l).a8 n=true)∧(pk l).drop=.al 0 (eh l)∧∀ n,(pk l).ae.a8 n=true:=by
 cases l with
 | nil=>exact ⟨rfl,rfl,rfl,fun _=>rfl,rfl,fun _=>rfl⟩
 | cons x r=>exact ⟨rfl,rfl,rfl,fun n=>by rw [pk,ch];exact iX _ _,rfl,fun n=>by rw [pk,wI,ch];exact iX _ _⟩
theorem lT (l:List Int):(ux l).val=true∧(ux l).cells=[ux l]∧(ux l).one=true∧(∀ n,(ux l).a8 n=true)∧(ux l).drop=.al 0 (ints l)∧∀ n,(ux l).ae.a8 n=true:=by
 cases l with
 | nil=>exact ⟨rfl,rfl,rfl,fun _=>rfl,rfl,fun _=>rfl⟩
 | cons x r=>exact ⟨rfl,rfl,rfl,fun n=>by rw [ux,ch];exact aW _ _,rfl,fun n=>by rw [ux,wI,ch];exact aW _ _⟩
theorem LX (a b:List PP):eh (a++b)=eh a++eh b:=by simp [lS]
theorem D1 (l:List PP) (q:PP) (h:l.length < 1000000000) (o:Nat) (ψ:List AV→Prop):bw 4 64 (pk l) (.al o [ep q]) ψ=ψ (eh (l++[q])):=by
 have jv:sq 4 [ep q]:=of_eq_true (Um [q])
 rw [LX]
 cases l with
 | nil=>rw [pk,mE];simp [jv,eh]
 | cons x r=>
   rw [pk,kZ,eK]
   have e:eh [q]=[ep q]:=rfl
   rw [e]
   simp only [jv,List.length_cons,List.length_nil,true_and,eq_iff_iff]
   simp only [List.length_cons] at h
   exact ⟨fun h=>h.2,fun k=>⟨by omega,k⟩⟩
theorem Rg (l:List Int) (q:Int) (h:l.length < 1000000000) (o:Nat) (ψ:List AV→Prop):bw 1 8 (ux l) (.al o [.int .i64 q]) ψ=ψ (ints (l++[q])):=by
 have jv:sq 1 [AV.int .i64 q]:=of_eq_true (mI [q])
 have e:ints [q]=[AV.int .i64 q]:=rfl
 cases l with
 | nil=>rw [ux,mE];simp [jv,ints]
 | cons x r=>
   rw [ux,kZ,ax,← lL,e]
   simp only [jv,List.length_cons,List.length_nil,true_and,eq_iff_iff]
   simp only [List.length_cons] at h
   exact ⟨fun h=>h.2,fun k=>⟨by omega,k⟩⟩
theorem jI (q:PP):aP (ep q)=ep q:=by rw [oz];rfl
theorem rL (l:List PP) (q:PP):AV.al 4 (eh (l++[q]))=pk (l++[q]):=by cases l <;> rfl
theorem D2 (l:List Int) (q:Int):AV.al 1 (ints (l++[q]))=ux (l++[q]):=by cases l <;> rfl
theorem d3 {α:Type} (x y z u d:α) (r:List α):(x::y::z::u::r).getD 3 d=u:=by simp
theorem s3 {α:Type} (x y z w u:α) (r:List α):(x::y::z::w::r).set 3 u=x::y::z::u::r:=by simp
theorem Us (a b c d y:AV):ai [a,b,c,d] 1 [y]=[a,y,c,d]:=by simp [ai]
theorem Jo (a b c d x y z u:AV):ai [a,b,c,d] 0 [x,y,z,u]=[x,y,z,u]:=by simp [ai]
theorem Rh (r i:Int) (to:List Int) (l:List PP) (φ:AV→Prop):cL (some (.cells [.int .i64 r,.int .i64 i,ux to,pk l])) (some 4) 0 φ=φ (ep (.mk r i to l)):=by
 have e:List.map AV.drop [AV.int .i64 r,.int .i64 i,ux to,pk l]=[.int .i64 r,.int .i64 i,.al 0 (ints to),.al 0 (eh l)]:=by
  simp only [List.map_cons,List.map_nil,(iL l).2.2.2.2.1,(lT to).2.2.2.2.1];rfl
 simp only [cL,List.drop_zero,List.length_cons,List.length_nil,List.take_succ_cons,List.take_zero,e,ep]
 simp
def Yg (c:Cx) (i k:Int) (H:List aa) (r:AV) (H':List aa):Prop:=∃ p,r=ep p∧Sh c.O p (c.tm i) (c.tm k)∧Up c H H'∧Du c H'
def pn (c:Cx) (i k:Int):Prop:=∀ H,Du c H→aw Tryz.prog 86 [.ptr c.d 0,.int .i64 i,.int .i64 k] H (Yg c i k H)
structure PB (c:Cx) (H:List aa) (x y:Nat) (i k:Int) (es:List AV) (G:List aa):Prop where
 du:Du c G
 gx:G[x]?=some (.cells [bo (c.kd i)])
 gy:G[y]?=some (.cells [bo (c.kd k)])
 g6:G[H.length]?=some (.cells [.int .i64 0,.int .i64 0,.ah,.ah])
 gp:G[H.length + 3]?=some (.cells es)
 len:G.length=H.length + 4
 up:∀ j,j < H.length→j≠c.e→j≠c.g→G[j]?=H[j]?
structure XY (H:List aa) (x y:Nat):Prop where
 x1:H.length < x
 x2:x < H.length + 3
 y1:H.length < y
 y2:y < H.length + 3
theorem PB.call {c:Cx} {H G G':List aa} {x y:Nat} {i k:Int} {es:List AV} (hD:Du c H) (w:XY H x y) (h:PB c H x y i k es G) (hU:Up c G G') (jC:Du c G'):PB c H x y i k es G':=by
 obtain ⟨l1,l2,l3⟩:=hD.lt
 obtain ⟨w1,w2,w3,w4⟩:=w
 exact ⟨jC,by rw [hU.get x (by omega) (by omega),h.gx],by rw [hU.get y (by omega) (by omega),h.gy],by rw [hU.get _ (by omega) (by omega),h.g6],by rw [hU.get _ (by omega) (by omega),h.gp],by rw [hU.len,h.len],fun j h1 h2 h3=>by rw [hU.get j h2 h3,h.up j h1 h2 h3]⟩
theorem PB.set {c:Cx} {H G:List aa} {x y:Nat} {i k:Int} {es es':List AV} (hD:Du c H) (w:XY H x y) (h:PB c H x y i k es G):PB c H x y i k es' (G.set (H.length + 3) (.cells es')):=by
 obtain ⟨l1,l2,l3⟩:=hD.lt
 obtain ⟨w1,w2,w3,w4⟩:=w
 have hp:=aM h.gp
 exact ⟨h.du.set (by omega) (by omega) (by omega),by rw [yq (by omega),h.gx],by rw [yq (by omega),h.gy],by rw [yq (by omega),h.g6],by rw [Rx hp],by rw [acD,h.len],fun j h1 h2 h3=>by rw [yq (by omega),h.up j h1 h2 h3]⟩
theorem abL {c:Cx} {k x:Int} (h1:kE c x k) (h2:iz c x k) {H:List aa} (hD:Du c H):aw Tryz.prog 147 [.int .i64 x,.aj (.ptr c.d 0),.aj (.int .i64 k)] H (iO c (E c.O (c.tm x) (c.tm k)∨R c.O (c.tm x) (c.tm k)) H):=by
 refine We.2.calls rfl ?_
 simp only [We,aK]
 simp +contextual only [sZ,Nat.reduceEqDiff,Nat.reduceAdd,↓reduceIte,reduceCtorEq]
 refine ag (h1 H hD) ?_
 rintro r H' ⟨b,rfl,hb,hU,jC⟩
 cases b with
 | true=>
   simp +contextual only [sZ,Nat.reduceEqDiff,↓reduceIte,reduceCtorEq]
   exact eG rfl ⟨fun _=>.inl (hb.1 rfl),fun _=>rfl⟩ hU jC
 | false=>
   simp +contextual only [sZ,Nat.reduceEqDiff,Nat.reduceAdd,↓reduceIte,reduceCtorEq]
   refine ag (h2 H' jC) ?_
   rintro r H2 ⟨z,rfl,hz,Q7,BN⟩
   simp +contextual only [sZ,Nat.reduceEqDiff,↓reduceIte,reduceCtorEq]
   refine eG rfl ⟨fun h=>.inr (hz.1 h),fun h=>hz.2 (h.resolve_left fun h=>absurd (hb.2 h) (by simp))⟩ (hU.trans Q7) BN
theorem abM {c:Cx} {a b:List Int} {va vb:AV} (ha:IL va a) (hb:IL vb b) {p q:Nat} {x y:Int} (hx:0≤x∧x < a.length) (hy:0≤y∧y < b.length) (h:iz c (a.getD x.toNat 0) (b.getD y.toNat 0)) {G:List aa} (hD:Du c G) (gp:G[p]?=some (.cells [va])) (gq:G[q]?=some (.cells [vb])) :
 aw Tryz.prog 148 [.int .i64 x,.aj (.ptr c.d 0),.ptr p 0,.ptr q 0,.aj (.int .i64 y)] G (iO c (R c.O (c.tm (a.getD x.toNat 0)) (c.tm (b.getD y.toNat 0))) G):=by
 refine Wf.2.calls rfl ?_
 simp only [Wf,aK]
 obtain ⟨a1,a2,a3,a4⟩:=ha.one
 obtain ⟨b1,b2,b3,b4⟩:=hb.one
 simp +contextual only [gp,gq,a2,b2,ha.lens,hb.lens,ha.idx,hb.idx,sZ,Nat.reduceEqDiff,Nat.reduceAdd,Nat.reduceLT,↓reduceIte,reduceCtorEq]
 refine ⟨hx,hy,ag (h G hD) ?_⟩
 rintro r G' ⟨z,rfl,hz,hU,jC⟩
 simp +contextual only [sZ,↓reduceIte,reduceCtorEq]
 exact eG rfl hz hU jC
def Ri:IR:=(.loop (.seq (.region [⟨none,some 173,(.bin .lss (.t 172) (.t 171))⟩] (.some [1,3,6,10,170,171,172,173])) (.seq (.cond (.t 173) .skip (.exit 5)) (.seq (.block 6 (.seq (.region [⟨none,some 174,(.indexAddr 1 (.t 170) (.t 172))⟩,⟨none,some 175,(.load .none (.t 174))⟩,⟨none,some 23,(.set (.t 175) false)⟩] (.some [1,3,6,10,23,170,171,172])) (.draw (.take .false ⟨none,some 176,(.fieldAddr 3 .none (.t 10))⟩ (.take .false ⟨none,some 178,(.load .none (.t 3))⟩ (.take .false ⟨none,some 179,(.set (.t 1) false)⟩ (.take .false ⟨none,some 180,(.set (.t 23) false)⟩ (.br ⟨none,some 177,(.eH (.t 176))⟩ (.br ⟨none,some 181,(.call (.c (.fn (.func 86) [] [])) [(.t 178),(.t 179),(.t 180)] (.some 1999))⟩ (.take .true ⟨none,some 182,(.buildSlice 0 4 (.agg [(.int .i64 0),(.int .i64 0),.ah,.ah]) 1 [(0,(.t 181))])⟩ (.br ⟨none,some 183,(.append 4 64 (.t 177) (.t 182))⟩ (.take .true ⟨none,some 184,(.fieldAddr 3 .none (.t 10))⟩ (.br ⟨none,none,(.fy (.t 184) 183)⟩ .done .nil)) .nil)) .nil) (.br ⟨none,some 181,(.call (.c (.fn (.func 86) [] [])) [(.t 178),(.t 179),(.t 180)] (.some 1999))⟩ (.take .false ⟨none,some 182,(.buildSlice 0 4 (.agg [(.int .i64 0),(.int .i64 0),.ah,.ah]) 1 [(0,(.t 181))])⟩ (.br ⟨none,some 177,(.eH (.t 176))⟩ (.br ⟨none,some 183,(.append 4 64 (.t 177) (.t 182))⟩ (.take .true ⟨none,some 184,(.fieldAddr 3 .none (.t 10))⟩ (.br ⟨none,none,(.fy (.t 184) 183)⟩ .done .nil)) .nil) .nil)) .nil)))))) (.some [1,3,6,10,170,171,172])))) (.region [⟨none,some 185,(.bin .add (.t 172) (.c (.int .i64 1)))⟩,⟨none,some 172,(.set (.t 185) false)⟩] (.some [1,3,6,10,170,171,172]))))))
theorem FZ {c:Cx} {H:List aa} (hD:Du c H) {x y:Nat} (w:XY H x y) {i k:Int} {rl at':Int} {l0:List PP} (Ej:l0.length≤1) {b:List Int} {vb:AV} (hb:IL vb b) (lb:b.length≤100000000) (hp:∀ z∈b,pn c i z) {G:List aa} (h:PB c H x y i k [.int .i64 rl,.int .i64 at',.ah,pk l0] G) :
 lW ⟨Tryz.prog,none⟩ H.length Ri [(1,.int .i64 i),(3,.aj (.ptr c.d 0)),(6,.ptr H.length 0),(10,.ptr (H.length + 3) 0),(170,vb),(171,.int .i64 b.length),(172,.int .i64 0)] G fun e aF G'=>
  e=.exit 5∧get aF 6=.ptr H.length 0∧get aF 10=.ptr (H.length + 3) 0∧∃ qs,lR (Sh c.O) qs (c.tm i) (b.map c.tm)∧PB c H x y i k [.int .i64 rl,.int .i64 at',.ah,pk (l0++qs)] G':=by
 obtain ⟨b1,b2,b3,b4⟩:=hb.one
 unfold Ri
 refine aB b.length (fun j (s:List aa×List PP)=>PB c H x y i k [.int .i64 rl,.int .i64 at',.ah,pk (l0++s.2)] s.1∧s.2.length=j∧∀ j',j' < j→Sh c.O (s.2.getD j' default) (c.tm i) (c.tm (b.getD j' 0)))
  (fun j s=>[(1,.int .i64 i),(3,.aj (.ptr c.d 0)),(6,.ptr H.length 0),(10,.ptr (H.length + 3) 0),(170,vb),(171,.int .i64 b.length),(172,.int .i64 j)]) (fun j s=>s.1) (G,[]) ⟨⟨by rw [abX];exact h,rfl,fun j h=>by omega⟩,aD _ _ _⟩ fun j s hj hI=>?_
 obtain ⟨G,qs⟩:=s
 obtain ⟨k7,hlen,Ry⟩:=hI
 simp only at k7 hlen Ry
 by_cases LU:(j:Int) < b.length
 ·have mZ:j < b.length:=by omega
  have gp:=k7.gp
  have hl:(l0++qs).length < 1000000000:=by rw [aab];omega
  have nA:=fun es=>k7.set (es':=es) hD w
  simp +contextual only [LU,decide_true,hb.lens,hb.idx,aaa,gp,d3,s3,sZ,Nat.reduceEqDiff,Nat.reduceAdd,Nat.reduceLT,↓reduceIte,reduceCtorEq]
  have fin:∀ (q:PP) (G':List aa),Sh c.O q (c.tm i) (c.tm (b.getD j 0))→PB c H x y i k [.int .i64 rl,.int .i64 at',.ah,pk (l0++(qs++[q]))] G'→∃ (j':Nat) (t:List aa×List PP),(j'≤b.length∧PB c H x y i k [.int .i64 rl,.int .i64 at',.ah,pk (l0++t.2)] t.1∧t.2.length=j'∧∀ j'',j'' < j'→Sh c.O (t.2.getD j'' default) (c.tm i) (c.tm (b.getD j'' 0)))∧b.length - j' < b.length - j∧
   sle H.length [(1,.int .i64 i),(3,.aj (.ptr c.d 0)),(6,.ptr H.length 0),(10,.ptr (H.length + 3) 0),(170,vb),(171,.int .i64 b.length),(172,.int .i64 (IntKind.i64.wrap (j + 1)))] G' [(1,.int .i64 i),(3,.aj (.ptr c.d 0)),(6,.ptr H.length 0),(10,.ptr (H.length + 3) 0),(170,vb),(171,.int .i64 b.length),(172,.int .i64 j')] t.1:=by
   intro q G' hq abN
   refine ⟨j + 1,(G',qs++[q]),⟨mZ,abN,by simp [hlen],fun j'' afU=>?_⟩,by omega,aE (by rw [ay j (by omega)]) rfl⟩
   by_cases e:j''=j
   ·subst e
    have:(qs++[q]).getD j'' default=q:=by rw [← hlen];simp
    rw [this];exact hq
   ·have:(qs++[q]).getD j'' default=qs.getD j'' default:=by
     rw [sc,sc,yp (by omega)]
    rw [this];exact Ry j'' (by omega)
  refine ⟨by omega,?_,?_⟩
  ·refine ag (hp _ (aO mZ) _ (nA _).du) ?_
   rintro r G2 ⟨q,rfl,hq,hU,BN⟩
   have LY:=(nA _).call hD w hU BN
   have gp2:=LY.gp
   have Bw:=fun es=>LY.set (es':=es) hD w
   obtain ⟨q1,q2,q3,q4,q5,q6,q7,q8,q9⟩:=a9 q
   obtain ⟨v1,v2,v3,v4,v5,v6⟩:=iL (l0++(qs++[q]))
   simp +contextual only [q1,q2,jI,D1 _ _ hl,gp2,s3,aa2,sZ,Nat.reduceEqDiff,Nat.reduceAdd,Nat.reduceLT,↓reduceIte]
   have el:AV.al 4 (eh (l0++(qs++[q])))=pk (l0++(qs++[q])):=by rw [← aa2];exact rL _ _
   rw [el]
   exact ⟨iX _ _,fin q _ hq (Bw _)⟩
  ·refine ag (hp _ (aO mZ) _ k7.du) ?_
   rintro r G2 ⟨q,rfl,hq,hU,BN⟩
   have LY:=k7.call hD w hU BN
   have gp2:=LY.gp
   have Bw:=fun es=>LY.set (es':=es) hD w
   have gp3:=fun es=>(Bw es).gp
   have xn:=fun es es'=>(Bw es).set (es':=es') hD w
   obtain ⟨q1,q2,q3,q4,q5,q6,q7,q8,q9⟩:=a9 q
   obtain ⟨v1,v2,v3,v4,v5,v6⟩:=iL (l0++(qs++[q]))
   simp +contextual only [q1,q2,jI,D1 _ _ hl,gp2,gp3,d3,s3,aa2,sZ,Nat.reduceEqDiff,Nat.reduceAdd,Nat.reduceLT,↓reduceIte]
   have el:AV.al 4 (eh (l0++(qs++[q])))=pk (l0++(qs++[q])):=by rw [← aa2];exact rL _ _
   rw [el]
   exact ⟨iX _ _,fin q _ hq (xn _ _)⟩
 ·have e:j=b.length:=by omega
  simp +contextual only [LU,decide_false,sZ,Nat.reduceEqDiff,↓reduceIte]
  refine ⟨qs,⟨by rw [hlen,e,acW],fun j' vi=>?_⟩,k7⟩
  rw [acW] at vi
  rw [cr vi];exact Ry j' (by omega)
end Go.aJ
end
