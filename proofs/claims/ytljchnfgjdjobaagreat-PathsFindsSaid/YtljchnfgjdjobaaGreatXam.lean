/- Part 13 of 20 of the proof. -/
import Derived.Test.YtljchnfgjdjobaaGreatXal
import Derived.Laws.Runes
import Derived.Test.YtljchnfgjdjobaaGreatXai
import Derived.KernelRfl
import Derived.Test.YtljchnfgjdjobaaGreatXaj
import Derived.Test.YtljchnfgjdjobaaGreatXac
set_option linter.unusedVariables false
set_option linter.unusedSimpArgs false
set_option linter.defProp false
set_option linter.unusedSectionVars false
section
set_option maxRecDepth 100000
namespace Go.aI
open Go Go.Proofs Go.dD
mutual
theorem Ic:∀ t:T,(wt t:Int)=t.sz
 | .mk k n l=>by rw [wt,T.sz];have:=Ie l;omega
theorem Ie:∀ l:List T,(ft l:Int)=lB l
 | []=>rfl
 | x::r=>by rw [ft,lB];have:=Ic x;have:=Ie r;omega
end
theorem lP {l:List T} (h:∀ t∈l,t.tree=true):ft l≤2000 * l.length:=by
 induction l with
 | nil=>simp [ft]
 | cons x r ih=>
   have:=ih fun t ht=>h t (aaA _ ht)
   have h1:=((T.cI x).1 (h x abD)).1
   have h2:=Ic x
   rw [ft,List.length_cons];omega
structure Rt0 (s:Sg) (ps ss:List Int) (l:List T):Prop where
 ord:dQ s ps ss
 tree:∀ t∈l,t.tree=true
 all:∀ t∈l,vO (fun n=>0≤n∧n < ps.length) t
theorem x8 {s:Sg} {ps ss:List Int}:jy s ps ss=0↔jw s=true∧dQ s ps ss:=by
 unfold jy
 by_cases h:jw s=true
 ·by_cases h2:dQ s ps ss
  ·rw [if_pos h,if_pos h2];simp [h,h2]
  ·rw [if_pos h,if_neg h2];simp [h2]
 ·rw [if_neg h];simp [h]
theorem qc {s:Sg} {ps ss:List Int} {l:List T} (h:fF s ps ss l=0):Rt0 s ps ss l:=by
 unfold fF at h
 split at h
 ·rename_i h0
  have h1:=(x8.1 h0).2
  split at h
  ·rename_i h2
   have h3:=abc.1 h2
   refine ⟨h1,fun t ht=>?_,fun t ht=>?_⟩
   ·have:=h3 t ht;simp only [zC] at this;exact this.1
   ·have:=h3 t ht
    simp only [zC] at this
    rw [h1.1]
    exact U6 t ((T.cI t).1 this.1).2.2 this.2
  ·cases h
 ·rename_i h0;exact absurd h h0
theorem Rt0.cx {s:Sg} {ps ss:List Int} {l:List T} (h:Rt0 s ps ss l) (dP:l≠[]) (hl:l.length≤10000) (n:Nat):(iK ps ss l n).Ok:=
 R5 h.ord.va dP (by have:=lP h.tree;omega) h.all n
open Classical in
noncomputable def oO (ps ss:List Int) (a b:T):Bool:=decide (R (iq ps ss) a b)
open Classical in
noncomputable def ZZ (ps ss:List Int) (a b:T):Bool:=decide (E (iq ps ss) a b)
theorem dF {ps ss:List Int} {a b:T}:oO ps ss a b=true↔R (iq ps ss) a b:=by simp [oO]
theorem Ig {ps ss:List Int} {a b:T}:ZZ ps ss a b=true↔E (iq ps ss) a b:=by simp [ZZ]
theorem Qx (a b:T):bu (ba [a,b] 0)=.al 0 (ints (ba [a,b] 0)):=rfl
theorem Ih {Hs G:List aa} {n0 a b:Nat} {u v x y:AV} {R:AV→List aa→Prop} (tv:b≠a) (hH:Hs.take n0=G) (hb:x.bc n0=true∧y.bc n0=true) (hx:u.ab=x) (hy:v.ab=y) (hR:R (.tuple [x,y]) G):bP n0 [.t a,.t b] [(a,u),(b,v)] Hs R:=by
 subst hH;subst hx;subst hy
 refine ⟨n0,zy _,[u.ab,v.ab],?_,by simp only [aw,hb.1,hb.2,acj],hR⟩
 simp only [aD,if_neg tv,if_true,List.map]
 exact da _
theorem Up.low {c:Cx} {H X G:List aa} (h:Up c (H++X) G) (he:H.length≤c.e) (hg:H.length≤c.g):G.take H.length=H:=by
 apply abT
 intro j
 rw [aaG]
 split
 ·rename_i hj
  rw [h.get j (by omega) (by omega),zz hj]
 ·rename_i hj
  rw [abL (by omega)]
theorem c20 (s:Sg) (ps ss:List Int) (a b:T):Pure Tryz.prog 20 [s.av,dE ps ss,a.av,b.av] (.tuple [.bool (if fF s ps ss [a,b]=0 then oO ps ss a b else false),.int .i64 (fF s ps ss [a,b])]):=by
 refine fun H=>k20.2.calls rfl ?_
 simp only [k20,aH]
 obtain ⟨q1,q2,q3,q4,q5,q6⟩:=aR ps ss
 simp +contextual only [aC,q1,q4,bQ,sZ,Nat.reduceEqDiff,Nat.reduceAdd,↓reduceIte,reduceCtorEq]
 refine ae (ZY s ps ss [a,b]) ?_
 by_cases h0:fF s ps ss [a,b]=0
 ·rw [if_pos h0]
  have hr:=qc h0
  have hw:=lP hr.tree
  have hc:=hr.cx (by simp) (by simp) H.length
  have hd:=Ay ps ss (ts:=[a,b]) (by simp) H
  simp +contextual only [q4,bQ,h0,sZ,Nat.reduceEqDiff,Nat.reduceAdd,↓reduceIte]
  refine af (Zq ps ss [a,b] H (by simp at hw;omega)) ?_
  rintro r G ⟨rfl,rfl⟩
  have a0:=vr (ps:=ps) (ss:=ss) (ts:=[a,b]) (n:=H.length) (j:=0) (by simp)
  have a1:=vr (ps:=ps) (ss:=ss) (ts:=[a,b]) (n:=H.length) (j:=1) (by simp)
  have hl:=cJ [a,b] 0
  rw [Qx]
  generalize ba [a,b] 0=ks at a0 a1 hl ⊢
  have lZ:ks.length=2:=hl
  simp +contextual only [aN,lZ,dY,sZ,Nat.reduceEqDiff,Nat.reduceAdd,Nat.reduceLT,↓reduceIte,reduceCtorEq]
  refine ⟨by decide,by decide,af (lg hc a0.1 a1.1 _ hd) ?_⟩
  rintro r G ⟨x,rfl,hx,hU,hD⟩
  rw [a0.2,a1.2] at hx
  simp +contextual only [sZ,Nat.reduceEqDiff,↓reduceIte,reduceCtorEq]
  have ex:x=oO ps ss a b:=by rw [abV,dF];exact hx
  rw [ex]
  exact Ih (by decide) (hU.low (by simp [iK]) (by simp [iK])) ⟨rfl,rfl⟩ rfl rfl ⟨by rw [h0];rfl,rfl⟩
 ·rw [if_neg h0]
  simp +contextual only [h0,sZ,Nat.reduceEqDiff,↓reduceIte,reduceCtorEq]
  exact Ih (by decide) aby ⟨rfl,rfl⟩ rfl rfl ⟨rfl,rfl⟩
theorem c22 (s:Sg) (ps ss:List Int) (a b:T):Pure Tryz.prog 22 [s.av,dE ps ss,a.av,b.av] (.tuple [.bool (if fF s ps ss [a,b]=0 then ZZ ps ss a b else false),.int .i64 (fF s ps ss [a,b])]):=by
 refine fun H=>k22.2.calls rfl ?_
 simp only [k22,aH]
 obtain ⟨q1,q2,q3,q4,q5,q6⟩:=aR ps ss
 simp +contextual only [aC,q1,q4,bQ,sZ,Nat.reduceEqDiff,Nat.reduceAdd,↓reduceIte,reduceCtorEq]
 refine ae (ZY s ps ss [a,b]) ?_
 by_cases h0:fF s ps ss [a,b]=0
 ·rw [if_pos h0]
  have hr:=qc h0
  have hw:=lP hr.tree
  have hc:=hr.cx (by simp) (by simp) H.length
  have hd:=Ay ps ss (ts:=[a,b]) (by simp) H
  simp +contextual only [q4,bQ,h0,sZ,Nat.reduceEqDiff,Nat.reduceAdd,↓reduceIte]
  refine af (Zq ps ss [a,b] H (by simp at hw;omega)) ?_
  rintro r G ⟨rfl,rfl⟩
  have a0:=vr (ps:=ps) (ss:=ss) (ts:=[a,b]) (n:=H.length) (j:=0) (by simp)
  have a1:=vr (ps:=ps) (ss:=ss) (ts:=[a,b]) (n:=H.length) (j:=1) (by simp)
  have hl:=cJ [a,b] 0
  rw [Qx]
  generalize ba [a,b] 0=ks at a0 a1 hl ⊢
  have lZ:ks.length=2:=hl
  simp +contextual only [aN,lZ,dY,sZ,Nat.reduceEqDiff,Nat.reduceAdd,Nat.reduceLT,↓reduceIte,reduceCtorEq]
  refine ⟨by decide,by decide,af (lf hc a0.1 a1.1 _ hd) ?_⟩
  rintro r G ⟨x,rfl,hx,hU,hD⟩
  rw [a0.2,a1.2] at hx
  simp +contextual only [sZ,Nat.reduceEqDiff,↓reduceIte,reduceCtorEq]
  have ex:x=ZZ ps ss a b:=by rw [abV,Ig];exact hx
  rw [ex]
  exact Ih (by decide) (hU.low (by simp [iK]) (by simp [iK])) ⟨rfl,rfl⟩ rfl rfl ⟨by rw [h0];rfl,rfl⟩
 ·rw [if_neg h0]
  simp +contextual only [h0,sZ,Nat.reduceEqDiff,↓reduceIte,reduceCtorEq]
  exact Ih (by decide) aby ⟨rfl,rfl⟩ rfl rfl ⟨rfl,rfl⟩
end Go.aI
end
section
set_option maxRecDepth 100000
namespace Go.aI
open Go Go.Proofs Go.dD
def rA (r:T→T→Bool) (l:List T):Nat:=l.findIdx fun a=>l.all fun x=>!r a x
def vk (r:T→T→Bool):Nat→List T→List T
 | 0,_=>[]
 | n + 1,l=>l.getD (rA r l) default::vk r n (l.eraseIdx (rA r l))
theorem MW {r:T→T→Prop} (hi:∀ a,¬ r a a) (ht:∀ a b c,r a b→r b c→r a c):∀ l:List T,l≠[]→∃ a∈l,∀ x∈l,¬ r a x
 | [],h=>absurd rfl h
 | [a],_=>⟨a,abD,fun x hx=>by rcases aak.1 hx with rfl | hx;exact hi _;cases hx⟩
 | a::b::l,_=>by
   obtain ⟨m,hm,hl⟩:=MW hi ht (b::l) (by simp)
   by_cases h:r m a
   ·refine ⟨a,abD,fun x hx=>?_⟩
    rcases aak.1 hx with rfl | hx
    ·exact hi _
    ·exact fun h'=>hl x hx (ht _ _ _ h h')
   ·refine ⟨m,aaA _ hm,fun x hx=>?_⟩
    rcases aak.1 hx with rfl | hx
    ·exact h
    ·exact hl x hx
noncomputable def oa (s:Sg) (ps ss:List Int) (ts:List T):List T×Int:=
 if fF s ps ss ts=0 then if 1000 < ts.length then ([],2) else (vk (oO ps ss) ts.length ts,0) else ([],fF s ps ss ts)
theorem wm (n:Nat):cz zI n=ints (List.replicate n 0):=by
 induction n with
 | zero=>rfl
 | succ n ih=>
   have e:cz zI (n + 1)=.int .i64 0::cz zI n:=rfl
   rw [e,ih];rfl
theorem lh (l:List Int) (cap:Nat):aX zI (ints l) cap=.cells (ints (l++List.replicate (cap - l.length) 0)):=by
 rw [BW,wm,mT]
theorem Z0 {L:List Int} {n id cap:Nat} (hn:n < L.length) (hc:L.length≤cap) (hb:L.length≤1000000000) {H:List aa} (hg:H[id]?=some (aX zI (ints L) cap)) :
 aA Tryz.prog 105 [.aZ id 0 L.length cap,.int .i64 (n:Int),.int .i64 ((n:Int) + 1)] H fun r H'=>r=.aZ id 0 (L.eraseIdx n).length cap∧H'=H.set id (aX zI (ints (L.eraseIdx n)) cap):=by
 have e1:L=L.take n++L.getD n 0::L.drop (n + 1):=by
  have:L.getD n 0=L[n]:=by simp [hn]
  rw [this,← aav hn,aff]
 have e2:L.eraseIdx n=L.take n++L.drop (n + 1):=adm ..
 have l1:(L.take n).length=n:=by simp;omega
 have l2:(L.drop (n + 1)).length=L.length - (n + 1):=by simp
 have hp:(L.take n++L.getD n 0::L.drop (n + 1)++List.replicate (cap - L.length) 0).length=cap:=by rw [← e1];simp;omega
 have Qt:H[id]?=some (.cells (ints (L.take n++L.getD n 0::L.drop (n + 1)++List.replicate (cap - L.length) 0))):=by rw [← e1,← lh];exact hg
 have h:=adI (L.take n) (L.drop (n + 1)) (List.replicate (cap - L.length) 0) (L.getD n 0) (by rw [← e1];exact hb) id cap hp.symm Qt
 have el:L.take n++L.drop (n + 1)++0::List.replicate (cap - L.length) 0=L.eraseIdx n++List.replicate (cap - (L.eraseIdx n).length) 0:=by
  rw [e2]
  congr 1
  rw [aaj,l1,l2,show cap - (n + (L.length - (n + 1)))=(cap - L.length) + 1 by omega]
  rfl
 have ll:(L.eraseIdx n).length=(L.take n).length + (L.drop (n + 1)).length:=by rw [e2,aaj]
 rw [el,l1,l2,show n + 1 + (L.length - (n + 1))=L.length by omega] at h
 rw [lh,ll,l1,l2]
 rw [ll,l1,l2] at h
 exact h
theorem MX {r:T→T→Bool} {l:List T} {n:Nat} (hn:n < l.length) (h1:∀ x∈l,r (l.getD n default) x=false) (h2:∀ j,j < n→∃ x∈l,r (l.getD j default) x=true):rA r l=n:=by
 unfold rA
 rw [List.findIdx_eq hn]
 refine ⟨?_,fun j hj=>?_⟩
 ·have e:l[n]=l.getD n default:=by simp [hn]
  rw [e,abc]
  intro x hx;rw [h1 x hx];rfl
 ·obtain ⟨x,hx,h⟩:=h2 j hj
  have lA:j < l.length:=by omega
  have e:l[j]=l.getD j default:=by simp [lA]
  rw [e,ac4]
  exact ⟨x,hx,by rw [h];simp⟩
theorem x9 {c:Cx} {L:List Int} {n:Nat} (h:n < L.length):(L.map c.tm).getD n default=c.tm (L.getD n 0):=by simp [h]
theorem yb {Hs G:List aa} {n0:Nat} {l:List T} {e:Int} {u:AV} (hu:u.ab.le (.al 0 (bN l))) (hH:Hs.take n0=G):bP n0 [.t 6,.t 7] [(6,u),(7,.int .i64 e)] Hs (fun r H'=>r=.tuple [.al 0 (bN l),.int .i64 e]∧H'=G):=by
 subst hH
 refine ⟨n0,zy _,[.al 0 (bN l),.int .i64 e],?_,by simp [aw,bA,ee,ja],rfl,rfl⟩
 exact ⟨hu,le_refl _,trivial⟩
theorem jz (vs:List T):(rj vs).ab.le (.al 0 (bN vs)):=by
 cases vs with
 | nil=>exact .inr (.inr (.inr (.inl ⟨rfl,0,rfl⟩)))
 | cons v r=>exact le_refl _
theorem Du.U7 {c:Cx} {H:List aa} {n:Nat} (h:Du c (H.take n)) (hn:True):Du c H:=by
 have hg:∀ {j:Nat} {o:aa},(H.take n)[j]?=some o→H[j]?=some o:=by
  intro j o h
  rw [aaG] at h
  split at h
  ·exact h
  ·cases h
 exact ⟨hg h.d,by obtain ⟨m,h1,h2⟩:=h.e;exact ⟨m,hg h1,h2⟩,by obtain ⟨m,h1,h2⟩:=h.g;exact ⟨m,hg h1,h2⟩⟩
theorem c37 (s:Sg) (ps ss:List Int) (ts:List T) (hlen:ts.length < 9223372036854775808):Pure Tryz.prog 37 [s.av,dE ps ss,.al 0 (bN ts)] (.tuple [.al 0 (bN (oa s ps ss ts).1),.int .i64 (oa s ps ss ts).2]):=by
 refine fun H=>ZM.2.calls rfl ?_
 simp only [ZM,aH]
 obtain ⟨q1,q2,q3,q4,q5,q6⟩:=aR ps ss
 simp +contextual only [aC,q1,q4,bQ,sZ,Nat.reduceEqDiff,Nat.reduceAdd,↓reduceIte,reduceCtorEq]
 refine ae (ZY s ps ss ts) ?_
 by_cases h0:fF s ps ss ts=0
 ·by_cases Ft:1000 < ts.length
  ·have e:oa s ps ss ts=([],2):=by unfold oa;rw [if_pos h0,if_pos Ft]
   have ew:((1000:Int) < ts.length)=True:=eq_true (by omega)
   rw [e]
   simp +contextual only [h0,ew,decide_true,hlen,sZ,Nat.reduceEqDiff,↓reduceIte,reduceCtorEq]
   exact yb (jz []) aby
  ·have e:oa s ps ss ts=(vk (oO ps ss) ts.length ts,0):=by unfold oa;rw [if_pos h0,if_neg Ft]
   have ew:((1000:Int) < ts.length)=False:=eq_false (by omega)
   rw [e]
   have hr:=qc h0
   have hw:=lP hr.tree
   simp +contextual only [q4,bQ,h0,ew,decide_false,hlen,sZ,Nat.reduceEqDiff,Nat.reduceAdd,↓reduceIte]
   refine af (adD ps ss ts H (by omega)) ?_
   rintro r G ⟨va,rfl,hG,KB,hR⟩
   obtain ⟨o1,o2,o3,o4⟩:=hR.one
   have ZN:∀ n,G.length≤n→va.bc n=true:=fun n hn=>hR.bc hn
   have qy:=ZN (G.length + 2) (by omega)
   have qz:∀ o o',va.bc (G++[o,o']:List aa).length=true:=fun o o'=>ZN _ (by simp)
   have hp1:(AV.ptr (H.length + 2) 0).bc (G.length + 1)=true:=by rw [ra];exact decide_eq_true (by omega)
   simp +contextual only [o1,o2,o3,o4,qy,hp1,sZ,Nat.reduceEqDiff,Nat.reduceAdd,Nat.reduceLT,↓reduceIte]
   refine ⟨rfl,by decide,?_⟩
   have hG0:G.take H.length=H:=by
    have:G.take H.length=(G.take (H.length + 3)).take H.length:=by rw [List.take_take];congr 1;omega
    rw [this,hG];simp
   rcases hR with ⟨e1,rfl⟩ | ⟨id,cap,bF,rfl,hg,bY,dP⟩
   ·have e2:ts=[]:=by
     have:=cJ ts 0
     have h3:ba ts 0=[]:=acC.1 e1
     rw [h3] at this
     exact abE.1 this.symm
    subst e2
    refine aF 0 (fun _ _=>True) (fun i (p:Unit)=>[(9,.ptr G.length 0),(10,.ptr (G.length + 1) 0),(11,.ag)]) (fun i p=>G++[.cells [.ptr (H.length + 2) 0],.cells [.ag]]) () ⟨trivial,ay rfl ?_⟩ fun i p hi hI=>?_
    ·rfl
    ·simp +contextual only [sZ,Nat.reduceEqDiff,Nat.reduceAdd,Nat.reduceLT,↓reduceIte,reduceCtorEq,Int.reduceLT]
     exact yb (jz []) (by rw [abd (by omega)];exact hG0)
   ·have SJ:ts≠[]:=fun e=>dP (by rw [e];rfl)
    have aee:id < G.length:=aS hg
    obtain ⟨c,ec⟩:∃ c,c=iK ps ss ts H.length:=⟨_,rfl⟩
    have hc:c.Ok:=by rw [ec];exact hr.cx SJ (by omega) H.length
    have cO:c.O=iq ps ss:=by rw [ec];rfl
    have cd:c.d=H.length + 2:=by rw [ec];rfl
    have ce:c.e=H.length:=by rw [ec];rfl
    have cg:c.g=H.length + 1:=by rw [ec];rfl
    have hD0:Du c (G++[.cells [.ptr (H.length + 2) 0],.cells [.aZ id 0 (ba ts 0).length cap]]):=by
     have h1:=Ay ps ss SJ H
     rw [← ec,← hG] at h1
     exact Du.ui (h1.U7 trivial) _
    obtain ⟨k1,k2⟩:=(Qs ts).kids
    have Z1:(ba ts 0).map c.tm=ts:=by rw [ec];exact k1
    have aef:∀ x∈ba ts 0,c.eJ x:=by rw [ec];exact k2
    rw [ap] at *
    have sg:=cJ ts 0
    refine aF ts.length (fun j (p:List Int×List T×List aa)=>j + p.1.length=ts.length∧(∀ x∈p.1,c.eJ x)∧vk (oO ps ss) ts.length ts=p.2.1++vk (oO ps ss) p.1.length (p.1.map c.tm)∧p.2.1.length=j∧Du c p.2.2∧
     p.2.2[G.length]?=some (.cells [.ptr c.d 0])∧p.2.2[G.length + 1]?=some (.cells [.aZ id 0 p.1.length cap])∧p.2.2[id]?=some (aX zI (ints p.1) cap)∧p.2.2.take H.length=H∧p.1.length≤cap∧∀ x∈p.1,c.tm x∈ts)
     (fun i p=>[(9,.ptr G.length 0),(10,.ptr (G.length + 1) 0),(11,rj p.2.1)]) (fun i p=>p.2.2) (ba ts 0,[],G++[.cells [.ptr (H.length + 2) 0],.cells [.aZ id 0 (ba ts 0).length cap]])
     ⟨⟨by simp [sg],aef,by rw [Z1,sg];rfl,rfl,hD0,by rw [cd];simp,by simp,by rw [zz aee];exact hg,by rw [abd (by omega)];exact hG0,bY,fun x hx=>by rw [← Z1];exact agl hx⟩,ay rfl rfl⟩ fun j p hj hI=>?_
    obtain ⟨L,out,F⟩:=p
    obtain ⟨i1,i2,i3,i4,i5,i6,i7,i8,i9,i10,i11⟩:=hI
    simp only at i1 i2 i3 i4 i5 i6 i7 i8 i9 i10 i11
    have Je:L.length≤1000:=by omega
    by_cases hL:L=[]
    ·have hz:((0:Int) < (L.length:Int))=False:=eq_false (by rw [hL];simp)
     have hun:(rj out).ab.ab=(rj out).ab:=by cases out <;> rfl
     simp +contextual only [i7,hz,decide_false,hun,sZ,Nat.reduceEqDiff,Nat.reduceAdd,Nat.reduceLT,↓reduceIte,reduceCtorEq]
     have e2:vk (oO ps ss) ts.length ts=out:=by rw [i3,hL];simp [vk]
     rw [e2]
     exact yb (by rw [hun];exact jz out) i9
    ·have nC:=agk.2 hL
     have hz:((0:Int) < (L.length:Int))=True:=eq_true (by omega)
     simp +contextual only [i7,hz,decide_true,sZ,Nat.reduceEqDiff,Nat.reduceAdd,Nat.reduceLT,↓reduceIte,reduceCtorEq]
     refine af (R7 (Q:=fun i=>¬ ∃ x∈L,R c.O (c.tm i) (c.tm x)) (SG.len c F) (fun G' fa=>by rw [fa.2.get id (by omega) (by omega),i8]) i10 (by omega) 101 [] [.ptr (G.length + 1) 0,.ptr G.length 0] rfl rfl
      (fun x hx H' hH'=>adL hc (i2 x hx) i2 i10 (by omega) i6 (by omega) (by omega) i7 (by omega) (by omega) i8 (by omega) (by omega) H' hH') ⟨i5,Up.refl c F⟩) ?_
     rintro r F1 ⟨⟨oJ,hU1⟩,hq⟩
     have SH:∃ n:Nat,r=.int .i64 n∧n < L.length∧(¬ ∃ x∈L,R c.O (c.tm (L.getD n 0)) (c.tm x))∧∀ j,j < n→∃ x∈L,R c.O (c.tm (L.getD j 0)) (c.tm x):=by
      rcases hq with ⟨_,hq⟩ | ⟨n,h1,h2,h3,h4⟩
      ·exfalso
       obtain ⟨m,hm,h1⟩:=MW (r:=fun a b=>R c.O a b) (fun a=>Mx rfl) (fun a b d h h'=>BT h h') (L.map c.tm) (by simpa using hL)
       obtain ⟨x,hx,rfl⟩:=aaw.1 hm
       refine hq x hx fun ⟨y,hy,h⟩=>h1 _ (agl hy) h
      ·exact ⟨n,h1,h2,h3,fun j hj=>Classical.not_not.1 (h4 j hj)⟩
     obtain ⟨n,rfl,hn,h1,h2⟩:=SH
     have j7:F1[G.length + 1]?=some (.cells [.aZ id 0 L.length cap]):=by rw [hU1.get _ (by omega) (by omega),i7]
     have j6:F1[G.length]?=some (.cells [.ptr c.d 0]):=by rw [hU1.get _ (by omega) (by omega),i6]
     have j8:F1[id]?=some (aX zI (ints L) cap):=by rw [hU1.get _ (by omega) (by omega),i8]
     have j9:F1.take H.length=H:=by
      refine Eq.trans ?_ i9
      apply abT
      intro k
      rw [aaG,aaG]
      by_cases hk:k < H.length
      ·rw [if_pos hk,if_pos hk];exact hU1.get _ (by omega) (by omega)
      ·rw [if_neg hk,if_neg hk]
     have HC:rA (oO ps ss) (L.map c.tm)=n:=by
      refine MX (by simpa using hn) (fun x hx=>?_) fun j hj=>?_
      ·obtain ⟨y,hy,rfl⟩:=aaw.1 hx
       rw [x9 hn]
       cases hb:oO ps ss (c.tm (L.getD n 0)) (c.tm y) with
       | false=>rfl
       | true=>exact absurd ⟨y,hy,by rw [cO];exact dF.1 hb⟩ h1
      ·obtain ⟨y,hy,h⟩:=h2 j hj
       rw [x9 (by omega)]
       exact ⟨_,agl hy,dF.2 (by rw [← cO];exact h)⟩
     have hxN:=i2 _ (aV hn)
     have jY:c.nd.length≤2000000:=by
      have:c.nd=dk ts 0:=by rw [ec];rfl
      rw [this,je];omega
     simp +contextual only [j7,j6,j8,oJ.d,n8,fN0,cK,jb,H6 hn,sZ,Nat.reduceEqDiff,Nat.reduceAdd,Nat.reduceLT,↓reduceIte,reduceCtorEq]
     have htree:=hr.tree _ (i11 _ (aV hn))
     have hwx:wt (c.tm (L.getD n 0))≤2000:=by
      have:=((T.cI _).1 htree).1;have:=Ic (c.tm (L.getD n 0));omega
     have Z2:Pure Tryz.prog 104 [(c.nd.getD (L.getD n 0).toNat default).fst.av] (c.tm (L.getD n 0)).av:=adP _ (c.tm (L.getD n 0)) (zy _) (by omega)
     have MV:=Z0 hn i10 (by omega) j8
     have fV:(L.eraseIdx n).length=L.length - 1:=List.length_eraseIdx_of_lt hn
     refine ⟨hn,hxN,ae Z2 ?_,ae Z2 ?_⟩
     all_goals
      simp +contextual only [HV,Aj,j7,sZ,Nat.reduceEqDiff,Nat.reduceAdd,Nat.reduceLT,↓reduceIte,reduceCtorEq]
      refine ⟨by omega,?_⟩
      rw [cp _ (by omega)]
      refine af MV ?_
      rintro r F2 ⟨rfl,rfl⟩
      have m7:(F1.set id (aX zI (ints (L.eraseIdx n)) cap))[G.length + 1]?=some (.cells [.aZ id 0 L.length cap]):=by rw [zA (by omega)];exact j7
      have nj:(AV.aZ id 0 (L.eraseIdx n).length cap).bc (G.length + 1 + 1)=true:=by rw [eL];exact decide_eq_true (by omega)
      have r1:∀ l,(AV.aZ id 0 l cap).one=true∧(AV.aZ id 0 l cap).val=true∧(AV.aZ id 0 l cap).ab=.aZ id 0 l cap∧(AV.aZ id 0 l cap).cells=[.aZ id 0 l cap]:=fun _=>⟨rfl,rfl,rfl,rfl⟩
      obtain ⟨u1,u2,u3,u4⟩:=r1 (L.eraseIdx n).length
      simp +contextual only [m7,nj,u1,u2,u3,u4,sZ,Nat.reduceEqDiff,Nat.reduceAdd,↓reduceIte]
      refine ⟨j + 1,(L.eraseIdx n,out++[c.tm (L.getD n 0)],_),⟨by omega,by show j + 1 + (L.eraseIdx n).length=_;omega,fun x hx=>i2 x (adv hx),?_,by simp [i4],?_,?_,?_,?_,?_,by show (L.eraseIdx n).length≤cap;omega,fun x hx=>i11 x (adv hx)⟩,by omega,ay rfl rfl⟩
      ·have hs:L.length=(L.eraseIdx n).length + 1:=by omega
       rw [i3,hs,vk,HC,x9 hn,abe]
       have em:(L.map c.tm).eraseIdx n=(L.eraseIdx n).map c.tm:=by rw [adm,adm,ab8,List.map_take,List.map_drop]
       rw [em];rfl
      ·exact (oJ.set (by omega) (by omega) (by omega)).set (by omega) (by omega) (by omega)
      ·rw [zA (by omega),zA (by omega)];exact j6
      ·rw [Sx (by have:=aS j7;simp;omega)]
      ·rw [zA (by omega),Sx (aS j8)]
      ·rw [abz (by omega),abz (by omega)];exact j9
 ·have e:oa s ps ss ts=([],fF s ps ss ts):=by unfold oa;rw [if_neg h0]
  rw [e]
  simp +contextual only [h0,sZ,Nat.reduceEqDiff,↓reduceIte,reduceCtorEq]
  exact yb (jz []) aby
end Go.aI
end
section
namespace Go.aI
open Go Go.Proofs Go.dD
theorem oc {α:Type} [Inhabited α] {l:List α} {i:Nat} (h:i < l.length):l.getD i default∈l:=by
 rw [th,Hj h];exact acA h
theorem dl {p:Nat→Prop} {i:Nat} (h:∀ j,j < i→p j) (h':p i):∀ j,j < i + 1→p j:=fun j hj=>by
 by_cases e:j < i
 ·exact h j e
 ·have:j=i:=by omega
  subst this;exact h'
theorem lj {α:Type} [Inhabited α] {p:α→Prop} {l:List α} (h:∀ j,j < l.length→p (l.getD j default)):∀ x∈l,p x:=fun x hx=>by
 obtain ⟨n,hn,rfl⟩:=acg hx
 have:=h n hn
 rwa [th,Hj hn] at this
end Go.aI
end
section
set_option maxRecDepth 100000
namespace Go.aI
open Go Go.Proofs Go.dD
mutual
def ln (s:Sg) (vs:List Int):T→Option Int
 | .mk k n l=>if k=1 then (if (vs.length:Int)≤n then none else some (vs.getD n.toNat 0)) else if (s.ops.length:Int)≤n∨¬ (l.length:Int)=((s.ops.getD n.toNat default).args.length:Nat) then none else if GL s vs l (s.ops.getD n.toNat default).args=true then some (s.ops.getD n.toNat default).zm else none
def GL (s:Sg) (vs:List Int):List T→List Int→Bool
 | [],_=>true
 | x::r,a=>decide (ln s vs x=some (a.getD 0 0)) && GL s vs r (a.drop 1)
end
theorem sU {s:Sg} {vs:List Int} {l:List T} {a:List Int} {i:Nat} (h:i < l.length):GL s vs (l.drop i) (a.drop i)=(decide (ln s vs (l.getD i default)=some (a.getD i 0)) && GL s vs (l.drop (i + 1)) (a.drop (i + 1))):=by
 rw [aav h,GL]
 have e:l.getD i default=l[i]:=by rw [th,Hj h];rfl
 have e2:(a.drop i).getD 0 0=a.getD i 0:=by simp
 rw [e,e2,agn]
def CE (o:Option Int):AV:=.tuple [.int .i64 (o.getD 0),.bool o.isSome]
theorem Z3 (s:Sg) (vs:List Int):∀ t:T,t.shaped=true→Pure Tryz.prog 218 [s.av,.al 0 (ints vs),t.av] (CE (ln s vs t)):=by
 suffices h:∀ N t,wt t≤N→t.shaped=true→Pure Tryz.prog 218 [s.av,.al 0 (ints vs),t.av] (CE (ln s vs t)) from fun t ht=>h _ t (zy _) ht
 intro N
 induction N with
 | zero=>intro t h;have:=dt t;omega
 | succ N ih=>
 intro t hN hs H
 have hk:=fN hs
 have ih:∀ x∈t.l,Pure Tryz.prog 218 [s.av,.al 0 (ints vs),x.av] (CE (ln s vs x)):=fun x hx=>ih x (by have:=ch hx;omega) (hk.2 x hx)
 have hn:0≤t.n:=by
  rw [T.dn] at hs
  simp only [zC,abC,abQ,decide_eq_false_iff_not] at hs
  have:=hs.1.1.1.1
  omega
 obtain ⟨m,hm⟩:=ab1 hn
 have em:t.n.toNat=m:=by omega
 refine YG.2.calls rfl ?_
 simp only [YG,aH]
 have e:ln s vs t=if t.k=1 then (if (vs.length:Int)≤t.n then none else some (vs.getD t.n.toNat 0)) else if (s.ops.length:Int)≤t.n∨¬ (t.l.length:Int)=((s.ops.getD t.n.toNat default).args.length:Nat) then none else if GL s vs t.l (s.ops.getD t.n.toNat default).args=true then some (s.ops.getD t.n.toNat default).zm else none:=by cases t;rfl
 have fin (o:Option Int) (x:List aa) (h:ln s vs t=o):bP H.length [.t 6,.t 7] [(6,.int .i64 (o.getD 0)),(7,.bool o.isSome)] (H++x) fun r H'=>r=CE (ln s vs t)∧H'=H:=by
  rw [h];exact xB (e:=x) (by decide) rfl rfl rfl rfl
 have fin0 (o:Option Int) (h:ln s vs t=o):bP H.length [.t 6,.t 7] [(6,.int .i64 (o.getD 0)),(7,.bool o.isSome)] H fun r H'=>r=CE (ln s vs t)∧H'=H:=by
  have:=fin o [] h
  rwa [abJ] at this
 by_cases k1:t.k=1
 ·rw [if_pos k1] at e
  by_cases k2:(vs.length:Int)≤t.n
  ·rw [if_pos k2] at e
   have k2':((vs.length:Int)≤(m:Int))=True:=eq_true (by omega)
   simp +contextual only [aC,k1,hm,k2',ap,sZ,Nat.reduceEqDiff,Nat.reduceAdd,↓reduceIte,reduceCtorEq]
   exact fun _=>fin0 none e
  ·rw [if_neg k2,em] at e
   have k2':((vs.length:Int)≤(m:Int))=False:=eq_false (by omega)
   have k3:m < vs.length:=by omega
   simp +contextual only [aC,k1,hm,k2',k3,ap,sZ,Nat.reduceEqDiff,Nat.reduceAdd,↓reduceIte,reduceCtorEq]
   exact fun _=>fin0 (some _) e
 rw [if_neg k1,em] at e
 by_cases k2:(s.ops.length:Int)≤t.n
 ·rw [if_pos (.inl k2)] at e
  have k2':((s.ops.length:Int)≤(m:Int))=True:=eq_true (by omega)
  simp +contextual only [aC,k1,hm,k2',decide_true,sZ,Nat.reduceEqDiff,Nat.reduceAdd,↓reduceIte,reduceCtorEq]
  exact fin0 none e
 have k2':((s.ops.length:Int)≤(m:Int))=False:=eq_false (by omega)
 have k3:m < s.ops.length:=by omega
 by_cases k4:(t.l.length:Int)=((s.ops.getD m default).args.length:Nat)
 rotate_left
 ·rw [if_pos (.inr k4)] at e
  simp +contextual only [aC,k1,hm,k2',k3,k4,ap,decide_false,sZ,Nat.reduceEqDiff,Nat.reduceAdd,↓reduceIte,reduceCtorEq]
  exact fin0 none e
 rw [if_neg (by omega)] at e
 have k4':((t.l.length:Int)=((s.ops.getD m default).args.length:Nat))=True:=eq_true k4
 generalize ha:(s.ops.getD m default).args=as_ at *
 simp +contextual only [aC,k1,hm,k2',k3,k4',ha,ap,decide_false,sZ,Nat.reduceEqDiff,Nat.reduceAdd,↓reduceIte,reduceCtorEq]
 intro _
 refine aq t.l.length (fun i=>GL s vs (t.l.drop i) (as_.drop i)=GL s vs t.l as_) (fun i=>[(1,.al 0 (ints vs)),(3,.ah s.av),(5,.ah t.av),(46,.al 0 (bN t.l)),(47,.int .i64 t.l.length),(48,.int .i64 i)]) (fun _=>H) ⟨rfl,ax _ _ _⟩ fun i hi hI=>?_
 by_cases hl:i < t.l.length
 ·have f1:((i:Int) < t.l.length)=True:=eq_true (by omega)
  have lZ:i < as_.length:=by omega
  have dr (G:List aa) (h:decide (ln s vs (t.l.getD i default)=some (as_.getD i 0))=false):ln s vs t=none:=by
   rw [sU hl,h,afA] at hI
   rw [e,← hI];rfl
  simp +contextual only [aC,f1,hl,sZ,Nat.reduceEqDiff,Nat.reduceAdd,↓reduceIte]
  refine ae (ih _ (oc hl)) ?_
  cases ho:ln s vs (t.l.getD i default) with
  | none=>
    simp +contextual only [CE,aeF,Option.getD_none,sZ,Nat.reduceEqDiff,Nat.reduceAdd,Nat.reduceLT,↓reduceIte,reduceCtorEq]
    exact fin none _ (dr H (by rw [ho];rfl))
  | some z=>
    by_cases hz:z=as_.getD i 0
    ·have xU:(z=as_.getD i 0)=True:=eq_true hz
     simp +contextual only [aC,CE,ad7,Option.getD_some,hm,k3,ha,lZ,xU,not_true_eq_false,sZ,Nat.reduceEqDiff,Nat.reduceAdd,Nat.reduceLT,↓reduceIte]
     refine ⟨i + 1,⟨hl,?_⟩,by omega,sx (by rw [aj i (by omega)]) (zy _) (by simp [pk,AV.bc,ee,aJ,Sg.mh,T.mh]) _ rfl⟩
     rw [sU hl,ho,hz,decide_eq_true rfl,acB] at hI
     exact hI
    ·have xU:(z=as_.getD i 0)=False:=eq_false hz
     simp +contextual only [aC,CE,ad7,Option.getD_some,hm,k3,ha,lZ,xU,not_false_eq_true,sZ,Nat.reduceEqDiff,Nat.reduceAdd,Nat.reduceLT,↓reduceIte,reduceCtorEq]
     exact fin none _ (dr H (by rw [ho];exact decide_eq_false fun h=>hz (Option.some.inj h)))
 ·have f1:((i:Int) < t.l.length)=False:=eq_false (by omega)
  rw [aap (by omega)] at hI
  have hI':GL s vs t.l as_=true:=hI.symm.trans rfl
  rw [if_pos hI'] at e
  simp +contextual only [aC,f1,hm,k3,sZ,Nat.reduceEqDiff,↓reduceIte,reduceCtorEq]
  exact fin0 (some _) e
end Go.aI
end
section
set_option maxRecDepth 100000
set_option maxHeartbeats 0
namespace Go.aI
open Go Go.Proofs
noncomputable def R9:=aH Tryz.call163 Tryz.func163 Tryz.ntmps163 [(0,0,1),(0,1,1),(1,4,1),(1,5,1),(4,2,1000),(5,0,1),(5,7,1),(8,6,2000)] [(0,[2,3]),(1,[2,3,5]),(2,[2,5,16,17,18]),(3,[2,5,16,17,18,19]),(4,[2,5,7,16,17,18]),(5,[2,5,16,17,18]),(6,[2,5,16,17,18]),(7,[8,9]),(8,[4])] [(8,(tkq 0 6 (.br 6 (.take 7 true .done) .nil)))]
end Go.aI
end
section
set_option maxRecDepth 100000
namespace Go.aI
open Go Go.Proofs Go.dD
structure Cn where
 a:T
 b:T
deriving Inhabited
def Cn.av (c:Cn):AV:=.agg [.int .i64 c.a.k,.int .i64 c.a.n,.al 0 (bN c.a.l),.int .i64 c.b.k,.int .i64 c.b.n,.al 0 (bN c.b.l)]
def rB (l:List Cn):List AV:=l.map Cn.av
structure iL where
 vs:List Int
 cs:List Cn
 a:T
 b:T
deriving Inhabited
def iL.av (e:iL):AV:=.agg [.al 0 (ints e.vs),.al 0 (rB e.cs),.int .i64 e.a.k,.int .i64 e.a.n,.al 0 (bN e.a.l),.int .i64 e.b.k,.int .i64 e.b.n,.al 0 (bN e.b.l)]
def iL.rest (e:iL):List T:=e.b::e.cs.flatMap fun c=>[c.a,c.b]
theorem cL (l:List Cn):(rB l).length=l.length:=by simp [rB]
theorem MY (n:Nat) (l:List Cn):aw n (rB l)=true:=by
 rw [bg];intro x hx;obtain ⟨y,_,rfl⟩:=aaw.1 hx
 simp [Cn.av,AV.bc,aw,ee]
theorem iL.facts (e:iL):e.av.val=true∧e.av.cells.length=8∧e.av.cells.all AV.one=true∧e.av.ab=e.av∧e.av.drop=e.av∧∀ n,e.av.bc n=true:=
 ⟨rfl,rfl,rfl,rfl,rfl,fun n=>by simp [iL.av,AV.bc,aw,ee,aJ,MY]⟩
theorem Cn.facts (e:Cn):e.av.val=true∧e.av.cells.length=6∧e.av.cells.all AV.one=true∧e.av.ab=e.av∧e.av.drop=e.av∧∀ n,e.av.bc n=true:=
 ⟨rfl,rfl,rfl,rfl,rfl,fun n=>by simp [Cn.av,AV.bc,aw,ee]⟩
theorem T.B5 (t:T):AV.agg [.int .i64 t.k,.int .i64 t.n,.al 0 (bN t.l)]=t.av:=by cases t;rfl
theorem CF (e:iL) (φ:AV→Prop):au 2 (some 3) (.ah e.av) φ=φ (.ah e.a.av):=by simp [au,apart,iL.av,AV.cells,← T.B5]
theorem KC (e:iL) (φ:AV→Prop):au 5 (some 3) (.ah e.av) φ=φ (.ah e.b.av):=by simp [au,apart,iL.av,AV.cells,← T.B5]
theorem zq (e:iL) (φ:AV→Prop):au 1 none (.ah e.av) φ=φ (.ah (.al 0 (rB e.cs))):=by simp [au,apart,iL.av,AV.cells,AV.one]
theorem Qy (e:Cn) (φ:AV→Prop):au 0 (some 3) (.ah e.av) φ=φ (.ah e.a.av):=by simp [au,apart,Cn.av,AV.cells,← T.B5]
theorem Qz (e:Cn) (φ:AV→Prop):au 3 (some 3) (.ah e.av) φ=φ (.ah e.b.av):=by simp [au,apart,Cn.av,AV.cells,← T.B5]
theorem jK (o:Nat) (l:List Cn):(∀ (own:Nat) (xs:List AV),AV.al o (rB l)=AV.al own xs→∀ z∈xs,z.cells.length=6)=True:=by
 simp only [eq_iff_iff,iff_true]
 intro own xs e z hz
 cases e
 obtain ⟨y,_,rfl⟩:=aaw.1 hz;rfl
theorem mn (e o:Nat) (l:List Cn) (k:IntKind) (i:Nat) (φ:AV→Prop):aG e (.al o (rB l)) (.int k (i:Int)) φ=(i < l.length∧φ (.ah (l.getD i default).av)):=by
 simp only [aG,cL,zB,eq_iff_iff]
 constructor
 ·rintro ⟨_,h,h2⟩;refine ⟨h,?_⟩;simpa [rB,h] using h2
 ·rintro ⟨h,h2⟩;refine ⟨by omega,h,?_⟩;simpa [rB,h] using h2
theorem Ii (e:Cn) (H:List aa) (φ:AV→Prop):a8 (some 6) (.ah e.av) H φ=φ e.av:=by simp [a8,Cn.av,AV.cells]
def B6 (ps ss:List Int) (e:iL):Prop:=∀ y∈e.rest,R (iq ps ss) e.a y
def oK (l:List Cn):List T:=l.flatMap fun c=>[c.a,c.b]
theorem yc {l:List Cn} {i:Nat} (h:i < l.length):oK (l.take (i + 1))=oK (l.take i)++[(l.getD i default).a,(l.getD i default).b]:=by
 have e:l.getD i default=l[i]:=by simp [h]
 rw [abN h,e]
 unfold oK
 rw [adS]
 rfl
theorem oh (l:List Cn):(oK l).length=2 * l.length:=by
 induction l with
 | nil=>rfl
 | cons x r ih=>simp only [oK,List.flatMap_cons,aaj,List.length_cons,List.length_nil] at ih ⊢;omega
theorem wo (a b:List T):bN (a++b)=bN a++bN b:=by
 induction a with
 | nil=>rfl
 | cons x r ih=>rw [List.cons_append,bN,bN,ih];rfl
theorem Z4 (x:Int) (r:List Int) (φ:AV→Prop):bH 1 (.al 0 (ints (x::r))) (some (.int .i64 1)) none none φ=φ (.al 0 (ints r)):=by
 have er:dK (AV.al 0 (ints (x::r)))=some (ints (x::r)):=rfl
 have e1:(1:Int).toNat=1:=rfl
 have e2:((ints (x::r)).take (ints (x::r)).length).drop 1=ints r:=by rw [aby];rfl
 simp only [bH,gZ,er,eS,e1,e2,eq_iff_iff]
 constructor
 ·intro h;exact h.2.2.2.2
 ·intro h
  refine ⟨fun own xs he z hz=>?_,by omega,by simp [ap],zy _,h⟩
  cases he
  obtain ⟨y,_,rfl⟩:=aaw.1 hz
  rfl
theorem aeh (ps ss:List Int) (e:iL) (hv:Va ps ss) (hlen:e.cs.length≤1000) (ht:∀ t∈e.a::e.rest,t.tree=true) (c9:∀ t∈e.a::e.rest,vO (fun n=>0≤n∧n < ps.length) t) (H:List aa) :
 aA Tryz.prog 163 [dE ps ss,e.av] H fun r H'=>(∃ b:Bool,r=.bool b∧(b=true↔B6 ps ss e))∧H'=H:=by
 refine R9.2.calls rfl ?_
 simp only [R9,aH]
 obtain ⟨q1,q2,q3,q4,q5,q6⟩:=aR ps ss
 obtain ⟨e1,e2,e3,e4,e5,e6⟩:=iL.facts e
 have cf:=Cn.facts
 simp +contextual only [q1,e1,CF,KC,zq,cL,sZ,Nat.reduceEqDiff,Nat.reduceAdd,↓reduceIte,reduceCtorEq]
 intro _
 have rest:e.rest=e.b::oK e.cs:=rfl
 refine aq e.cs.length (fun i=>True) (fun i=>[(2,.ah (dE ps ss)),(5,.al 3 (bN (e.a::e.b::oK (e.cs.take i)))),(16,.al 0 (rB e.cs)),(17,.int .i64 e.cs.length),(18,.int .i64 i)]) (fun _=>H) ⟨trivial,ax _ _ _⟩ fun i hi _=>?_
 by_cases vA:(i:Int) < e.cs.length
 ·have aM:i < e.cs.length:=by omega
  obtain ⟨f1,f2,f3,f4,f5,f6⟩:=cf (e.cs.getD i default)
  have hl:(oK (e.cs.take i)).length≤2000:=by rw [oh];simp;omega
  have hal:=sF (e.a::e.b::oK (e.cs.take i))
  have kw:qR 3 [(e.cs.getD i default).a.av,(e.cs.getD i default).b.av]:=of_eq_true (BR [_,_])
  simp +contextual only [vA,decide_true,jK,mn,Ii,f1,f2,f3,Qy,Qz,sZ,Nat.reduceEqDiff,Nat.reduceAdd,↓reduceIte]
  have e7:bN (e.a::e.b::oK (e.cs.take i))++[(e.cs.getD i default).a.av,(e.cs.getD i default).b.av]=bN (e.a::e.b::oK (e.cs.take (i + 1))):=by
   rw [yc aM,← List.cons_append,← List.cons_append,wo];rfl
  exact ⟨aM,by omega,kw,i + 1,aM,by omega,ay (by rw [aj i (by omega),e7]) rfl⟩
 ·have KS:i=e.cs.length:=by omega
  subst KS
  rw [aby]
  have dP:e.a::e.b::oK e.cs≠[]:=by simp
  have hl:(e.a::e.b::oK e.cs).length≤10000:=by simp [oh];omega
  have hw:=lP (l:=e.a::e.b::oK e.cs) ht
  have hc:=R5 hv dP (by omega) c9 H.length
  have hd:=Ay ps ss dP H
  simp +contextual only [vA,decide_false,bQ,q4,sZ,Nat.reduceEqDiff,Nat.reduceAdd,↓reduceIte]
  refine af (Zq ps ss (e.a::e.b::oK e.cs) H (by omega)) ?_
  rintro r G ⟨rfl,rfl⟩
  have hk:=(Qs (e.a::e.b::oK e.cs)).kids
  have ek:ba (e.a::e.b::oK e.cs) 0=0::ba (e.b::oK e.cs) (0 + wt e.a):=by rw [ba];rfl
  have sg:=cJ (e.b::oK e.cs) (0 + wt e.a)
  rw [ek] at hk ⊢
  generalize ba (e.b::oK e.cs) (0 + wt e.a)=tl at hk sg ⊢
  obtain ⟨MC,uY⟩:=hk
  simp only [List.map_cons,List.cons.injEq] at MC
  obtain ⟨ha,hb⟩:=MC
  have e0:([(0:Int)]++tl).getD 0 0=0:=rfl
  have ix0:∀ φ:AV→Prop,aG 1 (.al 0 (ints (0::tl))) (.int .i64 0) φ=φ (.ah (.int .i64 0)):=fun φ=>by
   have:=aN 1 0 (0::tl) .i64 0 φ
   rw [this]
   simp
  simp +contextual only [bu,ix0,dY,Option.map_some,Option.map_none,Z4,sZ,Nat.reduceEqDiff,Nat.reduceAdd,Nat.reduceLT,↓reduceIte,reduceCtorEq]
  have itl:IL (.al 0 (ints tl)) tl:=.inr rfl
  refine af (UP (c:=iK ps ss (e.a::e.b::oK e.cs) H.length) (i:=0) itl (by rw [sg];simp [oh];omega) (fun x hx=>lg hc (uY 0 abD) (uY x (aaA _ hx))) hd) ?_
  rintro r G ⟨b,rfl,hbb,hU,hD⟩
  simp +contextual only [sZ,↓reduceIte,reduceCtorEq]
  refine aT H.length (zy _) (by rw [aD,if_pos rfl];rfl) ?_
  rw [aD,if_pos rfl]
  refine ⟨⟨b,rfl,?_⟩,hU.low (by simp [iK]) (by simp [iK])⟩
  rw [hbb,B6,rest]
  have ha':(iK ps ss (e.a::e.b::oK e.cs) H.length).tm 0=e.a:=ha
  have ew:tl.map (iK ps ss (e.a::e.b::oK e.cs) H.length).tm=e.b::oK e.cs:=hb
  rw [ha']
  generalize (iK ps ss (e.a::e.b::oK e.cs) H.length).tm=f at ew
  rw [← ew]
  constructor
  ·intro h y hy
   obtain ⟨x,hx,rfl⟩:=aaw.1 hy
   exact h x hx
  ·intro h x hx
   exact h _ (aaw.2 ⟨x,hx,rfl⟩)
end Go.aI
end
section
namespace Go.dD
open Go.aI
inductive PP where
 | mk (r i:Int) (to:List Int) (l:List PP)
 deriving Inhabited
def PP.r:PP→Int | .mk r _ _ _=>r
def PP.i:PP→Int | .mk _ i _ _=>i
def PP.to:PP→List Int | .mk _ _ to _=>to
def PP.l:PP→List PP | .mk _ _ _ l=>l
mutual
def pz:PP→Nat
 | .mk _ _ _ l=>Z5 l + 1
def Z5:List PP→Nat
 | []=>0
 | x::r=>pz x + Z5 r
end
theorem Ij {x:PP}:∀ {l:List PP},x∈l→pz x≤Z5 l
 | y::r,h=>by
   rw [Z5]
   rcases aak.1 h with rfl | h
   ·omega
   ·have:=Ij h;omega
theorem B7 (p:PP):0 < pz p:=by cases p;rw [pz];omega
theorem B8 {p x:PP} (h:x∈p.l):pz x < pz p:=by
 obtain ⟨r,i,to,l⟩:=p
 have:pz x≤Z5 l:=Ij h
 rw [pz];omega
theorem eN {l:List PP} {i:Nat} (h:i < l.length):l.getD i default∈l:=by
 rw [th,Hj h];exact acA h
theorem Kc {l:List T} {i:Nat} (h:i < l.length):l.getD i default∈l:=by
 rw [th,Hj h];exact acA h
def PP.nil (q:PP):Prop:=q.r=0∧q.i=0∧q.to=[]∧q.l=[]
instance (q:PP):Decidable q.nil:=by
 unfold PP.nil
 have:Decidable (q.l=[]):=by cases q.l with
  | nil=>exact isTrue rfl
  | cons a b=>exact isFalse (by simp)
 exact inferInstance
def dN (to:List Int) (x:Int):Nat→Nat
 | 0=>0
 | n + 1=>dN to x n + if to.getD n 0=x then 1 else 0
def dG (to:List Int) (l:List PP) (x:Int):Nat→Nat
 | 0=>0
 | n + 1=>dG to l x n + if to.getD n 0=x∧(l.getD n default).nil then 1 else 0
theorem AE {to:List Int} {x:Int} {j:Nat}:∀ {n:Nat},j < n→to.getD j 0=x→1≤dN to x n
 | n + 1,h,e=>by
   rw [dN]
   by_cases hj:j=n
   ·subst hj;rw [if_pos e];omega
   ·have:=AE (n:=n) (by omega) e;omega
theorem ux {to:List Int} {x:Int} {j j':Nat} (hj:j < j') (e:to.getD j 0=x) (e':to.getD j' 0=x):∀ {n:Nat},j' < n→2≤dN to x n
 | n + 1,h=>by
   rw [dN]
   by_cases hn:j'=n
   ·subst hn;rw [if_pos e'];have:=AE hj e;omega
   ·have:=ux hj e e' (n:=n) (by omega);omega
theorem AF {to:List Int} {x:Int} {j j' n:Nat} (h:dN to x n≤1) (hj:j < n) (tx:j' < n) (e:to.getD j 0=x) (e':to.getD j' 0=x):j=j':=by
 rcases af5 j j' with h1 | h1 | h1
 ·have:=ux h1 e e' tx;omega
 ·exact h1
 ·have:=ux h1 e' e hj;omega
theorem jA {to:List Int} {l:List PP} {x:Int}:∀ {n:Nat},0 < dG to l x n↔∃ j,j < n∧to.getD j 0=x∧(l.getD j default).nil
 | 0=>by simp [dG]
 | n + 1=>by
   rw [dG]
   have ih:=jA (to:=to) (l:=l) (x:=x) (n:=n)
   by_cases h:to.getD n 0=x∧(l.getD n default).nil
   ·rw [if_pos h]
    exact ⟨fun _=>⟨n,by omega,h⟩,fun _=>by omega⟩
   ·rw [if_neg h,af0,ih]
    constructor
    ·rintro ⟨j,h1,h2⟩;exact ⟨j,by omega,h2⟩
    ·rintro ⟨j,h1,h2⟩
     have:j≠n:=fun e=>h (e ▸ h2)
     exact ⟨j,by omega,h2⟩
theorem pC {to:List Int} {l:List PP} {x:Int}:∀ n,dG to l x n≤dN to x n
 | 0=>zy _
 | n + 1=>by
   rw [dG,dN]
   have:=pC (to:=to) (l:=l) (x:=x) n
   by_cases h:to.getD n 0=x∧(l.getD n default).nil
   ·rw [if_pos h,if_pos h.1];omega
   ·rw [if_neg h];omega
def mY (S:PP→T→T→Prop) (l:List PP) (a:T) (bs:List T):Prop:=l.length=bs.length∧∀ j,j < bs.length→S (l.getD j default) a (bs.getD j default)
def Sa (Q:T→T→Prop) (S:PP→T→T→Prop) (to:List Int) (l:List PP) (az bs:List T):Prop:=
 to.length=bs.length∧l.length=bs.length∧
 (∀ j,j < bs.length→(0≤to.getD j 0∧to.getD j 0 < az.length)∧
   (if (l.getD j default).nil then Q (az.getD (to.getD j 0).toNat default) (bs.getD j default) else S (l.getD j default) (az.getD (to.getD j 0).toNat default) (bs.getD j default)))∧
 (∀ x:Nat,x < az.length→0 < dG to l x bs.length→dN to x bs.length≤1)∧∃ x:Nat,x < az.length∧dG to l x bs.length=0
def Em (Q:T→T→Prop) (S:PP→T→T→Prop) (i:Int) (l:List PP) (a:T) (az bs:List T) (bl:List T):Prop:=
 (0≤i∧i < az.length∧i≤bs.length)∧(∀ j,j < i.toNat→Q (az.getD j default) (bs.getD j default))∧
 (if i=bs.length then mY S l a bl else ∃ q r,l=q::r∧S q (az.getD i.toNat default) (bs.getD i.toNat default)∧mY S r a bl)
def Fs (O:Od) (S:PP→T→T→Prop) (p:PP) (a b:T):Prop:=
 a.k=2∧(
  (p.r=1∧p.to=[]∧(0≤p.i∧p.i < a.l.length)∧((p.l=[]∧E O (a.l.getD p.i.toNat default) b)∨∃ q,p.l=[q]∧S q (a.l.getD p.i.toNat default) b))∨
  (p.r=2∧p.to=[]∧p.i=0∧b.k=2∧O.pl b.n < O.pl a.n∧mY S p.l a b.l)∨
  (p.r=3∧p.to=[]∧b.k=2∧O.pl a.n=O.pl b.n∧O.sp (O.pl a.n)≠3∧Em (E O) S p.i p.l a (side (O.sp (O.pl a.n)) a.l) (side (O.sp (O.pl a.n)) b.l) b.l)∨
  (p.r=4∧p.i=0∧b.k=2∧O.pl a.n=O.pl b.n∧O.sp (O.pl a.n)=3∧Sa (E O) S p.to p.l a.l b.l))
theorem ol {S S':PP→T→T→Prop} {l:List PP} {a:T} {bs:List T} (h:∀ q∈l,∀ a b,S q a b↔S' q a b):mY S l a bs↔mY S' l a bs:=by
 refine and_congr_right fun hl=>?_
 constructor
 ·exact fun k j hj=>(h _ (eN (by omega)) _ _).1 (k j hj)
 ·exact fun k j hj=>(h _ (eN (by omega)) _ _).2 (k j hj)
theorem Kd {Q:T→T→Prop} {S S':PP→T→T→Prop} {to:List Int} {l:List PP} {az bs:List T} (h:∀ q∈l,∀ a b,S q a b↔S' q a b):Sa Q S to l az bs↔Sa Q S' to l az bs:=by
 refine and_congr_right fun _=>and_congr_right fun hl=>and_congr_left fun _=>?_
 constructor
 ·intro k j hj
  refine ⟨(k j hj).1,?_⟩
  have:=(k j hj).2
  split at this
  ·rename_i e;rw [if_pos e];exact this
  ·rename_i e;rw [if_neg e];exact (h _ (eN (by omega)) _ _).1 this
 ·intro k j hj
  refine ⟨(k j hj).1,?_⟩
  have:=(k j hj).2
  split at this
  ·rename_i e;rw [if_pos e];exact this
  ·rename_i e;rw [if_neg e];exact (h _ (eN (by omega)) _ _).2 this
theorem GM {Q:T→T→Prop} {S S':PP→T→T→Prop} {i:Int} {l:List PP} {a:T} {az bs bl:List T} (h:∀ q∈l,∀ a b,S q a b↔S' q a b):Em Q S i l a az bs bl↔Em Q S' i l a az bs bl:=by
 refine and_congr_right fun _=>and_congr_right fun _=>?_
 split
 ·exact ol h
 ·constructor
  ·rintro ⟨q,r,rfl,h1,h2⟩
   exact ⟨q,r,rfl,(h q abD _ _).1 h1,(ol fun x hx=>h x (aaA _ hx)).1 h2⟩
  ·rintro ⟨q,r,rfl,h1,h2⟩
   exact ⟨q,r,rfl,(h q abD _ _).2 h1,(ol fun x hx=>h x (aaA _ hx)).2 h2⟩
theorem En {O:Od} {S S':PP→T→T→Prop} {p:PP} {a b:T} (h:∀ q∈p.l,∀ a b,S q a b↔S' q a b):Fs O S p a b↔Fs O S' p a b:=by
 refine and_congr_right fun _=>or_congr ?_ (or_congr ?_ (or_congr ?_ ?_))
 ·refine and_congr_right fun _=>and_congr_right fun _=>and_congr_right fun _=>or_congr Iff.rfl ?_
  constructor
  ·rintro ⟨q,e,k⟩;exact ⟨q,e,(h q (by rw [e];simp) _ _).1 k⟩
  ·rintro ⟨q,e,k⟩;exact ⟨q,e,(h q (by rw [e];simp) _ _).2 k⟩
 ·rw [ol h]
 ·rw [GM h]
 ·rw [Kd h]
def Sb (O:Od):Nat→PP→T→T→Prop
 | 0=>fun _ _ _=>False
 | f + 1=>Fs O (Sb O f)
def Sh (O:Od) (p:PP) (a b:T):Prop:=Sb O (pz p) p a b
theorem rC (O:Od):∀ (f g:Nat) (p:PP) (a b:T),pz p≤f→pz p≤g→(Sb O f p a b↔Sb O g p a b)
 | 0,_,p,a,b,h,_=>by have:=B7 p;omega
 | _ + 1,0,p,a,b,_,h=>by have:=B7 p;omega
 | f + 1,g + 1,p,a,b,h1,h2=>by
   simp only [Sb]
   refine En fun q hq a b=>?_
   have:=B8 hq
   exact rC O f g q a b (by omega) (by omega)
theorem rD {O:Od} {p:PP} {a b:T}:Sh O p a b↔Fs O (Sh O) p a b:=by
 have e:Sb O (pz p) p a b↔Sb O (pz p + 1) p a b:=rC O _ _ p a b (by omega) (by omega)
 unfold Sh
 rw [e]
 show Fs O (Sb O (pz p)) p a b↔_
 refine En fun q hq a b=>?_
 have:=B8 hq
 exact rC O _ _ q a b (by omega) (by omega)
theorem Sc {G:T→T→Prop}:∀ (n:Nat) {l m:List T},n < l.length→n≤m.length→(∀ j,j < n→l.getD j default=m.getD j default)→(n=m.length∨G (l.getD n default) (m.getD n default))→Lx G l m
 | 0,x::l,[],_,_,_,_=>trivial
 | 0,x::l,y::m,_,_,_,h=>.inr (by simpa using h)
 | n + 1,x::l,[],_,h,_,_=>by simp at h
 | n + 1,x::l,y::m,h1,h2,h3,h4=>by
   refine .inl ⟨h3 0 (by omega),Sc n (by simpa using h1) (by simpa using h2) (fun j hj=>h3 (j + 1) (by omega)) ?_⟩
   simpa using h4
theorem GN {β:Type} (f:T→β) (a:List T):a.map f=(List.range a.length).map fun i=>f (a.getD i default):=by
 apply aes
 ·simp
 ·intro i h1 h2
  have:i < a.length:=by simpa using h1
  simp [this]
theorem AG {β:Type} (f:T→β) (a:List T) (p:Nat→Bool):(a.map f).Perm (((List.range a.length).filter p).map (fun i=>f (a.getD i default))++((List.range a.length).filter fun i=>!p i).map fun i=>f (a.getD i default)):=by
 rw [GN,← ab8]
 exact (List.filter_append_perm p (List.range a.length)).symm.map _
theorem qO (n:Nat) (p:Nat→Bool):((List.range n).filter p).Nodup:=List.Pairwise.filter p List.nodup_range
theorem U8 {O:Od} {S:PP→T→T→Prop} {to:List Int} {l:List PP} {az bs:List T} (h:Sa (E O) S to l az bs) (hS:∀ q∈l,∀ a b,S q a b→R O a b):Mu (Gt O.sp) (az.map (norm O)) (bs.map (norm O)):=by
 obtain ⟨h1,h2,h3,h4,x0,KW,h5⟩:=h
 let n:=bs.length
 let U:Nat→Bool:=fun i=>decide (dG to l i n=0)
 let Z:Nat→Bool:=fun j=>!decide (l.getD j default).nil
 have pu:=AG (norm O) az U
 have pz:=AG (norm O) bs Z
 refine Zm (X:=((List.range az.length).filter U).map fun i=>norm O (az.getD i default)) (Y:=((List.range bs.length).filter Z).map fun i=>norm O (bs.getD i default)) (C:=((List.range bs.length).filter fun i=>!Z i).map fun i=>norm O (bs.getD i default)) ?_ pz ?_ ?_
 ·refine pu.trans (List.Perm.append_left _ ?_)
  have hp:(((List.range bs.length).filter fun j=>!Z j).map fun j=>(to.getD j 0).toNat).Perm ((List.range az.length).filter fun i=>!U i):=by
   rw [List.perm_ext_iff_of_nodup]
   ·intro i
    simp only [Z,U,n,aaw,ab3,abG,afZ,abC,decide_eq_true_eq,decide_eq_false_iff_not]
    constructor
    ·rintro ⟨j,⟨hj,hn⟩,rfl⟩
     have:=(h3 j hj).1
     refine ⟨by omega,?_⟩
     have:0 < dG to l ((to.getD j 0).toNat:Int) bs.length:=jA.2 ⟨j,hj,by omega,hn⟩
     omega
    ·rintro ⟨hi,hu⟩
     obtain ⟨j,k1,k2,k3⟩:=jA.1 (show 0 < dG to l (i:Int) bs.length by omega)
     exact ⟨j,⟨k1,k3⟩,by omega⟩
   ·rw [List.Nodup,List.pairwise_map]
    refine List.Pairwise.imp_of_mem ?_ (qO _ _)
    intro j j' hj tx dP he
    simp only [Z,ab3,abG,afZ,decide_eq_true_eq] at hj tx
    have b1:=(h3 j hj.1).1
    have b2:=(h3 j' tx.1).1
    have e1:to.getD j 0=(((to.getD j 0).toNat:Nat):Int):=by omega
    have e2:to.getD j' 0=(((to.getD j 0).toNat:Nat):Int):=by omega
    have hp:0 < dG to l (((to.getD j 0).toNat:Nat):Int) bs.length:=jA.2 ⟨j,hj.1,e1,hj.2⟩
    exact dP (AF (h4 _ (by omega) hp) hj.1 tx.1 e1 e2)
   ·exact qO _ _
  refine (hp.map fun i=>norm O (az.getD i default)).symm.trans ?_
  rw [acH]
  refine List.Perm.of_eq (ab2 fun j hj=>?_)
  simp only [Z,ab3,abG,afZ,decide_eq_true_eq] at hj
  have:=(h3 j hj.1).2
  rw [if_pos hj.2] at this
  exact this
 ·intro e
  have:norm O (az.getD x0 default)∈((List.range az.length).filter U).map fun i=>norm O (az.getD i default):=
   aaw.2 ⟨x0,ab3.2 ⟨abG.2 KW,by simp [U,n,h5]⟩,rfl⟩
  rw [e] at this
  cases this
 ·intro y hy
  obtain ⟨j,hj,rfl⟩:=aaw.1 hy
  simp only [Z,ab3,abG,abC,decide_eq_false_iff_not] at hj
  obtain ⟨hj,hn⟩:=hj
  have b1:=h3 j hj
  rw [if_neg hn] at b1
  refine ⟨norm O (az.getD (to.getD j 0).toNat default),aaw.2 ⟨(to.getD j 0).toNat,ab3.2 ⟨abG.2 (by omega),?_⟩,rfl⟩,hS _ (eN (by omega)) _ _ b1.2⟩
  simp only [U,n,decide_eq_true_eq]
  by_cases hp:0 < dG to l ((to.getD j 0).toNat:Int) bs.length
  ·have ht:=h4 _ (by omega) hp
   obtain ⟨j',k1,k2,k3⟩:=jA.1 hp
   have:=AF ht hj k1 (by omega) k2
   exact absurd (this ▸ k3) hn
  ·omega
theorem qd {f:T→T} {l:List T} {i:Nat} (h:i < l.length):(l.map f).getD i default=f (l.getD i default):=by
 simp [h]
theorem aei {O:Od}:∀ (N:Nat) {p:PP} {a b:T},pz p≤N→Sh O p a b→R O a b:=by
 intro N
 induction N with
 | zero=>intro p a b h;have:=B7 p;omega
 | succ N ih=>
 intro p a b hN h
 have hm:∀ q∈p.l,∀ a b,Sh O q a b→R O a b:=fun q hq a b hs=>ih (by have:=B8 hq;omega) hs
 have fU:∀ {l:List PP} {bs:List T},(∀ q∈l,q∈p.l)→mY (Sh O) l a bs→∀ y∈bs,R O a y:=by
  intro l bs hq hl y hy
  obtain ⟨j,hj,rfl⟩:=List.mem_iff_getElem.1 hy
  have:=hl.2 j hj
  have e:bs.getD j default=bs[j]:=by simp [hj]
  rw [e] at this
  exact hm _ (hq _ (eN (by have:=hl.1;omega))) _ _ this
 obtain ⟨ha,h⟩:=rD.1 h
 rcases h with ⟨_,_,hi,h⟩ | ⟨_,_,_,hb,hp,h⟩ | ⟨_,_,hb,hp,hs,h1,h2,h3⟩ | ⟨_,_,hb,hp,hs,h⟩
 ·refine Zn ha (Kc (i:=p.i.toNat) (by omega)) ?_
  rcases h with ⟨_,h⟩ | ⟨q,e,h⟩
  ·exact .inl h
  ·exact .inr (hm q (by rw [e];simp) _ _ h)
 ·exact qK.2 ⟨ha,.inr ⟨hb,.inl ⟨hp,fU (fun _ h=>h) h⟩⟩⟩
 ·refine qK.2 ⟨ha,.inr ⟨hb,.inr (.inl ⟨hp.symm,hs,?_,?_⟩)⟩⟩
  ·split at h3
   ·exact fU (fun _ h=>h) h3
   ·obtain ⟨q,r,e,_,h3⟩:=h3
    exact fU (fun x hx=>by rw [e];exact aaA _ hx) h3
  ·rw [D7,D7]
   have Sd:p.i.toNat < (side (O.sp (O.pl a.n)) a.l).length:=by omega
   refine Sc p.i.toNat (by simpa using Sd) (by simp;omega) (fun j hj=>?_) ?_
   ·rw [qd (by omega),qd (by omega)]
    exact h2 j hj
   ·by_cases hi:p.i=(side (O.sp (O.pl a.n)) b.l).length
    ·left;simp;omega
    ·rw [if_neg hi] at h3
     obtain ⟨q,r,e,h3,_⟩:=h3
     right
     rw [qd (by omega),qd (by omega)]
     exact hm q (by rw [e];simp) _ _ h3
 ·exact qK.2 ⟨ha,.inr ⟨hb,.inr (.inr ⟨hp.symm,hs,U8 h hm⟩)⟩⟩
theorem Sh.gt {O:Od} {p:PP} {a b:T} (h:Sh O p a b):R O a b:=aei _ (zy _) h
end Go.dD
end
section
set_option maxRecDepth 100000
namespace Go.aI
open Go Go.Proofs Go.dD
mutual
def eT:PP→AV
 | .mk r i to l=>.agg [.int .i64 r,.int .i64 i,.al 0 (ints to),.al 0 (eO l)]
def eO:List PP→List AV
 | []=>[]
 | x::r=>eT x::eO r
end
theorem pD (p:PP):eT p=.agg [.int .i64 p.r,.int .i64 p.i,.al 0 (ints p.to),.al 0 (eO p.l)]:=by cases p;rw [eT];rfl
theorem mZ:∀ l,eO l=l.map eT
 | []=>rfl
 | x::r=>by simp [eO,mZ r]
theorem fj (l:List PP):(eO l).length=l.length:=by simp [mZ]
mutual
theorem gO (n:Nat):∀ p,(eT p).bc n=true
 | .mk r i to l=>by simp [eT,AV.bc,aw,aJ,jU n l]
theorem jU (n:Nat):∀ l,aw n (eO l)=true
 | []=>rfl
 | x::r=>by simp [eO,aw,gO n x,jU n r]
end
theorem bf (p:PP):(eT p).val=true∧(eT p).cells.length=4∧(eT p).cells.all AV.one=true∧(eT p).ab=eT p∧(eT p).drop=eT p∧(∀ n,(eT p).bc n=true)∧AV.agg (eT p).cells=eT p∧(eT p).cells.map AV.drop=(eT p).cells∧(eT p).cells.map AV.ab=(eT p).cells:=by
 refine ⟨?_,?_,?_,?_,?_,fun n=>gO n p,?_,?_,?_⟩ <;> (rw [pD];rfl)
theorem Eo (p:PP) (φ:AV→Prop):au 0 none (.ah (eT p)) φ=φ (.ah (.int .i64 p.r)):=by rw [pD];simp [au,apart,AV.cells,AV.one]
theorem Fa (p:PP) (φ:AV→Prop):au 1 none (.ah (eT p)) φ=φ (.ah (.int .i64 p.i)):=by rw [pD];simp [au,apart,AV.cells,AV.one]
theorem QA (p:PP) (φ:AV→Prop):au 2 none (.ah (eT p)) φ=φ (.ah (.al 0 (ints p.to))):=by rw [pD];simp [au,apart,AV.cells,AV.one]
theorem MZ (p:PP) (φ:AV→Prop):au 3 none (.ah (eT p)) φ=φ (.ah (.al 0 (eO p.l))):=by rw [pD];simp [au,apart,AV.cells,AV.one]
theorem sV (o:Nat) (l:List PP):(∀ (own:Nat) (xs:List AV),AV.al o (eO l)=AV.al own xs→∀ z∈xs,z.cells.length=4)=True:=by
 simp only [eq_iff_iff,iff_true]
 intro own xs e z hz
 cases e
 rw [mZ] at hz
 obtain ⟨y,_,rfl⟩:=aaw.1 hz
 exact (bf y).2.1
theorem AH (l:List PP) (i:Nat) (h:i < l.length):(eO l).getD i .any=eT (l.getD i default):=by
 simp [mZ,h]
theorem B9 (e o:Nat) (l:List PP) (k:IntKind) (i:Int) (φ:AV→Prop):aG e (.al o (eO l)) (.int k i) φ=((0≤i∧i < l.length)∧φ (.ah (eT (l.getD i.toNat default)))):=by
 simp only [aG,fj,eq_iff_iff]
 constructor
 ·rintro ⟨h0,h,h2⟩;rw [AH _ _ h] at h2;exact ⟨by omega,h2⟩
 ·rintro ⟨⟨h0,h⟩,h2⟩
  have h:i.toNat < l.length:=by omega
  rw [AH _ _ h];exact ⟨h0,h,h2⟩
theorem sW (p:PP) (H:List aa) (φ:AV→Prop):a8 (some 4) (.ah (eT p)) H φ=φ (eT p):=by
 obtain ⟨_,h2,_,_,_,_,h7,_⟩:=bf p
 simp [a8,h2,h7]
theorem U9 (l:List PP):qR 4 (eO l)=True:=by
 simp only [eq_iff_iff,iff_true]
 intro z hz
 rw [mZ] at hz
 obtain ⟨y,_,rfl⟩:=aaw.1 hz
 obtain ⟨h1,h2,h3,h4,h5,_⟩:=bf y
 first | exact ⟨h1,h2,h3⟩ | exact ⟨h2,h1,h3⟩ | exact ⟨h1,h2⟩ | (constructor <;> first | assumption | simp [*])
def Ca (P:Px) (id:Nat) (xs:List AV) (H:List aa) (K:AV→List aa→Prop):Prop:=∃ bV,yU xs bV∧nK P id bV H K
@[congr] theorem QB {P:Px} {id:Nat} {xs xs':List AV} {H H':List aa} {K:AV→List aa→Prop} (h:iC xs=xs') (h2:H=H'):Ca P id xs H K=Ca P id xs' H' K:=by subst h;subst h2;rfl
theorem Ik {P:Px} {env:Env} {H:List aa} (id:Nat) (args:List IX) (pass:Option Nat) (K:AV→Env→List aa→Prop):rY P (.qm id) args pass env H K=Ca P id (aQ env pass 0 args) H (fun r H'=>K r (dB env (bn args pass)) H'):=agq
theorem Vb (id:Nat):(AV.qm id).ab=.qm id:=agq
theorem AI {P:Program} {id:Nat} {xs:List AV} {H:List aa} {R K:AV→List aa→Prop} (hc:l8 P id xs H R) (hk:∀ r H',R r H'→K r H'):Ca (P:Px) id xs H K:=⟨xs,da _,gK.mono hc hk⟩
theorem uy {P:Program} (g:FuncId) (first cap:List AV) (lc:jL) (env:Env) (H:List aa) (K:Option Code→List aa→Prop) {R:AV→List aa→Prop} (he:∀ (vs:Array Value) (w:World),(callFunc g vs).run P w=.ok (.enter g vs) w)
 (hc:aA P g (first.map AV.ab++[.qm H.length]++cap.map AV.ab) (H++[.loop .ready lc (mG lc.n env)]) R) (hk:∀ r H',R r H'→behind H.length H' K):xw (P:Px) (.fn (.func g) first cap) lc env H K:=
 ⟨he,_,da _,eD.of (hc.mono hk)⟩
theorem aej (n:Nat) (hn:n < 4611686018427387904) (id:Nat) (G:Nat→List aa) (hl:∀ j,(G j).length=(G 0).length) (hy:∀ j,j < n→l8 Tryz.prog id [.int .i64 (j:Int)] (G j) fun r H'=>r=.bool true∧H'=G (j + 1)) :
 aA Tryz.prog 201 [.qm id,.ah (.int .i64 n)] (G 0) fun r H'=>r=.tuple []∧H'=G n:=by
 refine Yt.2.calls rfl ?_
 simp only [Yt,aH]
 simp +contextual only [sZ,Nat.reduceEqDiff,Nat.reduceAdd,↓reduceIte,reduceCtorEq]
 refine aq n (fun j=>True) (fun j=>[(0,.qm id),(1,.ah (.int .i64 n)),(3,.int .i64 j)]) G ⟨trivial,ax _ _ _⟩ fun j hj _=>?_
 by_cases hjn:(j:Int) < n
 ·simp +contextual only [hjn,decide_true,Ik,Vb,sZ,Nat.reduceEqDiff,Nat.reduceAdd,↓reduceIte,reduceCtorEq]
  refine AI (hy j (by omega)) ?_
  rintro r H' ⟨rfl,rfl⟩
  simp +contextual only [sZ,Nat.reduceEqDiff,↓reduceIte,reduceCtorEq]
  exact ⟨j + 1,by omega,by omega,ay (by rw [aj j (by omega)]) rfl⟩
 ·have e:j=n:=by omega
  subst e
  simp +contextual only [hjn,decide_false,sZ,Nat.reduceEqDiff,↓reduceIte,reduceCtorEq]
  exact jR (hl j).symm rfl
end Go.aI
end
section
set_option maxRecDepth 100000
namespace Go.aI
open Go Go.Proofs Go.dD
def upto (n:Nat):List Int:=(List.range n).map Int.ofNat
theorem AJ (n:Nat):upto (n + 1)=upto n++[(n:Int)]:=by simp [upto,adp]
theorem Ep (n:Nat):(upto n).length=n:=by simp [upto]
theorem yd {n:Nat} {x:Int}:x∈upto n↔0≤x∧x < n:=by
 simp only [upto,aaw,abG]
 constructor
 ·rintro ⟨j,h,rfl⟩;exact ⟨Int.natCast_nonneg j,Int.ofNat_lt.2 h⟩
 ·intro h;exact ⟨x.toNat,by omega,by simp;omega⟩
def ye (j:Nat):AV:=match j with | 0=>.ag | j + 1=>.al 1 (ints (upto (j + 1)))
theorem M4 (j:Nat) (h:j < 1000000000) (ψ:List AV→Prop) (hψ:ψ (ints (upto (j + 1)))):bC 1 8 (ye j) (.al 0 [.int .i64 (j:Int)]) ψ:=by
 have e1:ints (upto j)++[AV.int .i64 (j:Int)]=ints (upto (j + 1)):=by rw [AJ];simp [ints]
 have kw:qR 1 [AV.int .i64 (j:Int)]:=of_eq_true (jI [(j:Int)])
 cases j with
 | zero=>
   rw [ye,lK]
   exact ⟨by simp,kw,hψ⟩
 | succ j=>
   rw [ye,jv]
   exact ⟨by rw [ap,Ep];simp;omega,kw,by rw [e1];exact hψ⟩
theorem M5 (j:Nat):(ye j).ab=bu (upto j):=by
 cases j with
 | zero=>rfl
 | succ j=>rw [ye,AJ];cases h:upto j <;> rfl
theorem Cb:cq.n=13:=by kernel_rfl
theorem yf:cq.ps=[7]:=by kernel_rfl
theorem uz {id:Nat} {H:List aa} {K:List aa→Prop} {lc:jL} {es:List AV} (h:H[id]?=some (.loop .ready lc es)):mf id H K=K (H.set id (.loop .busy lc es)):=by
 unfold mf;rw [h]
theorem GO {n0 id:Nat} {R:AV→List aa→Prop} {H:List aa} {lc:jL} {es:List AV} (h:H[id]?=some (.loop .busy lc es)):vK n0 id R .normal H=Jn n0 true (H.set id (.loop .ready lc es)) R:=by
 unfold vK;rw [h]
theorem yg {id:Nat} {H:List aa} {K:Option Code→List aa→Prop} {lc:jL} {es:List AV} (h:H[id]?=some (.loop .ready lc es)):behind id H K=K none (H.set id (.loop .fQ lc es)):=by
 unfold behind;rw [h]
theorem yh {P:Px} {n0:Nat} {ia ib:IR} {env:Env} {H:List aa} {id:Nat} {R:AV→List aa→Prop}
 (h:mK P n0 ia env H fun e env1 H1=>e=.normal∧mf id H1 fun H2=>mK P n0 ib env1 H2 fun e _ H3=>vK n0 id R e H3):qp P n0 ia env H fun e env1 H1=>e=.normal∧mf id H1 fun H2=>qp P n0 ib env1 H2 fun e _ H3=>vK n0 id R e H3:=by
 refine sA h ?_
 rintro x e H' ⟨h1,h2⟩
 refine ⟨h1,?_⟩
 unfold mf at *
 split at h2
 ·rename_i e'
  exact sA h2 fun _ _ _ h=>h
 ·exact h2.elim
theorem ael (n:Nat) (hn:n < 1000000000):Pure Tryz.prog 200 [.ag,.fn (.func 201) [] [.ah (.int .i64 n)]] (bu (upto n)):=by
 refine fun H=>Ys.calls rfl ?_
 simp only [RP,RN]
 simp +contextual only [nU,sZ,Nat.reduceEqDiff,Nat.reduceAdd,↓reduceIte,reduceCtorEq]
 have el:∀ X:List aa,(H++X).length=H.length + X.length:=fun X=>aaj
 obtain ⟨es,yS⟩:∃ es,es=mG cq.n [(2,AV.ptr H.length 0),(6,AV.fn (.func 201) [] [.ah (.int .i64 n)])]:=⟨_,rfl⟩
 have ees:es=[.any,.any,.ptr H.length 0,.any,.any,.any,.fn (.func 201) [] [.ah (.int .i64 n)],.any,.any,.any,.any,.any,.any]:=by rw [yS,Cb];rfl
 let G:Nat→List aa:=fun j=>H++[.cells [ye j],.loop .ready cq es]
 have hG:∀ j,(G j).length=H.length + 2:=fun j=>by simp [G]
 have g1:∀ j,(G j)[H.length + 1]?=some (.loop .ready cq es):=fun j=>by simp [G]
 refine uy (P:=Tryz.prog) (R:=fun r H'=>r=.tuple []∧H'=G n) 201 [] [.ah (.int .i64 n)] cq _ _ _ Tryz.call201 ?_ ?_
 ·rw [← yS]
  have e1:(H++[aa.cells [AV.ag]]).length=H.length + 1:=by simp
  have e2:(H++[aa.cells [AV.ag]]++[.loop .ready cq es])=G 0:=by simp [G,ye]
  rw [e1,e2]
  refine aej n (by omega) (H.length + 1) G (fun j=>by rw [hG,hG]) fun j hj=>?_
  refine tT (lc:=cq) (es:=es) (g1 j) P7 P8 ⟨by rw [ees,Cb];rfl,by rw [yf];rfl,by rw [yf,Cb];rfl,?_,?_⟩ (yh ?_)
  ·rw [ees];intro x hx;simp only [aak,abA,or_false] at hx
   rcases hx with rfl | rfl | rfl | rfl | rfl | rfl | rfl | rfl | rfl | rfl | rfl | rfl | rfl <;> rfl
  ·intro x hx;simp only [aak,abA,or_false] at hx;subst hx;rfl
  ·have ez:(cq.ps.zip [AV.int .i64 (j:Int)]).reverse++cc 0 es=(7,.int .i64 (j:Int))::cc 0 es:=by rw [yf];rfl
   rw [ez,ees]
   simp only [HO,HP]
   have hb:∀ K,mf (H.length + 1) (G j) K=K (H++[.cells [ye j],.loop .busy cq es]):=fun K=>by rw [uz (g1 j)];simp [G]
   simp +contextual only [hb,sZ,Nat.reduceEqDiff,Nat.reduceAdd,Nat.reduceLT,↓reduceIte,reduceCtorEq]
   refine M4 j (by omega) _ ?_
   have hz:∀ x:AV,(H++[aa.cells [x],.loop .busy cq es])[H.length + 1]?=some (.loop .busy cq es):=fun x=>by simp
   have lT:(AV.al 1 (ints (upto (j + 1)))).bc (H.length + 1)=true:=by rw [bA];exact aJ _ _
   simp +contextual only [lT,sZ,Nat.reduceEqDiff,Nat.reduceAdd,Nat.reduceLT,↓reduceIte]
   rw [GO (hz _)]
   refine ⟨by simp [G],rfl,?_⟩
   simp [G,ye]
   exact aax (by simp)
 ·rintro r G' ⟨rfl,rfl⟩
  have e1:(H++[aa.cells [AV.ag]]).length=H.length + 1:=by simp
  rw [e1,yg (g1 n)]
  have e3:(G n).set (H.length + 1) (.loop .fQ cq es)=H++[.cells [ye n],.loop .fQ cq es]:=by simp [G]
  rw [e3]
  simp +contextual only [sk,sZ,Nat.reduceAdd,Nat.reduceLT,↓reduceIte,reduceCtorEq]
  have e4:(ye n).ab.ab=bu (upto n):=by rw [M5];exact (aL _).2.1
  rw [e4]
  exact L9 ((aL _).2.2.1 _) rfl
theorem aem (n:Nat) (hn:n < 1000000000):Pure Tryz.prog 152 [.fn (.func 201) [] [.ah (.int .i64 n)]] (bu (upto n)):=by
 refine fun H=>XQ.2.calls rfl ?_
 simp only [XQ,aH]
 simp +contextual only [sZ,Nat.reduceAdd,↓reduceIte,reduceCtorEq]
 refine ae (ael n hn) ?_
 have e4:(bu (upto n)).ab=bu (upto n):=(aL _).2.1
 simp +contextual only [e4,sZ,↓reduceIte,reduceCtorEq]
 exact aK ((aL _).2.2.1 _) rfl
theorem aen (n:Int):Pure Tryz.prog 153 [.int .i64 n] (.fn (.func 201) [] [.ah (.int .i64 n)]):=by
 refine fun H=>XR.2.calls rfl ?_
 simp only [XR,aH]
 simp +contextual only [sZ,Nat.reduceEqDiff,Nat.reduceAdd,↓reduceIte,reduceCtorEq]
 exact aK rfl rfl
end Go.aI
end
section
set_option maxRecDepth 100000
namespace Go.aI
open Go Go.Proofs Go.dD
def kv (c:Cx) (i k:Int) (p:PP):Prop:=∀ H,Du c H→aA Tryz.prog 87 [.ptr c.d 0,.int .i64 i,.int .i64 k,eT p] H (jJ c (Sh c.O p (c.tm i) (c.tm k)) H)
theorem aeo {c:Cx} {b:List Int} {vb:AV} (hb:IL vb b) {q:Nat} {i j:Int} {l:List PP} (hj:0≤j∧j < b.length) (hl:l.length=b.length) (h:kv c i (b.getD j.toNat 0) (l.getD j.toNat default)) {G:List aa} (hD:Du c G) (gq:G[q]?=some (.cells [vb])) :
 aA Tryz.prog 154 [.int .i64 j,.ah (.ptr c.d 0),.ah (.int .i64 i),.ptr q 0,.ah (.al 0 (eO l))] G (jJ c (¬ Sh c.O (l.getD j.toNat default) (c.tm i) (c.tm (b.getD j.toNat 0))) G):=by
 refine XS.2.calls rfl ?_
 simp only [XS,aH]
 obtain ⟨b1,b2,b3,b4⟩:=hb.one
 obtain ⟨p1,p2,p3,p4,p5,p6,p7,p8,p9⟩:=bf (l.getD j.toNat default)
 simp +contextual only [gq,b2,hb.lens,hb.idx,B9,sV,sW,p4,sZ,Nat.reduceEqDiff,Nat.reduceAdd,Nat.reduceLT,↓reduceIte,reduceCtorEq]
 refine ⟨hj,⟨hj.1,by omega⟩,af (h G hD) ?_⟩
 rintro r G' ⟨z,rfl,hz,hU,kA⟩
 simp +contextual only [sZ,↓reduceIte,reduceCtorEq]
 refine fc (b:=!z) rfl ?_ hU kA
 rw [← hz];cases z <;> simp
theorem cD {b:List Int} {f:Int→T} {j:Nat} (h:j < b.length):(b.map f).getD j default=f (b.getD j 0):=by simp [h]
theorem Vc {c:Cx} {b:List Int} {vb:AV} (hb:IL vb b) (lb:b.length < 1000000000) {q:Nat} (hq:q≠c.e∧q≠c.g) {i:Int} {l:List PP} (h:∀ j,j < b.length→j < l.length→kv c i (b.getD j 0) (l.getD j default)) {G:List aa} (hD:Du c G) (gq:G[q]?=some (.cells [vb])) :
 aA Tryz.prog 151 [.al 0 (eO l),.ptr q 0,.ah (.ptr c.d 0),.ah (.int .i64 i)] G (jJ c (mY (Sh c.O) l (c.tm i) (b.map c.tm)) G):=by
 refine XP.2.calls rfl ?_
 simp only [XP,aH]
 obtain ⟨b1,b2,b3,b4⟩:=hb.one
 simp +contextual only [gq,b2,hb.aO,hb.len (by omega),fj,sZ,Nat.reduceEqDiff,Nat.reduceAdd,Nat.reduceLT,↓reduceIte,reduceCtorEq]
 have e1:mY (Sh c.O) l (c.tm i) (b.map c.tm)↔l.length=b.length∧∀ j,j < b.length→Sh c.O (l.getD j default) (c.tm i) (c.tm (b.getD j 0)):=by
  unfold mY
  rw [acz]
  refine and_congr_right fun _=>⟨fun h j hj=>?_,fun h j hj=>?_⟩
  ·have:=h j hj;rwa [cD hj] at this
  ·rw [cD hj];exact h j hj
 refine fun Je=>⟨fun he=>?_,fun dP=>?_⟩
 ·refine ae (aen _) ?_
  simp +contextual only [sZ,Nat.reduceEqDiff,Nat.reduceAdd,↓reduceIte]
  refine ae (aem b.length lb) ?_
  have k2:∀ l,(bu l).ab=bu l:=fun l=>(aL l).2.1
  simp +contextual only [k2,sZ,Nat.reduceEqDiff,Nat.reduceAdd,↓reduceIte,reduceCtorEq]
  refine af (Eb (SD.BZ c G) (.inl rfl:IL (bu (upto b.length)) (upto b.length)) (by rw [Ep];omega) 154 [] [.ah (.ptr c.d 0),.ah (.int .i64 i),.ptr q 0,.ah (.al 0 (eO l))] rfl rfl (Q:=fun j=>¬ Sh c.O (l.getD j.toNat default) (c.tm i) (c.tm (b.getD j.toNat 0)))
   (fun x hx G' fa=>?_) ⟨hD,Up.refl c G⟩) ?_
  ·have hx:=yd.1 hx
   exact (aeo hb ⟨hx.1,hx.2⟩ (by omega) (h x.toNat (by omega) (by omega)) fa.1 (by rw [fa.2.get q hq.1 hq.2,gq])).mono fun r H' hr=>hr.sb fa
  ·rintro r G' ⟨z,rfl,hz,fa⟩
   simp +contextual only [sZ,Nat.reduceEqDiff,↓reduceIte,reduceCtorEq]
   refine fc (b:=!z) rfl ?_ fa.2 fa.1
   rw [e1]
   cases z with
   | true=>
     obtain ⟨x,hx,hn⟩:=hz.1 rfl
     have hx:=yd.1 hx
     exact ⟨fun h=>by simp at h,fun h=>absurd (h.2 x.toNat (by omega)) hn⟩
   | false=>
     refine ⟨fun _=>⟨by omega,fun j hj=>?_⟩,fun _=>rfl⟩
     by_cases hs:Sh c.O (l.getD j default) (c.tm i) (c.tm (b.getD j 0))
     ·exact hs
     ·exact absurd (hz.2 ⟨(j:Int),yd.2 ⟨by omega,by omega⟩,hs⟩) (by simp)
 ·refine fc rfl ⟨fun h=>by simp at h,fun h=>?_⟩ (Up.refl c G) hD
  have:=(e1.1 h).1
  exact absurd (by omega) dP
end Go.aI
end
section
set_option maxRecDepth 100000
namespace Go.aI
open Go Go.Proofs Go.dD
theorem GP {P:Px} {t:DT} {f:AV→Env} {v:AV} {H0 H:List aa} {K1 K2:Env→List aa→Prop} (h:jn v H0 fun x=>kj P t (f x) H K1) (hk:∀ e G,K1 e G→K2 e G):jn v H0 fun x=>kj P t (f x) H K2:=by
 unfold jn at *
 split at h
 ·exact dX h hk
 ·unfold fR at *
  split at h <;> first | exact dX h hk | exact h.elim | (intro hl;exact dX (h hl) hk) | skip
  all_goals (split at h <;> first | exact dX h hk | exact h.elim)
structure CS (c:Cx) (H:List aa) (p q:Nat) (ts ps:List Int) (G:List aa):Prop where
 du:Du c G
 gp:G[p]?=some (dh ts)
 gq:G[q]?=some (dh ps)
 len:G.length=H.length + 2
 up:∀ j,j < H.length→j≠c.e→j≠c.g→G[j]?=H[j]?
structure PQ (H:List aa) (p q:Nat):Prop where
 ne:p≠q
 p1:H.length≤p
 q1:H.length≤q
theorem CS.call {c:Cx} {H G G':List aa} {p q:Nat} {ts ps:List Int} (hD:Du c H) (w:PQ H p q) (h:CS c H p q ts ps G) (hU:Up c G G') (kA:Du c G'):CS c H p q ts ps G':=by
 obtain ⟨l1,l2,l3⟩:=hD.lt
 obtain ⟨w1,w2,w3⟩:=w
 exact ⟨kA,by rw [hU.get p (by omega) (by omega),h.gp],by rw [hU.get q (by omega) (by omega),h.gq],by rw [hU.len,h.len],fun j h1 h2 h3=>by rw [hU.get j h2 h3,h.up j h1 h2 h3]⟩
theorem CS.aep {c:Cx} {H G:List aa} {p q:Nat} {ts ps ts':List Int} (hD:Du c H) (w:PQ H p q) (h:CS c H p q ts ps G):CS c H p q ts' ps (G.set p (dh ts')):=by
 obtain ⟨l1,l2,l3⟩:=hD.lt
 obtain ⟨w1,w2,w3⟩:=w
 have hp:=aS h.gp
 exact ⟨h.du.set (by omega) (by omega) (by omega),by rw [Sx hp],by rw [zA w1,h.gq],by rw [ab7,h.len],fun j h1 h2 h3=>by rw [zA (by omega),h.up j h1 h2 h3]⟩
theorem CS.aeq {c:Cx} {H G:List aa} {p q:Nat} {ts ps ps':List Int} (hD:Du c H) (w:PQ H p q) (h:CS c H p q ts ps G):CS c H p q ts ps' (G.set q (dh ps')):=by
 obtain ⟨l1,l2,l3⟩:=hD.lt
 obtain ⟨w1,w2,w3⟩:=w
 have hq:=aS h.gq
 exact ⟨h.du.set (by omega) (by omega) (by omega),by rw [zA (Ne.symm w1),h.gp],by rw [Sx hq],by rw [ab7,h.len],fun j h1 h2 h3=>by rw [zA (by omega),h.up j h1 h2 h3]⟩
theorem CS.fin {c:Cx} {H G:List aa} {p q:Nat} {ts ps:List Int} (hD:Du c H) (h:CS c H p q ts ps G) {b:Bool} {Q:Prop} (hb:b=true↔Q) {s:Nat}:bP H.length [.t s] [(s,.bool b)] G (jJ c Q H):=by
 obtain ⟨l1,l2,l3⟩:=hD.lt
 refine aT H.length (zy _) (by rw [aD,if_pos rfl];rfl) ?_
 rw [aD,if_pos rfl]
 refine ⟨b,rfl,hb,⟨by rw [abS,h.len];omega,fun j h1 h2=>?_⟩,h.du.take l1 l2 l3⟩
 rw [aaG]
 split
 ·rename_i hj;exact h.up j hj h1 h2
 ·rename_i hj;rw [abL (by omega)]
def Ke (c:Cx) (to:List Int) (l:List PP) (a b:List Int):Prop:=
 to.length=b.length∧l.length=b.length∧
 (∀ j,j < b.length→(0≤to.getD j 0∧to.getD j 0 < a.length)∧
   (if (l.getD j default).nil then E c.O (c.tm (a.getD (to.getD j 0).toNat 0)) (c.tm (b.getD j 0)) else Sh c.O (l.getD j default) (c.tm (a.getD (to.getD j 0).toNat 0)) (c.tm (b.getD j 0))))∧
 (∀ x:Nat,x < a.length→0 < dG to l x b.length→dN to x b.length≤1)∧∃ x:Nat,x < a.length∧dG to l x b.length=0
theorem Er {c:Cx} {to:List Int} {l:List PP} {a b:List Int}:Ke c to l a b↔Sa (E c.O) (Sh c.O) to l (a.map c.tm) (b.map c.tm):=by
 unfold Ke Sa
 simp only [acz]
 refine and_congr_right fun _=>and_congr_right fun _=>and_congr_left fun _=>⟨fun h j hj=>?_,fun h j hj=>?_⟩
 ·obtain ⟨h1,h2⟩:=h j hj
  refine ⟨h1,?_⟩
  rw [cD (by omega),cD hj];exact h2
 ·obtain ⟨h1,h2⟩:=h j hj
  rw [cD (by omega),cD hj] at h2
  exact ⟨h1,h2⟩
structure CI (c:Cx) (to:List Int) (l:List PP) (a b ts ps:List Int) (j:Nat):Prop where
 lt:ts.length=a.length
 lp:ps.length=a.length
 t:∀ x:Nat,x < a.length→ts.getD x 0=dN to x j
 p:∀ x:Nat,x < a.length→ps.getD x 0=dG to l x j
 ok:∀ j',j' < j→(0≤to.getD j' 0∧to.getD j' 0 < a.length)∧
  (if (l.getD j' default).nil then E c.O (c.tm (a.getD (to.getD j' 0).toNat 0)) (c.tm (b.getD j' 0)) else Sh c.O (l.getD j' default) (c.tm (a.getD (to.getD j' 0).toNat 0)) (c.tm (b.getD j' 0)))
theorem CI.step {c:Cx} {to:List Int} {l:List PP} {a b ts ps ps':List Int} {j z:Nat} (h:CI c to l a b ts ps j) (hz:z < a.length) (ht:to.getD j 0=z) (hp:ps'=if (l.getD j default).nil then ps.set z (ps.getD z 0 + 1) else ps)
 (hq:if (l.getD j default).nil then E c.O (c.tm (a.getD z 0)) (c.tm (b.getD j 0)) else Sh c.O (l.getD j default) (c.tm (a.getD z 0)) (c.tm (b.getD j 0))):CI c to l a b (ts.set z (ts.getD z 0 + 1)) ps' (j + 1):=by
 obtain ⟨h1,h2,h3,h4,h5⟩:=h
 refine ⟨by simp [h1],by rw [hp];split <;> simp [h2],fun x hx=>?_,fun x hx=>?_,fun j' tx=>?_⟩
 ·rw [mR (by omega),dN,ht]
  by_cases e:x=z
  ·subst e;rw [if_pos rfl,if_pos rfl,h3 x hx];omega
  ·rw [if_neg e,if_neg (by omega),h3 x hx];omega
 ·rw [hp,dG,ht]
  by_cases hn:(l.getD j default).nil
  ·rw [if_pos hn,mR (by omega)]
   by_cases e:x=z
   ·subst e;rw [if_pos rfl,if_pos ⟨rfl,hn⟩,h4 x hx];omega
   ·rw [if_neg e,if_neg (fun h=>by have:=h.1;omega),h4 x hx];omega
  ·rw [if_neg hn,if_neg (fun h=>hn h.2),h4 x hx];omega
 ·by_cases e:j'=j
  ·subst e;rw [ht];exact ⟨by omega,hq⟩
  ·exact h5 j' (by omega)
theorem uA (to:List Int) (x:Int):∀ n,dN to x n≤n
 | 0=>zy _
 | n + 1=>by rw [dN];have:=uA to x n;split <;> omega
theorem Kf (to:List Int) (l:List PP) (x:Int) (n:Nat):dG to l x n≤n:=abW (pC n) (uA to x n)
theorem Es {m n:Nat} (hm:m < 9223372036854775808) (hn:n < 9223372036854775808):IntKind.i64.wrap ((m:Int) + (n:Int))=0↔m=0∧n=0:=by
 rw [IntKind.wrap_i64]
 omega
theorem AK (n x:Nat):(eF 0 n 0).getD x 0=0:=by
 simp only [eF,List.replicate_zero,List.nil_append,agh,th,List.getElem?_replicate]
 split <;> rfl
end Go.aI
end
section
set_option maxRecDepth 100000
namespace Go.aI
open Go Go.Proofs Go.dD
theorem aer {c:Cx} {a b:List Int} {va vb:AV} (ha:IL va a) (hb:IL vb b) (la:a.length≤1000000000) (lb:b.length≤1000000000) (p:PP) (hs:∀ x∈a,∀ y∈b,lN c x y) (hh:∀ x∈a,∀ y∈b,∀ q∈p.l,kv c x y q) {H:List aa} (hD:Du c H) :
 aA Tryz.prog 156 [.ptr c.d 0,va,vb,eT p] H (jJ c (Ke c p.to p.l a b) H):=by
 refine XU.2.calls rfl ?_
 simp only [XU,aH]
 obtain ⟨a1,a2,a3,a4⟩:=ha.one
 obtain ⟨b1,b2,b3,b4⟩:=hb.one
 obtain ⟨p1,p2,p3,p4,p5,p6,p7,p8,p9⟩:=bf p
 have no:¬ Ke c p.to p.l a b→bP H.length [.t 8] [(8,.bool false)] H (jJ c (Ke c p.to p.l a b) H):=fun h=>fc rfl ⟨fun h=>by simp at h,fun h'=>absurd h' h⟩ (Up.refl c H) hD
 by_cases h1:p.to.length=b.length
 ·by_cases h2:p.l.length=b.length
  ·have d1:decide ((p.to.length:Int)≠b.length)=false:=decide_eq_false (by omega)
   have d2:decide ((p.l.length:Int)≠b.length)=false:=decide_eq_false (by omega)
   simp +contextual only [a2,b2,p1,QA,MZ,ha.aO,hb.aO,hb.len (by omega),ap,fj,h1,h2,not_true_eq_false,decide_false,sZ,Nat.reduceEqDiff,Nat.reduceAdd,↓reduceIte,reduceCtorEq]
   intro _
   refine GP (K1:=fun e G=>get e 0=.ptr c.d 0∧get e 1=va∧get e 2=vb∧get e 7=.ah (eT p)∧∃ x y,get e 9=.aZ x 0 a.length a.length∧get e 10=.aZ y 0 a.length a.length∧PQ H x y∧CS c H x y (eF 0 a.length 0) (eF 0 a.length 0) G) ?_ ?_
   ·have key:∀ G,G=H++[dh (eF 0 a.length 0),dh (eF 0 a.length 0)]→CS c H H.length (H.length + 1) (eF 0 a.length 0) (eF 0 a.length 0) G∧CS c H (H.length + 1) H.length (eF 0 a.length 0) (eF 0 a.length 0) G:=by
     rintro G rfl
     exact ⟨⟨hD.ui _,by simp,by simp,by simp,fun j hj _ _=>zz hj⟩,⟨hD.ui _,by simp,by simp,by simp,fun j hj _ _=>zz hj⟩⟩
    have A:=key _ rfl
    simp +contextual only [a2,ha.xR,ha.aO,mkI _ _ _ la,sZ,Nat.reduceEqDiff,Nat.reduceAdd,↓reduceIte,reduceCtorEq]
    refine ⟨⟨_,_,rfl,rfl,⟨by omega,by omega,by omega⟩,?_⟩,⟨_,_,rfl,rfl,⟨by omega,by omega,by omega⟩,?_⟩⟩
    ·exact A.1
    ·exact A.2
   ·rintro e G ⟨e0,e1,e2,e7,x,y,e9,e10,hw,zL⟩
    simp +contextual only [e0,e1,e2,e7,e9,e10,QA,ap,h1,sZ,Nat.reduceEqDiff,↓reduceIte,reduceCtorEq]
    intro _
    refine aF b.length (fun j (s:List aa×List Int×List Int)=>CS c H x y s.2.1 s.2.2 s.1∧CI c p.to p.l a b s.2.1 s.2.2 j)
     (fun j s=>[(0,.ptr c.d 0),(1,va),(2,vb),(7,.ah (eT p)),(9,.aZ x 0 a.length a.length),(10,.aZ y 0 a.length a.length),(37,.al 0 (ints p.to)),(38,.int .i64 b.length),(39,.int .i64 j)])
     (fun j s=>s.1) (G,eF 0 a.length 0,eF 0 a.length 0) ⟨⟨zL,?_⟩,ax _ _ _⟩ fun j s hj hI=>?_
    ·exact ⟨by simp [eF],by simp [eF],fun z _=>by rw [AK];rfl,fun z _=>by rw [AK];rfl,fun j h=>by omega⟩
    ·obtain ⟨G,ts,ps⟩:=s
     obtain ⟨zL,Ht⟩:=hI
     simp only at zL Ht
     by_cases M6:(j:Int) < b.length
     ·have lA:j < b.length:=by omega
      obtain ⟨to,CG⟩:∃ to,p.to.getD j 0=to:=⟨_,rfl⟩
      by_cases r1:to < 0
      ·simp +contextual only [M6,decide_true,aN,zB,CG,r1,sZ,Nat.reduceEqDiff,↓reduceIte,reduceCtorEq]
       refine ⟨by omega,zL.fin hD ⟨fun h=>by simp at h,fun h=>?_⟩⟩
       have:=(h.2.2.1 j lA).1;omega
      ·by_cases r2:(a.length:Int)≤to
       ·simp +contextual only [M6,decide_true,decide_false,a2,ha.aO,ha.len (by omega),aN,zB,CG,r1,r2,sZ,Nat.reduceEqDiff,↓reduceIte,reduceCtorEq]
        refine ⟨by omega,zL.fin hD ⟨fun h=>by simp at h,fun h=>?_⟩⟩
        have:=(h.2.2.1 j lA).1;omega
       ·obtain ⟨z,rfl⟩:=ab1 (show 0≤to by omega)
        have hz:z < a.length:=by omega
        have gt:=zL.gp
        have gp:=zL.gq
        have lt:=Ht.lt
        have lp:=Ht.lp
        have Z6:z < ts.length:=by omega
        have Wd:z < ps.length:=by omega
        simp +contextual only [M6,decide_true,decide_false,a2,ha.aO,ha.len (by omega),aN,zB,CG,r1,r2,jb,gt,B1 Z6,MH Z6,sZ,Nat.reduceEqDiff,↓reduceIte,reduceCtorEq]
        have Kg:=zL.aep (ts':=ts.set z (IntKind.i64.wrap (ts.getD z 0 + 1))) hD hw
        have tz:=Ht.t z hz
        have CC:=uA p.to z j
        rw [cp _ (by omega)] at Kg ⊢
        generalize G.set x (dh (ts.set z (ts.getD z 0 + 1)))=G1 at Kg ⊢
        have ql:p.l.getD j default∈p.l:=eN (by omega)
        obtain ⟨q,hq⟩:∃ q,p.l.getD j default=q:=⟨_,rfl⟩
        rw [hq] at ql
        obtain ⟨q1,q2,q3,q4,q5,q6,q7,q8,q9⟩:=bf q
        refine ⟨by omega,hz,hz,?_⟩
        simp +contextual only [MZ,B9,sV,sW,hq,zB,q1,q2,q3,Eo,Fa,QA,ap,fj,sZ,Nat.reduceEqDiff,↓reduceIte,reduceCtorEq]
        refine ⟨by omega,fun hr=>⟨fun hi l1 l2=>⟨fun KV=>?_,fun KV=>?_⟩,fun hi=>?_⟩,fun hr=>?_⟩
        ·have hwz:=(Es l1 l2).1 KV
         have vE:(p.l.getD j default).nil:=by rw [hq];exact ⟨hr,hi,abE.1 hwz.1,abE.1 hwz.2⟩
         have gp1:=Kg.gq
         have QC:=Kg.aeq (ps':=ps.set z (IntKind.i64.wrap (ps.getD z 0 + 1))) hD hw
         have tp:=Ht.p z hz
         have ple:=Kf p.to p.l z j
         simp +contextual only [jb,gp1,B1 Wd,MH Wd,sZ,Nat.reduceEqDiff,↓reduceIte,reduceCtorEq]
         rw [cp _ (by omega)] at QC ⊢
         generalize G1.set y (dh (ps.set z (ps.getD z 0 + 1)))=G2 at QC ⊢
         refine ⟨hz,hz,?_⟩
         simp +contextual only [a2,b2,ha.lens,hb.lens,ha.idx,hb.idx,zB,sZ,Nat.reduceEqDiff,Nat.reduceAdd,↓reduceIte,reduceCtorEq]
         refine ⟨by omega,by omega,af (hs _ (aV hz) _ (aV lA) G2 QC.du) ?_⟩
         rintro r G3 ⟨w,rfl,Z7,hU,MG⟩
         have M7:=QC.call hD hw hU MG
         cases w with
         | false=>
           simp +contextual only [Bool.not_false,sZ,Nat.reduceEqDiff,↓reduceIte,reduceCtorEq]
           refine M7.fin hD ⟨fun h=>by simp at h,fun h=>?_⟩
           have:=(h.2.2.1 j lA).2
           rw [if_pos vE,CG,zB] at this
           exact Z7.2 this
         | true=>
           simp +contextual only [Bool.not_true,sZ,Nat.reduceEqDiff,↓reduceIte,reduceCtorEq]
           refine ⟨j + 1,(G3,_,_),⟨lA,M7,Ht.step hz CG (by rw [if_pos vE]) (by rw [if_pos vE];exact Z7.1 rfl)⟩,by omega,ay (by rw [aj j (by omega)]) rfl⟩
        all_goals
         have vE:¬ (p.l.getD j default).nil:=by
          rw [hq]
          rintro ⟨n1,n2,n3,n4⟩
          first | exact hr n1 | exact hi n2 | exact KV ((Es l1 l2).2 ⟨by rw [n3];rfl,by rw [n4];rfl⟩)
         simp +contextual only [a2,b2,q4,ha.lens,hb.lens,ha.idx,hb.idx,zB,sW,sZ,Nat.reduceEqDiff,Nat.reduceAdd,↓reduceIte,reduceCtorEq]
         refine ⟨by omega,by omega,af (hh _ (aV hz) _ (aV lA) q ql G1 Kg.du) ?_⟩
         rintro r G3 ⟨w,rfl,Z7,hU,MG⟩
         have M7:=Kg.call hD hw hU MG
         cases w with
         | false=>
           simp +contextual only [Bool.not_false,sZ,Nat.reduceEqDiff,↓reduceIte,reduceCtorEq]
           refine M7.fin hD ⟨fun h=>by simp at h,fun h=>?_⟩
           have:=(h.2.2.1 j lA).2
           rw [if_neg vE,CG,hq,zB] at this
           exact Z7.2 this
         | true=>
           simp +contextual only [Bool.not_true,sZ,Nat.reduceEqDiff,↓reduceIte,reduceCtorEq]
           refine ⟨j + 1,(G3,_,_),⟨lA,M7,Ht.step hz CG (by rw [if_neg vE]) (by rw [if_neg vE,hq];exact Z7.1 rfl)⟩,by omega,ay (by rw [aj j (by omega)]) rfl⟩
     ·have Z8:j=b.length:=by omega
      subst Z8
      simp +contextual only [M6,decide_false,a2,ha.aO,ha.len (by omega),sZ,Nat.reduceEqDiff,↓reduceIte,reduceCtorEq]
      refine aF a.length (fun x' (f:Bool)=>(∀ z:Nat,z < x'→0 < dG p.to p.l z b.length→dN p.to z b.length≤1)∧(f=true↔∃ z:Nat,z < x'∧dG p.to p.l z b.length=0))
       (fun x' f=>[(9,.aZ x 0 a.length a.length),(10,.aZ y 0 a.length a.length),(14,.bool f),(112,.int .i64 a.length),(113,.int .i64 x')]) (fun _ _=>G) false
       ⟨⟨fun z h=>by omega,⟨fun h=>by simp at h,fun ⟨z,h,_⟩=>by omega⟩⟩,ax _ _ _⟩ fun z f hz hI=>?_
      obtain ⟨jZ,E5⟩:=hI
      by_cases Hq:(z:Int) < a.length
      ·have gW:z < a.length:=by omega
       have gt:=zL.gp
       have gp:=zL.gq
       have lt:=Ht.lt
       have lp:=Ht.lp
       have Z6:z < ts.length:=by omega
       have Wd:z < ps.length:=by omega
       have tz:=Ht.t z gW
       have pz:=Ht.p z gW
       by_cases k1:dG p.to p.l z b.length=0
       ·have p0:ps.getD z 0=0:=by omega
        cases f <;>
         (simp +contextual only [Hq,decide_true,jb,gp,B1 Wd,p0,Int.lt_irrefl,decide_false,sZ,Nat.reduceEqDiff,↓reduceIte,reduceCtorEq]
          refine ⟨gW,?_⟩
          first
           | refine ⟨gW,z + 1,true,⟨gW,fun z' xU=>?_,⟨fun _=>⟨z,by omega,k1⟩,fun _=>rfl⟩⟩,by omega,ay (by rw [aj z (by omega)]) rfl⟩
           | refine ⟨z + 1,true,⟨gW,fun z' xU=>?_,⟨fun _=>⟨z,by omega,k1⟩,fun _=>rfl⟩⟩,by omega,ay (by rw [aj z (by omega)]) rfl⟩
          by_cases e:z'=z
          ·subst e;intro h;omega
          ·exact jZ z' (by omega))
       ·have p0:(0 < ps.getD z 0)=True:=eq_true (by omega)
        have p1':(ps.getD z 0=0)=False:=eq_false (by omega)
        by_cases k2:dN p.to z b.length≤1
        ·have t0:(1 < ts.getD z 0)=False:=eq_false (by omega)
         have nxt:(∀ z':Nat,z' < z + 1→0 < dG p.to p.l z' b.length→dN p.to z' b.length≤1):=by
          intro z' xU
          by_cases e:z'=z
          ·subst e;intro _;exact k2
          ·exact jZ z' (by omega)
         have nfr:(f=true↔∃ z':Nat,z' < z + 1∧dG p.to p.l z' b.length=0):=by
          rw [E5]
          constructor
          ·rintro ⟨z',h1,h2⟩;exact ⟨z',by omega,h2⟩
          ·rintro ⟨z',h1,h2⟩
           have:z'≠z:=fun e=>k1 (e ▸ h2)
           exact ⟨z',by omega,h2⟩
         cases f <;>
          (simp +contextual only [Hq,decide_true,jb,gt,gp,B1 Z6,B1 Wd,p0,p1',t0,decide_false,sZ,Nat.reduceEqDiff,↓reduceIte,reduceCtorEq]
           refine ⟨gW,gW,?_⟩
           first
            | exact ⟨gW,z + 1,_,⟨gW,nxt,nfr⟩,by omega,ay (by rw [aj z (by omega)]) rfl⟩
            | exact ⟨z + 1,_,⟨gW,nxt,nfr⟩,by omega,ay (by rw [aj z (by omega)]) rfl⟩)
        ·have t0:(1 < ts.getD z 0)=True:=eq_true (by omega)
         simp +contextual only [Hq,decide_true,jb,gt,gp,B1 Z6,B1 Wd,p0,t0,sZ,Nat.reduceEqDiff,↓reduceIte,reduceCtorEq]
         refine ⟨gW,gW,zL.fin hD ⟨fun h=>by simp at h,fun h=>?_⟩⟩
         exact absurd (h.2.2.2.1 z gW (by omega)) k2
      ·have hze:z=a.length:=by omega
       subst hze
       simp +contextual only [Hq,decide_false,sZ,Nat.reduceEqDiff,↓reduceIte,reduceCtorEq]
       refine zL.fin hD ?_
       rw [E5]
       exact ⟨fun h=>⟨h1,h2,Ht.ok,jZ,h⟩,fun h=>h.2.2.2.2⟩
  ·have d1:decide ((p.to.length:Int)≠b.length)=false:=decide_eq_false (by omega)
   have d2:((p.l.length:Int)=b.length)=False:=eq_false (by omega)
   simp +contextual only [b2,p1,QA,MZ,hb.aO,hb.len (by omega),ap,fj,h1,d2,not_true_eq_false,not_false_eq_true,decide_false,decide_true,sZ,Nat.reduceEqDiff,Nat.reduceAdd,↓reduceIte,reduceCtorEq]
   intro _ _
   exact no fun h=>h2 h.2.1
 ·have d1:((p.to.length:Int)=b.length)=False:=eq_false (by omega)
  simp +contextual only [b2,p1,QA,hb.aO,hb.len (by omega),ap,d1,not_false_eq_true,decide_true,sZ,Nat.reduceEqDiff,Nat.reduceAdd,↓reduceIte,reduceCtorEq]
  intro _
  exact no fun h=>h1 h.1
end Go.aI
end
section
set_option maxRecDepth 100000
set_option maxHeartbeats 0
namespace Go.aI
open Go Go.Proofs
noncomputable def zr:=aH Tryz.call87 Tryz.func87 Tryz.ntmps87 [(0,0,1),(0,1,1),(0,2,1),(12,7,2000),(13,11,2000),(17,10,2000),(20,36,2000),(23,3,2000),(24,20,2000),(24,27,2000),(26,10,2000)] [(0,[2,4,5,7]),(1,[2,4,5,7,9,10]),(2,[2,4,5,7,9,10,11]),(3,[2,4,5,7,9,10,11,14]),(4,[2,4,5,7,9,10,11,76]),(5,[8]),(6,[2,4,5,7,9,10,11,15,16]),(7,[2,4,5,7,9,10,11,15,16,85]),(8,[2,4,5,7,9,10,11,15,16,85,86]),(9,[2,4,7,9,103]),(10,[8]),(11,[2,4,7,9,107]),(12,[8]),(13,[8]),(14,[2,4,5,7,9,10,11,15,16,85,128]),(15,[2,4,7,11,17]),(16,[7,11,17,20,22]),(17,[8]),(18,[4,7,9,10,11,15,16,85,156]),(19,[4,7,11,15,16,23,24]),(20,[4,7,11,23,24,202]),(21,[8]),(22,[4,7,11,23,24,207]),(23,[8]),(24,[8]),(25,[4,7,9,10,15,16,241]),(26,[8]),(27,[8])] [(1,(tkq 0 16 (.br 16 (.take 17 true (.br 18 .done .nil)) .nil))),(12,(tkq 0 7 (.br 7 (.take 8 true .done) .nil))),(13,(tkq 0 11 (.br 11 (.take 12 true .done) .nil))),(19,(tkq 0 7 (.take 7 true .done))),(20,(tkq 0 36 (.br 36 (.take 37 true (.take 38 true .done)) .nil))),(24,(tkq 0 20 (.br 20 (tkq 21 6 (.br 27 (.take 28 true (.take 29 true .done)) .nil)) .nil)))]
end Go.aI
end
