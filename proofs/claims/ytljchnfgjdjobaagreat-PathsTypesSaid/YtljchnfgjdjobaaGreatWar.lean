/- Part 18 of 20 of the proof. -/
import Derived.Test.YtljchnfgjdjobaaGreatWaq
import Derived.Test.YtljchnfgjdjobaaGreatWam
import Derived.Test.YtljchnfgjdjobaaGreatWan
import Derived.Test.YtljchnfgjdjobaaGreatWag
import Derived.KernelRfl
import Derived.Test.YtljchnfgjdjobaaGreatWak
import Derived.Test.YtljchnfgjdjobaaGreatWaj
import Derived.Test.YtljchnfgjdjobaaGreatWap
set_option linter.unusedVariables false
set_option linter.unusedSimpArgs false
set_option linter.defProp false
set_option linter.unusedSectionVars false
section
set_option maxRecDepth 100000
namespace Go.aI
open Go Go.Proofs Go.dV
structure W6 (ps:List Int) (l:List Nd):Prop where
 ne:l≠[]
 len:l.length≤100000000
 np:NP l
 kl:∀ i:Nat,i < l.length→(nk l i).length≤100000000
 kd:∀ i:Nat,i < l.length→(nt l i).k=1∨(nt l i).k=2
 op:∀ i:Nat,i < l.length→(nt l i).k=2→0≤(nt l i).n∧(nt l i).n < ps.length
structure Tb where
 ps:List Int
 ss:List Int
 a:List Nd
 b:List Nd
def Tb.O (c:Tb):Od:=gZ c.ps c.ss
def Tb.f (c:Tb) (x:Int):T:=norm c.O (nt c.a x)
def Tb.g (c:Tb) (y:Int):T:=norm c.O (nt c.b y)
def Tb.tE (c:Tb) (i k:Int):Prop:=c.f i=c.g k
def Tb.tR (c:Tb) (i k:Int):Prop:=Gt c.O.sp (c.f i) (c.g k)
structure Tb.Ok (c:Tb):Prop where
 va:Va c.ps c.ss
 a:W6 c.ps c.a
 b:W6 c.ps c.b
theorem W6.kids {ps:List Int} {l:List Nd} (h:W6 ps l) {i:Int} (h0:0≤i) (h1:i < l.length):(nk l i).map (nt l)=(nt l i).l∧(∀ k∈nk l i,0≤k∧k < i)∧(nk l i).length≤100000000:=by
 obtain ⟨n,rfl⟩:=acE h0
 obtain ⟨h2,h3⟩:=h.np n (by omega)
 exact ⟨h2,h3,h.kl n (by omega)⟩
theorem W6.kind {ps:List Int} {l:List Nd} (h:W6 ps l) {i:Int} (h0:0≤i) (h1:i < l.length):((nt l i).k=1∨(nt l i).k=2)∧((nt l i).k=2→0≤(nt l i).n∧(nt l i).n < ps.length):=by
 obtain ⟨n,rfl⟩:=acE h0
 exact ⟨h.kd n (by omega),h.op n (by omega)⟩
def Row (es:List AV) (H:List aa) (nb:Nat) (j m:Int) (Q:Prop):Prop:=
 ∃ r bs x,es.getD j.toNat .any=.a7 r 0 nb nb∧j.toNat < es.length∧H[r]?=some (.cells bs)∧m.toNat < bs.length∧bs.getD m.toNat .any=.bool x∧(x=true↔Q)
structure TbX (c:Tb) (x:Nat) (i k:Int) (H:List aa) (ie ne ce:Nat) (ese:List AV) (ig ng cg:Nat) (esg:List AV):Prop where
 x:H[x]?=some (.cells [.aj 0 (ints c.ps),.aj 0 (ints c.ss),.aj 0 (dw c.a),.aj 0 (dw c.b),.a7 ie 0 ne ce,.a7 ig 0 ng cg])
 e:H[ie]?=some (.cells ese)
 g:H[ig]?=some (.cells esg)
 ne:i < ne
 ng:i < ng
 rows:∀ j m:Int,0≤j→0≤m→m < c.b.length→(j < i∨j=i∧m < k)→Row ese H c.b.length j m (c.tE j m)∧Row esg H c.b.length j m (c.tR j m)
def TX (c:Tb) (x:Nat) (i k:Int) (H:List aa):Prop:=∃ ie ne ce ese ig ng cg esg,TbX c x i k H ie ne ce ese ig ng cg esg
theorem Jg (e o:Nat) (l:List Nd) (k:IntKind) (i:Int) (φ:AV→Prop):aE e (.aj o (dw l)) (.int k i) φ=((0≤i∧i < l.length)∧φ (.ai (kw (l.getD i.toNat default)))):=by
 simp only [aE,fg,eq_iff_iff]
 constructor
 ·rintro ⟨h0,h,h2⟩;refine ⟨by omega,?_⟩;simpa [dw,h] using h2
 ·rintro ⟨⟨h0,h⟩,h2⟩;have h:i.toNat < l.length:=by omega
  refine ⟨h0,h,?_⟩;simpa [dw,h] using h2
theorem qh (o:Nat) (l:List Nd):(∀ (own:Nat) (xs:List AV),AV.aj o (dw l)=AV.aj own xs→∀ z∈xs,z.cells.length=4)=True:=by
 simp only [eq_iff_iff,iff_true]
 intro own xs e z hz
 cases e
 obtain ⟨p,_,rfl⟩:=aan.1 hz
 rfl
theorem uJ (e id N c:Nat) (k:IntKind) (i:Int) (φ:AV→Prop):aE e (.a7 id 0 N c) (.int k i) φ=((0≤i∧i < N)∧φ (.ptr id (i.toNat * e))):=by
 simp only [aE,ach,eq_iff_iff]
 constructor
 ·rintro ⟨h0,h,h2⟩;exact ⟨by omega,h2⟩
 ·rintro ⟨⟨h0,h⟩,h2⟩;exact ⟨h0,by omega,h2⟩
theorem Sn (p:Nd) (φ:AV→Prop):ap 0 (some 3) (.ai (kw p)) φ=φ (.ai p.1.av):=by
 obtain ⟨⟨k,n,l⟩,ks⟩:=p
 simp [ap,kw,apart,AV.cells,T.av,T.k,T.n,T.l]
theorem Li (p:Nd) (φ:AV→Prop):ap 3 none (.ai (kw p)) φ=φ (.ai (.aj 0 (ints p.2))):=by
 simp [ap,kw,apart,AV.cells,AV.one]
theorem gN (l:List Nd) (i:Int):(l.getD i.toNat default).2=nk l i:=rfl
theorem ky (l:List Nd) (i:Int):(l.getD i.toNat default).1=nt l i:=rfl
theorem bP {l:List Int} {n:Nat} (h:n < l.length):l.getD n 0∈l:=by simp [h]
theorem jz {l:List Int} {y:Int} (h:y∈l):∃ m,m < l.length∧l.getD m 0=y:=by
 obtain ⟨m,hm,e⟩:=List.mem_iff_getElem.1 h
 exact ⟨m,hm,by simp [hm,e]⟩
theorem fy {H:List aa} {s:Nat} {b:Bool} {Q:AV→Prop} (h:Q (.bool b)):bS H.length [.t s] [(s,.bool b)] H fun r H'=>Q r∧H'=H:=
 a8 H.length (tv _) (by rw [aC,if_pos rfl];rfl) ⟨by rw [aC,if_pos rfl];exact h,abe⟩
theorem abR (ps ss:List Int) (a b:T) (ha:0≤a.n∧a.n < ps.length) (hb:0≤b.n∧b.n < ps.length):Pure Tryz.prog 158 [eN ps ss,a.av,b.av] (.bool (decide ((gZ ps ss).pl a.n=(gZ ps ss).pl b.n))):=by
 refine fun H=>YI.2.calls rfl ?_
 simp only [YI,aH]
 obtain ⟨q1,q2,q3,q4,q5,q6⟩:=aX ps ss
 simp +contextual only [q1,wg,aR,sZ,Nat.reduceEqDiff,Nat.reduceAdd,↓reduceIte,reduceCtorEq]
 exact ⟨ha,hb,aM rfl rfl⟩
theorem HN (l:List Int) {i:Nat} (h:i < l.length):(l.drop (l.length - i)).reverse++[l.getD (l.length - 1 - i) 0]=(l.drop (l.length - (i + 1))).reverse:=by
 have e:l.drop (l.length - (i + 1))=l.getD (l.length - 1 - i) 0::l.drop (l.length - i):=by
  rw [aaP (by omega)]
  have e1:l.length - (i + 1) + 1=l.length - i:=by omega
  have e2:l.length - (i + 1)=l.length - 1 - i:=by omega
  rw [e1];congr 1
  have h3:l.length - 1 - i < l.length:=by omega
  simp [h3,e2]
 rw [e,List.reverse_cons]
theorem OD (vs:List Int):(gX vs).ab.ab.le (.aj 0 (ints vs)):=by
 have:=ya vs
 cases vs <;> exact this
theorem abS (ps ss:List Int) (a:T) (l:List Int) (JJ:l.length≤100000000) (ha:0≤a.n∧a.n < ss.length):Pure Tryz.prog 227 [eN ps ss,a.av,.aj 0 (ints l)] (.aj 0 (ints (bt (ss.getD a.n.toNat 0) l))):=by
 refine fun H=>Zk.2.calls rfl ?_
 simp only [Zk,aH]
 obtain ⟨q1,q2,q3,q4,q5,q6⟩:=aX ps ss
 simp +contextual only [q1,yu,aR,sZ,Nat.reduceEqDiff,Nat.reduceAdd,↓reduceIte,reduceCtorEq]
 refine ⟨ha,fun h=>?_,fun h=>?_⟩
 ·refine aM (by rw [bM,aT]) ?_
  rw [bt,if_neg h]
 ·intro hl
  refine ay l.length (fun i=>True) (fun i=>[(2,.aj 0 (ints l)),(7,gX (l.drop (l.length - i)).reverse),(8,.int .i64 ((l.length:Int) - 1 - i))]) (fun i=>H) ⟨trivial,aD ?_ rfl⟩ fun i hi _=>?_
  ·rw [dk _ (by omega)];simp [gX]
  have hlen:(l.drop (l.length - i)).reverse.length=i:=by simp;omega
  have O8:0≤(i:Int):=by omega
  simp +contextual only [aR,nP,fX,hlen,sZ,Nat.reduceEqDiff,Nat.reduceAdd,↓reduceIte,reduceCtorEq]
  clear hlen
  refine ⟨fun h1=>?_,fun h1=>?_⟩
  ·refine ⟨by omega,by omega,i + 1,by omega,by omega,aD ?_ rfl⟩
   have e:((l.length:Int) - 1 - i).toNat=l.length - 1 - i:=by omega
   have e5:(l.length:Int) - 1 - i - 1=l.length - 1 - ((i + 1:Nat):Int):=by omega
   rw [dk _ (by omega),e,HN l (by omega),e5]
  ·have mq:i=l.length:=by omega
   subst mq
   refine ⟨H.length,tv _,_,OD _,by rw [bM,aT],?_,abe⟩
   rw [aei,List.drop_zero,bt,if_pos h]
theorem afS {c:Tb} (hc:c.Ok) {x:Nat} {i k:Int} {H:List aa} (hT:TX c x i k H) (hi:0≤i∧i < c.a.length) (hk:0≤k∧k < c.b.length) :
 ax Tryz.prog 224 [.ptr x 0,.int .i64 i,.int .i64 k] H fun r H'=>(∃ b:Bool,r=.bool b∧(b=true↔∀ y∈nk c.b k,c.tR i y))∧H'=H:=by
 obtain ⟨ie,ne,ce,ese,ig,ng,cg,esg,h⟩:=hT
 refine Zh.2.calls rfl ?_
 simp only [Zh,aH]
 simp +contextual only [sZ,Nat.reduceEqDiff,Nat.reduceAdd,↓reduceIte,reduceCtorEq]
 obtain ⟨qw,qx,XT⟩:=hc.b.kids hk.1 hk.2
 refine ay (nk c.b k).length (fun n=>∀ m,m < n→c.tR i ((nk c.b k).getD m 0)) (fun n=>[(0,.ptr x 0),(1,.int .i64 i),(2,.int .i64 k),(7,.int .i64 n)]) (fun _=>H) ⟨fun m hm=>(by cases hm),aA _ _ _⟩ fun n hn hI=>?_
 by_cases aP:n < (nk c.b k).length
 ·obtain ⟨y0,yk⟩:=qx _ (bP aP)
  obtain ⟨_,r,bs,xb,e1,e2,e3,e4,e5,e6⟩:=h.rows i ((nk c.b k).getD n 0) hi.1 y0 (by omega) (.inr ⟨rfl,yk⟩)
  have l1:decide ((n:Int) < (nk c.b k).length)=true:=decide_eq_true (by omega)
  simp +contextual only [h.x,h.g,Jg,qh,Li,gN,aR,uJ,e1,e3,e5,l1,List.getD_cons_succ,List.getD_cons_zero,acs,zV,sZ,Nat.reduceEqDiff,Nat.reduceAdd,Nat.reduceLT,↓reduceIte,reduceCtorEq]
  refine ⟨hk,fun _=>⟨⟨hi.1,h.ng⟩,e2,hk,⟨by omega,by omega⟩,⟨y0,by omega⟩,e4,?_⟩⟩
  simp +contextual only [sZ]
  cases xb with
  | false=>
    simp +contextual only [sZ,↓reduceIte,reduceCtorEq]
    exact fy ⟨false,rfl,fun h=>absurd h (by simp),fun hh=>absurd (e6.2 (hh _ (bP aP))) (by simp)⟩
  | true=>
    simp +contextual only [sZ,Nat.reduceEqDiff,↓reduceIte,reduceCtorEq]
    refine ⟨n + 1,⟨aP,fun m hm=>?_⟩,by omega,aD (by rw [aq n (by omega)]) rfl⟩
    by_cases e:m=n
    ·subst e;exact e6.1 rfl
    ·exact hI m (by omega)
 ·have l1:decide ((n:Int) < (nk c.b k).length)=false:=decide_eq_false (by omega)
  simp +contextual only [h.x,Jg,qh,Li,gN,l1,List.getD_cons_succ,List.getD_cons_zero,sZ,Nat.reduceEqDiff,Nat.reduceAdd,Nat.reduceLT,↓reduceIte,reduceCtorEq]
  refine ⟨hk,fun _=>fy ⟨true,rfl,fun _ y hy=>?_,fun _=>rfl⟩⟩
  obtain ⟨m,hm,rfl⟩:=jz hy
  exact hI m (by omega)
end Go.aI
end
section
set_option maxRecDepth 100000
namespace Go.aI
open Go Go.Proofs Go.dV
structure Lj (c:Tb) (i:Int) (a b:List Int):Prop where
 ia:∀ x∈a,0≤x∧x < i
 ib:∀ y∈b,0≤y∧y < c.b.length
 la:a.length≤100000000
 lb:b.length≤100000000
theorem TbX.cell {c:Tb} {x:Nat} {i k:Int} {H:List aa} {ie ne ce:Nat} {ese:List AV} {ig ng cg:Nat} {esg:List AV} (h:TbX c x i k H ie ne ce ese ig ng cg esg) {a b:List Int} (hI:Lj c i a b) {n m:Nat} (hn:n < a.length) (hm:m < b.length) :
 Row ese H c.b.length (a.getD n 0) (b.getD m 0) (c.tE (a.getD n 0) (b.getD m 0))∧Row esg H c.b.length (a.getD n 0) (b.getD m 0) (c.tR (a.getD n 0) (b.getD m 0)):=
 h.rows _ _ (hI.ia _ (bP hn)).1 (hI.ib _ (bP hm)).1 (hI.ib _ (bP hm)).2 (.inl (hI.ia _ (bP hn)).2)
theorem So {f g:Int→T} {G:T→T→Prop} (irr:∀ x,¬ G x x) {l m:List Int} {n:Nat} (hl:n < l.length) (hm:n < m.length) :
 Lx G ((l.drop n).map f) ((m.drop n).map g)↔if f (l.getD n 0)=g (m.getD n 0) then Lx G ((l.drop (n + 1)).map f) ((m.drop (n + 1)).map g) else G (f (l.getD n 0)) (g (m.getD n 0)):=by
 have e1:l[n]=l.getD n 0:=by simp [hl]
 have e2:m[n]=m.getD n 0:=by simp [hm]
 rw [aaP hl,aaP hm,e1,e2,List.map_cons,List.map_cons,Lx]
 split
 ·rename_i e
  rw [e]
  exact ⟨fun h=>by rcases h with h | h;exact h.2;exact absurd h (irr _),fun h=>.inl ⟨rfl,h⟩⟩
 ·rename_i e
  exact ⟨fun h=>by rcases h with h | h;exact absurd h.1 e;exact h,.inr⟩
noncomputable def Tb.rest (c:Tb) (a b:List Int):List Int×List Int:=eo (fun x y=>decide (c.f x=c.g y)) a b
theorem findIdx_le {q:Int→Bool} {b:List Int} {m:Nat} (hm:m < b.length) (h1:q (b.getD m 0)=true) (h2:∀ j,j < m→q (b.getD j 0)=false):b.findIdx q=m:=by
 have e:∀ j,(h:j < b.length)→b.getD j 0=b[j]:=fun j h=>by simp [h]
 rw [List.findIdx_eq hm]
 exact ⟨by rw [← e m hm];exact h1,fun j hj=>by rw [← e j (by omega)];exact h2 j hj⟩
theorem C2 {q:Int→Bool} {b:List Int} (h:∀ j,j < b.length→q (b.getD j 0)=false):¬ b.findIdx q < b.length:=fun aP=>by
 have h1:=agx (xs:=b) (p:=q) (w:=aP)
 have:=h _ aP
 simp [aP,h1] at this
theorem ox1 (env:Env) (i:IX):gU env (some i)=some (au env i):=rfl
theorem ox2 (env:Env):gU env none=none:=rfl
theorem slD (l:List Int) (n:Int) (h:0≤n∧n≤l.length) (φ:AV→Prop):bC 1 (.aj 0 (ints l)) (some (.int .i64 n)) none none φ=φ (.aj 0 (ints (l.drop n.toNat))):=by
 have er:dA (AV.aj 0 (ints l))=some (ints l):=rfl
 have e2:((ints l).take (ints l).length).drop n.toNat=ints (l.drop n.toNat):=by rw [abe];simp [ints]
 simp only [bC,fH,er,ep,e2,eq_iff_iff]
 constructor
 ·intro h;exact h.2.2.2.2
 ·intro h'
  refine ⟨fun own xs he z hz=>?_,by omega,by have:=aw l;omega,tv _,h'⟩
  cases he
  obtain ⟨y,_,rfl⟩:=aan.1 hz
  rfl
theorem Ba {H:List aa} {a b:Nat} {u v x y:AV} (tw:b≠a) (hx:u.ab=x) (hy:v.ab=y) (bx:x.bb H.length=true) (rM:y.bb H.length=true):bS H.length [.t a,.t b] [(a,u),(b,v)] H fun r H'=>r=.tuple [x,y]∧H'=H:=by
 subst hx;subst hy
 refine ⟨H.length,tv _,[u.ab,v.ab],?_,by simp only [al,bx,rM,acS],rfl,abe⟩
 simp only [aC,if_neg tw,if_true,List.map]
 exact bZ _
theorem abT {c:Tb} {x:Nat} {i k:Int} {H:List aa} (hT:TX c x i k H) {a b:List Int} (tw:Lj c i a b) :
 ax Tryz.prog 223 [.ptr x 0,.aj 0 (ints a),.aj 0 (ints b)] H fun r H'=>r=.tuple [bu (c.rest a b).1,.aj 0 (ints (c.rest a b).2)]∧H'=H:=by
 obtain ⟨ie,ne,ce,ese,ig,ng,cg,esg,h⟩:=hT
 have TH:=tw.la
 have O8:=tw.lb
 refine Zg.2.calls rfl ?_
 simp only [Zg,aH]
 simp +contextual only [sZ,Nat.reduceEqDiff,Nat.reduceAdd,↓reduceIte,reduceCtorEq]
 refine aG a.length (fun n (p:List Int×List Int)=>Lj c i a p.2∧p.1.length≤n∧c.rest a b=(p.1++(c.rest (a.drop n) p.2).1,(c.rest (a.drop n) p.2).2))
  (fun n p=>[(0,.ptr x 0),(1,.aj 0 (ints a)),(8,gX p.1),(9,.aj 0 (ints p.2)),(10,.int .i64 n)]) (fun _ _=>H) ([],b) ⟨⟨tw,tv _,rfl⟩,aA _ _ _⟩ fun n p hn hI=>?_
 obtain ⟨l,m⟩:=p
 obtain ⟨me,JJ,hI⟩:=hI
 simp only at me JJ hI
 by_cases h1:n < a.length
 ·have l1:decide ((n:Int) < a.length)=true:=decide_eq_true (by omega)
  simp +contextual only [l1,sZ,Nat.reduceEqDiff,↓reduceIte,reduceCtorEq]
  intro _
  obtain ⟨a0,a1⟩:=me.ia _ (bP h1)
  have Ps:=me.lb
  have dP:=h.ne
  have hrest (Q:List Int×List Int) (hQ:eo (fun x y=>decide (c.f x=c.g y)) (a.drop n) m=Q):c.rest (a.drop n) m=Q:=hQ
  have edrop:a.drop n=a.getD n 0::a.drop (n + 1):=by rw [aaP h1];simp [h1]
  refine aG m.length (fun j (q:Int)=>(q=-1∧∀ s,s < j→¬ c.tE (a.getD n 0) (m.getD s 0))∨∃ s:Nat,q=s∧s < j∧c.tE (a.getD n 0) (m.getD s 0)∧∀ u,u < s→¬ c.tE (a.getD n 0) (m.getD u 0))
   (fun j q=>[(0,.ptr x 0),(1,.aj 0 (ints a)),(8,gX l),(9,.aj 0 (ints m)),(10,.int .i64 n),(11,.int .i64 q),(12,.int .i64 j)]) (fun _ _=>H) (-1) ⟨.inl ⟨rfl,fun s hs=>(by cases hs)⟩,aA _ _ _⟩ fun j q hj hJ=>?_
  by_cases h2:j < m.length
  ·have l2:decide ((j:Int) < m.length)=true:=decide_eq_true (by omega)
   obtain ⟨⟨r,bs,xb,e1,e2,e3,e4,e5,e6⟩,_⟩:=h.cell me h1 h2
   obtain ⟨b0,b1⟩:=me.ib _ (bP h2)
   rcases hJ with ⟨rfl,hJ⟩ | ⟨s,rfl,hs,hJ,hJ2⟩
   ·cases xb with
    | false=>
      simp +contextual only [h.x,h.e,aR,uJ,e1,e3,e5,l2,List.getD_cons_succ,List.getD_cons_zero,acs,zV,sZ,Nat.reduceEqDiff,Nat.reduceAdd,Nat.reduceLT,↓reduceIte,reduceCtorEq,Int.reduceLT]
      refine fun _=>⟨⟨by omega,by omega⟩,⟨a0,by omega⟩,e2,⟨by omega,by omega⟩,⟨b0,b1⟩,e4,j + 1,-1,⟨h2,.inl ⟨rfl,fun u hu=>?_⟩⟩,by omega,aD (by rw [aq j (by omega)]) rfl⟩
      by_cases e:u=j
      ·subst e;exact fun hh=>absurd (e6.2 hh) (by simp)
      ·exact hJ u (by omega)
    | true=>
      simp +contextual only [h.x,h.e,aR,uJ,e1,e3,e5,l2,List.getD_cons_succ,List.getD_cons_zero,acs,zV,sZ,Nat.reduceEqDiff,Nat.reduceAdd,Nat.reduceLT,↓reduceIte,reduceCtorEq,Int.reduceLT]
      exact fun _=>⟨⟨by omega,by omega⟩,⟨a0,by omega⟩,e2,⟨by omega,by omega⟩,⟨b0,b1⟩,e4,j + 1,j,⟨h2,.inr ⟨j,rfl,by omega,e6.1 rfl,hJ⟩⟩,by omega,aD (by rw [aq j (by omega)]) rfl⟩
   ·have l3:decide ((s:Int) < 0)=false:=decide_eq_false (by omega)
    simp +contextual only [l2,l3,sZ,Nat.reduceEqDiff,↓reduceIte,reduceCtorEq]
    exact fun _=>⟨j + 1,s,⟨h2,.inr ⟨s,rfl,by omega,hJ,hJ2⟩⟩,by omega,aD (by rw [aq j (by omega)]) rfl⟩
  ·have l2:decide ((j:Int) < m.length)=false:=decide_eq_false (by omega)
   have hjm:j=m.length:=by omega
   subst hjm
   rcases hJ with ⟨rfl,hJ⟩ | ⟨s,rfl,hs,hJ,hJ2⟩
   ·simp +contextual only [l2,aR,nP,fX,zV,sZ,Nat.reduceEqDiff,Nat.reduceAdd,↓reduceIte,reduceCtorEq,Int.reduceLT]
    have e1:c.rest (a.drop n) m=(a.getD n 0::(c.rest (a.drop (n + 1)) m).1,(c.rest (a.drop (n + 1)) m).2):=by
     refine hrest _ ?_
     rw [edrop,eo,if_neg (C2 fun u hu=>decide_eq_false (show ¬ c.f _=c.g _ from hJ u hu))];rfl
    refine fun _=>⟨⟨by omega,by omega⟩,by omega,n + 1,(l++[a.getD n 0],m),⟨h1,me,by simp;omega,?_⟩,by omega,aD (by rw [aq n (by omega)]) rfl⟩
    rw [hI,e1];simp
   ·have l3:decide ((s:Int) < 0)=false:=decide_eq_false (by omega)
    have w1:=aq s (by omega)
    simp +contextual only [l2,l3,w1,ox1,ox2,slT m s ⟨by omega,by omega⟩,slD m ((s + 1:Nat):Int) ⟨by omega,by omega⟩,zV,sZ,Nat.reduceEqDiff,↓reduceIte,reduceCtorEq]
    have e2:m.eraseIdx s=m.take s++m.drop (s + 1):=adb m s
    have e1:c.rest (a.drop n) m=c.rest (a.drop (n + 1)) (m.eraseIdx s):=by
     refine hrest _ ?_
     have ef:m.findIdx (fun y=>decide (c.f (a.getD n 0)=c.g y))=s:=findIdx_le hs (decide_eq_true (show c.f _=c.g _ from hJ)) fun u hu=>decide_eq_false (show ¬ c.f _=c.g _ from hJ2 u hu)
     rw [edrop,eo,ef,if_pos hs];rfl
    have K6:(m.eraseIdx s).length≤m.length:=by rw [List.length_eraseIdx];split <;> omega
    refine fun _=>⟨by simp;omega,by simp;omega,n + 1,(l,m.eraseIdx s),⟨h1,⟨me.ia,fun y hy=>me.ib y (adj hy),me.la,by show (m.eraseIdx s).length≤_;omega⟩,by show l.length≤_;omega,?_⟩,by omega,aD (by rw [aq n (by omega),e2];simp [ints]) rfl⟩
    rw [hI,e1]
 ·have l1:decide ((n:Int) < a.length)=false:=decide_eq_false (by omega)
  simp +contextual only [l1,sZ,Nat.reduceEqDiff,↓reduceIte,reduceCtorEq]
  intro _
  have wm:n=a.length:=by omega
  subst wm
  rw [List.drop_length] at hI
  have e0:c.rest [] m=([],m):=rfl
  rw [e0,ack] at hI
  rw [hI]
  refine Ba (by decide) ?_ rfl ((aJ l).2.2.1 _) (by rw [bM,aT])
  rw [(eV l).2.1,(aJ l).2.1];exact (aJ l).2.1
theorem afU {c:Tb} {x:Nat} {i k:Int} {H:List aa} (hT:TX c x i k H) {l m:List Int} (Ps:Lj c i l m) :
 ax Tryz.prog 226 [.ptr x 0,.aj 0 (ints l),.aj 0 (ints m)] H fun r H'=>(∃ b:Bool,r=.bool b∧(b=true↔Lx (Gt c.O.sp) (l.map c.f) (m.map c.g)))∧H'=H:=by
 obtain ⟨ie,ne,ce,ese,ig,ng,cg,esg,h⟩:=hT
 have TH:=Ps.la
 have O8:=Ps.lb
 refine Zj.2.calls rfl ?_
 simp only [Zj,aH]
 simp +contextual only [sZ,Nat.reduceEqDiff,Nat.reduceAdd,↓reduceIte,reduceCtorEq]
 refine ay l.length (fun n=>n≤m.length∧(Lx (Gt c.O.sp) (l.map c.f) (m.map c.g)↔Lx (Gt c.O.sp) ((l.drop n).map c.f) ((m.drop n).map c.g))) (fun n=>[(0,.ptr x 0),(1,.aj 0 (ints l)),(2,.aj 0 (ints m)),(7,.int .i64 n)]) (fun _=>H) ⟨⟨by omega,Iff.rfl⟩,aA _ _ _⟩ fun n hn hI=>?_
 obtain ⟨SH,hI⟩:=hI
 by_cases h1:n < l.length
 ·have l1:decide ((n:Int) < l.length)=true:=decide_eq_true (by omega)
  by_cases h2:n < m.length
  ·have l2:decide ((m.length:Int)≤n)=false:=decide_eq_false (by omega)
   obtain ⟨⟨r,bs,xb,e1,e2,e3,e4,e5,e6⟩,r',bs',xb',e1',e2',e3',e4',e5',e6'⟩:=h.cell Ps h1 h2
   obtain ⟨a0,a1⟩:=Ps.ia _ (bP h1)
   obtain ⟨b0,b1⟩:=Ps.ib _ (bP h2)
   have dP:=h.ne
   have hng:=h.ng
   rw [So (fun x=>yc x) h1 h2] at hI
   cases xb with
   | true=>
     rw [if_pos (show c.f _=c.g _ from e6.1 rfl)] at hI
     simp +contextual only [h.x,h.e,aR,uJ,e1,e3,e5,l1,l2,List.getD_cons_succ,List.getD_cons_zero,acs,zV,sZ,Nat.reduceEqDiff,Nat.reduceAdd,Nat.reduceLT,↓reduceIte,reduceCtorEq]
     refine fun _ _=>⟨by omega,by omega,e2,by omega,⟨b0,b1⟩,e4,?_⟩
     exact ⟨n + 1,⟨h1,by omega,hI⟩,by omega,aD (by rw [aq n (by omega)]) rfl⟩
   | false=>
     rw [if_neg (show ¬ c.f _=c.g _ from fun hh=>absurd (e6.2 hh) (by simp))] at hI
     simp +contextual only [h.x,h.e,h.g,aR,uJ,e1,e3,e5,e1',e3',e5',l1,l2,List.getD_cons_succ,List.getD_cons_zero,acs,zV,sZ,Nat.reduceEqDiff,Nat.reduceAdd,Nat.reduceLT,↓reduceIte,reduceCtorEq]
     refine fun _ _=>⟨by omega,by omega,e2,by omega,⟨b0,b1⟩,e4,by omega,by omega,e2',⟨by omega,by omega⟩,⟨b0,b1⟩,e4',fy ⟨xb',rfl,?_⟩⟩
     rw [hI];exact e6'
  ·have l2:decide ((m.length:Int)≤n)=true:=decide_eq_true (by omega)
   simp +contextual only [l1,l2,sZ,Nat.reduceEqDiff,↓reduceIte,reduceCtorEq]
   refine fun _ _=>fy ⟨true,rfl,fun _=>hI.2 ?_,fun _=>rfl⟩
   rw [aaP h1,aaN (show m.length≤n by omega)]
   exact trivial
 ·have l1:decide ((n:Int) < l.length)=false:=decide_eq_false (by omega)
  simp +contextual only [l1,sZ,Nat.reduceEqDiff,↓reduceIte,reduceCtorEq]
  refine fun _=>fy ⟨false,rfl,fun h=>absurd h (by simp),fun hh=>?_⟩
  have:=hI.1 hh
  rw [aaN (by omega)] at this
  exact absurd this (fun h=>h)
end Go.aI
end
section
set_option maxRecDepth 100000
namespace Go.aI
open Go Go.Proofs Go.dV
theorem Lj.rest {c:Tb} {i:Int} {a b:List Int} (h:Lj c i a b):Lj c i (c.rest a b).1 (c.rest a b).2:=by
 obtain ⟨h1,h2⟩:=qf (q:=fun x y=>decide (c.f x=c.g y)) a b
 have hl:∀ (a b:List Int),(eo (fun x y=>decide (c.f x=c.g y)) a b).1.length≤a.length∧(eo (fun x y=>decide (c.f x=c.g y)) a b).2.length≤b.length:=by
  intro a
  induction a with
  | nil=>intro b;simp [eo]
  | cons x r ih=>
    intro b
    rw [eo]
    split
    ·have:=ih (b.eraseIdx (b.findIdx fun y=>decide (c.f x=c.g y)))
     have h3:(b.eraseIdx (b.findIdx fun y=>decide (c.f x=c.g y))).length≤b.length:=by rw [List.length_eraseIdx];split <;> omega
     simp only [List.length_cons];omega
    ·have:=ih b
     simp only [List.length_cons];omega
 exact ⟨fun x hx=>h.ia x (h1 x hx),fun y hy=>h.ib y (h2 y hy),by have:=(hl a b).1;have:=h.la;unfold Tb.rest;omega,by have:=(hl a b).2;have:=h.lb;unfold Tb.rest;omega⟩
theorem OE {l:List Int} (h:l≠[]):bu l=.aj 0 (ints l):=by cases l;exact absurd rfl h;rfl
theorem abU (l:List Int):aO 1 (bu l)=True∧(∀ (H:List aa) (φ:AV→Prop),fj (bu l) H φ=(l.length < 9223372036854775808→φ (.int .i64 l.length)))∧(bu l).ab=bu l:=by
 cases l with
 | nil=>exact ⟨by simp [bu,aO],fun _ φ=>by show φ _=_;simp,rfl⟩
 | cons p r=>exact ⟨by simp [bu,aO],fun _ φ=>by show (_→φ _)=_;rw [aw],rfl⟩
theorem afV {c:Tb} {x:Nat} {i k:Int} {H:List aa} (hT:TX c x i k H) {a b:List Int} (tw:Lj c i a b) :
 ax Tryz.prog 225 [.ptr x 0,.aj 0 (ints a),.aj 0 (ints b)] H fun r H'=>(∃ u:Bool,r=.bool u∧(u=true↔Mu (Gt c.O.sp) (a.map c.f) (b.map c.g)))∧H'=H:=by
 have hr:=tw.rest
 have Wq:=OB (q:=fun x y=>decide (c.f x=c.g y)) (f:=c.f) (g:=c.g) (G:=Gt c.O.sp) (a:=a) (b:=b) (fun x _ y _=>by simp)
 have hc:=abT hT tw
 obtain ⟨ie,ne,ce,ese,ig,ng,cg,esg,h⟩:=hT
 rw [show eo (fun x y=>decide (c.f x=c.g y)) a b=c.rest a b from rfl] at Wq
 rw [Wq]
 refine Zi.2.calls rfl ?_
 simp only [Zi,aH]
 simp +contextual only [sZ,Nat.reduceEqDiff,Nat.reduceAdd,↓reduceIte,reduceCtorEq]
 refine af hc ?_
 rintro r G ⟨rfl,rfl⟩
 generalize c.rest a b=q at hr ⊢
 obtain ⟨l,m⟩:=q
 simp only at hr ⊢
 have TH:=hr.la
 have O8:=hr.lb
 have hng:=h.ng
 obtain ⟨kf1,kf2,kf3⟩:=abU l
 simp +contextual only [kf1,kf2,kf3,sZ,Nat.reduceEqDiff,Nat.reduceAdd,Nat.reduceLT,↓reduceIte,reduceCtorEq]
 refine fun _=>⟨fun h0=>fy ⟨false,rfl,fun h=>absurd h (by simp),fun hh=>absurd (abY.1 (by omega)) hh.1⟩,fun h0=>?_⟩
 ·have hl:l≠[]:=fun e=>h0 (by rw [e];rfl)
  rw [OE hl]
  refine ay m.length (fun n=>∀ s,s < n→∃ x∈l,Gt c.O.sp (c.f x) (c.g (m.getD s 0))) (fun n=>[(0,.ptr x 0),(7,.aj 0 (ints l)),(8,.aj 0 (ints m)),(9,.int .i64 n)]) (fun _=>G) ⟨fun s hs=>(by cases hs),aA _ _ _⟩ fun n hn hI=>?_
  by_cases h1:n < m.length
  ·have l1:decide ((n:Int) < m.length)=true:=decide_eq_true (by omega)
   simp +contextual only [l1,sZ,Nat.reduceEqDiff,↓reduceIte,reduceCtorEq]
   intro _
   refine aG l.length (fun j (q:Bool)=>(q=true→∃ x∈l,Gt c.O.sp (c.f x) (c.g (m.getD n 0)))∧(q=false→∀ s,s < j→¬ Gt c.O.sp (c.f (l.getD s 0)) (c.g (m.getD n 0))))
    (fun j q=>[(0,.ptr x 0),(7,.aj 0 (ints l)),(8,.aj 0 (ints m)),(9,.int .i64 n),(10,.bool q),(11,.int .i64 j)]) (fun _ _=>G) false ⟨⟨fun h=>by simp at h,fun _ s hs=>(by cases hs)⟩,aA _ _ _⟩ fun j q hj hJ=>?_
   by_cases h2:j < l.length
   ·have l2:decide ((j:Int) < l.length)=true:=decide_eq_true (by omega)
    obtain ⟨_,r,bs,xb,e1,e2,e3,e4,e5,e6⟩:=h.cell hr h2 h1
    obtain ⟨a0,a1⟩:=hr.ia _ (bP h2)
    obtain ⟨b0,b1⟩:=hr.ib _ (bP h1)
    cases q with
    | true=>
      simp +contextual only [l2,sZ,Nat.reduceEqDiff,↓reduceIte,reduceCtorEq]
      refine fun _=>⟨n + 1,⟨h1,fun s hs=>?_⟩,by omega,aD (by rw [aq n (by omega)]) rfl⟩
      by_cases e:s=n
      ·subst e;exact hJ.1 rfl
      ·exact hI s (by omega)
    | false=>
      simp +contextual only [h.x,h.g,aR,uJ,e1,e3,e5,l2,List.getD_cons_succ,List.getD_cons_zero,acs,zV,sZ,Nat.reduceEqDiff,Nat.reduceAdd,Nat.reduceLT,↓reduceIte,reduceCtorEq]
      refine fun _=>⟨⟨by omega,by omega⟩,⟨a0,by omega⟩,e2,⟨by omega,by omega⟩,⟨b0,b1⟩,e4,j + 1,xb,⟨h2,fun hx=>⟨_,bP h2,e6.1 hx⟩,fun hx s hs=>?_⟩,by omega,aD (by rw [aq j (by omega)]) rfl⟩
      by_cases e:s=j
      ·subst e;exact fun hh=>absurd (e6.2 hh) (by rw [hx];simp)
      ·exact hJ.2 rfl s (by omega)
   ·have l2:decide ((j:Int) < l.length)=false:=decide_eq_false (by omega)
    cases q with
    | true=>
      simp +contextual only [l2,sZ,Nat.reduceEqDiff,↓reduceIte,reduceCtorEq]
      refine fun _=>⟨n + 1,⟨h1,fun s hs=>?_⟩,by omega,aD (by rw [aq n (by omega)]) rfl⟩
      by_cases e:s=n
      ·subst e;exact hJ.1 rfl
      ·exact hI s (by omega)
    | false=>
      simp +contextual only [l2,sZ,Nat.reduceEqDiff,↓reduceIte,reduceCtorEq]
      refine fun _=>fy ⟨false,rfl,fun h=>absurd h (by simp),fun hh=>?_⟩
      obtain ⟨x,hx,hg⟩:=hh.2 _ (bP h1)
      obtain ⟨s,hs,rfl⟩:=jz hx
      exact absurd hg (hJ.2 rfl s (by omega))
  ·have l1:decide ((n:Int) < m.length)=false:=decide_eq_false (by omega)
   simp +contextual only [l1,sZ,Nat.reduceEqDiff,↓reduceIte,reduceCtorEq]
   refine fun _=>fy ⟨true,rfl,fun _=>⟨hl,fun y hy=>?_⟩,fun _=>rfl⟩
   obtain ⟨s,hs,rfl⟩:=jz hy
   exact hI s (by omega)
end Go.aI
end
section
set_option maxRecDepth 100000
namespace Go.aI
open Go Go.Proofs Go.dV
theorem Tb.Ok.ins {c:Tb} (hc:c.Ok) {i k:Int} (hi:0≤i∧i < c.a.length) (hk:0≤k∧k < c.b.length):Lj c i (nk c.a i) (nk c.b k):=by
 obtain ⟨_,a2,a3⟩:=hc.a.kids hi.1 hi.2
 obtain ⟨_,b2,b3⟩:=hc.b.kids hk.1 hk.2
 exact ⟨a2,fun y hy=>by have:=b2 y hy;omega,a3,b3⟩
theorem Tb.Ok.abV {c:Tb} (hc:c.Ok) {i:Int} (hi:0≤i∧i < c.a.length):(nt c.a i).l.map (norm c.O)=(nk c.a i).map c.f:=by
 rw [← (hc.a.kids hi.1 hi.2).1,ac0];rfl
theorem Tb.Ok.abW {c:Tb} (hc:c.Ok) {k:Int} (hk:0≤k∧k < c.b.length):(nt c.b k).l.map (norm c.O)=(nk c.b k).map c.g:=by
 rw [← (hc.b.kids hk.1 hk.2).1,ac0];rfl
theorem Jh (p:Nd) (H:List aa) (φ:AV→Prop):aY (some 4) (.ai (kw p)) H φ=φ (kw p):=by
 simp [aY,kw,AV.cells]
theorem th (ps ss:List Int) (a b e g:AV) (φ:AV→Prop):c8 (some (.cells [.aj 0 (ints ps),.aj 0 (ints ss),a,b,e,g])) (some 2) 0 φ=φ (eN ps ss):=by
 simp [c8,eN,AV.drop]
theorem afW {c:Tb} (hc:c.Ok) {x:Nat} {i k:Int} {H:List aa} (hT:TX c x i k H) (hi:0≤i∧i < c.a.length) (hk:0≤k∧k < c.b.length) :
 ax Tryz.prog 188 [.ptr x 0,.int .i64 i,.int .i64 k] H fun r H'=>(∃ u:Bool,r=.bool u∧(u=true↔c.tE i k))∧H'=H:=by
 have hE:c.tE i k↔E c.O (nt c.a i) (nt c.b k):=Iff.rfl
 rw [Tx,hc.abV hi,hc.abW hk] at hE
 have me:=hc.ins hi hk
 have hrest:=abT hT me
 have Py:=HL (q:=fun x y=>decide (c.f x=c.g y)) (f:=c.f) (g:=c.g) (a:=nk c.a i) (b:=nk c.b k) (fun x _ y _=>by simp)
 rw [show eo (fun x y=>decide (c.f x=c.g y)) (nk c.a i) (nk c.b k)=c.rest (nk c.a i) (nk c.b k) from rfl] at Py
 have hrl:=me.rest.la
 obtain ⟨ak,ao⟩:=hc.a.kind hi.1 hi.2
 obtain ⟨bk,bo⟩:=hc.b.kind hk.1 hk.2
 obtain ⟨ie,ne,ce,ese,ig,ng,cg,esg,h⟩:=hT
 have TH:=me.la
 have O8:=me.lb
 refine YW.2.calls rfl ?_
 simp only [YW,aH]
 simp +contextual only [h.x,Jg,qh,Jh,FB,C1,uI,Sn,ky,List.getD_cons_succ,List.getD_cons_zero,sZ,Nat.reduceEqDiff,Nat.reduceAdd,Nat.reduceLT,↓reduceIte,reduceCtorEq]
 refine ⟨hi,hk,fun dP=>fy ⟨false,rfl,fun h=>absurd h (by simp),fun hh=>?_⟩,fun hq=>⟨fun h1=>fy ⟨_,rfl,?_⟩,fun h1=>?_⟩⟩
 ·rcases hE.1 hh with h | h
  ·exact absurd (h.1.trans h.2.1.symm) dP
  ·exact absurd (by omega) dP
 ·rw [hE,decide_eq_true_eq]
  exact ⟨fun h=>.inr ⟨by omega,by omega,h⟩,fun h=>by rcases h with h | h;omega;exact h.2.2⟩
 have vr:(nt c.b k).k=2:=by omega
 have Pb:(nt c.a i).k=2:=by omega
 have hE:c.tE i k↔_:=hE.trans ⟨fun h=>(by rcases h with h | h;exact h.2.2;exact absurd Pb h.1),fun h=>.inl ⟨Pb,vr,h⟩⟩
 have hss:c.ss.length=c.ps.length:=hc.va.len
 have HV:=hc.va.sp (i:=(nt c.a i).n.toNat) (by have:=ao Pb;omega)
 have wh:c.O.pl (nt c.a i).n=c.ps.getD (nt c.a i).n.toNat 0:=rfl
 rw [show c.O.sp (c.O.pl (nt c.a i).n)=c.ss.getD (nt c.a i).n.toNat 0 from HV] at hE
 obtain ⟨q1,q2,q3,q4,q5,q6⟩:=aX c.ps c.ss
 simp +contextual only [th,q4,Sn,ky,sZ,Nat.reduceEqDiff,↓reduceIte,reduceCtorEq]
 refine aF (abR c.ps c.ss _ _ (ao Pb) (bo vr)) ?_
 rw [show (gZ c.ps c.ss)=c.O from rfl]
 by_cases hp:c.O.pl (nt c.a i).n=c.O.pl (nt c.b k).n
 rotate_left
 ·simp +contextual only [decide_eq_false hp,sZ,Nat.reduceEqDiff,↓reduceIte,reduceCtorEq]
  exact fy ⟨false,rfl,fun h=>absurd h (by simp),fun hh=>absurd (hE.1 hh).1 hp⟩
 have wm:¬ (nk c.a i).length=(nk c.b k).length→¬ c.tE i k:=fun hl hh=>by
  have:=(hE.1 hh).2
  split at this
  ·exact hl (by simpa using this.length_eq)
  ·exact hl (by simpa using congrArg List.length this)
 simp +contextual only [decide_eq_true hp,h.x,Li,gN,Sn,ky,aR,List.getD_cons_succ,List.getD_cons_zero,sZ,Nat.reduceEqDiff,Nat.reduceAdd,Nat.reduceLT,↓reduceIte,reduceCtorEq]
 refine ⟨fun hl=>fy ⟨false,rfl,fun h=>absurd h (by simp),fun hh=>absurd hh (wm (by omega))⟩,fun hl=>⟨⟨(ao Pb).1,by have:=(ao Pb).2;omega⟩,fun h3=>?_,fun h3=>?_⟩⟩
 ·refine af hrest ?_
  rintro r G ⟨rfl,rfl⟩
  obtain ⟨kf1,kf2,kf3⟩:=abU (c.rest (nk c.a i) (nk c.b k)).1
  simp +contextual only [kf1,kf2,kf3,sZ,Nat.reduceEqDiff,Nat.reduceAdd,Nat.reduceLT,↓reduceIte,reduceCtorEq]
  refine fun _=>fy ⟨_,rfl,?_⟩
  rw [hE,if_pos h3,← Py (by omega),decide_eq_true_eq]
  exact ⟨fun h=>⟨hp,abY.1 (by omega)⟩,fun h=>by rw [h.2];rfl⟩
 ·rw [if_neg h3] at hE
  refine ay (nk c.a i).length (fun n=>∀ s,s < n→c.tE ((nk c.a i).getD s 0) ((nk c.b k).getD s 0)) (fun n=>[(0,.ptr x 0),(7,.ai (kw (c.a.getD i.toNat default))),(8,.ai (kw (c.b.getD k.toNat default))),(11,.int .i64 n)]) (fun _=>H) ⟨fun s hs=>(by cases hs),aA _ _ _⟩ fun n hn hI=>?_
  by_cases h1:n < (nk c.a i).length
  ·have l1:decide ((n:Int) < (nk c.a i).length)=true:=decide_eq_true (by omega)
   have h2:n < (nk c.b k).length:=by omega
   obtain ⟨⟨r,bs,xb,e1,e2,e3,e4,e5,e6⟩,_⟩:=h.cell me h1 h2
   obtain ⟨a0,a1⟩:=me.ia _ (bP h1)
   obtain ⟨b0,b1⟩:=me.ib _ (bP h2)
   have dP:=h.ne
   cases xb with
   | false=>
     simp +contextual only [h.x,h.e,Li,gN,aR,uJ,e1,e3,e5,l1,List.getD_cons_succ,List.getD_cons_zero,acs,zV,sZ,Nat.reduceEqDiff,Nat.reduceAdd,Nat.reduceLT,↓reduceIte,reduceCtorEq]
     refine fun _=>⟨⟨by omega,by omega⟩,⟨a0,by omega⟩,e2,⟨by omega,by omega⟩,⟨b0,b1⟩,e4,fy ⟨false,rfl,fun h=>absurd h (by simp),fun hh=>?_⟩⟩
     have hm:=(hE.1 hh).2
     have:=congrArg (fun l=>l.getD n default) hm
     simp only [tu,acu,T1 h1,T1 h2,Option.map_some,Option.getD_some] at this
     refine absurd (e6.2 ?_) (by simp)
     unfold Tb.tE
     simpa [h1,h2] using this
   | true=>
     simp +contextual only [h.x,h.e,Li,gN,aR,uJ,e1,e3,e5,l1,List.getD_cons_succ,List.getD_cons_zero,acs,zV,sZ,Nat.reduceEqDiff,Nat.reduceAdd,Nat.reduceLT,↓reduceIte,reduceCtorEq]
     refine fun _=>⟨⟨by omega,by omega⟩,⟨a0,by omega⟩,e2,⟨by omega,by omega⟩,⟨b0,b1⟩,e4,n + 1,⟨h1,fun s hs=>?_⟩,by omega,aD (by rw [aq n (by omega)]) rfl⟩
     by_cases e:s=n
     ·subst e;exact e6.1 rfl
     ·exact hI s (by omega)
  ·have l1:decide ((n:Int) < (nk c.a i).length)=false:=decide_eq_false (by omega)
   simp +contextual only [Li,gN,l1,sZ,Nat.reduceEqDiff,↓reduceIte,reduceCtorEq]
   refine fun _=>fy ⟨true,rfl,fun _=>hE.2 ⟨hp,?_⟩,fun _=>rfl⟩
   refine aev (by simp;omega) fun s hs Ub=>?_
   have:=hI s (by simp at hs;omega)
   unfold Tb.tE at this
   have q1:s < (nk c.a i).length:=by simpa using hs
   have q2:s < (nk c.b k).length:=by simpa using Ub
   simpa [q1,q2] using this
end Go.aI
end
section
set_option maxRecDepth 100000
namespace Go.aI
open Go Go.Proofs Go.dV
theorem Tb.Ok.W7 {c:Tb} (hc:c.Ok) {i k:Int} (hi:0≤i∧i < c.a.length) (hk:0≤k∧k < c.b.length):c.tR i k↔(nt c.a i).k=2∧((∃ x∈nk c.a i,c.tE x k∨c.tR x k)∨(nt c.b k).k=2∧(
 (c.O.pl (nt c.b k).n < c.O.pl (nt c.a i).n∧∀ y∈nk c.b k,c.tR i y)∨
 (c.O.pl (nt c.b k).n=c.O.pl (nt c.a i).n∧c.O.sp (c.O.pl (nt c.a i).n)≠3∧(∀ y∈nk c.b k,c.tR i y)∧Lx (Gt c.O.sp) ((bt (c.O.sp (c.O.pl (nt c.a i).n)) (nk c.a i)).map c.f) ((bt (c.O.sp (c.O.pl (nt c.a i).n)) (nk c.b k)).map c.g))∨
 (c.O.pl (nt c.b k).n=c.O.pl (nt c.a i).n∧c.O.sp (c.O.pl (nt c.a i).n)=3∧Mu (Gt c.O.sp) ((nk c.a i).map c.f) ((nk c.b k).map c.g)))):=by
 have h:c.tR i k↔R c.O (nt c.a i) (nt c.b k):=Iff.rfl
 have e1:(∃ x∈(nt c.a i).l,E c.O x (nt c.b k)∨R c.O x (nt c.b k))↔∃ x∈nk c.a i,c.tE x k∨c.tR x k:=by
  rw [← (hc.a.kids hi.1 hi.2).1]
  constructor
  ·rintro ⟨x,hx,h⟩;obtain ⟨y,hy,rfl⟩:=aan.1 hx;exact ⟨y,hy,h⟩
  ·rintro ⟨y,hy,h⟩;exact ⟨_,aan.2 ⟨y,hy,rfl⟩,h⟩
 have e2:(∀ y∈(nt c.b k).l,R c.O (nt c.a i) y)↔∀ y∈nk c.b k,c.tR i y:=by
  rw [← (hc.b.kids hk.1 hk.2).1]
  constructor
  ·intro h y hy;exact h _ (aan.2 ⟨y,hy,rfl⟩)
  ·intro h y hy;obtain ⟨z,hz,rfl⟩:=aan.1 hy;exact h z hz
 rw [h,qL,e1,e2,hc.abV hi,hc.abW hk,iB,iB]
theorem rF {P:Program} {lo:Option Nat} {g:FuncId} {xs:List AV} {H:List aa} {Q:Prop} {K:AV→Prop} (hc:ax P g xs H fun r H'=>(∃ u:Bool,r=.bool u∧(u=true↔Q))∧H'=H) (hk:∀ u:Bool,(u=true↔Q)→K (.bool u)):Ar ⟨P,lo⟩ true g xs H K:=by
 refine ⟨.bool (@decide Q (Classical.propDecidable Q)),⟨xs,bZ _,hc.mono ?_⟩,hk _ (by simp)⟩
 rintro r H' ⟨⟨u,rfl,hu⟩,rfl⟩
 refine ⟨?_,rfl⟩
 congr 1
 rw [acw,hu];simp
theorem afX {c:Tb} (hc:c.Ok) {x:Nat} {i k:Int} {H:List aa} (hT:TX c x i k H) (hi:0≤i∧i < c.a.length) (hk:0≤k∧k < c.b.length) :
 ax Tryz.prog 189 [.ptr x 0,.int .i64 i,.int .i64 k] H fun r H'=>(∃ u:Bool,r=.bool u∧(u=true↔c.tR i k))∧H'=H:=by
 have hR:=hc.W7 hi hk
 have me:=hc.ins hi hk
 have fU:=afS hc hT hi hk
 have hmul:=afV hT me
 have afY {l m:List Int} (h:Lj c i l m):=afU hT h
 obtain ⟨ak,ao⟩:=hc.a.kind hi.1 hi.2
 obtain ⟨bk,bo⟩:=hc.b.kind hk.1 hk.2
 obtain ⟨ie,ne,ce,ese,ig,ng,cg,esg,h⟩:=hT
 have TH:=me.la
 have O8:=me.lb
 have dP:=h.ne
 have hng:=h.ng
 refine YX.2.calls rfl ?_
 simp only [YX,aH]
 obtain ⟨q1,q2,q3,q4,q5,q6⟩:=aX c.ps c.ss
 simp +contextual only [h.x,Jg,qh,Jh,FB,C1,uI,Sn,ky,List.getD_cons_succ,List.getD_cons_zero,sZ,Nat.reduceEqDiff,Nat.reduceAdd,Nat.reduceLT,↓reduceIte,reduceCtorEq]
 refine ⟨hi,hk,fun vr=>fy ⟨false,rfl,fun h=>absurd h (by simp),fun hh=>absurd (hR.1 hh).1 vr⟩,fun Pb=>?_⟩
 have hR:c.tR i k↔_:=hR.trans ⟨fun h=>h.2,fun h=>⟨Pb,h⟩⟩
 have hss:c.ss.length=c.ps.length:=hc.va.len
 have ao2:=ao Pb
 have HV:=hc.va.sp (i:=(nt c.a i).n.toNat) (by omega)
 have wh:c.O.pl (nt c.a i).n=c.ps.getD (nt c.a i).n.toNat 0:=rfl
 rw [show c.O.sp (c.O.pl (nt c.a i).n)=c.ss.getD (nt c.a i).n.toNat 0 from HV] at hR
 refine ay (nk c.a i).length (fun n=>∀ s,s < n→¬ (c.tE ((nk c.a i).getD s 0) k∨c.tR ((nk c.a i).getD s 0) k)) (fun n=>[(0,.ptr x 0),(1,.int .i64 i),(2,.int .i64 k),(7,.ai (kw (c.a.getD i.toNat default))),(8,.ai (kw (c.b.getD k.toNat default))),(9,.int .i64 n)]) (fun _=>H) ⟨fun s hs=>(by cases hs),aA _ _ _⟩ fun n hn hI=>?_
 by_cases h1:n < (nk c.a i).length
 ·have l1:decide ((n:Int) < (nk c.a i).length)=true:=decide_eq_true (by omega)
  obtain ⟨a0,a1⟩:=me.ia _ (bP h1)
  obtain ⟨⟨r,bs,xb,e1,e2,e3,e4,e5,e6⟩,r',bs',xb',e1',e2',e3',e4',e5',e6'⟩:=h.rows ((nk c.a i).getD n 0) k a0 hk.1 hk.2 (.inl a1)
  have yes (hx:c.tE ((nk c.a i).getD n 0) k∨c.tR ((nk c.a i).getD n 0) k):c.tR i k:=hR.2 (.inl ⟨_,bP h1,hx⟩)
  cases xb with
  | true=>
    simp +contextual only [h.x,h.e,Li,gN,aR,uJ,e1,e3,e5,l1,List.getD_cons_succ,List.getD_cons_zero,acs,zV,sZ,Nat.reduceEqDiff,Nat.reduceAdd,Nat.reduceLT,↓reduceIte,reduceCtorEq]
    exact fun _=>⟨⟨by omega,by omega⟩,⟨a0,by omega⟩,e2,hk,e4,fy ⟨true,rfl,fun _=>yes (.inl (e6.1 rfl)),fun _=>rfl⟩⟩
  | false=>
    simp +contextual only [h.x,h.e,h.g,Li,gN,aR,uJ,e1,e3,e5,e1',e3',e5',l1,List.getD_cons_succ,List.getD_cons_zero,acs,zV,sZ,Nat.reduceEqDiff,Nat.reduceAdd,Nat.reduceLT,↓reduceIte,reduceCtorEq]
    refine fun _=>⟨⟨by omega,by omega⟩,⟨a0,by omega⟩,e2,hk,e4,⟨by omega,by omega⟩,⟨a0,by omega⟩,e2',hk,e4',?_⟩
    cases xb' with
    | true=>
      simp +contextual only [sZ,↓reduceIte,reduceCtorEq]
      exact fy ⟨true,rfl,fun _=>yes (.inr (e6'.1 rfl)),fun _=>rfl⟩
    | false=>
      simp +contextual only [sZ,Nat.reduceEqDiff,↓reduceIte,reduceCtorEq]
      refine ⟨n + 1,⟨h1,fun s hs=>?_⟩,by omega,aD (by rw [aq n (by omega)]) rfl⟩
      by_cases e:s=n
      ·subst e
       rintro (hh | hh)
       ·exact absurd (e6.2 hh) (by simp)
       ·exact absurd (e6'.2 hh) (by simp)
      ·exact hI s (by omega)
 ·have l1:decide ((n:Int) < (nk c.a i).length)=false:=decide_eq_false (by omega)
  have no:¬ ∃ x∈nk c.a i,c.tE x k∨c.tR x k:=by
   rintro ⟨x,hx,hh⟩
   obtain ⟨s,hs,rfl⟩:=jz hx
   exact hI s (by omega) hh
  have hR:c.tR i k↔_:=hR.trans ⟨fun h=>h.resolve_left no,.inr⟩
  simp +contextual only [Li,Sn,gN,ky,l1,h.x,aR,List.getD_cons_zero,sZ,Nat.reduceEqDiff,Nat.reduceAdd,Nat.reduceLT,↓reduceIte,reduceCtorEq]
  refine fun _=>⟨fun vr=>fy ⟨false,rfl,fun h=>absurd h (by simp),fun hh=>absurd (hR.1 hh).1 vr⟩,fun vr=>⟨ao2,bo vr,fun SJ=>?_,fun SJ=>?_⟩⟩
  ·refine af fU ?_
   rintro r G ⟨⟨u,rfl,hu⟩,rfl⟩
   simp +contextual only [sZ,↓reduceIte,reduceCtorEq]
   refine fy ⟨u,rfl,hu.trans ⟨fun h=>hR.2 ⟨vr,.inl ⟨SJ,h⟩⟩,fun hh=>?_⟩⟩
   rcases (hR.1 hh).2 with h | h | h
   ·exact h.2
   ·have:=h.1
    exact absurd SJ (by rw [show c.ps.getD (nt c.b k).n.toNat 0=c.ps.getD (nt c.a i).n.toNat 0 from this];omega)
   ·have:=h.1
    exact absurd SJ (by rw [show c.ps.getD (nt c.b k).n.toNat 0=c.ps.getD (nt c.a i).n.toNat 0 from this];omega)
  have hR:c.tR i k↔_:=hR.trans ⟨fun h=>h.2.resolve_left fun h2=>absurd h2.1 (by rw [← Int.not_lt] at SJ;exact SJ),fun h=>⟨vr,.inr h⟩⟩
  simp +contextual only [th,q4,Sn,ky,sZ,Nat.reduceEqDiff,↓reduceIte,reduceCtorEq]
  refine aF (abR c.ps c.ss _ _ (ao Pb) (bo vr)) ?_
  rw [show (gZ c.ps c.ss)=c.O from rfl]
  by_cases hp:c.O.pl (nt c.a i).n=c.O.pl (nt c.b k).n
  rotate_left
  ·simp +contextual only [decide_eq_false hp,sZ,Nat.reduceEqDiff,↓reduceIte,reduceCtorEq]
   exact fy ⟨false,rfl,fun h=>absurd h (by simp),fun hh=>by rcases hR.1 hh with h | h <;> exact absurd h.1.symm hp⟩
  simp +contextual only [decide_eq_true hp,h.x,Sn,Li,ky,gN,aR,List.getD_cons_succ,List.getD_cons_zero,sZ,Nat.reduceEqDiff,Nat.reduceAdd,Nat.reduceLT,↓reduceIte,reduceCtorEq]
  refine ⟨⟨ao2.1,by omega⟩,fun h3=>?_,fun h3=>?_⟩
  ·refine af hmul ?_
   rintro r G ⟨⟨u,rfl,hu⟩,rfl⟩
   simp +contextual only [sZ,↓reduceIte,reduceCtorEq]
   refine fy ⟨u,rfl,hu.trans ⟨fun h=>hR.2 (.inr ⟨hp.symm,h3,h⟩),fun hh=>?_⟩⟩
   rcases hR.1 hh with h | h
   ·exact absurd h3 h.2.1
   ·exact h.2.2
  ·have hside {l m:List Int} (h1:Lj c i l m) (s:Int):Lj c i (bt s l) (bt s m):=⟨fun x hx=>h1.ia x (kC.1 hx),fun y hy=>h1.ib y (kC.1 hy),by rw [iz];exact h1.la,by rw [iz];exact h1.lb⟩
   simp +contextual only [th,q4,Sn,Li,ky,gN,sZ,Nat.reduceEqDiff,↓reduceIte,reduceCtorEq]
   refine aF (abS c.ps c.ss _ _ TH ⟨ao2.1,by omega⟩) ?_
   simp +contextual only [h.x,th,q4,Sn,Li,ky,gN,sZ,Nat.reduceEqDiff,Nat.reduceAdd,↓reduceIte,reduceCtorEq]
   refine aF (abS c.ps c.ss _ _ O8 ⟨ao2.1,by omega⟩) ?_
   simp +contextual only [sZ,Nat.reduceEqDiff,↓reduceIte,reduceCtorEq]
   refine rF (afY (hside me (c.ss.getD (nt c.a i).n.toNat 0))) fun u hu=>?_
   cases u with
   | false=>
     simp +contextual only [sZ,Nat.reduceEqDiff,↓reduceIte,reduceCtorEq]
     refine fy ⟨false,rfl,fun h=>absurd h (by simp),fun hh=>?_⟩
     rcases hR.1 hh with h | h
     ·exact absurd (hu.2 h.2.2.2) (by simp)
     ·exact absurd h.2.1 h3
   | true=>
     simp +contextual only [sZ,Nat.reduceEqDiff,Nat.reduceAdd,↓reduceIte,reduceCtorEq]
     refine af fU ?_
     rintro r G ⟨⟨v,rfl,hv⟩,rfl⟩
     simp +contextual only [sZ,Nat.reduceEqDiff,↓reduceIte,reduceCtorEq]
     refine fy ⟨v,rfl,hv.trans ⟨fun h=>hR.2 (.inl ⟨hp.symm,h3,h,hu.1 rfl⟩),fun hh=>?_⟩⟩
     rcases hR.1 hh with h | h
     ·exact h.2.2.1
     ·exact absurd h.2.1 h3
end Go.aI
end
section
set_option maxRecDepth 100000
set_option maxHeartbeats 0
namespace Go.aI
open Go Go.Proofs
noncomputable def TY:=aH Tryz.call137 Tryz.func137 Tryz.ntmps137 [(0,0,1),(0,1,1),(0,2,1),(1,2,1),(1,4,1),(5,12,3),(5,15,2),(6,12,3),(6,15,2)] [(0,[3,4,5]),(1,[7]),(2,[7,8]),(3,[7,8,23]),(4,[7,8]),(5,[7,8]),(6,[7,8]),(7,[7,8,9]),(8,[7,8,9,62]),(9,[7,8,9]),(10,[7,8,9]),(11,[7,8,9]),(12,[6])] [(1,(.take 1 true (.take 0 false (.take 3 false (.br 2 (.br 4 (.take 5 true (.br 6 (.take 7 true .done) .nil)) .nil) .nil))))),(5,(.take 5 true (.take 6 true (.take 7 true (.take 8 true (.take 9 true (.take 0 false (.take 1 false (.take 2 false (.take 3 false (.br 4 (.br 10 (.take 11 true (.br 12 (.take 13 true (.take 14 true (.br 15 .done .nil))) .nil)) .nil) (.br 10 (.take 4 true (.take 11 true (.br 12 (.take 13 true (.take 14 true (.br 15 .done .nil))) .nil))) .nil)))))))))))),(6,(.take 5 true (.take 6 true (.take 7 true (.take 8 true (.take 9 true (.take 0 false (.take 1 false (.take 2 false (.take 3 false (.br 4 (.br 10 (.take 11 true (.br 12 (.take 13 true (.take 14 true (.br 15 .done .nil))) .nil)) .nil) (.br 10 (.take 4 true (.take 11 true (.br 12 (.take 13 true (.take 14 true (.br 15 .done .nil))) .nil))) .nil)))))))))))),(10,(.take 8 true (.take 9 true (.take 10 true (.take 11 true (.take 0 true (.take 1 true (.take 2 true (.take 3 true (.take 4 true (.take 5 true (.take 6 true (.take 7 true (.take 12 true (.br 13 .done .nil))))))))))))))),(11,(.take 8 true (.take 9 true (.take 10 true (.take 11 true (.take 0 true (.take 1 true (.take 2 true (.take 3 true (.take 4 true (.take 5 true (.take 6 true (.take 7 true (.take 12 true (.br 13 .done .nil)))))))))))))))]
end Go.aI
end
section
set_option maxRecDepth 100000
namespace Go.aI
open Go Go.Proofs Go.dV
structure C3 {τ:Type} (n0:Nat) (G:List aa) (ad:τ→Nat) (ct:τ→Option aa):Prop where
 get:∀ t o,ct t=some o→G[ad t]?=some o
 inj:∀ s t,ct s≠none→ct t≠none→ad s=ad t→s=t
 lo:∀ t,ct t≠none→n0≤ad t
section
variable {τ:Type} [DecidableEq τ] {n0:Nat} {G:List aa} {ad:τ→Nat} {ct:τ→Option aa}
theorem C3.lt (h:C3 n0 G ad ct) {t:τ} (ht:ct t≠none):ad t < G.length:=by
 cases e:ct t with
 | none=>exact absurd e ht
 | some o=>exact (aa0.1 (h.get t o e)).1
theorem C3.set (h:C3 n0 G ad ct) {t:τ} (ht:ct t≠none) (o:aa):C3 n0 (G.set (ad t) o) ad (fun s=>if s=t then some o else ct s):=by
 refine ⟨fun s p hs=>?_,fun s u hs hu e=>?_,fun s hs=>?_⟩
 ·by_cases e:s=t
  ·subst e
   rw [if_pos rfl] at hs;cases hs
   rw [aai (h.lt ht)]
  ·rw [if_neg e] at hs
   rw [zS (fun e2=>e (h.inj s t (by rw [hs];simp) ht e2.symm))]
   exact h.get s p hs
 ·refine h.inj s u (fun e2=>hs ?_) (fun e2=>hu ?_) e
  ·by_cases e3:s=t
   ·subst e3;exact absurd e2 ht
   ·rw [if_neg e3];exact e2
  ·by_cases e3:u=t
   ·subst e3;exact absurd e2 ht
   ·rw [if_neg e3];exact e2
 ·by_cases e3:s=t
  ·subst e3;exact h.lo s ht
  ·rw [if_neg e3] at hs;exact h.lo s hs
theorem C3.new (h:C3 n0 G ad ct) (hn:n0≤G.length) (t:τ) (o:aa):C3 n0 (G++[o]) (fun s=>if s=t then G.length else ad s) (fun s=>if s=t then some o else ct s):=by
 refine ⟨fun s p hs=>?_,fun s u hs hu e=>?_,fun s hs=>?_⟩
 ·by_cases e:s=t
  ·simp only [if_pos e] at hs ⊢;cases hs;simp
  ·simp only [if_neg e] at hs ⊢
   rw [zR (h.lt (by rw [hs];simp))]
   exact h.get s p hs
 ·by_cases e1:s=t <;> by_cases e2:u=t
  ·rw [e1,e2]
  ·simp only [if_pos e1,if_neg e2] at hs hu e
   have:=h.lt hu;omega
  ·simp only [if_neg e1,if_pos e2] at hs hu e
   have:=h.lt hs;omega
  ·simp only [if_neg e1,if_neg e2] at hs hu e
   exact h.inj s u hs hu e
 ·by_cases e1:s=t
  ·simp only [if_pos e1];exact hn
  ·simp only [if_neg e1] at hs ⊢;exact h.lo s hs
theorem C3.congr {ad':τ→Nat} {ct':τ→Option aa} (h:C3 n0 G ad ct) (hc:∀ t,ct' t=ct t) (ha:∀ t,ct t≠none→ad' t=ad t):C3 n0 G ad' ct':=by
 refine ⟨fun t o ht=>?_,fun s t hs ht e=>?_,fun t ht=>?_⟩
 ·rw [hc] at ht
  rw [ha t (by rw [ht];simp)];exact h.get t o ht
 ·rw [hc] at hs ht
  rw [ha s hs,ha t ht] at e
  exact h.inj s t hs ht e
 ·rw [hc] at ht
  rw [ha t ht];exact h.lo t ht
noncomputable def yS (n0:Nat) (ad:τ→Nat) (ct:τ→Option aa) (G:List aa):List aa:=
 G.mapIdx fun j o=>@ite _ (j < n0∨∃ t,ct t≠none∧ad t=j) (Classical.propDecidable _) o .dead
theorem uK (j:Nat):(yS n0 ad ct G)[j]?=(G[j]?).map fun o=>@ite _ (j < n0∨∃ t,ct t≠none∧ad t=j) (Classical.propDecidable _) o .dead:=by simp [yS]
theorem uL:(yS n0 ad ct G).length=G.length:=by simp [yS]
theorem HO:(yS n0 ad ct G).take n0=G.take n0:=by
 apply acr
 intro j
 rw [aaM,aaM]
 split
 ·rename_i hj
  rw [uK]
  cases G[j]? with
  | none=>rfl
  | some o=>simp [hj]
 ·rfl
theorem C3.kH (h:C3 n0 G ad ct):C3 n0 (yS n0 ad ct G) ad ct:=by
 refine ⟨fun t o ht=>?_,h.inj,h.lo⟩
 rw [uK,h.get t o ht,Option.map_some,if_pos (.inr ⟨t,by rw [ht];simp,rfl⟩)]
theorem C3.shut (h:C3 n0 G ad ct) (hb:∀ t o,ct t=some o→o.bb G.length=true):xu n0 G G.length (yS n0 ad ct G):=by
 refine ⟨by rw [uL];simp,fun j x hx=>?_⟩
 rw [uK] at hx
 obtain ⟨y,hy,e⟩:=zW.1 hx
 split at e
 ·rename_i hp
  subst e
  refine .inr ⟨hy,fun h0=>?_⟩
  rcases hp with h1 | ⟨t,ht,rfl⟩
  ·omega
  ·cases e2:ct t with
   | none=>exact absurd e2 ht
   | some o=>
     have:=h.get t o e2
     rw [hy] at this;cases this
     rw [uL]
     exact hb t _ e2
 ·exact .inl e.symm
end
inductive Tg where
 | x | e | g
 | re (j:Nat)
 | rg (j:Nat)
 deriving DecidableEq
def hZ (E:Nat→Bool) (nb m:Nat):aa:=.cells ((List.range nb).map fun k=>.bool (decide (k < m) && E k))
noncomputable def Tb.eB (c:Tb) (i k:Nat):Bool:=decide (c.f i=c.g k)
noncomputable def Tb.gB (c:Tb) (i k:Nat):Bool:=@decide (c.tR i k) (Classical.propDecidable _)
def jA (c:Tb) (ne ng:Nat) (ve vg:AV) (oe og:Option aa) (fE fG:Nat→aa):Tg→Option aa
 | .x=>some (.cells [.aj 0 (ints c.ps),.aj 0 (ints c.ss),.aj 0 (dw c.a),.aj 0 (dw c.b),ve,vg])
 | .e=>oe
 | .g=>og
 | .re j=>if j < ne then some (fE j) else none
 | .rg j=>if j < ng then some (fG j) else none
def eM (ad:Tg→Nat) (rr:Nat→Tg) (nb n cap:Nat):List AV:=(List.range n).map (fun j=>.a7 (ad (rr j)) 0 nb nb)++List.replicate (cap - n) .ag
def RV (ad:Tg→Nat) (nb:Nat) (tt:Tg) (rr:Nat→Tg) (v:AV) (o:Option aa) (n:Nat):Prop:=
 (n=0∧v=.ag∧o=none)∨(0 < n∧∃ cap,n≤cap∧v=.a7 (ad tt) 0 n cap∧o=some (.cells (eM ad rr nb n cap)))
def iF (c:Tb) (H:List aa) (i kE kG ne ng:Nat) (G:List aa):Prop:=
 ∃ ad ve vg oe og,ad .x=H.length∧G.take H.length=H∧H.length≤G.length∧
  C3 H.length G ad (jA c ne ng ve vg oe og (fun j=>hZ (c.eB j) c.b.length (if j < i then c.b.length else kE)) (fun j=>hZ (c.gB j) c.b.length (if j < i then c.b.length else kG)))∧
  RV ad c.b.length .e .re ve oe ne∧RV ad c.b.length .g .rg vg og ng
theorem qi {ad:Tg→Nat} {rr:Nat→Tg} {nb n cap j:Nat} (h:j < n):(eM ad rr nb n cap).getD j .any=.a7 (ad (rr j)) 0 nb nb∧j < (eM ad rr nb n cap).length:=by
 constructor
 ·rw [eM,tu,zR (by simpa using h)]
  simp [h]
 ·simp [eM];omega
theorem FD {E:Nat→Bool} {nb m k:Nat} (h:k < nb):((List.range nb).map fun k=>AV.bool (decide (k < m) && E k)).getD k .any=.bool (decide (k < m) && E k):=by
 simp [h]
theorem iF.tb {c:Tb} {H G:List aa} {i kE kG k:Nat} (h:iF c H i kE kG (i + 1) (i + 1) G) (h1:k≤kE) (h2:k≤kG):TX c H.length i k G:=by
 obtain ⟨ad,ve,vg,oe,og,hx,_,_,hL,hE,hG⟩:=h
 rcases hE with ⟨h0,_⟩ | ⟨_,ce,hce,rfl,rfl⟩
 ·omega
 rcases hG with ⟨h0,_⟩ | ⟨_,cg,hcg,rfl,rfl⟩
 ·omega
 refine ⟨ad .e,i + 1,ce,_,ad .g,i + 1,cg,_,?_,hL.get .e _ rfl,hL.get .g _ rfl,by omega,by omega,fun j m h0 hm XG hjm=>?_⟩
 ·have:=hL.get .x _ rfl
  rwa [hx] at this
 obtain ⟨j,rfl⟩:=acE h0
 obtain ⟨m,rfl⟩:=acE hm
 have hj:j < i + 1:=by omega
 have XG:m < c.b.length:=by omega
 have aP:∀ kk,k≤kk→m < if j < i then c.b.length else kk:=fun kk hk=>by
  split
  ·exact XG
  ·have:j=i:=by omega
   omega
 have e1:=hL.get (.re j) _ (if_pos hj)
 have e2:=hL.get (.rg j) _ (if_pos hj)
 obtain ⟨g1,g2⟩:=qi (ad:=ad) (rr:=.re) (nb:=c.b.length) (cap:=ce) hj
 obtain ⟨g3,g4⟩:=qi (ad:=ad) (rr:=.rg) (nb:=c.b.length) (cap:=cg) hj
 refine ⟨⟨_,_,_,g1,g2,e1,by simpa using XG,FD XG,?_⟩,_,_,_,g3,g4,e2,by simpa using XG,FD XG,?_⟩
 ·have:=aP kE h1
  simp only [zV]
  rw [decide_eq_true this]
  simp [Tb.eB,Tb.tE]
 ·have:=aP kG h2
  simp only [zV]
  rw [decide_eq_true this]
  simp [Tb.gB]
end Go.aI
end
section
set_option maxRecDepth 100000
namespace Go.aI
open Go Go.Proofs Go.dV
theorem K0 (k:Nat):flat (List.replicate k AV.ag)=List.replicate k .ag:=by
 induction k with
 | zero=>rfl
 | succ k ih=>rw [afm,show flat (AV.ag::List.replicate k .ag)=.ag::flat (List.replicate k .ag) from rfl,ih]
theorem Bb (k:Nat):cT .ag k=List.replicate k .ag:=K0 k
theorem pC {ad ad':Tg→Nat} {rr:Nat→Tg} {nb n cap:Nat} (h:∀ j,j < n→ad' (rr j)=ad (rr j)):eM ad' rr nb n cap=eM ad rr nb n cap:=by
 unfold eM
 congr 1
 exact acB fun j hj=>by rw [h j (acf.1 hj)]
theorem K3 {ad:Tg→Nat} {rr:Nat→Tg} {nb n cap:Nat} (h:n≤cap):(eM ad rr nb n cap).length=cap:=by simp [eM];omega
theorem uM {ad:Tg→Nat} {rr:Nat→Tg} {nb n cap m:Nat} (h:∀ j,j < n→ad (rr j) < m):al m (eM ad rr nb n cap)=true:=by
 rw [a9]
 intro x hx
 rw [eM] at hx
 rcases abZ.1 hx with hx | hx
 ·obtain ⟨j,hj,rfl⟩:=aan.1 hx
  have:=h j (acf.1 hj)
  rw [fL];simpa using this
 ·rw [acz hx];rfl
theorem rG {ad:Tg→Nat} {rr:Nat→Tg} {nb n cap:Nat}:eM ad rr nb (n + 1) cap=(List.range n).map (fun j=>AV.a7 (ad (rr j)) 0 nb nb)++[.a7 (ad (rr n)) 0 nb nb]++List.replicate (cap - (n + 1)) .ag:=by
 rw [eM,adi,acG];rfl
theorem C4 {ad:Tg→Nat} {rr:Nat→Tg} {nb n cap:Nat} (h:n < cap):ah (eM ad rr nb n cap) n [.a7 (ad (rr n)) 0 nb nb]=eM ad rr nb (n + 1) cap:=by
 rw [rG,eM]
 have hl:((List.range n).map (fun j=>AV.a7 (ad (rr j)) 0 nb nb)).length=n:=by simp
 generalize (List.range n).map (fun j=>AV.a7 (ad (rr j)) 0 nb nb)=X at hl ⊢
 subst hl
 have e:cap - X.length=(cap - (X.length + 1)) + 1:=by omega
 rw [e,afm]
 simp [ah]
theorem FE {ad:Tg→Nat} {rr:Nat→Tg} {nb n:Nat}:((List.range n).map (fun j=>AV.a7 (ad (rr j)) 0 nb nb)).map AV.ab=(List.range n).map (fun j=>AV.a7 (ad (rr j)) 0 nb nb):=by
 rw [ac0];rfl
theorem HP {ad:Tg→Nat} {rr:Nat→Tg} {nb n cap:Nat}:(eM ad rr nb n cap).take n=(List.range n).map (fun j=>AV.a7 (ad (rr j)) 0 nb nb):=by
 rw [eM,aa1 (by simp),aaJ (by simp)]
theorem RV.facts {ad:Tg→Nat} {nb:Nat} {tt:Tg} {rr:Nat→Tg} {v:AV} {o:Option aa} {n:Nat} (h:RV ad nb tt rr v o n):v.one=true∧v.val=true∧v.ab=v∧v.cells=[v]:=by
 rcases h with ⟨_,rfl,_⟩ | ⟨_,cap,_,rfl,_⟩ <;> exact ⟨rfl,rfl,rfl,rfl⟩
theorem apW {n0:Nat} {G:List aa} {ad:Tg→Nat} {ct:Tg→Option aa} {nb n:Nat} {tt:Tg} {rr:Nat→Tg} {v:AV} (dP:∀ j,rr j≠tt) (hL:C3 n0 G ad ct) (H6:n0≤G.length) (hv:RV ad nb tt rr v (ct tt) n)
 (LF:∀ j,j≤n→ct (rr j)≠none) (hb:(n + 1) * 24≤140737488355328) (o:Nat) {K:AV→List aa→Prop}
 (hK:∀ ad' v' o' G',(∀ s,s≠tt→ad' s=ad s)→C3 n0 G' ad' (fun s=>if s=tt then o' else ct s)→RV ad' nb tt rr v' o' (n + 1)→G'.take n0=G.take n0→G.length≤G'.length→v'.bb G'.length=true→K v' G') :
 fJ n0 1 24 .ag v (.aj o [.a7 (ad (rr n)) 0 nb nb]) G K:=by
 have aP:∀ j,j≤n→ad (rr j) < G.length:=fun j hj=>hL.lt (LF j hj)
 have jF:qQ 1 [.a7 (ad (rr n)) 0 nb nb]:=fun y hy=>by rw [aat.1 hy];exact ⟨rfl,rfl⟩
 have fl:(flat [AV.a7 (ad (rr n)) 0 nb nb]).map AV.ab=[.a7 (ad (rr n)) 0 nb nb]:=rfl
 unfold fJ jG
 simp only [dA]
 rcases hv with ⟨rfl,rfl,he⟩ | ⟨hn,cap,cr,rfl,he⟩
 ·dsimp only
  refine ⟨fun _ _ _ _ e=>(by cases e),jF,by simp,fun e=>(by cases e),fun _ cap hc _=>?_⟩
  rw [fl,Bb]
  have e1:[AV.a7 (ad (rr 0)) 0 nb nb]++List.replicate (cap - [AV.a7 (ad (rr 0)) 0 nb nb].length) .ag=eM ad rr nb (0 + 1) cap:=by rw [rG];rfl
  rw [e1]
  have e2:eM (fun s=>if s=tt then G.length else ad s) rr nb (0 + 1) cap=eM ad rr nb (0 + 1) cap:=pC fun j _=>if_neg (dP j)
  refine ⟨uM fun j hj=>by have:=aP j (by omega);omega,hK _ _ _ _ (fun s hs=>if_neg hs) (hL.new H6 tt _) (.inr ⟨by omega,cap,by simpa using hc,?_,?_⟩) ?_ (by simp) (by rw [fL];simp)⟩
  ·simp
  ·rw [e2]
  ·rw [aa1 H6]
 ·have hg:=hL.get tt _ he
  have ht:ct tt≠none:=by rw [he];simp
  have bn:=hL.lt ht
  simp only [hg]
  refine ⟨fun _ _ _ _ e=>by cases e;exact hL.lo tt ht,jF,by simpa using hb,cr,by rw [K3 cr];simp,fun hroom=>?_,fun kq dM hc _=>?_⟩
  ·rw [fl]
   have hroom:n < cap:=by simp only [agp] at hroom;omega
   rw [show 0 + n * 1=n by omega,C4 hroom]
   refine ⟨by rw [bN,da,fL];simpa using aP n (tv _),hK ad _ _ _ (fun s _=>rfl) (hL.set ht _) (.inr ⟨by omega,cap,hroom,rfl,rfl⟩) (ace (hL.lo tt ht)) (by simp) (by rw [fL];simpa using bn)⟩
  ·rw [fl,Bb,List.drop_zero,acs,HP,FE]
   have e1:(List.range n).map (fun j=>AV.a7 (ad (rr j)) 0 nb nb)++[.a7 (ad (rr n)) 0 nb nb]++List.replicate (dM - (n + [AV.a7 (ad (rr n)) 0 nb nb].length)) .ag=eM ad rr nb (n + 1) dM:=by rw [rG];rfl
   rw [e1]
   have e2:eM (fun s=>if s=tt then G.length else ad s) rr nb (n + 1) dM=eM ad rr nb (n + 1) dM:=pC fun j _=>if_neg (dP j)
   refine ⟨uM fun j hj=>by have:=aP j (by omega);omega,hK _ _ _ _ (fun s hs=>if_neg hs) (hL.new H6 tt _) (.inr ⟨by omega,dM,by simpa using hc,?_,?_⟩) ?_ (by simp) (by rw [fL];simp)⟩
   ·simp
   ·rw [e2]
   ·rw [aa1 H6]
theorem K4 (E:Nat→Bool) (nb:Nat):aa.cells (flat (List.replicate nb (bR (.bool false))))=hZ E nb 0:=by
 rw [hZ]
 congr 1
 induction nb with
 | zero=>rfl
 | succ k ih=>
   rw [adi,acG,← ih,List.replicate_succ']
   unfold flat
   rw [adz];rfl
theorem OF (E:Nat→Bool) {nb m:Nat} (h:m < nb):(((List.range nb).map fun k=>AV.bool (decide (k < m) && E k)).set m (.bool (E m)))=(List.range nb).map fun k=>AV.bool (decide (k < m + 1) && E k):=by
 apply aev
 ·simp
 ·intro j h1 h2
  rw [List.getElem_set]
  split
  ·rename_i e
   subst e;simp
  ·rename_i e
   have:decide (j < m)=decide (j < m + 1):=by
    by_cases hj:j < m
    ·rw [decide_eq_true hj,decide_eq_true (by omega)]
    ·rw [decide_eq_false hj,decide_eq_false (by omega)]
   simp [this]
end Go.aI
end
section
set_option maxRecDepth 100000
namespace Go.aI
open Go Go.Proofs Go.dV
theorem RV.congr {ad ad':Tg→Nat} {nb:Nat} {tt:Tg} {rr:Nat→Tg} {v:AV} {o:Option aa} {n:Nat} (h:RV ad nb tt rr v o n) (h1:ad' tt=ad tt) (h2:∀ j,j < n→ad' (rr j)=ad (rr j)):RV ad' nb tt rr v o n:=by
 rcases h with h | ⟨hn,cap,hc,e1,e2⟩
 ·exact .inl h
 ·exact .inr ⟨hn,cap,hc,by rw [h1];exact e1,by rw [pC h2];exact e2⟩
def ic (c:Tb) (ve vg:AV):aa:=.cells [.aj 0 (ints c.ps),.aj 0 (ints c.ss),.aj 0 (dw c.a),.aj 0 (dw c.b),ve,vg]
theorem OG {nb:Nat} (E:Nat→Bool) (h:nb≤100000000) (G:List aa) (K:AV→List aa→Prop):fF 1 1 (.bool false) (.int .i64 (nb:Int)) G K=K (.a7 G.length 0 nb nb) (G++[hZ E nb 0]):=by
 have hb:al (G.length + 1) (flat (List.replicate nb (bR (.bool false))))=true:=by
  rw [a9]
  intro x hx
  obtain ⟨y,hy,hxy⟩:=acC.1 hx
  rw [acz hy] at hxy
  rw [aat.1 hxy];rfl
 simp only [fF,zV,eq_iff_iff,K4 E nb]
 exact ⟨fun h=>h.2.2.2,fun hk=>⟨by omega,by omega,hb,hk⟩⟩
theorem iF.afZ {c:Tb} {H G:List aa} {i:Nat} (h:iF c H i 0 0 i i G) (hi:i≤100000000) {ve vg:AV} (hX:G[H.length]?=some (ic c ve vg)) {K:AV→List aa→Prop}
 (hK:∀ v' G2,G2[H.length]?=some (ic c ve vg)→(v'.one=true∧v'.val=true∧v'.ab=v'∧v'.cells=[v'])→v'.bb G2.length=true→H.length≤G2.length→iF c H i 0 0 (i + 1) i (G2.set H.length (ic c v' vg))→K v' G2) :
 fJ H.length 1 24 .ag ve (.aj 0 [.a7 G.length 0 c.b.length c.b.length]) (G++[hZ (c.eB i) c.b.length 0]) K:=by
 obtain ⟨ad,ve0,vg0,oe,og,hx,hH,hlen,hL,hE,hG⟩:=h
 have R8:=hL.get .x _ rfl
 rw [hx,hX] at R8
 simp only [ic,Option.some.injEq,aa.cells.injEq,List.cons.injEq,true_and,and_true] at R8
 obtain ⟨rfl,rfl⟩:=R8
 have SN:=hL.new hlen (.re i) (hZ (c.eB i) c.b.length 0)
 have hE1:RV (fun s=>if s=Tg.re i then G.length else ad s) c.b.length .e .re ve oe i:=hE.congr (by simp) (fun j hj=>by simp;omega)
 have key:=apW (n:=i) (tt:=.e) (rr:=.re) (nb:=c.b.length) (v:=ve) (fun j=>by simp) SN (by simp;omega) (by simpa [jA] using hE1) (fun j hj=>by
  by_cases e:j=i
  ·simp [e]
  ·simp [e,jA];omega) (by omega) 0 (K:=K) (fun ad' v' o' G2 ha hl hr ht wv mV=>?_)
 ·rw [show (if Tg.re i=Tg.re i then G.length else ad (Tg.re i))=G.length from if_pos rfl] at key
  exact key
 have rJ:ad' .x=H.length:=by rw [ha .x (by simp)];simp [hx]
 have TZ:=hl.get .x (ic c ve vg) (by simp [jA,ic])
 rw [rJ] at TZ
 have rP:=hl.set (t:=.x) (by simp [jA]) (ic c v' vg)
 rw [rJ] at rP
 have XD:H.length≤G2.length:=by simp at wv;omega
 refine hK v' G2 TZ hr.facts mV XD ⟨ad',v',vg,o',og,rJ,?_,by simpa using XD,rP.congr (fun t=>?_) (fun t _=>rfl),hr,hG.congr ?_ fun j hj=>?_⟩
 ·rw [ace (tv _),ht,aa1 hlen,hH]
 ·cases t with
  | x=>simp [jA,ic]
  | e=>simp [jA]
  | g=>simp [jA]
  | re j=>
    by_cases e:j=i
    ·subst e;simp [jA]
    ·by_cases e2:j < i
     ·simp [jA,e,e2,show j < i + 1 by omega]
     ·simp [jA,e,e2,show ¬ j < i + 1 by omega]
  | rg j=>simp [jA]
 ·rw [ha .g (by simp)];simp
 ·rw [ha (.rg j) (by simp)];simp
theorem iF.af1 {c:Tb} {H G:List aa} {i:Nat} (h:iF c H i 0 0 (i + 1) i G) (hi:i≤100000000) {ve vg:AV} (hX:G[H.length]?=some (ic c ve vg)) {K:AV→List aa→Prop}
 (hK:∀ v' G2,G2[H.length]?=some (ic c ve vg)→(v'.one=true∧v'.val=true∧v'.ab=v'∧v'.cells=[v'])→v'.bb G2.length=true→H.length≤G2.length→iF c H i 0 0 (i + 1) (i + 1) (G2.set H.length (ic c ve v'))→K v' G2) :
 fJ H.length 1 24 .ag vg (.aj 0 [.a7 G.length 0 c.b.length c.b.length]) (G++[hZ (c.gB i) c.b.length 0]) K:=by
 obtain ⟨ad,ve0,vg0,oe,og,hx,hH,hlen,hL,hE,hG⟩:=h
 have R8:=hL.get .x _ rfl
 rw [hx,hX] at R8
 simp only [ic,Option.some.injEq,aa.cells.injEq,List.cons.injEq,true_and,and_true] at R8
 obtain ⟨rfl,rfl⟩:=R8
 have SN:=hL.new hlen (.rg i) (hZ (c.gB i) c.b.length 0)
 have hE1:RV (fun s=>if s=Tg.rg i then G.length else ad s) c.b.length .g .rg vg og i:=hG.congr (by simp) (fun j hj=>by simp;omega)
 have key:=apW (n:=i) (tt:=.g) (rr:=.rg) (nb:=c.b.length) (v:=vg) (fun j=>by simp) SN (by simp;omega) (by simpa [jA] using hE1) (fun j hj=>by
  by_cases e:j=i
  ·simp [e]
  ·simp [e,jA];omega) (by omega) 0 (K:=K) (fun ad' v' o' G2 ha hl hr ht wv mV=>?_)
 ·rw [show (if Tg.rg i=Tg.rg i then G.length else ad (Tg.rg i))=G.length from if_pos rfl] at key
  exact key
 have rJ:ad' .x=H.length:=by rw [ha .x (by simp)];simp [hx]
 have TZ:=hl.get .x (ic c ve vg) (by simp [jA,ic])
 rw [rJ] at TZ
 have rP:=hl.set (t:=.x) (by simp [jA]) (ic c ve v')
 rw [rJ] at rP
 have XD:H.length≤G2.length:=by simp at wv;omega
 refine hK v' G2 TZ hr.facts mV XD ⟨ad',ve,v',oe,o',rJ,?_,by simpa using XD,rP.congr (fun t=>?_) (fun t _=>rfl),hE.congr ?_ fun j hj=>?_,hr⟩
 ·rw [ace (tv _),ht,aa1 hlen,hH]
 ·cases t with
  | x=>simp [jA,ic]
  | e=>simp [jA]
  | g=>simp [jA]
  | rg j=>
    by_cases e:j=i
    ·subst e;simp [jA]
    ·by_cases e2:j < i
     ·simp [jA,e,e2,show j < i + 1 by omega]
     ·simp [jA,e,e2,show ¬ j < i + 1 by omega]
  | re j=>simp [jA]
 ·rw [ha .e (by simp)];simp
 ·rw [ha (.re j) (by simp)];simp
theorem iF.af2 {c:Tb} {H G:List aa} {i k kG:Nat} (h:iF c H i k kG (i + 1) (i + 1) G) (hk:k < c.b.length) :
 ∃ ie ce vg es r,G[H.length]?=some (ic c (.a7 ie 0 (i + 1) ce) vg)∧G[ie]?=some (.cells es)∧es.getD i .any=.a7 r 0 c.b.length c.b.length∧i < es.length∧
  G[r]?=some (hZ (c.eB i) c.b.length k)∧iF c H i (k + 1) kG (i + 1) (i + 1) (G.set r (hZ (c.eB i) c.b.length (k + 1))):=by
 obtain ⟨ad,ve,vg,oe,og,hx,hH,hlen,hL,hE,hG⟩:=h
 have hX:=hL.get .x _ rfl
 rw [hx] at hX
 have hE0:=hE
 rcases hE with ⟨h0,_⟩ | ⟨_,ce,hce,rfl,rfl⟩
 ·omega
 obtain ⟨g1,g2⟩:=qi (ad:=ad) (rr:=.re) (nb:=c.b.length) (cap:=ce) (show i < i + 1 by omega)
 have hr:=hL.get (.re i) _ (if_pos (show i < i + 1 by omega))
 simp only [ac2,↓reduceIte] at hr
 have hct:jA c (i + 1) (i + 1) (.a7 (ad .e) 0 (i + 1) ce) vg (some (.cells (eM ad .re c.b.length (i + 1) ce))) og (fun j=>hZ (c.eB j) c.b.length (if j < i then c.b.length else k)) (fun j=>hZ (c.gB j) c.b.length (if j < i then c.b.length else kG)) (.re i)≠none:=by simp [jA]
 have hs:=hL.set hct (hZ (c.eB i) c.b.length (k + 1))
 refine ⟨ad .e,ce,vg,_,ad (.re i),hX,hL.get .e _ rfl,g1,g2,hr,ad,_,vg,_,og,hx,?_,by simpa using hlen,hs.congr (fun t=>?_) (fun _ _=>rfl),hE0,hG⟩
 ·rw [ace (hL.lo _ hct),hH]
 ·cases t with
  | re j=>
    by_cases e:j=i
    ·subst e;simp [jA]
    ·by_cases e2:j < i
     ·simp [jA,e,e2]
     ·simp [jA,e,show ¬ j < i + 1 by omega]
  | _=>simp [jA]
theorem iF.af3 {c:Tb} {H G:List aa} {i k kE:Nat} (h:iF c H i kE k (i + 1) (i + 1) G) (hk:k < c.b.length) :
 ∃ ig cg ve es r,G[H.length]?=some (ic c ve (.a7 ig 0 (i + 1) cg))∧G[ig]?=some (.cells es)∧es.getD i .any=.a7 r 0 c.b.length c.b.length∧i < es.length∧
  G[r]?=some (hZ (c.gB i) c.b.length k)∧iF c H i kE (k + 1) (i + 1) (i + 1) (G.set r (hZ (c.gB i) c.b.length (k + 1))):=by
 obtain ⟨ad,ve,vg,oe,og,hx,hH,hlen,hL,hE,hG⟩:=h
 have hX:=hL.get .x _ rfl
 rw [hx] at hX
 have hG0:=hG
 rcases hG with ⟨h0,_⟩ | ⟨_,cg,hcg,rfl,rfl⟩
 ·omega
 obtain ⟨g1,g2⟩:=qi (ad:=ad) (rr:=.rg) (nb:=c.b.length) (cap:=cg) (show i < i + 1 by omega)
 have hr:=hL.get (.rg i) _ (if_pos (show i < i + 1 by omega))
 simp only [ac2,↓reduceIte] at hr
 have hct:jA c (i + 1) (i + 1) ve (.a7 (ad .g) 0 (i + 1) cg) oe (some (.cells (eM ad .rg c.b.length (i + 1) cg))) (fun j=>hZ (c.eB j) c.b.length (if j < i then c.b.length else kE)) (fun j=>hZ (c.gB j) c.b.length (if j < i then c.b.length else k)) (.rg i)≠none:=by simp [jA]
 have hs:=hL.set hct (hZ (c.gB i) c.b.length (k + 1))
 refine ⟨ad .g,cg,ve,_,ad (.rg i),hX,hL.get .g _ rfl,g1,g2,hr,ad,ve,_,oe,_,hx,?_,by simpa using hlen,hs.congr (fun t=>?_) (fun _ _=>rfl),hE,hG0⟩
 ·rw [ace (hL.lo _ hct),hH]
 ·cases t with
  | rg j=>
    by_cases e:j=i
    ·subst e;simp [jA]
    ·by_cases e2:j < i
     ·simp [jA,e,e2]
     ·simp [jA,e,show ¬ j < i + 1 by omega]
  | _=>simp [jA]
theorem iF.full {c:Tb} {H G:List aa} {i:Nat} (h:iF c H i c.b.length c.b.length (i + 1) (i + 1) G):iF c H (i + 1) 0 0 (i + 1) (i + 1) G:=by
 obtain ⟨ad,ve,vg,oe,og,hx,hH,hlen,hL,hE,hG⟩:=h
 refine ⟨ad,ve,vg,oe,og,hx,hH,hlen,hL.congr (fun t=>?_) (fun _ _=>rfl),hE,hG⟩
 cases t with
 | re j=>
   by_cases e:j < i + 1
   ·simp [jA,e]
   ·simp [jA,e]
 | rg j=>
   by_cases e:j < i + 1
   ·simp [jA,e]
   ·simp [jA,e]
 | _=>simp [jA]
theorem iF.start (c:Tb) (H:List aa):iF c H 0 0 0 0 0 (H++[ic c .ag .ag]):=by
 refine ⟨fun _=>H.length,.ag,.ag,none,none,rfl,by simp,by simp,⟨fun t o ht=>?_,fun s t hs ht _=>?_,fun _ _=>tv _⟩,.inl ⟨rfl,rfl,rfl⟩,.inl ⟨rfl,rfl,rfl⟩⟩
 ·cases t <;> simp [jA] at ht
  subst ht;simp [ic]
 ·cases s <;> simp [jA] at hs
  cases t <;> simp [jA] at ht
  rfl
theorem iF.x {c:Tb} {H G:List aa} {i kE kG ne ng:Nat} (h:iF c H i kE kG ne ng G):∃ ve vg,G[H.length]?=some (ic c ve vg)∧ve.ab=ve∧vg.ab=vg:=by
 obtain ⟨ad,ve,vg,oe,og,hx,hH,hlen,hL,hE,hG⟩:=h
 have hX:=hL.get .x _ rfl
 rw [hx] at hX
 exact ⟨ve,vg,hX,hE.facts.2.2.1,hG.facts.2.2.1⟩
theorem iF.back {c:Tb} {H G:List aa} {i:Nat} (h:iF c H (i + 1) 0 0 (i + 1) (i + 1) G):iF c H i c.b.length c.b.length (i + 1) (i + 1) G:=by
 obtain ⟨ad,ve,vg,oe,og,hx,hH,hlen,hL,hE,hG⟩:=h
 refine ⟨ad,ve,vg,oe,og,hx,hH,hlen,hL.congr (fun t=>?_) (fun _ _=>rfl),hE,hG⟩
 cases t with
 | re j=>
   by_cases e:j < i + 1
   ·simp [jA,e]
   ·simp [jA,e]
 | rg j=>
   by_cases e:j < i + 1
   ·simp [jA,e]
   ·simp [jA,e]
 | _=>simp [jA]
theorem FF (E:Nat→Bool) (nb m n:Nat):(hZ E nb m).bb n=true:=by
 rw [hZ,aa.bb,a9]
 intro x hx
 obtain ⟨k,_,rfl⟩:=aan.1 hx
 rfl
theorem iF.shut {c:Tb} {H G:List aa} {i kE kG ne ng:Nat} (h:iF c H i kE kG ne ng G):∃ G2,xu H.length G G.length G2∧iF c H i kE kG ne ng G2∧H.length < G.length:=by
 obtain ⟨ad,ve,vg,oe,og,hx,hH,hlen,hL,hE,hG⟩:=h
 have FM:=hL.lt (t:=.x) (by simp [jA])
 rw [hx] at FM
 refine ⟨_,hL.shut fun t o ht=>?_,⟨ad,ve,vg,oe,og,hx,by rw [HO,hH],by rw [uL];exact hlen,hL.kH,hE,hG⟩,FM⟩
 have hrv:∀ {tt rr v oo n},RV ad c.b.length tt rr v oo n→jA c ne ng ve vg oe og (fun j=>hZ (c.eB j) c.b.length (if j < i then c.b.length else kE)) (fun j=>hZ (c.gB j) c.b.length (if j < i then c.b.length else kG)) tt=oo→(∀ j,j < n→jA c ne ng ve vg oe og (fun j=>hZ (c.eB j) c.b.length (if j < i then c.b.length else kE)) (fun j=>hZ (c.gB j) c.b.length (if j < i then c.b.length else kG)) (rr j)≠none)→
  v.bb G.length=true∧∀ o,oo=some o→o.bb G.length=true:=by
  intro tt rr v oo n h h1 h2
  rcases h with ⟨_,rfl,rfl⟩ | ⟨_,cap,hc,rfl,rfl⟩
  ·exact ⟨rfl,fun o h=>by cases h⟩
  ·have:=hL.lt (t:=tt) (by rw [h1];simp)
   refine ⟨by rw [fL];simpa using this,fun o h=>?_⟩
   cases h
   exact uM fun j hj=>hL.lt (h2 j hj)
 obtain ⟨e1,e2⟩:=hrv hE rfl (fun j hj=>by simp [jA,hj])
 obtain ⟨g1,g2⟩:=hrv hG rfl (fun j hj=>by simp [jA,hj])
 cases t with
 | x=>
   cases ht
   simp only [aa.bb,bN,da,bM,aT,qg,e1,g1,acS]
 | e=>exact e2 o ht
 | g=>exact g2 o ht
 | re j=>
   simp only [jA] at ht
   split at ht <;> cases ht
   exact FF _ _ _ _
 | rg j=>
   simp only [jA] at ht
   split at ht <;> cases ht
   exact FF _ _ _ _
theorem Ji (a b c d:Nat):(AV.a7 a b c d).val=true:=rfl
theorem FG (a b c d:Nat):(AV.a7 a b c d).cells.length=1:=rfl
theorem Bc (a b c d:Nat):aU (AV.a7 a b c d)=.a7 a b c d:=rfl
theorem af4 (a b c d e f v:AV):ah [a,b,c,d,e,f] 4 [v]=[a,b,c,d,v,f]:=rfl
theorem af5 (a b c d e f v:AV):ah [a,b,c,d,e,f] 5 [v]=[a,b,c,d,e,v]:=rfl
theorem FH {E:Nat→Bool} {nb m:Nat} (h:m < nb) {r:Nat} {b:Bool} (hb:b=E m) {H:List aa} {K:List aa→Prop} (hK:K (H.set r (hZ E nb (m + 1)))):iS (some (hZ E nb m)) 1 r m (.bool b) H K:=by
 subst hb
 have hl:((List.range nb).map fun k=>AV.bool (decide (k < m) && E k)).length=nb:=by simp
 simp only [hZ,xV]
 refine ⟨rfl,rfl,by rw [hl];show m + 1≤nb;omega,rfl,rfl,?_⟩
 rw [show (AV.bool (E m)).cells.map AV.ab=[.bool (E m)] from rfl,lF _ _ _ (by rw [hl];exact h),OF E h]
 exact hK
theorem FI {l:List Nd} (h:l≠[]):(kx l).ab=.aj 0 (dw l):=by
 cases l with
 | nil=>exact absurd rfl h
 | cons _ _=>rfl
theorem af6 {ps ss:List Int} {A B:List Nd} (hA:A≠[]) (hB:B≠[]) (φ:AV→Prop):cD [.ag,.ag,.ag,.ag,.ag,.ag] [(0,2,eN ps ss),(2,1,kx A),(3,1,kx B)] φ=φ (.agg [.aj 0 (ints ps),.aj 0 (ints ss),.aj 0 (dw A),.aj 0 (dw B),.ag,.ag]):=by
 obtain ⟨q1,q2,q3,q4,q5,q6⟩:=aX ps ss
 obtain ⟨a1,a2,a3,_⟩:=rE A
 obtain ⟨b1,b2,b3,_⟩:=rE B
 have o1:(eN ps ss).cells=[.aj 0 (ints ps),.aj 0 (ints ss)]:=rfl
 simp [cD,iJ,a2,a3,b2,b3,q1,o1,ah,FI hA,FI hB]
 rfl
theorem pS0 (v:AV) (l:List IX):bh (IX.c v::l) (some 0)=none:=rfl
theorem uS0 (env:Env):cL env none=env:=rfl
theorem af7 {c:Tb} (hc:c.Ok) {a b:T} (ha:c.a=cj a 0) (hb:c.b=cj b 0) (H:List aa) :
 jC Tryz.prog 137 [eN c.ps c.ss,a.av,b.av] H fun r H'=>r=.ptr H.length 0∧H'.take H.length=H∧TX c H.length ((c.a.length:Int) - 1) c.b.length H':=by
 have TH:=hc.a.len
 have O8:=hc.b.len
 have wa:c.a.length=wt a:=by rw [ha,fY]
 have wb:c.b.length=wt b:=by rw [hb,fY]
 refine TY.2.VB rfl ?_
 simp only [TY,aH]
 obtain ⟨q1,q2,q3,q4,q5,q6⟩:=aX c.ps c.ss
 simp +contextual only [b7,q1,sZ,Nat.reduceEqDiff,Nat.reduceAdd,↓reduceIte,reduceCtorEq]
 have na:kx []=.ag:=rfl
 refine af (abQ _ a (tv _) [] H (by simp;omega)) ?_
 rintro r G ⟨rfl,rfl⟩
 simp +contextual only [pS0,uS0,sZ,Nat.reduceEqDiff,Nat.reduceAdd,↓reduceIte,reduceCtorEq]
 refine af (abQ _ b (tv _) [] G (by simp;omega)) ?_
 rintro r G' ⟨rfl,rfl⟩
 simp +contextual only [pS0,uS0,List.length_nil,← ha,← hb,af6 hc.a.ne hc.b.ne,qg,sZ,Nat.reduceEqDiff,↓reduceIte]
 refine iT c.a.length (fun i (G:List aa)=>iF c G' i 0 0 i i G) (fun i G=>[(7,.ptr G'.length 0),(8,.int .i64 i)]) (fun i G=>G) _ ⟨iF.start c G',kA _ _ _⟩ fun i G hi hI=>?_
 obtain ⟨ve,vg,hX,hve,hvg⟩:=hI.x
 by_cases h1:i < c.a.length
 rotate_left
 ·have l1:decide ((i:Int) < c.a.length)=false:=decide_eq_false (by omega)
  rw [ic] at hX
  simp +contextual only [l7,hX,fg,l1,List.getD_cons_succ,List.getD_cons_zero,sZ,Nat.reduceEqDiff,Nat.reduceAdd,Nat.reduceLT,↓reduceIte,reduceCtorEq]
  have dP:c.a.length≠0:=fun e=>hc.a.ne (abY.1 e)
  obtain ⟨n,hn⟩:=Nat.exists_eq_succ_of_ne_zero dP
  have me:i=n + 1:=by omega
  subst me
  obtain ⟨G2,s1,s2,s3⟩:=hI.shut
  refine fun _=>⟨G.length,G2,by omega,s1,_,le_refl _,by rw [rf];simpa using s3,rfl,?_,?_⟩
  ·obtain ⟨ad,ve,vg,oe,og,hx,hH,_⟩:=s2;exact hH
  ·have:=s2.back.tb (k:=c.b.length) (tv _) (tv _)
   rw [show (c.a.length:Int) - 1=(n:Int) by omega]
   exact this
 have l1:decide ((i:Int) < c.a.length)=true:=decide_eq_true (by omega)
 have hX':=hX
 rw [ic] at hX'
 have Bn:G'.length < G.length:=(aa0.1 hX).1
 have TZ:(G++[hZ (c.eB i) c.b.length 0])[G'.length]?=some (.cells [.aj 0 (ints c.ps),.aj 0 (ints c.ss),.aj 0 (dw c.a),.aj 0 (dw c.b),ve,vg]):=by rw [zR Bn];exact hX
 simp +contextual only [xT,hX',TZ,hve,Ji,FG,Bc,OG (c.eB i) O8,fg,l1,List.getD_cons_succ,List.getD_cons_zero,sZ,Nat.reduceEqDiff,Nat.reduceAdd,Nat.reduceLT,↓reduceIte]
 intro _
 refine ⟨?_,?_⟩ <;> (
  refine hI.afZ (by omega) hX fun v' G2 hg2 hv' ey xn hO=>?_
  obtain ⟨w1,w2,w3,w4⟩:=hv'
  rw [ic] at hg2
  simp +contextual only [l7,hg2,w1,w2,w3,w4,ey,af4,sZ,Nat.reduceEqDiff,Nat.reduceAdd,Nat.reduceLeDiff,↓reduceIte]
  rw [ic] at hO
  generalize G2.set G'.length (aa.cells [.aj 0 (ints c.ps),.aj 0 (ints c.ss),.aj 0 (dw c.a),.aj 0 (dw c.b),v',vg])=G3 at hO ⊢
  clear hg2 ey xn w1 w2 w3 w4 TZ hX' hX hI Bn
  obtain ⟨ve3,vg3,hX3,akw,af9⟩:=hO.x
  have rP:G'.length < G3.length:=(aa0.1 hX3).1
  have W8:=hX3
  rw [ic] at W8
  have hX4:(G3++[hZ (c.gB i) c.b.length 0])[G'.length]?=some (.cells [.aj 0 (ints c.ps),.aj 0 (ints c.ss),.aj 0 (dw c.a),.aj 0 (dw c.b),ve3,vg3]):=by rw [zR rP];exact hX3
  simp +contextual only [xT,W8,hX4,af9,Ji,FG,Bc,OG (c.gB i) O8,fg,List.getD_cons_succ,List.getD_cons_zero,sZ,Nat.reduceEqDiff,Nat.reduceAdd,Nat.reduceLT,↓reduceIte]
  refine ⟨?_,?_⟩ <;> (
   refine hO.af1 (by omega) hX3 fun v4 G4 hg4 hv4 hb4 hl4 hO4=>?_
   obtain ⟨w1,w2,w3,w4⟩:=hv4
   rw [ic] at hg4
   simp +contextual only [l7,hg4,w1,w2,w3,w4,hb4,af5,sZ,Nat.reduceEqDiff,Nat.reduceAdd,↓reduceIte]
   rw [ic] at hO4
   generalize G4.set G'.length (aa.cells [.aj 0 (ints c.ps),.aj 0 (ints c.ss),.aj 0 (dw c.a),.aj 0 (dw c.b),ve3,v4])=G5 at hO4 ⊢
   clear hg4 hb4 hl4 w1 w2 w3 w4 hX4 W8 hX3 hO rP
   refine iT c.b.length (fun k (G:List aa)=>iF c G' i k k (i + 1) (i + 1) G) (fun k G=>[(7,.ptr G'.length 0),(8,.int .i64 i),(9,.int .i64 k)]) (fun k G=>G) _ ⟨hO4,kA _ _ _⟩ fun k G6 hk hI6=>?_
   clear hO4
   by_cases h2:k < c.b.length
   ·have l2:decide ((k:Int) < c.b.length)=true:=decide_eq_true (by omega)
    obtain ⟨ie,ce,vg6,es,r,x1,x2,x3,x4,x5,x6⟩:=hI6.af2 h2
    have x1':=x1
    rw [ic] at x1'
    have ci:(0:Int)≤i∧(i:Int) < c.a.length:=⟨by omega,by omega⟩
    have ck:(0:Int)≤k∧(k:Int) < c.b.length:=⟨by omega,by omega⟩
    simp +contextual only [x1',l2,fg,List.getD_cons_succ,List.getD_cons_zero,sZ,Nat.reduceEqDiff,Nat.reduceAdd,Nat.reduceLT,↓reduceIte]
    intro _
    refine rF (afW hc (hI6.tb (tv _) (tv _)) ci ck) fun u hu=>?_
    have eu:u=c.eB i k:=by rw [acw,hu,Tb.eB,decide_eq_true_eq];rfl
    simp +contextual only [x1',x2,x3,x5,uJ,acs,zV,List.getD_cons_succ,List.getD_cons_zero,sZ,Nat.reduceEqDiff,Nat.reduceAdd,Nat.reduceLT,↓reduceIte,reduceCtorEq]
    refine ⟨⟨by omega,by omega⟩,x4,ck,FH h2 eu ?_⟩
    generalize G6.set r (hZ (c.eB i) c.b.length (k + 1))=G7 at x6 ⊢
    clear x1 x2 x3 x4 x5 x1' hI6
    obtain ⟨ig,cg,ve7,es7,r7,y1,y2,y3,y4,y5,y6⟩:=x6.af3 h2
    rw [ic] at y1
    simp +contextual only [sZ,Nat.reduceEqDiff,↓reduceIte]
    refine rF (afX hc (x6.tb (Nat.le_succ _) (tv _)) ci ck) fun u2 hu2=>?_
    have eu2:u2=c.gB i k:=by rw [acw,hu2,Tb.gB];simp
    simp +contextual only [y1,y2,y3,y5,uJ,acs,zV,List.getD_cons_succ,List.getD_cons_zero,sZ,Nat.reduceEqDiff,Nat.reduceAdd,Nat.reduceLT,↓reduceIte,reduceCtorEq]
    refine ⟨⟨by omega,by omega⟩,y4,ck,FH h2 eu2 ?_⟩
    simp +contextual only [sZ,Nat.reduceEqDiff,↓reduceIte]
    exact ⟨k + 1,_,⟨h2,y6⟩,by omega,sI (by rw [aq k (by omega)]) rfl⟩
   ·have l2:decide ((k:Int) < c.b.length)=false:=decide_eq_false (by omega)
    obtain ⟨ve6,vg6,x1,_,_⟩:=hI6.x
    rw [ic] at x1
    simp +contextual only [x1,l2,fg,List.getD_cons_succ,List.getD_cons_zero,sZ,Nat.reduceEqDiff,Nat.reduceAdd,Nat.reduceLT,↓reduceIte]
    have Pd:k=c.b.length:=by omega
    subst Pd
    exact fun _=>⟨i + 1,G6,⟨h1,hI6.full⟩,by omega,sI (by rw [aq i (by omega)]) rfl⟩))
end Go.aI
end
section
set_option maxRecDepth 100000
set_option maxHeartbeats 0
namespace Go.aI
open Go Go.Proofs
end Go.aI
end
section
set_option maxRecDepth 100000
namespace Go.aI
open Go Go.Proofs
end Go.aI
end
section
set_option maxRecDepth 100000
namespace Go.aI
open Go Go.Proofs
def keeps (l l':List T):Prop:=∀ i,(l.getD i default).k≠0→l'.getD i default=l.getD i default
end Go.aI
end
section
set_option maxRecDepth 100000
namespace Go.aI
open Go Go.Proofs
end Go.aI
end
section
set_option maxRecDepth 100000
namespace Go.aI
open Go Go.Proofs
end Go.aI
end
section
set_option maxRecDepth 100000
namespace Go.aI
open Go Go.Proofs
mutual
def HQ:T→List Int→List (List Int)
 | .mk _ _ l,p=>p::yT l 0 p
def yT:List T→Nat→List Int→List (List Int)
 | [],_,_=>[]
 | x::r,i,p=>HQ x (p++[(i:Int)])++yT r (i + 1) p
end
mutual
theorem Bd:∀ (t:T) (p:List Int),((HQ t p).length:Int)=t.sz
 | .mk k n l,p=>by simp only [HQ,List.length_cons,T.sz];have:=rH l 0 p;omega
theorem rH:∀ (l:List T) (i:Nat) (p:List Int),((yT l i p).length:Int)=lh l
 | [],_,_=>by simp [yT,lh]
 | x::r,i,p=>by
   simp only [yT,aaj,lh]
   have h1:=Bd x (p++[(i:Int)])
   have h2:=rH r (i + 1) p
   omega
end
theorem Jj:∀ {l:List T} {y:T},y∈l→y.dp≤He l
 | x::r,y,h=>by
   simp only [He]
   rcases Xi.1 h with rfl | h
   ·omega
   ·have:=Jj h;omega
theorem T.ab0 (t:T):t.dp=1 + He t.l:=by cases t;rfl
end Go.aI
end
section
set_option maxRecDepth 100000
namespace Go.aI
open Go Go.Proofs Go.dV
theorem FJ:∀ {l:List T} {y:T},y∈l→y.sz≤lh l
 | x::r,y,h=>by
   have h0:∀ l:List T,0≤lh l:=fun l=>by
    have:=rH l 0 []
    omega
   have h1:0≤x.sz:=by have:=Bd x [];omega
   have:=h0 r
   simp only [lh]
   rcases Xi.1 h with rfl | h
   ·omega
   ·have:=FJ h;omega
theorem OH {t y:T} (h:t.tree=true) (hy:y∈t.l):y.tree=true:=by
 obtain ⟨h1,h2,h3⟩:=(T.dg t).1 h
 have a:=FJ hy
 have b:=Jj hy
 refine (T.dg y).2 ⟨?_,?_,(iw h3).2 y hy⟩
 ·have:t.sz=1 + lh t.l:=by cases t;rfl
  omega
 ·have:=T.ab0 t;omega
end Go.aI
end
section
set_option maxRecDepth 100000
namespace Go.aI
open Go Go.Proofs Go.dV
structure Tt (ps:List Int) (t:T):Prop where
 tree:t.tree=true
 all:v9 (fun n=>0≤n∧n < ps.length) t
theorem Tt.WI {ps:List Int} {t x:T} (h:Tt ps t) (hx:x∈t.l):Tt ps x:=⟨OH h.tree hx,h.all.mem hx⟩
theorem C5 {ps:List Int} {t:T} (h:Tt ps t):W6 ps (cj t 0):=by
 have hw:wt t≤2000:=by have:=lK (l:=[t]) (by simpa using h.tree);simpa [fN] using this
 have fU:=FA (p:=fun x=>Tt ps x∧wt x≤2000) (fun t ht x hx=>⟨ht.1.WI hx,by have:=cu hx;omega⟩) t 0 ⟨h,hw⟩
 have hnp:=(C0 t [] (fun i hi=>by simp at hi)).1
 simp only [List.nil_append,List.length_nil] at hnp
 have hat:∀ i:Nat,i < (cj t 0).length→Tt ps (nt (cj t 0) i)∧wt (nt (cj t 0) i)≤2000:=fun i hi=>by
  have:=fU _ (acP hi)
  unfold nt
  rw [zV,tu,T1 hi];exact this
 refine ⟨fun e=>?_,by rw [fY];omega,hnp,fun i hi=>?_,fun i hi=>?_,fun i hi h2=>(hat i hi).1.all.op h2⟩
 ·have:=fY t 0
  rw [e] at this
  have:=dH t
  simp at *;omega
 ·have h1:=congrArg List.length (hnp i hi).1
  rw [acL] at h1
  have:=gL (nt (cj t 0) i).l
  have:=yf (nt (cj t 0) i)
  have:=(hat i hi).2
  omega
 ·have hs:=((T.dg _).1 (hat i hi).1.tree).2.2
  rw [T.dD] at hs
  simp only [zU,abX,aco,aeO,decide_eq_false_iff_not] at hs
  have:=hs.1.1.2
  omega
theorem ab1 {ps ss:List Int} (hv:Va ps ss) {a b:T} (ha:Tt ps a) (hb:Tt ps b):Tb.Ok ⟨ps,ss,cj a 0,cj b 0⟩:=⟨hv,C5 ha,C5 hb⟩
theorem Jk (t:T):nt (cj t 0) ((cj t 0).length - 1:Int)=t:=by
 have:=(C0 t [] (fun i hi=>by simp at hi)).2
 simp only [List.nil_append,List.length_nil,ach] at this
 have hw:=dH t
 rw [fY]
 rw [show ((wt t:Nat):Int) - 1=((wt t - 1:Nat):Int) by omega]
 exact this
theorem c78 {ps ss:List Int} (hv:Va ps ss) {a b:T} (ha:Tt ps a) (hb:Tt ps b):Pure Tryz.prog 78 [eN ps ss,a.av,b.av] (.bool (E2 ps ss a b)):=by
 refine fun H=>k78.2.B9 rfl ?_
 simp only [k78,aH]
 obtain ⟨q1,q2,q3,q4,q5,q6⟩:=aX ps ss
 simp +contextual only [b7,q1,q4,sZ,Nat.reduceEqDiff,Nat.reduceAdd,↓reduceIte,reduceCtorEq]
 have jF:=ab1 hv ha hb
 refine Kb (tv _) (af7 jF rfl rfl H) ?_
 rintro r G ⟨rfl,hG,ie,ne,ce,ese,ig,ng,cg,esg,h⟩
 have la:(cj a 0).length=wt a:=fY a 0
 have lb:(cj b 0).length=wt b:=fY b 0
 have pa:=dH a
 have pb:=dH b
 have wa:=(C5 ha).len
 have wb:=(C5 hb).len
 obtain ⟨_,r',bs',xb',e1',e2',e3',e4',e5',e6'⟩:=h.rows ((cj a 0).length - 1) ((cj b 0).length - 1) (by omega) (by omega) (by show _ < ((cj b 0).length:Int);omega) (.inr ⟨rfl,by show _ < ((cj b 0).length:Int);omega⟩)
 have w1:IntKind.i64.wrap (((cj a 0).length:Int) - 1)=((cj a 0).length:Int) - 1:=dk _ (by omega)
 have w2:IntKind.i64.wrap (((cj b 0).length:Int) - 1)=((cj b 0).length:Int) - 1:=dk _ (by omega)
 have e1:esg.getD (((cj a 0).length:Int) - 1).toNat .any=.a7 r' 0 (cj b 0).length (cj b 0).length:=e1'
 have hn:((cj a 0).length:Int) - 1 < ng:=h.ng
 simp +contextual only [l7,h.x,h.g,fg,List.getD_cons_succ,List.getD_cons_zero,uJ,acs,w1,w2,e1,e3',e5',sZ,Nat.reduceEqDiff,Nat.reduceAdd,Nat.reduceLT,↓reduceIte,reduceCtorEq]
 refine ⟨⟨by omega,hn⟩,e2',⟨by omega,by omega⟩,e4',H.length,H,tv _,Ay hG rfl,_,le_refl _,rfl,?_,rfl⟩
 congr 1
 rw [acw,e6',iZ]
 show R (gZ ps ss) (nt (cj a 0) _) (nt (cj b 0) _)↔_
 rw [Jk,Jk]
end Go.aI
end
section
set_option maxRecDepth 100000
namespace Go.aI
open Go Go.Proofs Go.dV
end Go.aI
end
section
set_option maxRecDepth 100000
set_option maxHeartbeats 1000000
namespace Go.aI
open Go Go.Proofs Go.dV
theorem agf (s:Sg) (vs:List Int):∀ t:T,t.shaped=true→Pure Tryz.prog 250 [s.av,.aj 0 (ints vs),t.av] (Dd (lf s vs t)):=by
 suffices h:∀ N t,wt t≤N→t.shaped=true→Pure Tryz.prog 250 [s.av,.aj 0 (ints vs),t.av] (Dd (lf s vs t)) from fun t ht=>h _ t (tv _) ht
 intro N
 induction N with
 | zero=>intro t h;have:=dH t;omega
 | succ N ih=>
 intro t hN hs H
 have hk:=iw hs
 have ih:∀ x∈t.l,Pure Tryz.prog 250 [s.av,.aj 0 (ints vs),x.av] (Dd (lf s vs x)):=fun x hx=>ih x (by have:=cu hx;omega) (hk.2 x hx)
 have hn:0≤t.n:=by
  rw [T.dD] at hs
  simp only [zU,abX,aco,decide_eq_false_iff_not] at hs
  have:=hs.1.1.1.1
  omega
 obtain ⟨m,hm⟩:=acE hn
 have em:t.n.toNat=m:=by omega
 refine Zz.2.calls rfl ?_
 simp only [Zz,aH]
 have e:lf s vs t=if t.k=1 then (if (vs.length:Int)≤t.n then none else some (vs.getD t.n.toNat 0)) else if (s.ops.length:Int)≤t.n∨¬ (t.l.length:Int)=((s.ops.getD t.n.toNat default).args.length:Nat) then none else if HJ s vs t.l (s.ops.getD t.n.toNat default).args=true then some (s.ops.getD t.n.toNat default).zF else none:=by
  cases t;rw [lf];rfl
 have fin0 (o:Option Int) (h:lf s vs t=o):bS H.length [.t 6,.t 7] [(6,.int .i64 (o.getD 0)),(7,.bool o.isSome)] H fun r H'=>r=Dd (lf s vs t)∧H'=H:=by
  rw [h];exact Ba (by decide) rfl rfl rfl rfl
 by_cases k1:t.k=1
 ·rw [if_pos k1] at e
  by_cases k2:(vs.length:Int)≤t.n
  ·rw [if_pos k2] at e
   have k2':((vs.length:Int)≤(m:Int))=True:=eq_true (by omega)
   simp +contextual only [aB,k1,hm,k2',aw,sZ,Nat.reduceEqDiff,Nat.reduceAdd,↓reduceIte,reduceCtorEq]
   exact fun _=>fin0 none e
  ·rw [if_neg k2,em] at e
   have k2':((vs.length:Int)≤(m:Int))=False:=eq_false (by omega)
   have k3:m < vs.length:=by omega
   simp +contextual only [aB,k1,hm,k2',k3,aw,sZ,Nat.reduceEqDiff,Nat.reduceAdd,↓reduceIte,reduceCtorEq]
   exact fun _=>fin0 (some _) e
 rw [if_neg k1,em] at e
 by_cases k2:(s.ops.length:Int)≤t.n
 ·rw [if_pos (.inl k2)] at e
  have k2':((s.ops.length:Int)≤(m:Int))=True:=eq_true (by omega)
  simp +contextual only [aB,k1,hm,k2',decide_true,sZ,Nat.reduceEqDiff,Nat.reduceAdd,↓reduceIte,reduceCtorEq]
  exact fin0 none e
 have k2':((s.ops.length:Int)≤(m:Int))=False:=eq_false (by omega)
 have k3:m < s.ops.length:=by omega
 by_cases k4:(t.l.length:Int)=((s.ops.getD m default).args.length:Nat)
 rotate_left
 ·rw [if_pos (.inr k4)] at e
  have k4':(((s.ops.getD m default).args.length:Int)=(t.l.length:Int))=False:=eq_false (fun h=>k4 h.symm)
  simp +contextual only [aB,k1,hm,k2',k3,k4',aw,decide_false,decide_true,not_false_eq_true,sZ,Nat.reduceEqDiff,Nat.reduceAdd,↓reduceIte,reduceCtorEq]
  exact fin0 none e
 rw [if_neg (by omega)] at e
 have k4':(((s.ops.getD m default).args.length:Int)=(t.l.length:Int))=True:=eq_true k4.symm
 simp +contextual only [aB,k1,hm,k2',k3,k4',aw,decide_false,not_true_eq_false,sZ,Nat.reduceEqDiff,Nat.reduceAdd,↓reduceIte,reduceCtorEq]
 generalize ha:(s.ops.getD m default).args=as_ at *
 refine ay t.l.length (fun i=>HJ s vs (t.l.drop i) (as_.drop i)=HJ s vs t.l as_) (fun i=>[(1,.aj 0 (ints vs)),(3,.ai s.av),(5,.ai t.av),(8,.int .i64 i)]) (fun _=>H) ⟨rfl,aA _ _ _⟩ fun i hi hI=>?_
 by_cases hl:i < t.l.length
 ·have f1:decide ((i:Int) < t.l.length)=true:=decide_eq_true (by omega)
  have mW:i < as_.length:=by omega
  have dr (h:decide (lf s vs (t.l.getD i default)=some (as_.getD i 0))=false):lf s vs t=none:=by
   rw [tg hl,h,afN] at hI
   rw [e,← hI];rfl
  simp +contextual only [aB,f1,hl,sZ,Nat.reduceEqDiff,↓reduceIte]
  refine fun _=>aF (ih _ (uH hl)) ?_
  cases ho:lf s vs (t.l.getD i default) with
  | none=>
    simp +contextual only [Dd,aex,Option.getD_none,sZ,Nat.reduceEqDiff,Nat.reduceAdd,Nat.reduceLT,↓reduceIte,reduceCtorEq]
    exact fin0 none (dr (by rw [ho];rfl))
  | some z=>
    by_cases hz:z=as_.getD i 0
    ·have ym:(z=as_.getD i 0)=True:=eq_true hz
     simp +contextual only [aB,Dd,adQ,Option.getD_some,hm,k3,ha,mW,ym,not_true_eq_false,decide_false,sZ,Nat.reduceEqDiff,Nat.reduceAdd,Nat.reduceLT,↓reduceIte]
     refine ⟨i + 1,⟨hl,?_⟩,by omega,aD (by rw [aq i (by omega)]) rfl⟩
     rw [tg hl,ho,hz,decide_eq_true rfl,acY] at hI
     exact hI
    ·have ym:(z=as_.getD i 0)=False:=eq_false hz
     simp +contextual only [aB,Dd,adQ,Option.getD_some,hm,k3,ha,mW,ym,not_false_eq_true,decide_true,sZ,Nat.reduceEqDiff,Nat.reduceAdd,Nat.reduceLT,↓reduceIte,reduceCtorEq]
     exact fin0 none (dr (by rw [ho];exact decide_eq_false fun h=>hz (Option.some.inj h)))
 ·have f1:decide ((i:Int) < t.l.length)=false:=decide_eq_false (by omega)
  rw [aaN (by omega)] at hI
  have hI':HJ s vs t.l as_=true:=hI.symm.trans rfl
  rw [if_pos hI'] at e
  simp +contextual only [aB,f1,hm,k3,sZ,Nat.reduceEqDiff,↓reduceIte,reduceCtorEq]
  exact fun _=>fin0 (some _) e
structure SmG (s:Sg):Prop where
 r:zQ s
 o:∀ o∈s.ops,On o
 so:∀ x∈s.aS,x.size≤200
 h1:s.ops.length≤40
 h2:s.aS.length≤40
def oH (s:Sg) (vs:List Int) (t:T):Bool:=t.tree && (lf s vs t).isSome
open Classical in
theorem ab2 {s:Sg} (h:SmG s) {vs:List Int} (hv:ja s vs) (t:T):Pure Tryz.prog 242 [s.av,.aj 0 (ints vs),t.av] (.tuple [.int .i64 (if oH s vs t=true then (lf s vs t).getD 0 else 0),.bool (oH s vs t)]):=by
 have c248:Pure Tryz.prog 248 [s.av,.aj 0 (ints vs),t.av] (.tuple [.int .i64 (if oH s vs t=true then (lf s vs t).getD 0 else 0),.int .i64 (if oH s vs t=true then 0 else 4)]):=by
  refine fun H=>Zx.2.calls rfl ?_
  simp only [Zx,aH]
  have ab3:=abL s h.o h.so h.h1 h.h2
  rw [decide_eq_true h.r] at ab3
  have ab4:=Oo s vs
  rw [decide_eq_true hv] at ab4
  simp +contextual only [aB,sZ,Nat.reduceEqDiff,Nat.reduceAdd,↓reduceIte,reduceCtorEq]
  refine ae ab3 ?_
  simp +contextual only [aB,sZ,Nat.reduceEqDiff,Nat.reduceAdd,↓reduceIte]
  refine ae ab4 ?_
  simp +contextual only [sZ,Nat.reduceEqDiff,Nat.reduceAdd,↓reduceIte]
  refine ae (Tr t) ?_
  cases ht:t.tree with
  | false=>
    have e:oH s vs t=false:=by rw [oH,ht];rfl
    rw [e]
    simp +contextual only [sZ,Nat.reduceEqDiff,↓reduceIte,reduceCtorEq]
    exact Ba (by decide) rfl rfl rfl rfl
  | true=>
    have e:oH s vs t=(lf s vs t).isSome:=by rw [oH,ht];rfl
    rw [e]
    simp +contextual only [aB,sZ,Nat.reduceEqDiff,Nat.reduceAdd,↓reduceIte]
    refine ae (agf s vs t ((T.dg _).1 ht).2.2) ?_
    cases ho:lf s vs t with
    | none=>
      simp +contextual only [Dd,aex,sZ,Nat.reduceEqDiff,Nat.reduceAdd,Nat.reduceLT,↓reduceIte,reduceCtorEq]
      exact Ba (by decide) rfl rfl rfl rfl
    | some z=>
      simp +contextual only [Dd,adQ,Option.getD_some,sZ,Nat.reduceEqDiff,Nat.reduceAdd,Nat.reduceLT,↓reduceIte,reduceCtorEq]
      exact Ba (by decide) rfl rfl rfl rfl
 refine fun H=>Zt.2.calls rfl ?_
 simp only [Zt,aH]
 simp +contextual only [aB,sZ,Nat.reduceEqDiff,Nat.reduceAdd,↓reduceIte,reduceCtorEq]
 refine ae c248 ?_
 cases oH s vs t <;> simp +contextual only [sZ,Nat.reduceEqDiff,Nat.reduceAdd,Nat.reduceLT,↓reduceIte,reduceCtorEq,Int.reduceEq] <;> exact Ba (by decide) rfl rfl rfl rfl
theorem ab5 {s:Sg} (h:SmG s) {vs:List Int} (hv:ja s vs) (a b:T):Pure Tryz.prog 234 [s.av,.aj 0 (ints vs),a.av,b.av] (.bool (dt s vs a b)):=by
 refine fun H=>Zo.2.calls rfl ?_
 simp only [Zo,aH]
 have ea:dt s vs a b=(oH s vs a && (oH s vs b && decide ((if oH s vs a=true then (lf s vs a).getD 0 else 0)=(if oH s vs b=true then (lf s vs b).getD 0 else 0)))):=by
  unfold dt oH
  cases a.tree <;> cases b.tree <;> cases (lf s vs a).isSome <;> cases (lf s vs b).isSome <;> rfl
 rw [ea]
 have c1:=ab2 h hv a
 have c2:=ab2 h hv b
 generalize (if oH s vs a=true then (lf s vs a).getD 0 else 0)=x at *
 generalize (if oH s vs b=true then (lf s vs b).getD 0 else 0)=y at *
 generalize oH s vs a=u at *
 generalize oH s vs b=v at *
 simp +contextual only [aB,sZ,Nat.reduceEqDiff,Nat.reduceAdd,↓reduceIte,reduceCtorEq]
 refine ae c1 ?_
 simp +contextual only [aB,sZ,Nat.reduceEqDiff,Nat.reduceAdd,Nat.reduceLT,↓reduceIte]
 refine ae c2 ?_
 cases u <;> cases v <;> simp +contextual only [sZ,Nat.reduceEqDiff,Nat.reduceAdd,Nat.reduceLT,↓reduceIte,reduceCtorEq] <;> exact aM rfl rfl
theorem agh (l:List Int) (n:Int):Pure Tryz.prog 236 [.aj 0 (ints l),.int .i64 n] (.bool (decide (n∈l))):=by
 refine fun H=>Zq.2.calls rfl ?_
 simp only [Zq,aH]
 simp +contextual only [sZ,Nat.reduceEqDiff,Nat.reduceAdd,↓reduceIte,reduceCtorEq]
 refine ay l.length (fun i=>∀ j,j < i→l.getD j 0≠n) (fun i=>[(0,.aj 0 (ints l)),(1,.int .i64 n),(5,.int .i64 i)]) (fun _=>H) ⟨fun j hj=>(by cases hj),aA _ _ _⟩ fun i hi hI=>?_
 by_cases hl:i < l.length
 ·have f1:decide ((i:Int) < l.length)=true:=decide_eq_true (by omega)
  simp +contextual only [f1,aR,zV,sZ,Nat.reduceEqDiff,↓reduceIte,reduceCtorEq]
  refine fun _=>⟨⟨by omega,by omega⟩,fun h=>aM rfl (by rw [decide_eq_true (h ▸ bP hl)]),fun h=>⟨i + 1,⟨hl,fun j hj=>?_⟩,by omega,aD (by rw [aq i (by omega)]) rfl⟩⟩
  by_cases e:j=i
  ·subst e;exact h
  ·exact hI j (by omega)
 ·have f1:decide ((i:Int) < l.length)=false:=decide_eq_false (by omega)
  simp +contextual only [f1,sZ,Nat.reduceEqDiff,↓reduceIte,reduceCtorEq]
  refine fun _=>aM rfl ?_
  rw [decide_eq_false]
  intro hm
  obtain ⟨j,hj,e⟩:=jz hm
  exact hI j (by omega) e
end Go.aI
end
section
set_option maxRecDepth 100000
set_option maxHeartbeats 1000000
namespace Go.aI
open Go Go.Proofs Go.dV
theorem agi (t:Ty) (e:ju):Pure Tryz.prog 180 ([e.av]++[.ai t.av]) (.bool (!jd t.s e)):=by
 refine fun H=>P5.2.calls rfl ?_
 simp only [P5,aH]
 obtain ⟨e1,e2,e3,e4,e5,e6⟩:=Ty.facts t
 obtain ⟨g1,g2,g3,g4,g5,g6⟩:=e.facts
 simp +contextual only [aB,g1,g4,Dc,s9,sZ,Nat.reduceEqDiff,Nat.reduceAdd,↓reduceIte,reduceCtorEq]
 refine ae (afP t.s e) ?_
 simp +contextual only [sZ,↓reduceIte,reduceCtorEq]
 exact aM rfl rfl
theorem ab6 (g:Nat) (cap:List AV) (cr:cap.map AV.ab=cap) (p:ju→Bool) (l:List ju) (hf:∀ x∈l,Pure Tryz.prog g ([x.av]++cap) (.bool (p x))):Pure Tryz.prog 161 [.aj 0 (nZ l),.fn (.func g) [] cap] (.int .i64 (mS p l 0)):=by
 refine fun H=>J2.2.calls rfl ?_
 simp only [J2,aH]
 simp +contextual only [eL,sZ,Nat.reduceEqDiff,Nat.reduceAdd,↓reduceIte,reduceCtorEq]
 intro hl
 refine ay l.length (fun i=>mS p (l.drop i) i=mS p l 0) (fun i=>[(0,.aj 0 (nZ l)),(1,.fn (.func g) [] cap),(7,.int .i64 l.length),(8,.int .i64 i)]) (fun _=>H) ⟨rfl,aA _ _ _⟩ fun i hi hI=>?_
 obtain ⟨e1,e2,e3,e4,e5,e6⟩:=ju.facts (l.getD i default)
 simp +contextual only [cr,lL,idx_eq,s9,e4,sZ,Nat.reduceEqDiff,Nat.reduceAdd,↓reduceIte,reduceCtorEq]
 refine ⟨fun aP=>?_,fun iq=>?_⟩
 ·have aP:=bA aP
  rw [qd aP] at hI
  refine ⟨aP,ae (hf _ (uH aP)) ?_⟩
  cases hb:p (l.getD i default) with
  | true=>
    rw [if_pos hb] at hI
    simp +contextual only [sZ,Nat.reduceEqDiff,↓reduceIte,reduceCtorEq]
    exact aM rfl (by rw [← hI])
  | false=>
    rw [if_neg (by rw [hb];simp)] at hI
    simp +contextual only [sZ,Nat.reduceEqDiff,↓reduceIte,reduceCtorEq]
    exact ⟨i + 1,⟨aP,hI⟩,by omega,aD (by rw [aq i (by omega)]) rfl⟩
 ·rw [aaN (cc iq)] at hI
  exact aM rfl (by rw [← hI];rfl)
theorem agj (g:Nat) (cap:List AV) (cr:cap.map AV.ab=cap) (p:ju→Bool) (l:List ju) (hf:∀ x∈l,Pure Tryz.prog g ([x.av]++cap) (.bool (p x))):Pure Tryz.prog 179 [.aj 0 (nZ l),.fn (.func g) [] cap] (.bool (l.any p)):=by
 refine fun H=>P4.2.calls rfl ?_
 simp only [P4,aH]
 simp +contextual only [sZ,Nat.reduceEqDiff,Nat.reduceAdd,↓reduceIte,reduceCtorEq]
 refine ae (ab6 g cap cr p l hf) ?_
 simp +contextual only [sZ,↓reduceIte,reduceCtorEq]
 refine aM rfl ?_
 congr 1
 rw [acw,age]
 simpa using CO l 0
def HR (t:Ty):Bool:=jL t.s && (decide ((t.es.length:Int)≤400) && t.es.all (jd t.s))
theorem agk (t:Ty):Pure Tryz.prog 126 [t.av] (.bool (HR t)):=by
 refine fun H=>PW.2.calls rfl ?_
 simp only [PW,aH]
 obtain ⟨e1,e2,e3,e4,e5,e6⟩:=Ty.facts t
 simp +contextual only [aB,e1,Dc,sZ,Nat.reduceEqDiff,Nat.reduceAdd,↓reduceIte]
 refine ae (c81 t.s) ?_
 cases h:jL t.s with
 | false=>
   rw [if_neg (by simp)]
   simp +contextual only [sZ,Nat.reduceEqDiff,↓reduceIte,reduceCtorEq,Int.reduceEq]
   exact aM rfl (by rw [HR,h];rfl)
 | true=>
 rw [if_pos rfl]
 by_cases h2:(t.es.length:Int)≤400
 ·have f:(400 < (t.es.length:Int))=False:=eq_false (by omega)
  simp +contextual only [Lh,eL,f,decide_false,sZ,Nat.reduceEqDiff,Nat.reduceAdd,↓reduceIte]
  refine fun _=>ae (agj 180 [.ai t.av] rfl _ t.es fun x _=>agi t x) ?_
  simp +contextual only [sZ,↓reduceIte,reduceCtorEq]
  refine aM rfl ?_
  rw [HR,h,decide_eq_true h2]
  congr 1
  rw [acw]
  simp
 ·have f:(400 < (t.es.length:Int))=True:=eq_true (by omega)
  simp +contextual only [Lh,eL,f,decide_true,sZ,Nat.reduceEqDiff,↓reduceIte,reduceCtorEq]
  exact fun _=>aM rfl (by rw [HR,h,decide_eq_false h2];rfl)
def Be (t:Ty):Int:=if HR t=true then 0 else 5
theorem c62 (t:Ty):Pure Tryz.prog 62 [t.av] (.int .i64 (Be t)):=by
 refine fun H=>k62.2.calls rfl ?_
 simp only [k62,aH]
 obtain ⟨e1,e2,e3,e4,e5,e6⟩:=Ty.facts t
 simp +contextual only [e1,e4,fw,sZ,Nat.reduceEqDiff,Nat.reduceAdd,↓reduceIte]
 refine ae (agk t) ?_
 cases h:HR t with
 | true=>simp +contextual only [sZ,↓reduceIte,reduceCtorEq];exact aM rfl (by rw [Be,h];rfl)
 | false=>simp +contextual only [sZ,↓reduceIte,reduceCtorEq];exact aM rfl (by rw [Be,h];rfl)
theorem C6 {s:Sg} {vs:List Int}:∀ (N:Nat) (t:T),wt t≤N→t.shaped=true→(lf s vs t).isSome=true→v9 (fun n=>0≤n∧n < s.ops.length) t
 | 0,t,h,_,_=>by have:=dH t;omega
 | N + 1,.mk k n l,h,hs,ho=>by
   have hk:=(iw hs).2
   have hn:0≤n:=by
    rw [T.dD] at hs
    simp only [zU,abX,aco,decide_eq_false_iff_not] at hs
    exact Int.not_lt.1 hs.1.1.1.1
   simp only [lf] at ho
   by_cases Nr:k=1
   ·subst Nr
    have Bn:l=[]:=by
     rw [T.dD] at hs
     simp only [zU,abX,aco,aeO,decide_eq_false_iff_not] at hs
     rcases hs.1.1.1.2 with h | h
     ·exact absurd rfl h
     ·exact abY.1 (Nat.eq_zero_of_not_pos h)
    subst Bn
    exact .mk _ _ _ (fun h=>absurd h (by decide)) (fun x hx=>by cases hx)
   ·rw [if_neg Nr] at ho
    split at ho
    ·cases ho
    ·rename_i h1
     split at ho
     ·rename_i h2
      have key:∀ (l:List T) (a:List Int),HJ s vs l a=true→∀ x∈l,(lf s vs x).isSome=true:=by
       intro l
       induction l with
       | nil=>intro a _ x hx;cases hx
       | cons y r Ie=>
         intro a h x hx
         simp only [HJ,zU,decide_eq_true_eq] at h
         rcases Xi.1 hx with rfl | hx
         ·rw [h.1];rfl
         ·exact Ie _ h.2 x hx
      exact .mk _ _ _ (fun _=>⟨hn,by omega⟩) (fun x hx=>C6 N x (by have:=cu (a:=.mk k n l) hx;omega) (hk x hx) (key l _ h2 x hx))
     ·cases ho
theorem OI {t:Ty} (h:Be t=0):zM t:=by
 unfold Be at h
 split at h
 ·rename_i hb
  unfold HR at hb
  simp only [zU,decide_eq_true_eq] at hb
  obtain ⟨h1,h2,h3⟩:=hb
  refine ⟨?_,fun e he ps qB=>?_⟩
  ·unfold jL at h1
   simp only [zU,decide_eq_true_eq] at h1
   omega
  ·have:=aaO.1 h3 e he
   unfold jd at this
   simp only [zU,decide_eq_true_eq] at this
   obtain ⟨_,j2,_,_,j5,j6,_⟩:=this
   have two:∀ a b:T,dt t.s e.vs a b=true→(a.tree=true∧v9 (fun n=>0≤n∧n < ps.length) a)∧b.tree=true∧v9 (fun n=>0≤n∧n < ps.length) b:=fun a b hp=>by
    unfold dt at hp
    simp only [zU] at hp
    rw [qB]
    exact ⟨⟨hp.1,C6 _ a (tv _) ((T.dg a).1 hp.1).2.2 hp.2.2.1⟩,hp.2.1,C6 _ b (tv _) ((T.dg b).1 hp.2.1).2.2 hp.2.2.2.1⟩
   have all (x:T) (hx:x∈e.a::e.rest):x.tree=true∧v9 (fun n=>0≤n∧n < ps.length) x:=by
    rcases Xi.1 hx with rfl | hx
    ·exact (two _ _ j5).1
    ·rcases Xi.1 hx with rfl | hx
     ·exact (two _ _ j5).2
     ·obtain ⟨c,hc,hx⟩:=acC.1 hx
      have hp:=two _ _ (aaO.1 j6 c hc)
      rcases Xi.1 hx with rfl | hx
      ·exact hp.1
      ·rw [aat.1 hx];exact hp.2
   exact ⟨by omega,fun x hx=>(all x hx).1,fun x hx=>(all x hx).2⟩
 ·cases h
end Go.aI
end
section
set_option maxRecDepth 100000
set_option maxHeartbeats 0
namespace Go.aI
open Go Go.Proofs
end Go.aI
end
section
set_option maxRecDepth 100000
set_option maxHeartbeats 1000000
namespace Go.aI
open Go Go.Proofs Go.dV
section
variable {e id i n cap:Nat}
end
end Go.aI
end
