/- Part 12 of 19 of the proof. -/
import Derived.Test.YtljchnfgjdjobaaGreatUak
import Derived.Test.YtljchnfgjdjobaaGreatUag
import Derived.KernelRfl
set_option linter.unusedVariables false
set_option linter.unusedSimpArgs false
set_option linter.defProp false
set_option linter.unusedSectionVars false
section
set_option maxRecDepth 100000
namespace Go.aI
open Go Go.Proofs Go.eJ
def zI:AV:=.int .i64 0
theorem Bz:jF 1 (bP zI):=⟨rfl,rfl,rfl,rfl⟩
theorem oD (l:List Int):∀ x∈ints l,jF 1 x:=by
 intro x hx;obtain ⟨n,_,rfl⟩:=aaq.1 hx;exact ⟨rfl,rfl,rfl,rfl⟩
theorem pk:∀ l:List Int,flat (ints l)=ints l
 | []=>rfl
 | x::r=>by
   have:=pk r
   show AV.cells (.int .i64 x)++flat (ints r)=_
   rw [this];rfl
theorem Qh {l:List Int} (h:l≠[]):ints l≠[]:=by cases l with | nil=>exact absurd rfl h | cons v r=>simp [ints]
theorem L6 (o:Nat) (v:Int) (r:List Int) (φ:AV→Prop):dk 0 false (.ap o (ints (v::r))) φ=φ (.bool false):=by simp [dk,isNil,ints]
theorem L7 (φ:AV→Prop):dk 0 false .ag φ=φ (.bool true):=by simp [dk,isNil]
theorem HF {esz bytes:Nat} {z:AV} (hz:jF esz (bP z)) {id o:Nat} {G:List aa} (bm:G[id]?=some (.cells [])) (ys:List AV) (hy:ys≠[]) (qR:∀ x∈ys,jF esz x) (hb:ys.length * bytes≤140737488355328) {base:Nat} (hG:base≤G.length) {K:AV→List aa→Prop}
 (hK:∀ v' G',RO z base v' ys G'→G'.take base=G.take base→G.length≤G'.length→K v' G'):cS esz bytes z (.aW id 0 0 0) (.ap o ys) G K:=by
 obtain ⟨f1,f2,f3,f4⟩:=jF.flat qR
 have lB:∀ n m,aj n (cP z m)=true:=fun n m=>(jF.flat (kA hz m)).2.2.1 n
 have hl:0 < ys.length:=aeQ.2 hy
 unfold cS
 simp only [dn,bm]
 refine ⟨fun y h=>⟨(qR y h).len,(qR y h).one⟩,by simpa using hb,oN _,by simp,fun h=>absurd h (by omega),fun _ cap hc _=>⟨?_,?_⟩⟩
 ·simp only [aeJ,List.drop_zero,List.take_nil,List.map_nil,List.nil_append,f2,bI];exact ⟨f3 _,lB _ _⟩
 ·simp only [aeJ,List.drop_zero,List.take_nil,List.map_nil,List.nil_append,f2,aaQ]
  refine hK _ _ (.inr ⟨G.length,cap,hG,rfl,?_,by omega,hy⟩) ?_ (by simp)
  ·simp [bw]
  ·rw [aaA hG]
theorem YM (l:List Int) (H:List aa) (hb:l.length * 8≤140737488355328):aw Tryz.prog 118 [bt l] H fun r H'=>RO zI H.length r (ints l) H'∧H'.take H.length=H∧H.length≤H'.length:=by
 refine RG.2.calls rfl ?_
 simp only [RG,aJ]
 cases l with
 | nil=>
   simp +contextual only [bt,L7,sZ,Nat.reduceAdd,↓reduceIte,reduceCtorEq]
   exact ba H.length (oN _) (by rw [aA,if_pos rfl];rfl) ⟨.inl ⟨rfl,by rw [aA,if_pos rfl]⟩,by simp,by simp⟩
 | cons v r=>
   simp +contextual only [bt,L6,vF,tZ,sZ,Nat.reduceEqDiff,Nat.reduceAdd,↓reduceIte,reduceCtorEq]
   refine ⟨rfl,HF Bz (by simp [flat]) (ints (v::r)) (Qh (by simp)) (oD _) (by rw [ay];exact hb) (base:=H.length) (by simp) fun v' G' hR hG hl=>?_⟩
   obtain ⟨o1,o2,o3,o4⟩:=hR.one
   simp +contextual only [o3,sZ,↓reduceIte,reduceCtorEq]
   have wA:H.length≤G'.length:=by simp at hl;omega
   refine ba G'.length wA (by rw [aA,if_pos rfl];exact hR.a9 (oN _)) ?_
   rw [aA,if_pos rfl,aaC]
   exact ⟨hR,by rw [hG];simp,wA⟩
theorem BA (l:List Int) (cap:Nat):bw zI (ints l) cap=.cells (ints l++cP zI (cap - l.length)):=by rw [bw,pk,ay]
theorem HG {l:List Int} {cap i:Nat} (h:i < l.length) (φ:AV→Prop):cV (some (bw zI (ints l) cap)) none (i * 1) φ=φ (.int .i64 (l.getD i 0)):=by
 have e:(ints l++cP zI (cap - l.length)).getD (i * 1) .any=.int .i64 (l.getD i 0):=by
  rw [aaW,oM,tK (by rw [ay];exact h)]
  simp [ints,h]
 have hl:=ay l
 simp only [BA,cV,e,ow,eq_iff_iff,aap,hl]
 constructor
 ·exact fun h=>h.2
 ·exact fun h2=>⟨by omega,h2⟩
theorem L8 {l:List Int} {cap i:Nat} (h:i < l.length) (n:Int) (id:Nat) (H:List aa) (K:List aa→Prop) (hK:K (H.set id (bw zI (ints (l.set i n)) cap))):iw (some (bw zI (ints l) cap)) 1 id (i * 1) (.int .i64 n) H K:=by
 have e:ints (l.set i n)=(ints l).set i (.int .i64 n):=by simp [ints,adA]
 rw [e] at hK
 refine Bt (esz:=1) (c:=0) (oD l) (by rw [ay];exact h) (by decide) (v:=.int .i64 n) (y:=.int .i64 n) rfl rfl rfl ?_ hK
 simp [ints,h,AV.cells,AV.ab]
structure Tu (l:List Int) (i:Nat) (m:List Int):Prop where
 len:m.length=l.length
 get:∀ j,j < l.length→m.getD j 0=if j < i∨l.length - 1 - j < i then l.getD (l.length - 1 - j) 0 else l.getD j 0
theorem zX {l m:List Int} (h:m.length=l.length) (hg:∀ j,j < l.length→m.getD j 0=l.getD j 0):m=l:=by
 apply adF h
 intro j h1 h2
 have:=hg j h2
 simpa [h1,h2] using this
theorem Tu.done {l m:List Int} {i:Nat} (h:Tu l i m) (hi:l.length≤2 * i + 1):m=l.reverse:=by
 refine zX (by simp [h.len]) fun j hj=>?_
 simp at hj
 rw [h.get j hj]
 have e:l.reverse.getD j 0=l.getD (l.length - 1 - j) 0:=by
  have h1:l.length - 1 - j < l.length:=by omega
  simp [List.getElem?_reverse hj]
 rw [e]
 split
 ·rfl
 ·rename_i hc
  have:l.length - 1 - j=j:=by omega
  rw [this]
theorem l7 {l:List Int} {i j:Nat} {x:Int} (hi:i < l.length):(l.set i x).getD j 0=if j=i then x else l.getD j 0:=by
 simp only [oM,abc]
 by_cases h:i=j
 ·subst h;simp [hi]
 ·rw [if_neg h,if_neg (fun e=>h e.symm)]
theorem Tu.step {l m:List Int} {i k:Nat} (h:Tu l i m) (hk:l.length=i + k + 1) (aX:i < k):Tu l (i + 1) ((m.set i (m.getD k 0)).set k (m.getD i 0)):=by
 refine ⟨by simp [h.len],fun j hj=>?_⟩
 have hl:=h.len
 rw [l7 (by simp;omega),l7 (by omega)]
 by_cases h1:j=k
 ·subst h1
  rw [if_pos rfl,h.get i (by omega),if_neg (by omega),if_pos (by omega)]
  congr 1;omega
 ·rw [if_neg h1]
  by_cases h2:j=i
  ·subst h2
   rw [if_pos rfl,h.get k (by omega),if_neg (by omega),if_pos (by omega)]
   congr 1;omega
  ·rw [if_neg h2,h.get j hj]
   by_cases h3:j < i∨l.length - 1 - j < i
   ·rw [if_pos h3,if_pos (by omega)]
   ·rw [if_neg h3,if_neg (by omega)]
theorem F8 {H:List aa} {id:Nat} {o:aa} (h:H[id]?=some o):H.set id o=H:=by
 apply aaZ
 intro j
 rw [abc]
 split
 ·rename_i e;subst e
  have:=(aaz.1 h).1
  rw [if_pos this,h]
 ·rfl
theorem YN (l:List Int) (base:Nat) (v:AV) (H:List aa) (hR:RO zI base v (ints l) H) (hb:l.length * 8≤140737488355328):aw Tryz.prog 199 [v] H fun r H'=>r=.tuple []∧RO zI base v (ints l.reverse) H'∧H'.take base=H.take base∧H'.length=H.length:=by
 refine RK.2.calls rfl ?_
 simp only [RK,aJ]
 obtain ⟨o1,o2,o3,o4⟩:=hR.one
 simp +contextual only [o3,hR.len,hR.aL,ay,sZ,Nat.reduceEqDiff,Nat.reduceAdd,↓reduceIte,reduceCtorEq]
 rcases hR with ⟨e,rfl⟩ | ⟨id,cap,bm,rfl,hg,cE,dG⟩
 ·have e:l=[]:=abL.1 e
  subst e
  refine aC 0 (fun _=>True) (fun _=>[(0,.ag),(2,.int .i64 0),(3,.int .i64 (-1))]) (fun _=>H) ⟨trivial,aD (by rfl) rfl⟩ fun i hi _=>?_
  simp +contextual only [sZ,Nat.reduceEqDiff,↓reduceIte,reduceCtorEq,Int.reduceLT]
  exact ⟨H.length,oN _,[],trivial,rfl,rfl,.inl ⟨rfl,rfl⟩,by simp,by simp⟩
 ·rw [ay] at cE ⊢
  have e1:IntKind.i64.wrap ((l.length:Int) - 1)=(l.length:Int) - 1 - (0:Nat):=by rw [cR _ (by omega)];omega
  rw [e1]
  refine aM l.length (fun i m=>Tu l i m) (fun i m=>[(0,.aW id 0 l.length cap),(2,.int .i64 i),(3,.int .i64 ((l.length:Int) - 1 - i))]) (fun i m=>H.set id (bw zI (ints m) cap)) l ⟨⟨rfl,fun j hj=>by simp⟩,aD rfl ?_⟩ fun i m hi hI=>?_
  ·exact (F8 hg).symm
  have vt:=(aaz.1 hg).1
  have hm:=hI.len
  simp +contextual only [sZ,Nat.reduceEqDiff,↓reduceIte,reduceCtorEq]
  refine ⟨fun aX=>?_,fun jV=>?_⟩
  ·obtain ⟨k,hk⟩:∃ k,l.length=i + k + 1:=⟨l.length - i - 1,by omega⟩
   have e2:(l.length:Int) - 1 - i=(k:Nat):=by omega
   rw [e2] at aX ⊢
   have RT:k < m.length:=by omega
   have hi1:i < m.length:=by omega
   simp +contextual only [lC,tO vt,HG RT,HG hi1,sZ,Nat.reduceEqDiff,↓reduceIte,reduceCtorEq]
   refine ⟨by omega,by omega,by omega,L8 hi1 _ _ _ _ ?_⟩
   have ul:k < (m.set i (m.getD k 0)).length:=by simp;omega
   simp +contextual only [lC,tO vt,ad5,sZ,Nat.reduceEqDiff,↓reduceIte,reduceCtorEq]
   refine ⟨by omega,L8 ul _ _ _ _ ?_⟩
   simp +contextual only [ad5,sZ,Nat.reduceEqDiff,↓reduceIte,reduceCtorEq]
   have hw:IntKind.i64.wrap ((k:Int) - 1)=(l.length:Int) - 1 - ((i + 1:Nat):Int):=by rw [cR _ (by omega)];omega
   exact ⟨i + 1,_,⟨by omega,hI.step hk (by omega)⟩,by omega,aD (by rw [hw,au i (by omega)]) rfl⟩
  ·have hd:=hI.done (by omega)
   subst hd
   refine ⟨H.length,oN _,[],trivial,rfl,rfl,.inr ⟨id,cap,bm,by simp [ay],?_,by simpa [ay] using cE,?_⟩,?_,by simp⟩
   ·rw [aaw (by simp),tO vt]
   ·intro e;apply dG;have:=abL.1 e;simp at this;rw [this];rfl
   ·rw [aaw (l:=H.set _ _) (by simp),aaM bm]
def bp (s:Int) (l:List Int):List Int:=if s=2 then l.reverse else l
theorem Qi {id cap:Nat} {l:List Int} {H:List aa} (h:H[id]?=some (bw zI (ints l) cap)) (hl:l.length≤cap) {K:AV→List aa→Prop} (hK:K (.ap 0 (ints l)) (H.set id .dead)):dN 1 (.aW id 0 l.length cap) H K:=by
 have hc:∀ (l:List Int) (r:List AV),chunks 1 l.length (ints l++r)=ints l:=by
  intro l r
  induction l with
  | nil=>rfl
  | cons x q ih=>exact congrArg (AV.int .i64 x::·) ih
 have ho:(ints l++cP zI (cap - l.length)).all AV.one=true:=by
  rw [List.all_append,show (cP zI (cap - l.length)).all AV.one=true from (jF.flat (kA Bz _)).2.2.2,abv]
  have:=(jF.flat (oD l)).2.2.2
  rwa [pk] at this
 rw [BA] at h
 simp only [dN,h,List.drop_zero,hc,ho]
 exact ⟨by omega,hl,by simp [ay],trivial,hK⟩
theorem Jy (l:List Int) (s:Int) (hb:l.length * 8≤140737488355328):Pure Tryz.prog 149 [bt l,.int .i64 s] (.ap 0 (ints (bp s l))):=by
 refine fun H=>RI.2.calls rfl ?_
 simp only [RI,aJ]
 obtain ⟨k1,k2,k3,k4,k5⟩:=aG l
 simp +contextual only [k2,sZ,Nat.reduceEqDiff,Nat.reduceAdd,↓reduceIte,reduceCtorEq]
 refine af (YM l H hb) ?_
 rintro v G ⟨hR,hG,hl⟩
 obtain ⟨o1,o2,o3,o4⟩:=hR.one
 have fin:∀ (m:List Int) (G':List aa) (K:AV→List aa→Prop),RO zI H.length v (ints m) G'→G'.take H.length=H→(∀ x G'',(m=[]∧x=.ag∨x=.ap 0 (ints m))→x.ab=x→G''.take H.length=H→K x G'')→fL 1 v G' K:=by
  intro m G' K yE eH hK
  rcases yE with ⟨e,rfl⟩ | ⟨id,cap,bm,rfl,hg,cE,dG⟩
  ·exact hK _ _ (.inl ⟨abL.1 e,rfl⟩) rfl eH
  ·rw [ay] at cE ⊢
   exact Qi hg cE (hK _ _ (.inr rfl) rfl (by rw [aaM bm];exact eH))
 have fin2:∀ (m:List Int) (x:AV) (G':List aa),bp s l=m→(m=[]∧x=.ag∨x=.ap 0 (ints m))→G'.take H.length=H→b8 H.length [.t 4] [(4,x)] G' fun r H'=>r=.ap 0 (ints (bp s l))∧H'=H:=by
  intro m x G' hm hx eH
  rw [hm]
  rcases hx with ⟨rfl,rfl⟩ | rfl
  ·exact ⟨H.length,oN _,.ap 0 [],.inr (.inr (.inr (.inl ⟨rfl,0,rfl⟩))),rfl,rfl,eH⟩
  ·exact ⟨H.length,oN _,_,le_refl _,by show AV.a9 _ (.ap 0 (ints m))=true;rw [cc];exact bb _ _,rfl,eH⟩
 simp +contextual only [o3,sZ,Nat.reduceEqDiff,Nat.reduceAdd,↓reduceIte,reduceCtorEq]
 refine ⟨fun hs=>?_,fun hs=>?_⟩
 ·refine af (YN l H.length v G hR hb) ?_
  rintro r G' ⟨rfl,yE,eH,_⟩
  simp +contextual only [sZ,↓reduceIte,reduceCtorEq]
  refine fin l.reverse G' _ yE (by rw [eH,hG]) fun x G'' hx hu UT=>?_
  simp +contextual only [hu,sZ,↓reduceIte,reduceCtorEq]
  exact fin2 l.reverse x G'' (by rw [bp,if_pos hs]) hx UT
 ·refine fin l G _ hR hG fun x G'' hx hu UT=>?_
  simp +contextual only [hu,sZ,↓reduceIte,reduceCtorEq]
  exact fin2 l x G'' (by rw [bp,if_neg hs]) hx UT
end Go.aI
end
section
set_option maxRecDepth 100000
namespace Go.aI
open Go Go.Proofs Go.eJ
structure Cx where
 ps:List Int
 ss:List Int
 nd:List Nd
 d:Nat
 e:Nat
 g:Nat
def Cx.tm (c:Cx) (i:Int):T:=(c.nd.getD i.toNat default).1
def Cx.kd (c:Cx) (i:Int):List Int:=(c.nd.getD i.toNat default).2
def Cx.dS (c:Cx) (i:Int):Prop:=0≤i∧i < c.nd.length
def UU (ps ss:List Int) (p:Int):Int:=ss.getD (ps.findIdx fun q=>decide (q=p)) 0
def iW (ps ss:List Int):Od:=⟨fun n=>ps.getD n.toNat 0,UU ps ss⟩
def Cx.O (c:Cx):Od:=iW c.ps c.ss
structure Va (ps ss:List Int):Prop where
 len:ss.length=ps.length
 st:∀ i j,i < ps.length→j < ps.length→ps.getD i 0=ps.getD j 0→ss.getD i 0=ss.getD j 0
theorem Va.sp {ps ss:List Int} (h:Va ps ss) {i:Nat} (hi:i < ps.length):UU ps ss (ps.getD i 0)=ss.getD i 0:=by
 unfold UU
 have hx:ps.getD i 0∈ps:=by rw [oM,Nq hi];exact abC hi
 have h1:ps.findIdx (fun q=>decide (q=ps.getD i 0)) < ps.length:=aeF ⟨_,hx,by simp⟩
 have h2:=aeO (xs:=ps) (p:=fun q=>decide (q=ps.getD i 0)) (w:=h1)
 refine h.st _ _ h1 hi ?_
 rw [oM,Nq h1]
 exact of_decide_eq_true h2
structure Cx.Ok (c:Cx):Prop where
 va:Va c.ps c.ss
 nd:c.nd≠[]
 ne1:c.d≠c.e
 ne2:c.d≠c.g
 ne3:c.e≠c.g
 kl:∀ i,c.dS i→(c.kd i).length≤100000000
 kids:∀ i,c.dS i→(c.kd i).map c.tm=(c.tm i).l∧∀ k∈c.kd i,c.dS k
 op:∀ i,c.dS i→(c.tm i).k=2→0≤(c.tm i).n∧(c.tm i).n < c.ps.length
def m9 (m:List ((Int×Int)×Bool)):List (AV×AV):=m.map fun p=>(.agg [.int .i64 p.1.1,.int .i64 p.1.2],.bool p.2)
def Rt (c:Cx) (P:T→T→Prop) (m:List ((Int×Int)×Bool)):Prop:=∀ p∈m,p.2=true↔P (c.tm p.1.1) (c.tm p.1.2)
structure Du (c:Cx) (H:List aa):Prop where
 d:H[c.d]?=some (.cells [.ap 0 (ints c.ps),.ap 0 (ints c.ss),.ap 0 (eW c.nd),.map c.e,.map c.g])
 e:∃ m,H[c.e]?=some (.map (m9 m))∧Rt c (E c.O) m
 g:∃ m,H[c.g]?=some (.map (m9 m))∧Rt c (R c.O) m
structure Up (c:Cx) (H H':List aa):Prop where
 len:H'.length=H.length
 get:∀ j,j≠c.e→j≠c.g→H'[j]?=H[j]?
theorem Up.refl (c:Cx) (H:List aa):Up c H H:=⟨rfl,fun _ _ _=>rfl⟩
theorem Up.trans {c:Cx} {H H' H'':List aa} (h:Up c H H') (k:Up c H' H''):Up c H H'':=⟨k.len.trans h.len,fun j h1 h2=>(k.get j h1 h2).trans (h.get j h1 h2)⟩
theorem Du.lt {c:Cx} {H:List aa} (h:Du c H):c.d < H.length∧c.e < H.length∧c.g < H.length:=by
 obtain ⟨m,h1,_⟩:=h.e
 obtain ⟨m',h2,_⟩:=h.g
 exact ⟨(aaz.1 h.d).1,(aaz.1 h1).1,(aaz.1 h2).1⟩
theorem Du.ta {c:Cx} {H:List aa} (h:Du c H) (X:List aa):Du c (H++X):=by
 obtain ⟨l1,l2,l3⟩:=h.lt
 exact ⟨by rw [tK l1];exact h.d,by rw [tK l2];exact h.e,by rw [tK l3];exact h.g⟩
theorem Du.take {c:Cx} {H:List aa} {n:Nat} (h:Du c H) (h1:c.d < n) (h2:c.e < n) (h3:c.g < n):Du c (H.take n):=by
 exact ⟨by rw [aax,if_pos h1];exact h.d,by rw [aax,if_pos h2];exact h.e,by rw [aax,if_pos h3];exact h.g⟩
theorem Du.set {c:Cx} {H:List aa} {j:Nat} {o:aa} (h:Du c H) (h1:j≠c.d) (h2:j≠c.e) (h3:j≠c.g):Du c (H.set j o):=by
 exact ⟨by rw [tL h1];exact h.d,by rw [tL h2];exact h.e,by rw [tL h3];exact h.g⟩
theorem Up.take {c:Cx} {H X H':List aa} (h:Up c (H++X) H'):Up c H (H'.take H.length):=
 ⟨by have:=h.len;simp at this ⊢;omega,fun j h1 h2=>by
   rw [aax]
   split
   ·rename_i hj;rw [h.get j h1 h2,tK hj]
   ·rename_i hj;rw [aaS (by omega)]⟩
def jf (c:Cx) (Q:Prop) (H:List aa) (r:AV) (H':List aa):Prop:=∃ b:Bool,r=.bool b∧(b=true↔Q)∧Up c H H'∧Du c H'
theorem b7 (l:List Int) (H:List aa) (φ:AV→Prop):aU none (.ai (bt l)) H φ=φ (bt l):=by
 obtain ⟨k1,k2,_⟩:=aG l
 simp [aU,k1,k2]
theorem fN0 (p:Nd) (φ:AV→Prop):al 0 (some 3) (.ai (F5 p)) φ=φ (.ai p.1.av):=by
 obtain ⟨⟨k,n,l⟩,ks⟩:=p
 simp [al,F5,apart,AV.cells,T.av,T.k,T.n,T.l]
theorem EI (p:Nd) (φ:AV→Prop):al 3 none (.ai (F5 p)) φ=φ (.ai (bt p.2)):=by
 obtain ⟨k1,_⟩:=aG p.2
 simp [al,F5,apart,AV.cells,k1]
theorem nc (e o:Nat) (l:List Nd) (k:IntKind) (i:Int) (φ:AV→Prop):ax e (.ap o (eW l)) (.int k i) φ=((0≤i∧i < l.length)∧φ (.ai (F5 (l.getD i.toNat default)))):=by
 simp only [ax,rX,eq_iff_iff]
 constructor
 ·rintro ⟨h0,h,h2⟩;refine ⟨by omega,?_⟩;simpa [eW,h] using h2
 ·rintro ⟨⟨h0,h⟩,h2⟩;have h:i.toNat < l.length:=by omega
  refine ⟨h0,h,?_⟩;simpa [eW,h] using h2
theorem cJ (o:Nat) (l:List Nd):(∀ (own:Nat) (xs:List AV),AV.ap o (eW l)=AV.ap own xs→∀ z∈xs,z.cells.length=4)=True:=by
 simp only [eq_iff_iff,iff_true]
 intro own xs e z hz
 cases e
 exact (kB l z hz).len
theorem a7 (e o:Nat) (l:List Int) (k:IntKind) (i:Int) (φ:AV→Prop):ax e (.ap o (ints l)) (.int k i) φ=((0≤i∧i < l.length)∧φ (.ai (.int .i64 (l.getD i.toNat 0)))):=by
 simp only [ax,ay,eq_iff_iff]
 constructor
 ·rintro ⟨h0,h,h2⟩;refine ⟨by omega,?_⟩;simpa [ints,h] using h2
 ·rintro ⟨⟨h0,h⟩,h2⟩;have h:i.toNat < l.length:=by omega
  refine ⟨h0,h,?_⟩;simpa [ints,h] using h2
def qy (c:Cx) (i:Int):Int:=if (c.tm i).k=2 then c.O.pl (c.tm i).n else 0
def dE (c:Cx) (i:Int):Int:=if (c.tm i).k=2 then c.O.sp (c.O.pl (c.tm i).n) else 0
def sr (c:Cx) (i:Int):Bool:=decide ((c.tm i).k=2)
def L9 (c:Cx) (i:Int):AV:=.tuple [.int .i64 (qy c i),.int .i64 (dE c i),.bool (sr c i)]
theorem HH (t:T) (φ:AV→Prop):al 0 none (.ai t.av) φ=φ (.ai (.int .i64 t.k)):=by cases t;simp [al,T.av,apart,AV.cells,AV.one,T.k]
theorem zY {Hs G:List aa} {n0 a b c:Nat} {u v w x y z:AV} {R:AV→List aa→Prop} (uC:b≠a∧c≠a∧c≠b) (hH:Hs.take n0=G) (hb:x.a9 n0=true∧y.a9 n0=true∧z.a9 n0=true)
 (hx:u.ab=x) (hy:v.ab=y) (hz:w.ab=z) (hR:R (.tuple [x,y,z]) G):b8 n0 [.t a,.t b,.t c] [(a,u),(b,v),(c,w)] Hs R:=by
 subst hH;subst hx;subst hy;subst hz
 refine ⟨n0,oN _,[u.ab,v.ab,w.ab],?_,by simp only [aj,hb.1,hb.2.1,hb.2.2,ab7],hR⟩
 simp only [aA,if_neg uC.1,if_neg uC.2.1,if_neg uC.2.2,if_true,List.map]
 exact bW _
theorem qz {c:Cx} (hc:c.Ok) {i:Int} (hi:c.dS i) {H:List aa} (hD:Du c H):aw Tryz.prog 135 [.ptr c.d 0,.int .i64 i] H fun r H'=>r=L9 c i∧H'=H:=by
 refine W5.2.calls rfl ?_
 simp only [W5,aJ]
 simp +contextual only [hD.d,nc,fN0,cJ,a7,sZ,Nat.reduceEqDiff,Nat.reduceAdd,Nat.reduceLT,↓reduceIte,reduceCtorEq]
 refine ⟨hi,fun hk=>?_,fun hk=>?_⟩
 ·exact zY (by decide) (aaC) ⟨rfl,rfl,rfl⟩ rfl rfl rfl ⟨by rw [L9,qy,dE,sr,if_neg (show ¬(c.tm i).k=2 from hk),if_neg (show ¬(c.tm i).k=2 from hk),decide_eq_false (show ¬(c.tm i).k=2 from hk)];rfl,rfl⟩
 ·obtain ⟨o1,o2⟩:=hc.op i hi hk
  have hl:=hc.va.len
  refine ⟨⟨o1,o2⟩,⟨o1,by rw [hl];exact o2⟩,?_⟩
  refine zY (by decide) (aaC) ⟨rfl,rfl,rfl⟩ rfl rfl rfl ⟨?_,rfl⟩
  have e:=hc.va.sp (i:=(c.tm i).n.toNat) (by omega)
  rw [L9,qy,dE,sr,if_pos (show (c.tm i).k=2 from hk),if_pos (show (c.tm i).k=2 from hk),decide_eq_true (show (c.tm i).k=2 from hk)]
  have e2:c.O.sp (c.O.pl (c.tm i).n)=c.ss.getD (c.tm i).n.toNat 0:=e
  rw [e2];rfl
def nh (i k:Int):AV:=.agg [.int .i64 i,.int .i64 k]
theorem tc (i k:Int):∀ (m:List ((Int×Int)×Bool)) (n:Nat),(∃ j b,m[j]?=some ((i,k),b)∧dZ 2 (nh i k) (m9 m) n=some (some (n + j,.bool b)))∨dZ 2 (nh i k) (m9 m) n=some none
 | [],n=>.inr rfl
 | ((a,b),v)::r,n=>by
   have ih:=tc i k r (n + 1)
   have e:dd 2 (nh i k) (.agg [.int .i64 a,.int .i64 b])=some (decide (i=a∧k=b)):=by simp [dd,nh]
   simp only [m9,List.map_cons,dZ,e]
   by_cases h:i=a∧k=b
   ·obtain ⟨rfl,rfl⟩:=h
    exact .inl ⟨0,v,rfl,by simp⟩
   ·simp only [decide_eq_false h]
    rcases ih with ⟨j,x,h1,h2⟩ | h2
    ·exact .inl ⟨j + 1,x,h1,by rw [show n + (j + 1)=n + 1 + j by omega];exact h2⟩
    ·exact .inr h2
theorem lkM {i k:Int} {m:List ((Int×Int)×Bool)} {φ:AV→Prop} (h1:∀ b,((i,k),b)∈m→φ (.tuple [.bool b,.bool true])) (h2:φ (.tuple [.bool false,.bool false])):jd (some (.map (m9 m))) 2 (.bool false) (nh i k) true φ:=by
 unfold jd
 rcases tc i k m 0 with ⟨j,b,h3,h4⟩ | h4
 ·simp only [h4];exact h1 b (aaI h3)
 ·simp only [h4];exact ⟨by simp [dd,nh],h2⟩
theorem Ma (m:List ((Int×Int)×Bool)) (j:Nat) (i k:Int) (b:Bool):(m9 m).set j (nh i k,.bool b)=m9 (m.set j ((i,k),b)):=by simp [m9,nh,adA]
theorem msM {i k:Int} {b:Bool} {m:List ((Int×Int)×Bool)} {id:Nat} {H:List aa} {K:List aa→Prop} (h:∀ m',(∀ p∈m',p∈m∨p=((i,k),b))→K (H.set id (.map (m9 m')))):je (some (.map (m9 m))) 2 id (nh i k) (.bool b) H K:=by
 unfold je
 refine ⟨by simp [nh,wY,bM,cZ,jD],rfl,rfl,?_⟩
 have ec:aV (.bool b)=.bool b:=rfl
 rcases tc i k m 0 with ⟨j,x,h3,h4⟩ | h4
 ·simp only [h4,ec,aaQ,Ma]
  refine h _ fun p hp=>?_
  rcases abd hp with h | h
  ·exact .inl h
  ·exact .inr h
 ·simp only [h4,ec]
  refine ⟨by simp [dd,nh],?_⟩
  have e:m9 m++[(nh i k,.bool b)]=m9 (m++[((i,k),b)]):=by simp [m9,nh]
  rw [e]
  refine h _ fun p hp=>?_
  rcases aaO.1 hp with h | h
  ·exact .inl h
  ·exact .inr (by simpa using h)
theorem bdK (i k:Int) (φ:AV→Prop):cw [.int .i64 0,.int .i64 0] [(0,1,.int .i64 i),(1,1,.int .i64 k)] φ=φ (nh i k):=by
 simp only [cw,gZ,eq_iff_iff]
 constructor
 ·rintro ⟨_,_,_,_,_,_,h⟩;exact h
 ·exact fun h=>⟨rfl,rfl,by simp,rfl,rfl,by simp [ah,AV.cells],h⟩
theorem F9 (i k:Int):(nh i k).val=true∧(nh i k).cells.length=2∧(nh i k).cells.all AV.one=true:=⟨rfl,rfl,rfl⟩
theorem ldK (i k:Int) (H:List aa) (φ:AV→Prop):aU (some 2) (.ai (nh i k)) H φ=φ (nh i k):=Qg _ _ _ _
def Mp (c:Cx) (w:Nat) (Q:T→T→Prop):Prop:=(w=c.e∧Q=E c.O)∨(w=c.g∧Q=R c.O)
theorem Mp.at {c:Cx} {w:Nat} {Q:T→T→Prop} (h:Mp c w Q) {H:List aa} (hD:Du c H):∃ m,H[w]?=some (.map (m9 m))∧Rt c Q m:=by
 rcases h with ⟨rfl,rfl⟩ | ⟨rfl,rfl⟩
 ·exact hD.e
 ·exact hD.g
theorem Mp.set {c:Cx} (hc:c.Ok) {w:Nat} {Q:T→T→Prop} (h:Mp c w Q) {H:List aa} (hD:Du c H) {m:List ((Int×Int)×Bool)} (hm:Rt c Q m):Du c (H.set w (.map (m9 m)))∧Up c H (H.set w (.map (m9 m))):=by
 obtain ⟨l1,l2,l3⟩:=hD.lt
 obtain ⟨_,_,n1,n2,n3,_,_,_⟩:=hc
 rcases h with ⟨rfl,rfl⟩ | ⟨rfl,rfl⟩
 ·exact ⟨⟨by rw [tL (fun e=>n1 e.symm)];exact hD.d,⟨m,by rw [tO l2],hm⟩,by rw [tL n3];exact hD.g⟩,by simp,fun j h1 h2=>by rw [tL (fun e=>h1 e.symm)]⟩
 ·exact ⟨⟨by rw [tL (fun e=>n2 e.symm)];exact hD.d,by rw [tL (fun e=>n3 e.symm)];exact hD.e,⟨m,by rw [tO l3],hm⟩⟩,by simp,fun j h1 h2=>by rw [tL (fun e=>h2 e.symm)]⟩
theorem eI {c:Cx} {s:Nat} {b:Bool} {Q:Prop} {H H':List aa} {x:AV} (hx:x=.bool b) (hb:b=true↔Q) (hU:Up c H H') (hD:Du c H'):b8 H.length [.t s] [(s,x)] H' (jf c Q H):=by
 subst hx
 refine ba H.length (oN _) (by rw [aA,if_pos rfl];rfl) ?_
 rw [aA,if_pos rfl,aaw (by rw [hU.len];exact oN _)]
 exact ⟨b,rfl,hb,hU,hD⟩
theorem YO {c:Cx} (hc:c.Ok) {w:Nat} {Q:T→T→Prop} (hw:Mp c w Q) (i k:Int) (fn:Nat) (cK:List AV) {H:List aa} (hD:Du c H) (cE:cK.map AV.ab=cK)
 (hf:aw Tryz.prog fn cK H (jf c (Q (c.tm i) (c.tm k)) H)):aw Tryz.prog 133 [.map w,.int .i64 i,.int .i64 k,.fn (.func fn) [] cK] H (jf c (Q (c.tm i) (c.tm k)) H):=by
 refine W3.2.calls rfl ?_
 simp only [W3,aJ]
 obtain ⟨m,hm,hr⟩:=hw.at hD
 have kf:=F9 i k
 simp +contextual only [bdK,ldK,kf.1,kf.2.1,kf.2.2,hm,sZ,Nat.reduceEqDiff,Nat.reduceAdd,↓reduceIte,reduceCtorEq]
 refine lkM (fun b hb=>?_) ?_
 ·have hq:=hr _ hb
  cases b with
  | true=>
    simp +contextual only [sZ,Nat.reduceEqDiff,Nat.reduceAdd,Nat.reduceLT,↓reduceIte,reduceCtorEq]
    exact eI rfl hq (Up.refl c H) hD
  | false=>
    simp +contextual only [sZ,Nat.reduceEqDiff,Nat.reduceAdd,Nat.reduceLT,↓reduceIte,reduceCtorEq]
    exact eI rfl hq (Up.refl c H) hD
 ·simp +contextual only [cE,sZ,Nat.reduceEqDiff,Nat.reduceAdd,Nat.reduceLT,↓reduceIte,reduceCtorEq]
  refine af hf ?_
  rintro r H' ⟨b,rfl,hb,hU,jQ⟩
  obtain ⟨m',NS,hr'⟩:=hw.at jQ
  simp +contextual only [ldK,NS,sZ,Nat.reduceEqDiff,↓reduceIte,reduceCtorEq]
  refine msM fun m2 h2=>?_
  have sE:Rt c Q m2:=by
   intro p hp
   rcases h2 p hp with h | rfl
   ·exact hr' p h
   ·exact hb
  obtain ⟨s1,s2⟩:=hw.set hc jQ sE
  simp +contextual only [sZ,Nat.reduceEqDiff,↓reduceIte,reduceCtorEq]
  exact eI rfl hb (hU.trans s2) s1
def kV (c:Cx) (i k:Int):Prop:=∀ H,Du c H→aw Tryz.prog 79 [.ptr c.d 0,.int .i64 i,.int .i64 k] H (jf c (E c.O (c.tm i) (c.tm k)) H)
def iP (c:Cx) (i k:Int):Prop:=∀ H,Du c H→aw Tryz.prog 76 [.ptr c.d 0,.int .i64 i,.int .i64 k] H (jf c (R c.O (c.tm i) (c.tm k)) H)
def DQ (c:Cx) (i k:Int):List AV:=[.ai (.ptr c.d 0),.ai (.int .i64 i),.ai (.int .i64 k)]
theorem g53 (a b c d e z:AV):[a,b,c,d,e].getD 3 z=d:=rfl
theorem g54 (a b c d e z:AV):[a,b,c,d,e].getD 4 z=e:=rfl
theorem c79 {c:Cx} (hc:c.Ok) {i k:Int} (h:∀ H,Du c H→aw Tryz.prog 138 (DQ c i k) H (jf c (E c.O (c.tm i) (c.tm k)) H)):kV c i k:=by
 intro H hD
 refine k79.2.calls rfl ?_
 simp only [k79,aJ]
 simp +contextual only [hD.d,g53,sZ,Nat.reduceEqDiff,Nat.reduceAdd,Nat.reduceLT,↓reduceIte,reduceCtorEq]
 refine af (YO hc (.inl ⟨rfl,rfl⟩) i k 138 (DQ c i k) hD rfl (h H hD)) ?_
 rintro r H' ⟨b,rfl,hb,hU,jQ⟩
 simp +contextual only [sZ,↓reduceIte,reduceCtorEq]
 exact eI rfl hb hU jQ
theorem c76 {c:Cx} (hc:c.Ok) {i k:Int} (h:∀ H,Du c H→aw Tryz.prog 134 (DQ c i k) H (jf c (R c.O (c.tm i) (c.tm k)) H)):iP c i k:=by
 intro H hD
 refine k76.2.calls rfl ?_
 simp only [k76,aJ]
 simp +contextual only [hD.d,g54,sZ,Nat.reduceEqDiff,Nat.reduceAdd,Nat.reduceLT,↓reduceIte,reduceCtorEq]
 refine af (YO hc (.inr ⟨rfl,rfl⟩) i k 134 (DQ c i k) hD rfl (h H hD)) ?_
 rintro r H' ⟨b,rfl,hb,hU,jQ⟩
 simp +contextual only [sZ,↓reduceIte,reduceCtorEq]
 exact eI rfl hb hU jQ
theorem dF (c:Cx) (i:Int):(L9 c i).ab=L9 c i:=rfl
theorem fN (c:Cx) (i:Int) (φ:AV→Prop):bK (L9 c i) 0 φ=φ (.int .i64 (qy c i)):=by simp [L9,bK,ow]
theorem fO (c:Cx) (i:Int) (φ:AV→Prop):bK (L9 c i) 1 φ=φ (.int .i64 (dE c i)):=by simp [L9,bK,ow]
theorem fP (c:Cx) (i:Int) (φ:AV→Prop):bK (L9 c i) 2 φ=φ (.bool (sr c i)):=by simp [L9,bK,pd]
def uZ (c:Cx) (i k:Int):Bool:=sr c i && (sr c k && decide (qy c i=qy c k))
theorem kW {c:Cx} {i k:Int}:uZ c i k=true↔(c.tm i).k=2∧(c.tm k).k=2∧c.O.pl (c.tm i).n=c.O.pl (c.tm k).n:=by
 simp only [uZ,sr,Sr,decide_eq_true_eq]
 unfold qy
 constructor
 ·rintro ⟨h1,h2,h3⟩;rw [if_pos h1,if_pos h2] at h3;exact ⟨h1,h2,h3⟩
 ·rintro ⟨h1,h2,h3⟩;refine ⟨h1,h2,?_⟩;rw [if_pos h1,if_pos h2];exact h3
theorem Ga {c:Cx} (hc:c.Ok) {i k:Int} (hi:c.dS i) (hk:c.dS k) {H:List aa} (hD:Du c H):aw Tryz.prog 155 [.ptr c.d 0,.int .i64 i,.int .i64 k] H fun r H'=>r=.tuple [.int .i64 (dE c i),.bool (uZ c i k)]∧H'=H:=by
 refine Xh.2.calls rfl ?_
 simp only [Xh,aJ]
 simp +contextual only [sZ,Nat.reduceEqDiff,Nat.reduceAdd,↓reduceIte,reduceCtorEq]
 refine af (qz hc hi hD) ?_
 rintro r H1 ⟨rfl,rfl⟩
 simp +contextual only [dF,fN,fO,fP,sZ,Nat.reduceEqDiff,Nat.reduceAdd,↓reduceIte,reduceCtorEq]
 refine af (qz hc hk hD) ?_
 rintro r H1 ⟨rfl,rfl⟩
 simp +contextual only [dF,fN,fO,fP,sZ,Nat.reduceEqDiff,↓reduceIte,reduceCtorEq]
 have fin:∀ (s:Int) (b:Bool),s=dE c i→b=uZ c i k→b8 H1.length [.t 6,.t 7] [(6,.int .i64 s),(7,.bool b)] H1 fun r H'=>r=.tuple [.int .i64 (dE c i),.bool (uZ c i k)]∧H'=H1:=by
  rintro s b rfl rfl
  have:=zB (H:=H1) (e:=[]) (s:=6) (s':=7) (v:=.int .i64 (dE c i)) (v':=.bool (uZ c i k)) (by decide) rfl rfl rfl rfl
  rwa [aaV] at this
 cases h1:sr c i with
 | false=>
   simp +contextual only [sZ,Nat.reduceEqDiff,↓reduceIte,reduceCtorEq]
   exact fin _ _ rfl (by rw [uZ,h1];rfl)
 | true=>
   cases h2:sr c k with
   | false=>
     simp +contextual only [sZ,Nat.reduceEqDiff,↓reduceIte,reduceCtorEq]
     exact fin _ _ rfl (by rw [uZ,h1,h2];rfl)
   | true=>
     simp +contextual only [sZ,Nat.reduceEqDiff,↓reduceIte,reduceCtorEq]
     exact fin _ _ rfl (by rw [uZ,h1,h2];rfl)
end Go.aI
end
section
set_option maxRecDepth 100000
namespace Go.aI
open Go Go.Proofs Go.eJ
def IL (v:AV) (l:List Int):Prop:=v=bt l∨v=.ap 0 (ints l)
theorem IL.one {v:AV} {l:List Int} (h:IL v l):v.one=true∧v.ab=v∧v.val=true∧v.cells=[v]:=by
 rcases h with rfl | rfl
 ·obtain ⟨k1,k2,_,k4,k5⟩:=aG l;exact ⟨k1,k2,k4,k5⟩
 ·exact ⟨rfl,rfl,rfl,rfl⟩
theorem IL.len {v:AV} {l:List Int} (h:IL v l) (hs:l.length < 9223372036854775808) (H:List aa) (φ:AV→Prop):eU v H φ=φ (.int .i64 l.length):=by
 have hl:∀ l:List Int,l.length < 9223372036854775808→eU (.ap 0 (ints l)) H φ=φ (.int .i64 l.length):=by
  intro l hs;simp [eU,ay,hs]
 rcases h with rfl | rfl
 ·cases l with
  | nil=>rfl
  | cons x r=>exact hl _ hs
 ·exact hl _ hs
theorem IL.xo {v:AV} {l:List Int} (h:IL v l) (H:List aa) (φ:AV→Prop):iO v H φ=φ (.int .i64 l.length):=by
 rcases h with rfl | rfl
 ·cases l with
  | nil=>rfl
  | cons x r=>rw [bt,lU,ay]
 ·rw [lU,ay]
theorem IL.aL {v:AV} {l:List Int} (h:IL v l):aL 1 v=True:=by
 rcases h with rfl | rfl
 ·cases l <;> simp [bt,Go.aI.aL]
 ·simp [Go.aI.aL]
theorem IL.idx {v:AV} {l:List Int} (h:IL v l) (k:IntKind) (i:Int) (φ:AV→Prop):ax 1 v (.int k i) φ=((0≤i∧i < l.length)∧φ (.ai (.int .i64 (l.getD i.toNat 0)))):=by
 rcases h with rfl | rfl
 ·cases l with
  | nil=>simp [bt,ax];omega
  | cons x r=>exact a7 1 0 (x::r) k i φ
 ·exact a7 1 0 l k i φ
theorem IL.lens {v:AV} {l:List Int} (h:IL v l):(∀ (own:Nat) (xs:List AV),v=AV.ap own xs→∀ z∈xs,z.cells.length=1)=True:=by
 rcases h with rfl | rfl
 ·cases l with
  | nil=>simp [bt]
  | cons x r=>exact dJ 0 (x::r)
 ·exact dJ 0 l
def zZ (S:List aa→Prop):Prop:=∀ H H',S H→S H'→H'.length=H.length
def SB (S:List aa→Prop) (Q:Prop) (r:AV) (H':List aa):Prop:=∃ b:Bool,r=.bool b∧(b=true↔Q)∧S H'
def SI (S:List aa→Prop) (Q:Int→Prop) (l:List Int) (r:AV) (H':List aa):Prop:=
 S H'∧((r=.int .i64 (-1)∧∀ x∈l,¬ Q x)∨∃ n:Nat,r=.int .i64 n∧n < l.length∧Q (l.getD n 0)∧∀ j,j < n→¬ Q (l.getD j 0))
theorem BB {S:List aa→Prop} (hl:zZ S) {s:Nat} {b:Bool} {Q:Prop} {H H':List aa} {x:AV} (hx:x=.bool b) (hb:b=true↔Q) (hS:S H) (YP:S H'):b8 H.length [.t s] [(s,x)] H' (SB S Q):=by
 subst hx
 refine ba H.length (oN _) (by rw [aA,if_pos rfl];rfl) ?_
 rw [aA,if_pos rfl,aaw (by rw [hl H H' hS YP];exact oN _)]
 exact ⟨b,rfl,hb,YP⟩
theorem aP {l:List Int} {i:Nat} (h:i < l.length):l.getD i 0∈l:=by rw [oM,Nq h];exact abC h
theorem YQ {S:List aa→Prop} (hS:zZ S) {Q:Int→Int→Prop} {a b:List Int} {va vb:AV} (ha:IL va a) (hb:IL vb b) (la:a.length≤1000000000) (lb:b.length≤1000000000) (g:Nat) (pre cK:List AV) (cE:cK.map AV.ab=cK) (mr:pre.map AV.ab=pre)
 (hf:∀ x∈a,∀ y∈b,∀ H,S H→aw Tryz.prog g (pre++[.int .i64 x,.int .i64 y]++cK) H (SB S (Q x y))) {H:List aa} (hH:S H) :
 aw Tryz.prog 140 [va,vb,.fn (.func g) pre cK] H (SB S (a.length=b.length∧∀ j,j < a.length→Q (a.getD j 0) (b.getD j 0))):=by
 refine W8.2.calls rfl ?_
 simp only [W8,aJ]
 obtain ⟨a1,a2,a3,a4⟩:=ha.one
 obtain ⟨b1,b2,b3,b4⟩:=hb.one
 simp +contextual only [a2,b2,ha.aL,hb.aL,ha.len (by omega),hb.len (by omega),sZ,Nat.reduceEqDiff,Nat.reduceAdd,↓reduceIte,reduceCtorEq]
 refine ⟨fun dG=>BB hS rfl ⟨fun h=>by simp at h,fun h=>absurd (by omega) dG⟩ hH hH,fun heq=>?_⟩
 refine aM a.length (fun i (G:List aa)=>S G∧∀ j,j < i→Q (a.getD j 0) (b.getD j 0))
  (fun i G=>[(1,vb),(2,.fn (.func g) pre cK),(15,va),(16,.int .i64 b.length),(17,.int .i64 i)]) (fun i G=>G) H ⟨⟨hH,fun j hj=>by omega⟩,aB _ _ _⟩ fun i G hi hI=>?_
 obtain ⟨hG,hq⟩:=hI
 simp +contextual only [b2,ha.lens,hb.lens,ha.idx,hb.idx,tN,cE,mr,sZ,Nat.reduceEqDiff,Nat.reduceAdd,↓reduceIte,reduceCtorEq]
 refine ⟨fun aX=>⟨by omega,by omega,?_⟩,fun jV=>?_⟩
 ·refine af (hf _ (aP (by omega)) _ (aP (by omega)) G hG) ?_
  rintro r G' ⟨x,rfl,hx,eH⟩
  cases x with
  | true=>
    simp +contextual only [sZ,Nat.reduceEqDiff,↓reduceIte]
    refine ⟨i + 1,G',⟨by omega,eH,fun j hj=>?_⟩,by omega,aD (by rw [au i (by omega)]) rfl⟩
    by_cases h:j=i
    ·subst h;exact hx.1 rfl
    ·exact hq j (by omega)
  | false=>
    simp +contextual only [sZ,Nat.reduceEqDiff,↓reduceIte,reduceCtorEq]
    refine BB hS rfl ⟨fun h=>by simp at h,fun h=>?_⟩ hH eH
    exact absurd (hx.2 (h.2 i (by omega))) (by simp)
 ·refine BB hS rfl ⟨fun _=>⟨by omega,fun j hj=>hq j (by omega)⟩,fun _=>rfl⟩ hH hG
theorem Mb {S:List aa→Prop} (hS:zZ S) {Q:Int→Prop} {a:List Int} {va:AV} (ha:IL va a) (la:a.length≤1000000000) (g:Nat) (pre cK:List AV) (cE:cK.map AV.ab=cK) (mr:pre.map AV.ab=pre)
 (hf:∀ x∈a,∀ H,S H→aw Tryz.prog g (pre++[.int .i64 x]++cK) H (SB S (Q x))) {H:List aa} (hH:S H) :
 aw Tryz.prog 100 [va,.fn (.func g) pre cK] H (SI S Q a):=by
 refine C5.2.calls rfl ?_
 simp only [C5,aJ]
 obtain ⟨a1,a2,a3,a4⟩:=ha.one
 simp +contextual only [a2,ha.aL,ha.len (by omega),sZ,Nat.reduceEqDiff,Nat.reduceAdd,↓reduceIte,reduceCtorEq]
 have fin:∀ (n:Int) (G:List aa),S G→((n=-1∧∀ x∈a,¬ Q x)∨∃ m:Nat,n=m∧m < a.length∧Q (a.getD m 0)∧∀ j,j < m→¬ Q (a.getD j 0))→b8 H.length [.t 4] [(4,.int .i64 n)] G (SI S Q a):=by
  intro n G hG hn
  refine ba H.length (oN _) (by rw [aA,if_pos rfl];rfl) ?_
  rw [aA,if_pos rfl,aaw (by rw [hS H G hH hG];exact oN _)]
  refine ⟨hG,?_⟩
  rcases hn with ⟨rfl,h⟩ | ⟨m,rfl,h⟩
  ·exact .inl ⟨rfl,h⟩
  ·exact .inr ⟨m,rfl,h⟩
 refine aM a.length (fun i (G:List aa)=>S G∧∀ j,j < i→¬ Q (a.getD j 0))
  (fun i G=>[(0,va),(1,.fn (.func g) pre cK),(7,.int .i64 a.length),(8,.int .i64 i)]) (fun i G=>G) H ⟨⟨hH,fun j hj=>by omega⟩,aB _ _ _⟩ fun i G hi hI=>?_
 obtain ⟨hG,hq⟩:=hI
 simp +contextual only [a2,ha.lens,ha.idx,tN,cE,mr,sZ,Nat.reduceEqDiff,Nat.reduceAdd,↓reduceIte,reduceCtorEq]
 refine ⟨fun aX=>⟨by omega,?_⟩,fun jV=>?_⟩
 ·refine af (hf _ (aP (by omega)) G hG) ?_
  rintro r G' ⟨x,rfl,hx,eH⟩
  cases x with
  | false=>
    simp +contextual only [sZ,Nat.reduceEqDiff,↓reduceIte,reduceCtorEq]
    refine ⟨i + 1,G',⟨by omega,eH,fun j hj=>?_⟩,by omega,aD (by rw [au i (by omega)]) rfl⟩
    by_cases h:j=i
    ·subst h;exact fun h=>absurd (hx.2 h) (by simp)
    ·exact hq j (by omega)
  | true=>
    simp +contextual only [sZ,Nat.reduceEqDiff,↓reduceIte,reduceCtorEq]
    exact fin _ _ eH (.inr ⟨i,rfl,by omega,hx.1 rfl,hq⟩)
 ·refine fin _ _ hG (.inl ⟨rfl,fun x hx=>?_⟩)
  obtain ⟨j,hj,rfl⟩:=abW hx
  have:=hq j (by omega)
  simpa [hj] using this
theorem DR {S:List aa→Prop} (hS:zZ S) {Q:Int→Prop} {a:List Int} {va:AV} (ha:IL va a) (la:a.length≤1000000000) (g:Nat) (pre cK:List AV) (cE:cK.map AV.ab=cK) (mr:pre.map AV.ab=pre)
 (hf:∀ x∈a,∀ H,S H→aw Tryz.prog g (pre++[.int .i64 x]++cK) H (SB S (Q x))) {H:List aa} (hH:S H) :
 aw Tryz.prog 102 [va,.fn (.func g) pre cK] H (SB S (∃ x∈a,Q x)):=by
 refine C6.2.calls rfl ?_
 simp only [C6,aJ]
 obtain ⟨a1,a2,a3,a4⟩:=ha.one
 simp +contextual only [a2,sZ,Nat.reduceEqDiff,Nat.reduceAdd,↓reduceIte,reduceCtorEq]
 refine af (Mb hS ha la g pre cK cE mr hf hH) ?_
 rintro r G ⟨hG,⟨rfl,h⟩ | ⟨n,rfl,h1,h2,_⟩⟩
 ·simp +contextual only [sZ,↓reduceIte,reduceCtorEq]
  exact BB hS (b:=false) (by simp) ⟨fun h=>by simp at h,fun ⟨x,hx,h'⟩=>absurd h' (h x hx)⟩ hH hG
 ·simp +contextual only [sZ,↓reduceIte,reduceCtorEq]
  exact BB hS (b:=true) (by simp) ⟨fun _=>⟨_,aP h1,h2⟩,fun _=>rfl⟩ hH hG
end Go.aI
end
section
set_option maxRecDepth 100000
namespace Go.aI
open Go Go.Proofs Go.eJ
def SD (c:Cx) (H0 H:List aa):Prop:=Du c H∧Up c H0 H
theorem SD.BC (c:Cx) (H0:List aa):zZ (SD c H0):=fun H H' h h'=>by rw [h'.2.len,h.2.len]
theorem jf.sb {c:Cx} {Q:Prop} {H0 H H':List aa} {r:AV} (h:jf c Q H r H') (hS:SD c H0 H):SB (SD c H0) Q r H':=by
 obtain ⟨b,h1,h2,h3,h4⟩:=h;exact ⟨b,h1,h2,h4,hS.2.trans h3⟩
theorem acb {c:Cx} {i x:Int} (h:iP c i x) {H:List aa} (hD:Du c H):aw Tryz.prog 233 [.int .i64 x,.ai (.ptr c.d 0),.ai (.int .i64 i)] H (jf c (¬ R c.O (c.tm i) (c.tm x)) H):=by
 refine X2.2.calls rfl ?_
 simp only [X2,aJ]
 simp +contextual only [sZ,Nat.reduceEqDiff,Nat.reduceAdd,↓reduceIte,reduceCtorEq]
 refine af (h H hD) ?_
 rintro r H' ⟨b,rfl,hb,hU,jQ⟩
 simp +contextual only [sZ,↓reduceIte,reduceCtorEq]
 refine eI (b:=!b) rfl ?_ hU jQ
 rw [← hb];cases b <;> simp
theorem UW {c:Cx} {i:Int} {l:List Int} {v:AV} (hv:IL v l) (hl:l.length≤1000000000) (h:∀ x∈l,iP c i x) {H:List aa} (hD:Du c H):aw Tryz.prog 204 [.ptr c.d 0,.int .i64 i,v] H (jf c (∀ x∈l,R c.O (c.tm i) (c.tm x)) H):=by
 refine XG.2.calls rfl ?_
 simp only [XG,aJ]
 obtain ⟨a1,a2,a3,a4⟩:=hv.one
 simp +contextual only [a2,sZ,Nat.reduceEqDiff,Nat.reduceAdd,↓reduceIte,reduceCtorEq]
 refine af (DR (SD.BC c H) hv hl 233 [] [.ai (.ptr c.d 0),.ai (.int .i64 i)] rfl rfl (Q:=fun x=>¬ R c.O (c.tm i) (c.tm x)) (fun x hx G hG=>(acb (h x hx) hG.1).mono fun r H' hr=>hr.sb hG) ⟨hD,Up.refl c H⟩) ?_
 rintro r G ⟨b,rfl,hb,hG⟩
 simp +contextual only [sZ,↓reduceIte,reduceCtorEq]
 refine eI (b:=!b) rfl ?_ hG.2 hG.1
 cases b with
 | true=>
   obtain ⟨x,hx,hr⟩:=hb.1 rfl
   exact ⟨fun h=>by simp at h,fun h=>absurd (h x hx) hr⟩
 | false=>
   refine ⟨fun _ x hx=>?_,fun _=>rfl⟩
   by_cases hr:R c.O (c.tm i) (c.tm x)
   ·exact hr
   ·exact absurd (hb.2 ⟨x,hx,hr⟩) (by simp)
theorem acd {c:Cx} {x k:Int} (h1:kV c x k) (h2:iP c x k) {H:List aa} (hD:Du c H):aw Tryz.prog 220 [.int .i64 x,.ai (.ptr c.d 0),.ai (.int .i64 k)] H (jf c (E c.O (c.tm x) (c.tm k)∨R c.O (c.tm x) (c.tm k)) H):=by
 refine XR.2.calls rfl ?_
 simp only [XR,aJ]
 simp +contextual only [sZ,Nat.reduceEqDiff,Nat.reduceAdd,↓reduceIte,reduceCtorEq]
 refine af (h1 H hD) ?_
 rintro r H' ⟨b,rfl,hb,hU,jQ⟩
 cases b with
 | true=>
   simp +contextual only [sZ,Nat.reduceEqDiff,↓reduceIte,reduceCtorEq]
   exact eI rfl ⟨fun _=>.inl (hb.1 rfl),fun _=>rfl⟩ hU jQ
 | false=>
   simp +contextual only [sZ,Nat.reduceEqDiff,Nat.reduceAdd,↓reduceIte,reduceCtorEq]
   refine af (h2 H' jQ) ?_
   rintro r H2 ⟨b,rfl,pI,RU,Cb⟩
   simp +contextual only [sZ,Nat.reduceEqDiff,↓reduceIte,reduceCtorEq]
   refine eI rfl ⟨fun h=>.inr (pI.1 h),fun h=>?_⟩ (hU.trans RU) Cb
   rcases h with h | h
   ·exact absurd (hb.2 h) (by simp)
   ·exact pI.2 h
theorem YR {c:Cx} (hc:c.Ok) {i k:Int} (hi:c.dS i) (h1:∀ x∈c.kd i,kV c x k) (h2:∀ x∈c.kd i,iP c x k) {H:List aa} (hD:Du c H):aw Tryz.prog 183 [.ptr c.d 0,.int .i64 i,.int .i64 k] H (jf c (∃ x∈c.kd i,E c.O (c.tm x) (c.tm k)∨R c.O (c.tm x) (c.tm k)) H):=by
 refine Xv.2.calls rfl ?_
 simp only [Xv,aJ]
 have k2:∀ l,(bt l).ab=bt l:=fun l=>(aG l).2.1
 simp +contextual only [hD.d,nc,EI,cJ,b7,k2,sZ,Nat.reduceEqDiff,Nat.reduceAdd,Nat.reduceLT,↓reduceIte,reduceCtorEq]
 refine ⟨hi,?_⟩
 refine af (DR (SD.BC c H) (.inl rfl:IL (bt (c.kd i)) (c.kd i)) (by have:=hc.kl i hi;omega) 220 [] [.ai (.ptr c.d 0),.ai (.int .i64 k)] rfl rfl (Q:=fun x=>E c.O (c.tm x) (c.tm k)∨R c.O (c.tm x) (c.tm k)) (fun x hx G hG=>(acd (h1 x hx) (h2 x hx) hG.1).mono fun r H' hr=>hr.sb hG) ⟨hD,Up.refl c H⟩) ?_
 rintro r G ⟨b,rfl,hb,hG⟩
 simp +contextual only [sZ,↓reduceIte,reduceCtorEq]
 exact eI rfl hb hG.2 hG.1
theorem YT {c:Cx} (hc:c.Ok) {i k:Int} (hi:c.dS i) (hk:c.dS k) (h:∀ x∈c.kd k,iP c i x) {H:List aa} (hD:Du c H):aw Tryz.prog 184 [.ptr c.d 0,.int .i64 i,.int .i64 k] H
 (jf c (sr c k=true∧qy c k < qy c i∧∀ x∈c.kd k,R c.O (c.tm i) (c.tm x)) H):=by
 refine Xw.2.calls rfl ?_
 simp only [Xw,aJ]
 have k2:∀ l,(bt l).ab=bt l:=fun l=>(aG l).2.1
 simp +contextual only [sZ,Nat.reduceEqDiff,Nat.reduceAdd,↓reduceIte,reduceCtorEq]
 refine af (qz hc hi hD) ?_
 rintro r H1 ⟨rfl,rfl⟩
 simp +contextual only [dF,fN,fO,fP,sZ,Nat.reduceEqDiff,Nat.reduceAdd,↓reduceIte,reduceCtorEq]
 refine af (qz hc hk hD) ?_
 rintro r H1 ⟨rfl,rfl⟩
 simp +contextual only [dF,fN,fO,fP,sZ,Nat.reduceEqDiff,↓reduceIte,reduceCtorEq]
 cases hb:sr c k with
 | false=>
   simp +contextual only [sZ,Nat.reduceEqDiff,↓reduceIte,reduceCtorEq]
   exact eI rfl ⟨fun h=>by simp at h,fun h=>by simp at h⟩ (Up.refl c _) hD
 | true=>
   by_cases hp:qy c k < qy c i
   ·simp +contextual only [hp,hD.d,nc,EI,cJ,b7,k2,sZ,Nat.reduceEqDiff,Nat.reduceAdd,Nat.reduceLT,↓reduceIte,reduceCtorEq]
    refine ⟨hk,af (UW (.inl rfl:IL (bt (c.kd k)) (c.kd k)) (by have:=hc.kl k hk;omega) h hD) ?_⟩
    rintro r H2 ⟨b,rfl,pI,hU,jQ⟩
    simp +contextual only [sZ,Nat.reduceEqDiff,↓reduceIte,reduceCtorEq]
    exact eI rfl ⟨fun h=>⟨rfl,hp,pI.1 h⟩,fun h=>pI.2 h.2.2⟩ hU jQ
   ·simp +contextual only [hp,sZ,Nat.reduceEqDiff,↓reduceIte,reduceCtorEq]
    exact eI rfl ⟨fun h=>by simp at h,fun h=>absurd h.2.1 hp⟩ (Up.refl c _) hD
structure J2 (Q:Int→Int→Prop) (a b:List Int) (n:Nat):Prop where
 la:n≤a.length
 lb:n≤b.length
 eq:∀ j,j < n→Q (a.getD j 0) (b.getD j 0)
 no:n < a.length→n < b.length→¬ Q (a.getD n 0) (b.getD n 0)
theorem YU {c:Cx} {a b:List Int} {va vb:AV} (ha:IL va a) (hb:IL vb b) (la:a.length≤1000000000) (lb:b.length≤1000000000) (h:∀ x∈a,∀ y∈b,kV c x y) {H:List aa} (hD:Du c H) :
 aw Tryz.prog 150 [.ptr c.d 0,va,vb] H fun r H'=>∃ n:Nat,r=.int .i64 n∧J2 (fun x y=>E c.O (c.tm x) (c.tm y)) a b n∧Up c H H'∧Du c H':=by
 refine Xc.2.calls rfl ?_
 simp only [Xc,aJ]
 obtain ⟨a1,a2,a3,a4⟩:=ha.one
 obtain ⟨b1,b2,b3,b4⟩:=hb.one
 simp +contextual only [sZ,Nat.reduceEqDiff,Nat.reduceAdd,↓reduceIte,reduceCtorEq]
 refine aM a.length (fun i (G:List aa)=>SD c H G∧i≤b.length∧∀ j,j < i→E c.O (c.tm (a.getD j 0)) (c.tm (b.getD j 0)))
  (fun i G=>[(0,.ptr c.d 0),(1,va),(2,vb),(7,.int .i64 i)]) (fun i G=>G) H ⟨⟨⟨hD,Up.refl c H⟩,ab0 _,fun j hj=>by omega⟩,aB _ _ _⟩ fun i G hi hI=>?_
 obtain ⟨hG,hib,hq⟩:=hI
 have fin:∀ G',SD c H G'→J2 (fun x y=>E c.O (c.tm x) (c.tm y)) a b i→b8 H.length [.t 6] [(6,.int .i64 (i:Int))] G' fun r H'=>∃ n:Nat,r=.int .i64 n∧J2 (fun x y=>E c.O (c.tm x) (c.tm y)) a b n∧Up c H H'∧Du c H':=by
  intro G' eH hp
  refine ba H.length (oN _) (by rw [aA,if_pos rfl];rfl) ?_
  rw [aA,if_pos rfl,aaw (by rw [eH.2.len];exact oN _)]
  exact ⟨i,rfl,hp,eH.2,eH.1⟩
 by_cases h1:(i:Int) < a.length
 ·by_cases h2:(i:Int) < b.length
  ·simp +contextual only [a2,b2,ha.aL,hb.aL,ha.xo,hb.xo,ha.lens,hb.lens,ha.idx,hb.idx,tN,h1,h2,decide_true,sZ,Nat.reduceEqDiff,Nat.reduceAdd,↓reduceIte,reduceCtorEq]
   refine ⟨by omega,by omega,?_⟩
   refine af (h _ (aP (by omega)) _ (aP (by omega)) G hG.1) ?_
   rintro r G' ⟨x,rfl,hx,hU,jQ⟩
   have eH:SD c H G':=⟨jQ,hG.2.trans hU⟩
   cases x with
   | true=>
     simp +contextual only [sZ,Nat.reduceEqDiff,↓reduceIte,reduceCtorEq]
     refine ⟨i + 1,G',⟨by omega,eH,by omega,fun j hj=>?_⟩,by omega,aD (by rw [au i (by omega)]) rfl⟩
     by_cases h:j=i
     ·subst h;exact hx.1 rfl
     ·exact hq j (by omega)
   | false=>
     simp +contextual only [sZ,Nat.reduceEqDiff,↓reduceIte,reduceCtorEq]
     exact fin G' eH ⟨hi,hib,hq,fun _ _ he=>absurd (hx.2 he) (by simp)⟩
  ·simp +contextual only [a2,b2,ha.aL,hb.aL,ha.xo,hb.xo,h1,h2,decide_true,decide_false,sZ,Nat.reduceEqDiff,↓reduceIte,reduceCtorEq]
   exact fin G hG ⟨hi,hib,hq,fun _ h'=>absurd h' (by omega)⟩
 ·simp +contextual only [a2,ha.aL,ha.xo,h1,decide_false,sZ,Nat.reduceEqDiff,↓reduceIte,reduceCtorEq]
  exact fin G hG ⟨hi,hib,hq,fun h' _=>absurd h' (by omega)⟩
def BD (c:Cx) (i k:Int):Prop:=
 uZ c i k=true∧dE c i≠3∧(∀ x∈c.kd k,R c.O (c.tm i) (c.tm x))∧
 ∃ n,J2 (fun x y=>E c.O (c.tm x) (c.tm y)) (bp (dE c i) (c.kd i)) (bp (dE c i) (c.kd k)) n∧n < (bp (dE c i) (c.kd i)).length∧
  (n=(bp (dE c i) (c.kd k)).length∨R c.O (c.tm ((bp (dE c i) (c.kd i)).getD n 0)) (c.tm ((bp (dE c i) (c.kd k)).getD n 0)))
theorem jY {s x:Int} {l:List Int}:x∈bp s l↔x∈l:=by unfold bp;split <;> simp
theorem gP {s:Int} {l:List Int}:(bp s l).length=l.length:=by unfold bp;split <;> simp
theorem J2.UX {Q:Int→Int→Prop} {a b:List Int} {n m:Nat} (h:J2 Q a b n) (k:J2 Q a b m):n=m:=by
 rcases aez n m with h1 | h1 | h1
 ·exact absurd (k.eq n h1) (h.no (by have:=k.la;omega) (by have:=k.lb;omega))
 ·exact h1
 ·exact absurd (h.eq m h1) (k.no (by have:=h.la;omega) (by have:=h.lb;omega))
theorem YV {c:Cx} (hc:c.Ok) {i k:Int} (hi:c.dS i) (hk:c.dS k) (h1:∀ x∈c.kd k,iP c i x) (h2:∀ x∈c.kd i,∀ y∈c.kd k,kV c x y) (h3:∀ x∈c.kd i,∀ y∈c.kd k,iP c x y) {H:List aa} (hD:Du c H) :
 aw Tryz.prog 185 [.ptr c.d 0,.int .i64 i,.int .i64 k] H (jf c (BD c i k) H):=by
 refine RJ.2.calls rfl ?_
 simp only [RJ,aJ]
 have k2:∀ l,(bt l).ab=bt l:=fun l=>(aG l).2.1
 have l1:=hc.kl i hi
 have l2:=hc.kl k hk
 simp +contextual only [sZ,Nat.reduceEqDiff,Nat.reduceAdd,↓reduceIte,reduceCtorEq]
 refine af (Ga hc hi hk hD) ?_
 rintro r H1 ⟨rfl,rfl⟩
 simp +contextual only [sZ,Nat.reduceEqDiff,Nat.reduceAdd,Nat.reduceLT,↓reduceIte,reduceCtorEq]
 cases hl:uZ c i k with
 | false=>
   simp +contextual only [Bool.not_false,sZ,Nat.reduceEqDiff,↓reduceIte,reduceCtorEq]
   exact eI rfl ⟨fun h=>by simp at h,fun h=>by have:=h.1;rw [hl] at this;simp at this⟩ (Up.refl c _) hD
 | true=>
   by_cases hs:dE c i=3
   ·simp +contextual only [Bool.not_true,hs,decide_true,sZ,Nat.reduceEqDiff,↓reduceIte,reduceCtorEq]
    exact eI rfl ⟨fun h=>by simp at h,fun h=>absurd hs h.2.1⟩ (Up.refl c _) hD
   ·simp +contextual only [Bool.not_true,hs,decide_false,hD.d,nc,EI,cJ,b7,k2,sZ,Nat.reduceEqDiff,Nat.reduceAdd,Nat.reduceLT,↓reduceIte,reduceCtorEq]
    refine ⟨hk,af (UW (.inl rfl:IL (bt (c.kd k)) (c.kd k)) (by omega) h1 hD) ?_⟩
    rintro r H2 ⟨b,rfl,pI,hU,Cb⟩
    cases b with
    | false=>
      simp +contextual only [Bool.not_false,sZ,Nat.reduceEqDiff,↓reduceIte,reduceCtorEq]
      exact eI rfl ⟨fun h=>by simp at h,fun h=>absurd (pI.2 h.2.2.1) (by simp)⟩ hU Cb
    | true=>
      have uC:=pI.1 rfl
      simp +contextual only [Bool.not_true,Cb.d,nc,EI,cJ,b7,k2,sZ,Nat.reduceEqDiff,Nat.reduceAdd,Nat.reduceLT,↓reduceIte,reduceCtorEq]
      refine ⟨hi,aE (Jy (c.kd i) (dE c i) (by omega)) ?_⟩
      simp +contextual only [Cb.d,nc,EI,cJ,b7,k2,sZ,Nat.reduceEqDiff,Nat.reduceAdd,Nat.reduceLT,↓reduceIte,reduceCtorEq]
      refine ⟨hk,aE (Jy (c.kd k) (dE c i) (by omega)) ?_⟩
      have la:(bp (dE c i) (c.kd i)).length≤1000000000:=by rw [gP];omega
      have lb:(bp (dE c i) (c.kd k)).length≤1000000000:=by rw [gP];omega
      have ia:IL (.ap 0 (ints (bp (dE c i) (c.kd i)))) (bp (dE c i) (c.kd i)):=.inr rfl
      have ib:IL (.ap 0 (ints (bp (dE c i) (c.kd k)))) (bp (dE c i) (c.kd k)):=.inr rfl
      simp +contextual only [sZ,Nat.reduceEqDiff,Nat.reduceAdd,↓reduceIte,reduceCtorEq]
      refine af (YU ia ib la lb (fun x hx y hy=>h2 x (jY.1 hx) y (jY.1 hy)) Cb) ?_
      rintro r H3 ⟨n,rfl,hp,YW,Mc⟩
      have U3:=hU.trans YW
      have yes:∀ (Hx:List aa),Up c H1 Hx→Du c Hx→n < (bp (dE c i) (c.kd i)).length→(n=(bp (dE c i) (c.kd k)).length∨R c.O (c.tm ((bp (dE c i) (c.kd i)).getD n 0)) (c.tm ((bp (dE c i) (c.kd k)).getD n 0)))→
       b8 H1.length [.t 6] [(6,.bool true)] Hx (jf c (BD c i k) H1):=fun Hx u d hn hx=>eI rfl ⟨fun _=>⟨hl,hs,uC,n,hp,hn,hx⟩,fun _=>rfl⟩ u d
      have no:∀ (Hx:List aa),Up c H1 Hx→Du c Hx→¬ (n < (bp (dE c i) (c.kd i)).length∧(n=(bp (dE c i) (c.kd k)).length∨R c.O (c.tm ((bp (dE c i) (c.kd i)).getD n 0)) (c.tm ((bp (dE c i) (c.kd k)).getD n 0))))→
       b8 H1.length [.t 6] [(6,.bool false)] Hx (jf c (BD c i k) H1):=fun Hx u d hx=>eI rfl ⟨fun h=>by simp at h,fun ⟨_,_,_,m,hm,qN⟩=>absurd (hm.UX hp ▸ qN) hx⟩ u d
      by_cases h4:(n:Int) < (bp (dE c i) (c.kd i)).length
      ·have d4:decide ((n:Int) < (bp (dE c i) (c.kd i)).length)=true:=decide_eq_true h4
       by_cases h5:(n:Int)=(bp (dE c i) (c.kd k)).length
       ·have d5:decide ((n:Int)=(bp (dE c i) (c.kd k)).length)=true:=decide_eq_true h5
        simp +contextual only [ay,d4,d5,sZ,Nat.reduceEqDiff,↓reduceIte,reduceCtorEq]
        exact yes H3 U3 Mc (by omega) (.inl (by omega))
       ·have NJ:=hp.lb
        simp +contextual only [ay,dJ,a7,tN,h4,h5,decide_true,decide_false,sZ,Nat.reduceEqDiff,Nat.reduceAdd,↓reduceIte,reduceCtorEq]
        refine ⟨by omega,⟨by omega,by omega⟩,af (h3 _ (jY.1 (aP (by omega))) _ (jY.1 (aP (by omega))) H3 Mc) ?_⟩
        rintro r H4 ⟨b,rfl,hb,V4,V5⟩
        cases b with
        | true=>
          simp +contextual only [sZ,Nat.reduceEqDiff,↓reduceIte,reduceCtorEq]
          exact yes H4 (U3.trans V4) V5 (by omega) (.inr (hb.1 rfl))
        | false=>
          simp +contextual only [sZ,Nat.reduceEqDiff,↓reduceIte,reduceCtorEq]
          refine no H4 (U3.trans V4) V5 fun ⟨_,hx⟩=>?_
          rcases hx with hx | hx
          ·omega
          ·exact absurd (hb.2 hx) (by simp)
      ·simp +contextual only [ay,h4,decide_false,sZ,Nat.reduceEqDiff,↓reduceIte,reduceCtorEq]
       exact no H3 U3 Mc fun ⟨hx,_⟩=>by omega
end Go.aI
end
section
set_option maxRecDepth 100000
namespace Go.aI
open Go Go.Proofs Go.eJ
theorem DS (n:Int) (h:0≤n∧n < 18446744073709551616):IntKind.u64.wrap n=n:=by
 have:IntKind.u64.bits=64:=rfl
 have:IntKind.u64.signed=false:=rfl
 simp only [IntKind.wrap, *]
 have e:n % 2 ^ 64=n:=aeZ h.1 (by omega)
 rw [e]
 simp
theorem UY {n:Nat} (h:n < 4294967296) (φ:AV→Prop):dh .and (.int .u64 (n:Int)) (.int .u64 4294967295) φ=φ (.int .u64 (n:Int)):=by
 have e:(BitVec.ofInt IntKind.u64.bits (n:Int) &&& BitVec.ofInt IntKind.u64.bits 4294967295).toNat=n:=by
  show (BitVec.ofInt 64 (n:Int) &&& BitVec.ofInt 64 4294967295).toNat=n
  rw [BitVec.toNat_and]
  have e1:(BitVec.ofInt 64 (n:Int)).toNat=n:=by rw [BitVec.toNat_ofInt];omega
  have e2:(BitVec.ofInt 64 4294967295).toNat=2 ^ 32 - 1:=rfl
  rw [e1,e2,Nat.and_two_pow_sub_one_eq_mod,Nat.mod_eq_of_lt h]
 simp only [dh,e,true_and]
 rw [DS _ (by omega)]
theorem UZ {n:Nat} (h:n < 4294967296) (φ:AV→Prop):dX .shr (.int .u64 (n:Int)) (.int .u64 32) φ=φ (.int .u64 0):=by
 have e:Int.fdiv (n:Int) (2 ^ min (32:Int).toNat IntKind.u64.bits)=0:=by
  show Int.fdiv (n:Int) (2 ^ 32)=0
  rw [Int.fdiv_eq_ediv_of_nonneg _ (by decide)]
  omega
 simp only [dX,e]
 simp
theorem acf {n:Nat} (h:n < 4294967296):Pure Tryz.prog 213 [.int .u64 1,.int .u64 (n:Int)] (.tuple [.int .u64 0,.int .u64 (n:Int)]):=by
 refine fun H=>XK.2.calls rfl ?_
 simp only [XK,aJ]
 have a1:∀ φ:AV→Prop,dh .and (.int .u64 1) (.int .u64 4294967295) φ=φ (.int .u64 1):=fun φ=>UY (n:=1) (by decide) φ
 have s1:∀ φ:AV→Prop,dX .shr (.int .u64 1) (.int .u64 32) φ=φ (.int .u64 0):=fun φ=>UZ (n:=1) (by decide) φ
 have a0:∀ φ:AV→Prop,dh .and (.int .u64 0) (.int .u64 4294967295) φ=φ (.int .u64 0):=fun φ=>UY (n:=0) (by decide) φ
 have s0:∀ φ:AV→Prop,dX .shr (.int .u64 0) (.int .u64 32) φ=φ (.int .u64 0):=fun φ=>UZ (n:=0) (by decide) φ
 have w1:IntKind.u64.wrap (1 * (n:Int))=n:=by rw [Int.one_mul];exact DS _ (by omega)
 have w0:IntKind.u64.wrap 0=0:=DS _ (by omega)
 simp +contextual only [a1,s1,a0,s0,UY h,UZ h,w1,w0,Int.zero_mul,Int.mul_zero,Int.add_zero,sZ,Nat.reduceEqDiff,Nat.reduceAdd,↓reduceIte,reduceCtorEq]
 have:=zB (H:=H) (e:=[]) (s:=4) (s':=5) (v:=.int .u64 0) (v':=.int .u64 (n:Int)) (by decide) rfl rfl rfl rfl
 rwa [aaV] at this
theorem acg {n:Nat} (h:n < 4294967296):Pure Tryz.prog 174 [.int .u64 1,.int .u64 (n:Int)] (.tuple [.int .u64 0,.int .u64 (n:Int)]):=by
 refine fun H=>Xo.2.calls rfl ?_
 simp only [Xo,aJ]
 simp +contextual only [sZ,Nat.reduceEqDiff,Nat.reduceAdd,↓reduceIte,reduceCtorEq]
 refine ae (acf h) ?_
 simp +contextual only [sZ,Nat.reduceEqDiff,Nat.reduceAdd,Nat.reduceLT,↓reduceIte,reduceCtorEq]
 have:=zB (H:=H) (e:=[]) (s:=4) (s':=5) (v:=.int .u64 0) (v':=.int .u64 (n:Int)) (by decide) rfl rfl rfl rfl
 rwa [aaV] at this
def da (l:List Int):aa:=.cells (ints l)
def dP (i n:Nat) (x:Int):List Int:=List.replicate i x++List.replicate (n - i) 0
theorem mkI (n:Nat) (H:List aa) (K:AV→List aa→Prop) (h:n≤1000000000):fj 1 8 (.int .i64 0) (.int .i64 (n:Int)) H K=K (.aW H.length 0 n n) (H++[da (dP 0 n 0)]):=by
 have e:flat (List.replicate n (bP (.int .i64 0)))=ints (dP 0 n 0):=by
  rw [← pk];simp [dP,ints,bP]
 simp only [fj,tN,e,bb,da,true_and,eq_iff_iff]
 constructor
 ·rintro ⟨_,_,h⟩;exact h
 ·exact fun k=>⟨by omega,by omega,k⟩
theorem l8 (l:List Int) (k:Nat):(ints l).take k=ints (l.take k):=by simp [ints,List.map_take]
theorem td (l:List Int) (k:Nat):(ints l).drop k=ints (l.drop k):=by simp [ints,List.map_drop]
theorem l9 (l m:List Int):ints l++ints m=ints (l++m):=by simp [ints]
theorem vH (l:List Int):(ints l).map AV.ab=ints l:=by simp [ints,AV.ab]
theorem ma (l:List Int):(ints l).all AV.one=true:=by simp [ints,AV.one]
theorem xp (x:Int) {i m n:Nat} (h:i + m≤n):ah (ints (dP i n x)) i (ints (List.replicate m x))=ints (dP (i + m) n x):=by
 unfold ah
 rw [l8,ay,td,l9,l9,acj]
 congr 1
 unfold dP
 rw [aaA (by simp),aaw (by simp),adw,aaF (by simp),List.nil_append,acj,List.drop_replicate,← aaD,aeI]
 congr 2;omega
theorem YX (x:Int) {id n:Nat} {H:List aa} (hg:H[id]?=some (da (dP 0 n 0))) (K:AV→List aa→Prop) (hK:K (.int .i64 (min 1 n:Nat)) (H.set id (da (dP (min 1 n) n x)))):kj 1 (.aW id 0 n n) (.ap 0 (ints [x])) H K:=by
 have e0:dP 0 n 0=dP 0 n x:=by simp [dP]
 rw [e0] at hg
 have ec:v9 1 (.ap 0 (ints [x])) H=some (1,ints [x]):=rfl
 have et:(ints [x]).take (min 1 n * 1)=ints (List.replicate (min 1 n) x):=by
  rcases Nat.eq_zero_or_pos n with rfl | h
  ·rfl
  ·rw [show min 1 n=1 by omega];rfl
 have:=xp x (i:=0) (m:=min 1 n) (n:=n) (by omega)
 rw [aaQ] at this
 simp only [kj,ec,hg,da,et,vH,ma,bb,this,ay]
 exact ⟨trivial,by simp [dP];omega,trivial,hK⟩
theorem YY (x:Int) {id i n:Nat} (h0:0 < i) (h1:i < n) {H:List aa} (hg:H[id]?=some (da (dP i n x))) (K:AV→List aa→Prop) (hK:K (.int .i64 (min i (n - i):Nat)) (H.set id (da (dP (i + min i (n - i)) n x)))):kj 1 (.aW id i (n - i) (n - i)) (.aW id 0 i n) H K:=by
 have hl:(dP i n x).length=n:=by simp [dP];omega
 have ec:v9 1 (.aW id 0 i n) H=some (i,ints (dP i n x)):=by
  simp only [v9,hg,da,ay,hl,List.drop_zero]
  rw [if_pos (by omega)]
 have et:(ints (dP i n x)).take (min i (n - i) * 1)=ints (List.replicate (min i (n - i)) x):=by
  rw [aaW,l8]
  congr 1
  unfold dP
  rw [aaA (by simp;omega),List.take_replicate]
  congr 1;omega
 have:=xp x (i:=i) (m:=min i (n - i)) (n:=n) (by omega)
 simp only [kj,ec,hg,da,et,vH,ma,bb,this,ay,hl]
 exact ⟨trivial,by omega,trivial,hK⟩
theorem slA {id i n:Nat} (h:i < n) (φ:AV→Prop):bA 1 (.aW id 0 n n) (some (.int .i64 (i:Int))) none none φ=φ (.aW id i (n - i) (n - i)):=by
 simp only [bA,ic,dR,tN,eq_iff_iff]
 rw [if_neg (by omega)]
 constructor
 ·intro h;simpa using h.2.2.2
 ·intro k;exact ⟨by omega,by omega,oN _,by simpa using k⟩
theorem slB {id i n:Nat} (h:i < n) (φ:AV→Prop):bA 1 (.aW id 0 n n) none (some (.int .i64 (i:Int))) none φ=φ (.aW id 0 i n):=by
 simp only [bA,ic,dR,tN,eq_iff_iff]
 rw [if_neg (by omega)]
 constructor
 ·intro h;simpa using h.2.2.2
 ·intro k;exact ⟨by omega,by omega,by omega,by simpa using k⟩
theorem U0 (o:Nat) (x:Int) (n:Nat) (hn:n≤1000000000) (H:List aa):aw Tryz.prog 113 [.ap o (ints [x]),.int .i64 (n:Int)] H fun r H'=>r=.aW H.length 0 n n∧H'=H++[da (List.replicate n x)]:=by
 refine WU.2.calls rfl ?_
 simp only [WU,aJ]
 have w1:IntKind.u64.wrap 1=1:=DS _ (by omega)
 have w2:IntKind.u64.wrap (n:Int)=n:=DS _ (by omega)
 have w3:IntKind.i64.wrap (n:Int)=n:=cR _ (by omega)
 have e1:(ints [x]).length=1:=rfl
 have nn:decide ((n:Int) < 0)=false:=decide_eq_false (by omega)
 have ng:decide ((9223372036854775807:Int) < n)=false:=decide_eq_false (by omega)
 have z0:decide ((0:Int) < 0)=false:=rfl
 have ci:∀ (k k':IntKind) (n:Int) (φ:AV→Prop),cD k (.int k' n) φ=φ (.int k (k.wrap n)):=fun _ _ _ _=>rfl
 simp +contextual only [e1,w2,ci,nn,sZ,Nat.reduceEqDiff,Nat.reduceAdd,Nat.reduceLT,↓reduceIte,reduceCtorEq]
 refine ae (acg (n:=n) (by omega)) ?_
 simp +contextual only [w3,ci,ng,mkI n _ _ hn,sZ,Nat.reduceEqDiff,Nat.reduceAdd,Nat.reduceLT,↓reduceIte,reduceCtorEq,Int.reduceLT]
 have g0:(H++[da (dP 0 n 0)])[H.length]?=some (da (dP 0 n 0)):=by simp
 refine YX x g0 _ ?_
 simp +contextual only [sZ,Nat.reduceEqDiff,↓reduceIte,reduceCtorEq]
 have es:∀ i j,(H++[da (dP i n x)]).set H.length (da (dP j n x))=H++[da (dP j n x)]:=by intro i j;simp
 refine Lh Nat (fun i=>i≤n∧(0 < n→0 < i)) (fun i=>[(7,.aW H.length 0 n n),(8,.int .i64 i)]) (fun i=>H++[da (dP i n x)]) (fun i=>n - i) (min 1 n) ⟨by omega,by omega⟩ (aD rfl ?_) ?_
 ·simp
 ·intro i hI
  have gi:(H++[da (dP i n x)])[H.length]?=some (da (dP i n x)):=by simp
  by_cases aX:(i:Int) < n
  ·have nF:i < n:=by omega
   simp +contextual only [aX,decide_true,Option.map_some,Option.map_none,slA nF,slB nF,sZ,Nat.reduceEqDiff,↓reduceIte]
   refine YY x (by omega) nF gi _ ?_
   simp +contextual only [es,sZ,Nat.reduceEqDiff,↓reduceIte]
   refine ⟨i + min i (n - i),⟨by omega,by omega⟩,by omega,aD ?_ rfl⟩
   rw [cR _ (by omega)]
   rw [Int.natCast_add]
  ·have e:i=n:=by omega
   subst e
   simp +contextual only [aX,decide_false,sZ,Nat.reduceEqDiff,↓reduceIte,reduceCtorEq]
   have e3:dP i i x=List.replicate i x:=by simp [dP]
   rw [e3]
   refine ba (H.length + 1) (by omega) (by rw [aA,if_pos rfl,ft];simp) ?_
   rw [aA,if_pos rfl,aaw (by simp)]
   exact ⟨rfl,rfl⟩
end Go.aI
end
section
set_option maxRecDepth 100000
namespace Go.aI
open Go Go.Proofs Go.eJ
def pV (l:List Bool):List AV:=l.map .bool
def tf (l:List Bool):aa:=.cells (pV l)
theorem tg (l:List Bool):(pV l).length=l.length:=by simp [pV]
def below (n:Nat) (p:Nat→Bool):List Int:=((List.range n).filter p).map Int.ofNat
theorem xq (n:Nat) (p:Nat→Bool):below (n + 1) p=if p n=true then below n p++[(n:Int)] else below n p:=by
 unfold below
 rw [acr,List.filter_append,abf]
 by_cases h:p n=true
 ·simp [h]
 ·simp [h]
theorem jZ (n:Nat) (p:Nat→Bool):(below n p).length≤n:=by
 unfold below
 rw [abx]
 have:=List.length_filter_le p (List.range n)
 simpa using this
theorem gQ {n:Nat} {p:Nat→Bool} {x:Int}:x∈below n p↔∃ j:Nat,x=j∧j < n∧p j=true:=by
 unfold below
 simp only [aaq,aa2,aaP]
 constructor
 ·rintro ⟨j,h,rfl⟩;exact ⟨j,rfl,h⟩
 ·rintro ⟨j,rfl,h⟩;exact ⟨j,h,rfl⟩
structure Pr (Q:Int→Int→Prop) (a b:List Int) (k:Nat) (us:List Bool) (to:List Int):Prop where
 lu:us.length=a.length
 lt:to.length=b.length
 rest:∀ j,k≤j→j < b.length→to.getD j 0=-1
 t1:∀ j,j < k→to.getD j 0=-1∨∃ i:Nat,to.getD j 0=i∧i < a.length∧us.getD i false=true∧Q (a.getD i 0) (b.getD j 0)
 inj:∀ j j',j < k→j' < k→to.getD j 0=to.getD j' 0→to.getD j 0≠-1→j=j'
 uu:∀ i,i < a.length→us.getD i false=true→∃ j,j < k∧to.getD j 0=i
 free:∀ j,j < k→to.getD j 0=-1→∀ i,i < a.length→us.getD i false=false→¬ Q (a.getD i 0) (b.getD j 0)
theorem Jz {l:List Bool} {i j:Nat} {x:Bool} (hi:i < l.length):(l.set i x).getD j false=if j=i then x else l.getD j false:=by
 simp only [oM,abc]
 by_cases h:i=j
 ·subst h;simp [hi]
 ·rw [if_neg h,if_neg (fun e=>h e.symm)]
theorem Pr.start {Q:Int→Int→Prop} {a b:List Int}:Pr Q a b 0 (List.replicate a.length false) (List.replicate b.length (-1)):=
 ⟨by simp,by simp,fun j _ hj=>by simp [hj],fun j h=>by omega,fun j j' h=>by omega,fun i hi h=>by simp [hi] at h,fun j h=>by omega⟩
theorem Pr.pair {Q:Int→Int→Prop} {a b:List Int} {k i:Nat} {us:List Bool} {to:List Int} (h:Pr Q a b k us to) (hk:k < b.length) (hi:i < a.length) (hu:us.getD i false=false) (hq:Q (a.getD i 0) (b.getD k 0)) :
 Pr Q a b (k + 1) (us.set i true) (to.set k i):=by
 have hl:=h.lt
 have oU:=h.lu
 have gt:∀ j,(to.set k (i:Int)).getD j 0=if j=k then (i:Int) else to.getD j 0:=fun j=>l7 (by omega)
 have gu:∀ j,(us.set i true).getD j false=if j=i then true else us.getD j false:=fun j=>Jz (by omega)
 refine ⟨by simp [oU],by simp [hl],fun j h1 h2=>?_,fun j hj=>?_,fun j j' hj vI he hn=>?_,fun i' lM Ih=>?_,fun j hj hn i' lM Ih=>?_⟩
 ·rw [gt,if_neg (by omega)];exact h.rest j (by omega) h2
 ·rw [gt]
  by_cases e:j=k
  ·subst e;rw [if_pos rfl];exact .inr ⟨i,rfl,hi,by rw [gu,if_pos rfl],hq⟩
  ·rw [if_neg e]
   rcases h.t1 j (by omega) with h1 | ⟨i',h1,h2,h3,h4⟩
   ·exact .inl h1
   ·exact .inr ⟨i',h1,h2,by rw [gu];split;rfl;exact h3,h4⟩
 ·rw [gt] at he hn
  rw [gt] at he
  by_cases e:j=k
  ·by_cases e':j'=k
   ·omega
   ·rw [if_pos e,if_neg e'] at he
    rcases h.t1 j' (by omega) with h1 | ⟨i',h1,h2,h3,h4⟩
    ·omega
    ·have:i'=i:=by omega
     subst this;rw [hu] at h3;cases h3
  ·rw [if_neg e] at he hn
   by_cases e':j'=k
   ·rw [if_pos e'] at he
    rcases h.t1 j (by omega) with h1 | ⟨i',h1,h2,h3,h4⟩
    ·omega
    ·have:i'=i:=by omega
     subst this;rw [hu] at h3;cases h3
   ·rw [if_neg e'] at he
    exact h.inj j j' (by omega) (by omega) he hn
 ·rw [gu] at Ih
  by_cases e:i'=i
  ·subst e;exact ⟨k,by omega,by rw [gt,if_pos rfl]⟩
  ·rw [if_neg e] at Ih
   obtain ⟨j,h1,h2⟩:=h.uu i' lM Ih
   exact ⟨j,by omega,by rw [gt,if_neg (by omega)];exact h2⟩
 ·rw [gt] at hn
  rw [gu] at Ih
  by_cases e:j=k
  ·rw [if_pos e] at hn;omega
  ·rw [if_neg e] at hn
   by_cases e':i'=i
   ·rw [if_pos e'] at Ih;cases Ih
   ·rw [if_neg e'] at Ih
    exact h.free j (by omega) hn i' lM Ih
theorem Pr.eT {Q:Int→Int→Prop} {a b:List Int} {k:Nat} {us:List Bool} {to:List Int} (h:Pr Q a b k us to) (hk:k < b.length) (hq:∀ i,i < a.length→us.getD i false=false→¬ Q (a.getD i 0) (b.getD k 0)):Pr Q a b (k + 1) us to:=by
 have hr:=h.rest k (oN _) hk
 refine ⟨h.lu,h.lt,fun j h1 h2=>h.rest j (by omega) h2,fun j hj=>?_,fun j j' hj vI he hn=>?_,fun i hi hu=>?_,fun j hj hn i hi hu=>?_⟩
 ·by_cases e:j=k
  ·subst e;exact .inl hr
  ·exact h.t1 j (by omega)
 ·have h1:j≠k:=fun e=>by subst e;exact hn hr
  have h2:j'≠k:=fun e=>by subst e;exact hn (he.trans hr)
  exact h.inj j j' (by omega) (by omega) he hn
 ·obtain ⟨j,h1,h2⟩:=h.uu i hi hu;exact ⟨j,by omega,h2⟩
 ·by_cases e:j=k
  ·subst e;exact hq i hi hu
  ·exact h.free j (by omega) hn i hi hu
def YZ (c:Cx) (a b:List Int) (H:List aa) (r:AV) (H':List aa):Prop:=
 ∃ us to,Pr (fun x y=>E c.O (c.tm x) (c.tm y)) a b b.length us to∧r=.tuple [bt (below a.length fun i=>!us.getD i false),bt (below b.length fun j=>decide (to.getD j 0 < 0)),.ap 0 (ints to)]∧Up c H H'∧Du c H'
theorem mkB (n:Nat) (H:List aa) (K:AV→List aa→Prop) (h:n≤1000000000):fj 1 1 (.bool false) (.int .i64 (n:Int)) H K=K (.aW H.length 0 n n) (H++[tf (List.replicate n false)]):=by
 have e:flat (List.replicate n (bP (.bool false)))=pV (List.replicate n false):=by
  induction n with
  | zero=>rfl
  | succ n ih=>rw [aer,aer];exact congrArg (AV.bool false::·) (ih (by omega))
 have eb:∀ m,aj m (pV (List.replicate n false))=true:=fun m=>(aY _ _).2 fun x hx=>by
  obtain ⟨y,_,rfl⟩:=aaq.1 hx;rfl
 simp only [fj,tN,e,eb,tf,true_and,eq_iff_iff]
 constructor
 ·rintro ⟨_,_,h⟩;exact h
 ·exact fun k=>⟨by omega,by omega,k⟩
theorem DU {n:Nat} {p q:Nat→Bool} (h:∀ j,j < n→p j=q j):below n p=below n q:=by
 unfold below
 congr 1
 apply List.filter_congr
 intro j hj
 exact h j (aaP.1 hj)
structure PS (c:Cx) (H:List aa) (us:List Bool) (to:List Int) (G:List aa):Prop where
 du:Du c G
 up:Up c (H++[tf us,da to]) G
theorem PS.u {c:Cx} {H:List aa} {us:List Bool} {to:List Int} {G:List aa} (hD:Du c H) (h:PS c H us to G):G[H.length]?=some (tf us):=by
 obtain ⟨l1,l2,l3⟩:=hD.lt
 rw [h.up.get _ (by omega) (by omega)];simp
theorem PS.t {c:Cx} {H:List aa} {us:List Bool} {to:List Int} {G:List aa} (hD:Du c H) (h:PS c H us to G):G[H.length + 1]?=some (da to):=by
 obtain ⟨l1,l2,l3⟩:=hD.lt
 rw [h.up.get _ (by omega) (by omega)];simp
theorem PS.call {c:Cx} {H:List aa} {us:List Bool} {to:List Int} {G G':List aa} (h:PS c H us to G) (hU:Up c G G') (hD:Du c G'):PS c H us to G':=⟨hD,h.up.trans hU⟩
theorem PS.len {c:Cx} {H:List aa} {us:List Bool} {to:List Int} {G:List aa} (h:PS c H us to G):G.length=H.length + 2:=by have:=h.up.len;simpa using this
theorem PS.ach {c:Cx} {H:List aa} {us us':List Bool} {to:List Int} {G:List aa} (hD:Du c H) (h:PS c H us to G):PS c H us' to (G.set H.length (tf us')):=by
 obtain ⟨l1,l2,l3⟩:=hD.lt
 have hl:=h.len
 refine ⟨h.du.set (by omega) (by omega) (by omega),by simp [hl],fun j h1 h2=>?_⟩
 rw [abc]
 by_cases e:H.length=j
 ·subst e;rw [if_pos rfl,if_pos (by omega)];simp
 ·rw [if_neg e,h.up.get j h1 h2]
  by_cases e2:j < H.length
  ·rw [tK e2,tK e2]
  ·rw [aaE (by omega),aaE (by omega)]
   obtain ⟨m,rfl⟩:∃ m,j=H.length + (m + 1):=⟨j - H.length - 1,by omega⟩
   simp
theorem PS.aci {c:Cx} {H:List aa} {us:List Bool} {to to':List Int} {G:List aa} (hD:Du c H) (h:PS c H us to G):PS c H us to' (G.set (H.length + 1) (da to')):=by
 obtain ⟨l1,l2,l3⟩:=hD.lt
 have hl:=h.len
 refine ⟨h.du.set (by omega) (by omega) (by omega),by simp [hl],fun j h1 h2=>?_⟩
 rw [abc]
 by_cases e:H.length + 1=j
 ·subst e;rw [if_pos rfl,if_pos (by omega)];simp
 ·rw [if_neg e,h.up.get j h1 h2]
  by_cases e2:j < H.length
  ·rw [tK e2,tK e2]
  ·rw [aaE (by omega),aaE (by omega)]
   obtain ⟨m,rfl⟩:∃ m,j=H.length + m:=⟨j - H.length,by omega⟩
   rcases m with _ | m
   ·simp
   ·rcases m with _ | m
    ·omega
    ·simp
theorem ldB {us:List Bool} {i:Nat} (h:i < us.length) (φ:AV→Prop):cV (some (tf us)) none (i * 1) φ=φ (.bool (us.getD i false)):=by
 have e:(pV us).getD (i * 1) .any=.bool (us.getD i false):=by
  rw [aaW];simp [pV,h]
 simp only [tf,cV,e,pd,tg,eq_iff_iff]
 constructor
 ·exact fun h=>h.2
 ·exact fun h2=>⟨by omega,h2⟩
theorem BE {l:List Int} {i:Nat} (h:i < l.length) (φ:AV→Prop):cV (some (da l)) none (i * 1) φ=φ (.int .i64 (l.getD i 0)):=by
 have e:(ints l).getD (i * 1) .any=.int .i64 (l.getD i 0):=by
  rw [aaW];simp [ints,h]
 simp only [da,cV,e,ow,ay,eq_iff_iff]
 constructor
 ·exact fun h=>h.2
 ·exact fun h2=>⟨by omega,h2⟩
theorem stB {us:List Bool} {i:Nat} (h:i < us.length) (x:Bool) (id:Nat) (H:List aa) (K:List aa→Prop):iw (some (tf us)) 1 id (i * 1) (.bool x) H K=K (H.set id (tf (us.set i x))):=by
 have e:ah (pV us) (i * 1) [AV.bool x]=pV (us.set i x):=by
  rw [aaW,kT _ _ _ (by rw [tg];exact h)];simp [pV,adA]
 have e2:(AV.bool x).cells.map AV.ab=[.bool x]:=rfl
 simp only [tf,iw,e2,e,tg,eq_iff_iff]
 constructor
 ·exact fun h=>h.2.2.2.2.2
 ·exact fun h2=>⟨rfl,rfl,by omega,rfl,rfl,h2⟩
theorem Md {l:List Int} {i:Nat} (h:i < l.length) (x:Int) (id:Nat) (H:List aa) (K:List aa→Prop):iw (some (da l)) 1 id (i * 1) (.int .i64 x) H K=K (H.set id (da (l.set i x))):=by
 have e:ah (ints l) (i * 1) [AV.int .i64 x]=ints (l.set i x):=by
  rw [aaW,kT _ _ _ (by rw [ay];exact h)];simp [ints,adA]
 have e2:(AV.int .i64 x).cells.map AV.ab=[.int .i64 x]:=rfl
 simp only [da,iw,e2,e,ay,eq_iff_iff]
 constructor
 ·exact fun h=>h.2.2.2.2.2
 ·exact fun h2=>⟨rfl,rfl,by omega,rfl,rfl,h2⟩
theorem DV {id:Nat} {l:List Int} {H:List aa} (h:H[id]?=some (da l)) {K:AV→List aa→Prop} (hK:K (.ap 0 (ints l)) (H.set id .dead)):dN 1 (.aW id 0 l.length l.length) H K:=by
 have hc:∀ (l:List Int),chunks 1 l.length (ints l)=ints l:=by
  intro l
  induction l with
  | nil=>rfl
  | cons x q ih=>exact congrArg (AV.int .i64 x::·) ih
 simp only [dN,h,da,List.drop_zero,hc,ma]
 exact ⟨by omega,oN _,by simp [ay],trivial,hK⟩
theorem Me {id n:Nat} {l:List Int} {H:List aa} (h:H[id]?=some (da l)) (hn:l.length=n) {K:AV→List aa→Prop} (hK:K (.ap 0 (ints l)) (H.set id .dead)):fL 1 (.aW id 0 n n) H K:=by
 subst hn;exact DV h hK
theorem U1 {c:Cx} {a b:List Int} {va vb:AV} (ha:IL va a) (hb:IL vb b) (la:a.length≤1000000000) (lb:b.length≤1000000000) (h:∀ x∈a,∀ y∈b,kV c x y) {H:List aa} (hD:Du c H) :
 aw Tryz.prog 139 [.ptr c.d 0,va,vb] H (YZ c a b H):=by
 refine RH.2.calls rfl ?_
 simp only [RH,aJ]
 obtain ⟨a1,a2,a3,a4⟩:=ha.one
 obtain ⟨b1,b2,b3,b4⟩:=hb.one
 simp +contextual only [a2,b2,ha.aL,hb.aL,ha.len (by omega),hb.len (by omega),mkB _ _ _ la,sZ,Nat.reduceEqDiff,Nat.reduceAdd,↓reduceIte,reduceCtorEq]
 refine af (U0 0 (-1) b.length lb _) ?_
 rintro r G0 ⟨rfl,rfl⟩
 have el:(H++[tf (List.replicate a.length false)]).length=H.length + 1:=by simp
 rw [el]
 simp +contextual only [b2,hb.aL,hb.len (by omega),sZ,Nat.reduceEqDiff,↓reduceIte,reduceCtorEq]
 have ps0:PS c H (List.replicate a.length false) (List.replicate b.length (-1)) (H++[tf (List.replicate a.length false),da (List.replicate b.length (-1))]):=⟨hD.ta _,Up.refl c _⟩
 generalize H++[tf (List.replicate a.length false),da (List.replicate b.length (-1))]=G0 at ps0 ⊢
 refine aM b.length (fun k (p:List aa×List Bool×List Int)=>PS c H p.2.1 p.2.2 p.1∧Pr (fun x y=>E c.O (c.tm x) (c.tm y)) a b k p.2.1 p.2.2)
  (fun k p=>[(0,.ptr c.d 0),(1,va),(9,.aW H.length 0 a.length a.length),(10,.aW (H.length + 1) 0 b.length b.length),(11,.ag),(12,iK (below k fun j=>decide (p.2.2.getD j 0 < 0))),(26,vb),(27,.int .i64 b.length),(28,.int .i64 k)])
  (fun k p=>p.1) (G0,List.replicate a.length false,List.replicate b.length (-1)) ⟨⟨ps0,Pr.start⟩,aB _ _ _⟩ fun k p hk hI=>?_
 obtain ⟨G,us,to⟩:=p
 obtain ⟨qS,BF⟩:=hI
 simp only at qS BF
 simp +contextual only [a2,ha.aL,hb.lens,hb.idx,tN,ha.len (by omega),sZ,Nat.reduceEqDiff,↓reduceIte,reduceCtorEq]
 refine ⟨fun aX=>⟨by omega,?_⟩,fun jV=>?_⟩
 ·have aX:=b9 aX
  refine lV (Q1:=fun x e G'=>x=.exit 2∧∃ us' to',PS c H us' to' G'∧Pr (fun x y=>E c.O (c.tm x) (c.tm y)) a b (k + 1) us' to'∧(∀ j,j < k→to'.getD j 0=to.getD j 0)∧
   get e 0=.ptr c.d 0∧get e 1=va∧get e 9=.aW H.length 0 a.length a.length∧get e 10=.aW (H.length + 1) 0 b.length b.length∧get e 11=.ag∧get e 12=iK (below k fun j=>decide (to.getD j 0 < 0))∧get e 13=.int .i64 (k:Int)∧get e 26=vb∧get e 27=.int .i64 (b.length:Int)∧get e 28=.int .i64 (k:Int)) ?_ ?_
  ·refine aM a.length (fun i (G':List aa)=>PS c H us to G'∧∀ i',i' < i→us.getD i' false=false→¬ E c.O (c.tm (a.getD i' 0)) (c.tm (b.getD k 0)))
    (fun i G'=>[(0,.ptr c.d 0),(1,va),(9,.aW H.length 0 a.length a.length),(10,.aW (H.length + 1) 0 b.length b.length),(11,.ag),(12,iK (below k fun j=>decide (to.getD j 0 < 0))),(13,.int .i64 (k:Int)),(14,.int .i64 (b.getD k 0)),(26,vb),(27,.int .i64 b.length),(28,.int .i64 k),(33,va),(34,.int .i64 a.length),(35,.int .i64 i)])
    (fun i G'=>G') G ⟨⟨qS,fun i' lM=>by omega⟩,aB _ _ _⟩ fun i G' hi hI=>?_
   obtain ⟨BG,jN⟩:=hI
   have hlu:=BF.lu
   have nH:=BF.lt
   have gu:=BG.u hD
   by_cases NK:(i:Int) < a.length
   ·have Y0:i < a.length:=by omega
    have V6:i < us.length:=by omega
    cases hu:us.getD i false with
    | true=>
      simp +contextual only [NK,decide_true,ha.lens,ha.idx,tN,lC,gu,ldB V6,hu,Bool.not_true,sZ,Nat.reduceEqDiff,↓reduceIte,reduceCtorEq]
      refine ⟨by omega,by omega,⟨i + 1,G',⟨by omega,BG,fun i' lM h0=>?_⟩,by omega,aD (by rw [au i (by omega)]) rfl⟩⟩
      by_cases e:i'=i
      ·subst e;rw [hu] at h0;cases h0
      ·exact jN i' (by omega) h0
    | false=>
      simp +contextual only [NK,decide_true,ha.lens,ha.idx,tN,lC,gu,ldB V6,hu,Bool.not_false,sZ,Nat.reduceEqDiff,Nat.reduceAdd,↓reduceIte,reduceCtorEq]
      refine ⟨by omega,by omega,?_⟩
      refine af (h _ (aP Y0) _ (aP aX) G' BG.du) ?_
      rintro r G2 ⟨x,rfl,hx,hU,Cb⟩
      have ps2:=BG.call hU Cb
      cases x with
      | false=>
        simp +contextual only [sZ,Nat.reduceEqDiff,↓reduceIte,reduceCtorEq]
        refine ⟨i + 1,G2,⟨by omega,ps2,fun i' lM h0=>?_⟩,by omega,aD (by rw [au i (by omega)]) rfl⟩
        by_cases e:i'=i
        ·subst e;exact fun hh=>absurd (hx.2 hh) (by simp)
        ·exact jN i' (by omega) h0
      | true=>
        have gu2:=ps2.u hD
        have ps3:=ps2.ach (us':=us.set i true) hD
        have gt3:=ps3.t hD
        have It:k < to.length:=by omega
        simp +contextual only [lC,gu2,gt3,stB V6,Md It,sZ,Nat.reduceEqDiff,↓reduceIte,reduceCtorEq]
        refine ⟨by omega,by omega,us.set i true,to.set k i,ps3.aci hD,BF.pair aX Y0 hu (hx.1 rfl),fun j hj=>?_⟩
        rw [l7 It,if_neg (by omega)]
   ·simp +contextual only [NK,decide_false,sZ,Nat.reduceEqDiff,↓reduceIte,reduceCtorEq]
    exact ⟨us,to,BG,BF.eT aX fun i' lM h0=>jN i' (by omega) h0,fun _ _=>rfl⟩
  ·rintro x e G' ⟨rfl,us',to',BG,Qj,hsame,e0,e1,e9,e10,e11,e12,e13,e26,e27,e28⟩
   have hlu:=Qj.lu
   have nH:=Qj.lt
   have gt:=BG.t hD
   have It:k < to'.length:=by omega
   have ebl:(below k fun j=>decide (to'.getD j 0 < 0))=below k fun j=>decide (to.getD j 0 < 0):=DU fun j hj=>by rw [hsame j hj]
   have ebs:=xq k fun j=>decide (to'.getD j 0 < 0)
   have ebn:=jZ k fun j=>decide (to.getD j 0 < 0)
   by_cases yh:to'.getD k 0 < 0
   ·rw [if_pos (by simpa using yh),ebl] at ebs
    simp +contextual only [e0,e1,e9,e10,e11,e12,e13,e26,e27,e28,lC,gt,BE It,yh,decide_true,(eG _).2.1,oB,gO,sZ,Nat.reduceEqDiff,Nat.reduceAdd,↓reduceIte,reduceCtorEq]
    refine ⟨by omega,by omega,k + 1,(G',us',to'),⟨aX,BG,Qj⟩,by omega,aD (by rw [au k (by omega),ebs]) rfl⟩
   ·rw [if_neg (by simpa using yh),ebl] at ebs
    simp +contextual only [e0,e1,e9,e10,e11,e12,e13,e26,e27,e28,lC,gt,BE It,yh,decide_false,sZ,Nat.reduceEqDiff,↓reduceIte,reduceCtorEq]
    refine ⟨by omega,k + 1,(G',us',to'),⟨aX,BG,Qj⟩,by omega,aD (by rw [au k (by omega),ebs]) rfl⟩
 ·have hkk:k=b.length:=by omega
  subst hkk
  have hlu:=BF.lu
  have nH:=BF.lt
  have gu:=qS.u hD
  have gt:=qS.t hD
  refine aC a.length (fun i=>True) (fun i=>[(10,.aW (H.length + 1) 0 b.length b.length),(11,iK (below i fun j=>!us.getD j false)),(12,iK (below b.length fun j=>decide (to.getD j 0 < 0))),(69,.aW H.length 0 a.length a.length),(70,.int .i64 a.length),(71,.int .i64 i)])
   (fun i=>G) ⟨trivial,aB _ _ _⟩ fun i hi _=>?_
  have ebs:=xq i fun j=>!us.getD j false
  have ebn:=jZ i fun j=>!us.getD j false
  by_cases NK:(i:Int) < a.length
  ·have V6:i < us.length:=by omega
   cases hu:us.getD i false with
   | true=>
     rw [hu,if_neg (by simp)] at ebs
     simp +contextual only [NK,decide_true,lC,gu,ldB V6,hu,Bool.not_true,sZ,Nat.reduceEqDiff,↓reduceIte,reduceCtorEq]
     refine ⟨by omega,i + 1,by omega,by omega,aD (by rw [au i (by omega),ebs]) rfl⟩
   | false=>
     rw [hu,if_pos (by simp)] at ebs
     simp +contextual only [NK,decide_true,lC,gu,ldB V6,hu,Bool.not_false,(eG _).2.1,oB,gO,sZ,Nat.reduceEqDiff,Nat.reduceAdd,↓reduceIte,reduceCtorEq]
     refine ⟨by omega,by omega,i + 1,by omega,by omega,aD (by rw [au i (by omega),ebs]) rfl⟩
  ·have hii:i=a.length:=by omega
   subst hii
   simp +contextual only [NK,decide_false,(eG _).2.1,sZ,Nat.reduceEqDiff,↓reduceIte]
   refine Me gt nH ?_
   simp +contextual only [(aG _).2.1,sZ,Nat.reduceEqDiff,↓reduceIte,reduceCtorEq]
   obtain ⟨l1,l2,l3⟩:=hD.lt
   refine zY (by decide) rfl ⟨(aG _).2.2.1 _,(aG _).2.2.1 _,?_⟩ (aG _).2.1 (aG _).2.1 rfl ⟨us,to,BF,rfl,?_,?_⟩
   ·rw [wX,cc];exact bb _ _
   ·rw [aaM (by omega)];exact qS.up.take
   ·rw [aaM (by omega)];exact qS.du.take l1 l2 l3
end Go.aI
end
section
namespace Go.aI
open Go Go.Proofs Go.eJ
theorem JA {β:Type} (f:Int→β) (a:List Int):a.map f=(List.range a.length).map fun i=>f (a.getD i 0):=by
 apply adF
 ·simp
 ·intro i h1 h2
  have:i < a.length:=by simpa using h1
  simp [this]
theorem DW {β:Type} (f:Int→β) (a:List Int) (p:Nat→Bool):(a.map f).Perm (((List.range a.length).filter p).map (fun i=>f (a.getD i 0))++((List.range a.length).filter fun i=>!p i).map fun i=>f (a.getD i 0)):=by
 rw [JA,← abf]
 exact (List.filter_append_perm p (List.range a.length)).symm.map _
theorem rY (n:Nat) (p:Nat→Bool):((List.range n).filter p).Nodup:=List.Pairwise.filter p List.nodup_range
def uD (f:Int→T) (a:List Int) (us:List Bool):List T:=((List.range a.length).filter fun i=>!us.getD i false).map fun i=>f (a.getD i 0)
def DX (f:Int→T) (b to:List Int):List T:=((List.range b.length).filter fun j=>decide (to.getD j 0 < 0)).map fun j=>f (b.getD j 0)
theorem Pr.parts {f:Int→T} {a b:List Int} {us:List Bool} {to:List Int} (h:Pr (fun x y=>f x=f y) a b b.length us to) :
 ∃ C,(a.map f).Perm (uD f a us++C)∧(b.map f).Perm (DX f b to++C)∧Qb (uD f a us) (DX f b to):=by
 refine ⟨((List.range b.length).filter fun j=>!decide (to.getD j 0 < 0)).map fun j=>f (b.getD j 0),?_,DW f b _,?_⟩
 ·have h1:=DW f a (fun i=>!us.getD i false)
  refine h1.trans (List.Perm.append_left _ ?_)
  have hp:(((List.range b.length).filter fun j=>!decide (to.getD j 0 < 0)).map fun j=>(to.getD j 0).toNat).Perm ((List.range a.length).filter fun i=>!!us.getD i false):=by
   rw [List.perm_ext_iff_of_nodup]
   ·intro i
    simp only [aaq,aa2,aaP,aaN,decide_eq_false_iff_not,aeu]
    constructor
    ·rintro ⟨j,⟨hj,hn⟩,rfl⟩
     rcases h.t1 j hj with h2 | ⟨i,h2,h3,h4,_⟩
     ·omega
     ·rw [h2];exact ⟨by simpa using h3,by simpa using h4⟩
    ·rintro ⟨hi,hu⟩
     obtain ⟨j,h2,h3⟩:=h.uu i hi hu
     exact ⟨j,⟨h2,by omega⟩,by omega⟩
   ·rw [List.Nodup,List.pairwise_map]
    refine List.Pairwise.imp_of_mem ?_ (rY _ _)
    intro j j' hj vI dG he
    simp only [aa2,aaP,aaN,decide_eq_false_iff_not] at hj vI
    exact dG (h.inj j j' hj.1 vI.1 (by omega) (by omega))
   ·exact rY _ _
  refine (hp.map fun i=>f (a.getD i 0)).symm.trans ?_
  rw [ab9]
  refine List.Perm.of_eq (aa5 fun j hj=>?_)
  simp only [aa2,aaP,aaN,decide_eq_false_iff_not] at hj
  rcases h.t1 j hj.1 with h2 | ⟨i,h2,h3,h4,h5⟩
  ·omega
  ·show f (a.getD (to.getD j 0).toNat 0)=f (b.getD j 0)
   rw [h2];exact h5
 ·intro z hz Gb
  simp only [uD,DX,aaq,aa2,aaP,decide_eq_true_eq,aaN] at hz Gb
  obtain ⟨i,⟨hi,hu⟩,rfl⟩:=hz
  obtain ⟨j,⟨hj,hn⟩,he⟩:=Gb
  refine h.free j hj ?_ i hi hu he.symm
  rcases h.t1 j hj with h2 | ⟨i',h2,_⟩
  ·exact h2
  ·omega
theorem th {f:Int→T} {a:List Int} {us:List Bool}:uD f a us=[]↔below a.length (fun i=>!us.getD i false)=[]:=by
 simp [uD,below]
theorem Pr.mu {f:Int→T} {G:T→T→Prop} {a b:List Int} {us:List Bool} {to:List Int} (h:Pr (fun x y=>f x=f y) a b b.length us to) :
 Mu G (a.map f) (b.map f)↔below a.length (fun i=>!us.getD i false)≠[]∧∀ y∈below b.length (fun j=>decide (to.getD j 0 < 0)),∃ x∈below a.length (fun i=>!us.getD i false),G (f (a.getD x.toNat 0)) (f (b.getD y.toNat 0)):=by
 obtain ⟨C,h1,h2,h3⟩:=h.parts
 rw [L4 h1 h2 h3,Ne,th]
 refine and_congr Iff.rfl ⟨fun hh y hy=>?_,fun hh y hy=>?_⟩
 ·obtain ⟨j,rfl,hj,hn⟩:=gQ.1 hy
  obtain ⟨x,hx,hg⟩:=hh (f (b.getD j 0)) (by simp only [DX,aaq,aa2,aaP];exact ⟨j,⟨hj,hn⟩,rfl⟩)
  simp only [uD,aaq,aa2,aaP] at hx
  obtain ⟨i,⟨hi,hu⟩,rfl⟩:=hx
  exact ⟨i,gQ.2 ⟨i,rfl,hi,hu⟩,hg⟩
 ·simp only [DX,aaq,aa2,aaP] at hy
  obtain ⟨j,⟨hj,hn⟩,rfl⟩:=hy
  obtain ⟨x,hx,hg⟩:=hh j (gQ.2 ⟨j,rfl,hj,hn⟩)
  obtain ⟨i,rfl,hi,hu⟩:=gQ.1 hx
  refine ⟨f (a.getD i 0),?_,hg⟩
  simp only [uD,aaq,aa2,aaP]
  exact ⟨i,⟨hi,hu⟩,rfl⟩
theorem Pr.perm {f:Int→T} {a b:List Int} {us:List Bool} {to:List Int} (h:Pr (fun x y=>f x=f y) a b b.length us to) (hl:a.length=b.length) :
 (a.map f).Perm (b.map f)↔below a.length (fun i=>!us.getD i false)=[]:=by
 obtain ⟨C,h1,h2,h3⟩:=h.parts
 rw [pT h1 h2 h3,th (f:=f)]
 constructor
 ·exact fun h=>h.1
 ·intro h0
  refine ⟨h0,?_⟩
  have e1:=h1.length_eq
  have e2:=h2.length_eq
  have e3:(uD f a us).length=0:=by rw [(th (f:=f)).2 h0];rfl
  simp only [aap,abx] at e1 e2
  exact aaK.1 (by omega)
end Go.aI
end
section
set_option maxRecDepth 100000
set_option maxHeartbeats 0
namespace Go.aI
open Go Go.Proofs
noncomputable def RW:=aJ Tryz.call186 Tryz.func186 Tryz.ntmps186 [(0,0,1),(5,3,2000),(5,8,1000),(6,6,2000)] [(0,[1,2,3]),(1,[1,2,3,7,8]),(2,[1,2,3,26]),(3,[6]),(4,[3,9,10]),(5,[3,9,10,11,12]),(6,[6])] [(4,(.take 0 true (.take 1 true (.take 2 true (.take 3 true (.take 4 true (.take 5 true (.take 6 true (.take 7 true (.take 8 false (.take 9 false (.take 10 false (.take 12 false (.br 11 (.take 13 false (.take 14 false (.take 15 false (.br 16 (.br 17 (.br 18 (.br 19 .done .nil) .nil) .nil) (.br 17 (.br 16 (.br 18 (.br 19 .done .nil) .nil) .nil) .nil))))) (.br 16 (.br 11 (.take 13 false (.take 14 false (.take 15 false (.br 17 (.br 18 (.br 19 .done .nil) .nil) .nil)))) (.br 17 (.br 11 (.take 13 false (.take 14 false (.take 15 false (.br 18 (.br 19 .done .nil) .nil)))) (.br 18 (.take 11 true (.take 13 true (.take 14 true (.take 15 true (.br 19 .done .nil))))) .nil)) .nil)) (.br 17 (.br 11 (.take 13 false (.take 14 false (.take 15 false (.br 16 (.br 18 (.br 19 .done .nil) .nil) .nil)))) (.br 16 (.br 11 (.take 13 false (.take 14 false (.take 15 false (.br 18 (.br 19 .done .nil) .nil)))) (.br 18 (.take 11 true (.take 13 true (.take 14 true (.take 15 true (.br 19 .done .nil))))) .nil)) .nil)) .nil))))))))))))))))]
end Go.aI
end
section
set_option maxRecDepth 100000
namespace Go.aI
open Go Go.Proofs Go.eJ
def nf (c:Cx) (x:Int):T:=norm c.O (c.tm x)
def yF (c:Cx) (i k:Int):Prop:=uZ c i k=true∧dE c i=3∧Mu (Gt c.O.sp) ((c.kd i).map (nf c)) ((c.kd k).map (nf c))
theorem ack {c:Cx} {a b:List Int} {va vb:AV} (ha:IL va a) (hb:IL vb b) {p q:Nat} {x y:Int} (hx:0≤x∧x < a.length) (hy:0≤y∧y < b.length) (h:iP c (a.getD x.toNat 0) (b.getD y.toNat 0)) {G:List aa} (hD:Du c G) (gp:G[p]?=some (.cells [va])) (gq:G[q]?=some (.cells [vb])) :
 aw Tryz.prog 222 [.int .i64 x,.ai (.ptr c.d 0),.ptr p 0,.ptr q 0,.ai (.int .i64 y)] G (jf c (R c.O (c.tm (a.getD x.toNat 0)) (c.tm (b.getD y.toNat 0))) G):=by
 refine XT.2.calls rfl ?_
 simp only [XT,aJ]
 obtain ⟨a1,a2,a3,a4⟩:=ha.one
 obtain ⟨b1,b2,b3,b4⟩:=hb.one
 simp +contextual only [gp,gq,a2,b2,ha.lens,hb.lens,ha.idx,hb.idx,sZ,Nat.reduceEqDiff,Nat.reduceAdd,Nat.reduceLT,↓reduceIte,reduceCtorEq]
 refine ⟨hx,hy,af (h G hD) ?_⟩
 rintro r G' ⟨z,rfl,hz,hU,jQ⟩
 simp +contextual only [sZ,↓reduceIte,reduceCtorEq]
 exact eI rfl hz hU jQ
theorem acm {c:Cx} {a b l:List Int} {va vb vl:AV} (ha:IL va a) (hb:IL vb b) (hl:IL vl l) (ll:l.length≤1000000000) {p q:Nat} {y:Int} (hx:∀ x∈l,0≤x∧x < a.length) (hy:0≤y∧y < b.length) (h:∀ x∈l,iP c (a.getD x.toNat 0) (b.getD y.toNat 0)) {G:List aa} (hD:Du c G)
 (gp:G[p]?=some (.cells [va])) (gq:G[q]?=some (.cells [vb])) (np:p≠c.e∧p≠c.g) (nq:q≠c.e∧q≠c.g) :
 aw Tryz.prog 221 [.int .i64 y,.ai vl,.ai (.ptr c.d 0),.ptr p 0,.ptr q 0] G (jf c (¬ ∃ x∈l,R c.O (c.tm (a.getD x.toNat 0)) (c.tm (b.getD y.toNat 0))) G):=by
 refine XS.2.calls rfl ?_
 simp only [XS,aJ]
 obtain ⟨a1,a2,a3,a4⟩:=hl.one
 have ld:∀ (H:List aa) (φ:AV→Prop),aU none (.ai vl) H φ=φ vl:=fun H φ=>by simp [aU,a1,a2]
 simp +contextual only [ld,a2,sZ,Nat.reduceEqDiff,Nat.reduceAdd,↓reduceIte,reduceCtorEq]
 refine af (DR (SD.BC c G) hl ll 222 [] [.ai (.ptr c.d 0),.ptr p 0,.ptr q 0,.ai (.int .i64 y)] rfl rfl (Q:=fun x=>R c.O (c.tm (a.getD x.toNat 0)) (c.tm (b.getD y.toNat 0)))
  (fun x qN G' eH=>(ack ha hb (hx x qN) hy (h x qN) eH.1 (by rw [eH.2.get p np.1 np.2,gp]) (by rw [eH.2.get q nq.1 nq.2,gq])).mono fun r H' hr=>hr.sb eH) ⟨hD,Up.refl c G⟩) ?_
 rintro r G' ⟨z,rfl,hz,eH⟩
 simp +contextual only [sZ,↓reduceIte,reduceCtorEq]
 refine eI (b:=!z) rfl ?_ eH.2 eH.1
 rw [← hz];cases z <;> simp
theorem mb {P:Px} {t:DT} {f:AV→Env} {H:List aa} {o:Option aa} {off:Nat} {K1 K2:Env→List aa→Prop} (h:cV o none off fun x=>jE P t (f x) H K1) (hk:∀ e G,K1 e G→K2 e G):cV o none off fun x=>jE P t (f x) H K2:=by
 unfold cV at *
 split at h
 ·exact ⟨h.1,dI h.2 hk⟩
 ·exact h.elim
theorem Y1 {c:Cx} (hc:c.Ok) {i k:Int} (hi:c.dS i) (hk:c.dS k) (h2:∀ x∈c.kd i,∀ y∈c.kd k,kV c x y) (h3:∀ x∈c.kd i,∀ y∈c.kd k,iP c x y) {H:List aa} (hD:Du c H) :
 aw Tryz.prog 186 [.ptr c.d 0,.int .i64 i,.int .i64 k] H (jf c (yF c i k) H):=by
 refine RW.2.calls rfl ?_
 simp only [RW,aJ]
 have k2:∀ l,(bt l).ab=bt l:=fun l=>(aG l).2.1
 have l1:=hc.kl i hi
 have l2:=hc.kl k hk
 simp +contextual only [sZ,Nat.reduceEqDiff,Nat.reduceAdd,↓reduceIte,reduceCtorEq]
 refine af (Ga hc hi hk hD) ?_
 rintro r H1 ⟨rfl,rfl⟩
 simp +contextual only [sZ,Nat.reduceEqDiff,Nat.reduceAdd,Nat.reduceLT,↓reduceIte]
 cases hl:uZ c i k with
 | false=>
   simp +contextual only [Bool.not_false,sZ,Nat.reduceEqDiff,↓reduceIte,reduceCtorEq]
   exact eI rfl ⟨fun h=>by simp at h,fun h=>by have:=h.1;rw [hl] at this;simp at this⟩ (Up.refl c _) hD
 | true=>
   by_cases hs:dE c i=3
   ·have d3:decide (dE c i=3)=true:=decide_eq_true hs
    have d3':decide (¬dE c i=3)=false:=decide_eq_false (fun h=>h hs)
    simp +contextual only [Bool.not_true,hs,not_true_eq_false,decide_false,sZ,Nat.reduceEqDiff,Nat.reduceAdd,↓reduceIte]
    obtain ⟨l4,l5,l6⟩:=hD.lt
    have ed:∀ X:List aa,(H1++X)[c.d]?=H1[c.d]?:=fun X=>tK l4
    refine mb (K1:=fun e G=>get e 3=.ai (.ptr c.d 0)∧∃ p q X,get e 9=.ptr p 0∧get e 10=.ptr q 0∧H1.length≤p∧H1.length≤q∧G=H1++X∧G[p]?=some (.cells [bt (c.kd i)])∧G[q]?=some (.cells [bt (c.kd k)])) ?_ ?_
    ·obtain ⟨k1,k3,k4,k5,k6⟩:=aG (c.kd i)
     obtain ⟨m1,m3,m4,m5,m6⟩:=aG (c.kd k)
     have g0:∀ (x:aa) (l:List aa),(H1++x::l)[H1.length]?=some x:=fun x l=>by simp
     have g1:∀ (x y:aa),(H1++[x,y])[H1.length + 1]?=some y:=fun x y=>by simp
     have ei:(c.nd.getD i.toNat default).snd=c.kd i:=rfl
     have ek:(c.nd.getD k.toNat default).snd=c.kd k:=rfl
     have sp:∀ x:AV,ah [AV.ag] 0 [x]=[x]:=fun x=>rfl
     have A:∃ p q X,AV.ptr H1.length 0=AV.ptr p 0∧AV.ptr (H1.length + 1) 0=AV.ptr q 0∧H1.length≤p∧H1.length≤q∧H1++[.cells [bt (c.kd i)],.cells [bt (c.kd k)]]=H1++X∧(H1++[aa.cells [bt (c.kd i)],.cells [bt (c.kd k)]])[p]?=some (.cells [bt (c.kd i)])∧(H1++[aa.cells [bt (c.kd i)],.cells [bt (c.kd k)]])[q]?=some (.cells [bt (c.kd k)]):=
      ⟨_,_,_,rfl,rfl,oN _,Nat.le_succ _,rfl,g0 _ _,g1 _ _⟩
     have B:∃ p q X,AV.ptr (H1.length + 1) 0=AV.ptr p 0∧AV.ptr H1.length 0=AV.ptr q 0∧H1.length≤p∧H1.length≤q∧H1++[.cells [bt (c.kd k)],.cells [bt (c.kd i)]]=H1++X∧(H1++[aa.cells [bt (c.kd k)],.cells [bt (c.kd i)]])[p]?=some (.cells [bt (c.kd i)])∧(H1++[aa.cells [bt (c.kd k)],.cells [bt (c.kd i)]])[q]?=some (.cells [bt (c.kd k)]):=
      ⟨_,_,_,rfl,rfl,Nat.le_succ _,oN _,rfl,g1 _ _,g0 _ _⟩
     simp +contextual only [ed,hD.d,nc,EI,cJ,b7,k2,ei,ek,k1,k4,k5,k6,m1,m4,m5,m6,List.map_cons,List.map_nil,sp,List.all_cons,List.all_nil,abv,bM,cZ,sZ,Nat.reduceEqDiff,Nat.reduceAdd,Nat.reduceLT,↓reduceIte]
     refine ⟨hi,?_⟩
     repeat' apply hV
     all_goals first | exact hk.1 | exact hk.2 | exact A | exact B
    ·rintro e G ⟨e3,p,q,X,e9,e10,hp,hq,rfl,gp,gq⟩
     simp +contextual only [e3,e9,e10,gp,gq,k2,sZ,Nat.reduceEqDiff,Nat.reduceAdd,Nat.reduceLT,↓reduceIte,reduceCtorEq]
     refine af (U1 (.inl rfl:IL (bt (c.kd i)) (c.kd i)) (.inl rfl:IL (bt (c.kd k)) (c.kd k)) (by omega) (by omega) h2 (hD.ta X)) ?_
     rintro r G' ⟨us,to,BF,rfl,hU,jQ⟩
     have U2:=Pr.mu (f:=nf c) (G:=Gt c.O.sp) BF
     have lbl:=jZ (c.kd i).length fun i=>!us.getD i false
     have lbo:=jZ (c.kd k).length fun j=>decide (to.getD j 0 < 0)
     have il:IL (bt (below (c.kd i).length fun i=>!us.getD i false)) (below (c.kd i).length fun i=>!us.getD i false):=.inl rfl
     have io:IL (bt (below (c.kd k).length fun j=>decide (to.getD j 0 < 0))) (below (c.kd k).length fun j=>decide (to.getD j 0 < 0)):=.inl rfl
     have ml:∀ x∈below (c.kd i).length (fun i=>!us.getD i false),0≤x∧x < (c.kd i).length:=by
      intro x hx;obtain ⟨j,rfl,hj,_⟩:=gQ.1 hx;omega
     have mo:∀ x∈below (c.kd k).length (fun j=>decide (to.getD j 0 < 0)),0≤x∧x < (c.kd k).length:=by
      intro x hx;obtain ⟨j,rfl,hj,_⟩:=gQ.1 hx;omega
     generalize (below (c.kd i).length fun i=>!us.getD i false)=L at *
     generalize (below (c.kd k).length fun j=>decide (to.getD j 0 < 0))=V at *
     obtain ⟨a1,a2,a3,a4⟩:=il.one
     obtain ⟨b1,b2,b3,b4⟩:=io.one
     have hG1:∀ G2,Up c (H1++X) G2→Du c G2→Up c H1 (G2.take H1.length)∧Du c (G2.take H1.length):=fun G2 u d=>⟨u.take,d.take l4 l5 l6⟩
     have fin:∀ G2 (b:Bool),Up c (H1++X) G2→Du c G2→(b=true↔yF c i k)→b8 H1.length [.t 6] [(6,.bool b)] G2 (jf c (yF c i k) H1):=by
      intro G2 b u d hb
      refine ba H1.length (oN _) (by rw [aA,if_pos rfl];rfl) ?_
      rw [aA,if_pos rfl]
      exact ⟨b,rfl,hb,(hG1 G2 u d).1,(hG1 G2 u d).2⟩
     simp +contextual only [List.map_cons,List.map_nil,k2,a1,a3,a4,il.aL,il.len (by omega),b7,sZ,Nat.reduceEqDiff,Nat.reduceAdd,Nat.reduceLT,↓reduceIte,reduceCtorEq]
     refine ⟨fun hL=>?_,fun hL=>?_⟩
     ·have gp':G'[p]?=some (.cells [bt (c.kd i)]):=by rw [hU.get p (by omega) (by omega),gp]
      have gq':G'[q]?=some (.cells [bt (c.kd k)]):=by rw [hU.get q (by omega) (by omega),gq]
      have gm:∀ {x:Int} {l:List Int},0≤x∧x < l.length→l.getD x.toNat 0∈l:=fun h=>aP (by omega)
      refine af (DR (SD.BC c G') io (by omega) 221 [] [.ai (bt L),.ai (.ptr c.d 0),.ptr p 0,.ptr q 0] rfl rfl (Q:=fun y=>¬ ∃ x∈L,R c.O (c.tm ((c.kd i).getD x.toNat 0)) (c.tm ((c.kd k).getD y.toNat 0)))
       (fun y hy G2 U4=>(acm (.inl rfl) (.inl rfl) il (by omega) ml (mo y hy) (fun x hx=>h3 _ (gm (ml x hx)) _ (gm (mo y hy))) U4.1 (by rw [U4.2.get p (by omega) (by omega),gp']) (by rw [U4.2.get q (by omega) (by omega),gq']) ⟨by omega,by omega⟩ ⟨by omega,by omega⟩).mono fun r H' hr=>hr.sb U4) ⟨jQ,Up.refl c G'⟩) ?_
      rintro r G2 ⟨z,rfl,hz,U4⟩
      simp +contextual only [sZ,Nat.reduceEqDiff,↓reduceIte,reduceCtorEq]
      refine fin G2 (!z) (hU.trans U4.2) U4.1 ?_
      have hLn:L≠[]:=by intro e;rw [e] at hL;simp at hL
      rw [yF,U2]
      cases z with
      | true=>
        obtain ⟨y,hy,hn⟩:=hz.1 rfl
        exact ⟨fun h=>by simp at h,fun ⟨_,_,_,h⟩=>absurd (h y hy) hn⟩
      | false=>
        refine ⟨fun _=>⟨hl,hs,hLn,fun y hy=>?_⟩,fun _=>rfl⟩
        by_cases IC:∃ x∈L,R c.O (c.tm ((c.kd i).getD x.toNat 0)) (c.tm ((c.kd k).getD y.toNat 0))
        ·exact IC
        ·exact absurd (hz.2 ⟨y,hy,IC⟩) (by simp)
     ·refine fin G' false hU jQ ⟨fun h=>by simp at h,fun h=>?_⟩
      have:=(U2.1 h.2.2).1
      exact absurd (aaK.1 (by omega)) this
   ·have d3':decide (¬dE c i=3)=true:=decide_eq_true hs
    simp +contextual only [Bool.not_true,hs,decide_true,not_false_eq_true,sZ,Nat.reduceEqDiff,↓reduceIte,reduceCtorEq]
    exact eI rfl ⟨fun h=>by simp at h,fun h=>absurd h.2.1 hs⟩ (Up.refl c _) hD
theorem vJ {c:Cx} (hc:c.Ok) {i:Int} (hi:c.dS i):(c.tm i).l.map (norm c.O)=(c.kd i).map (nf c):=by
 rw [← (hc.kids i hi).1,ab9];rfl
theorem Gc {f:Int→T} {a b:List Int}:a.map f=b.map f↔a.length=b.length∧∀ j,j < a.length→f (a.getD j 0)=f (b.getD j 0):=by
 constructor
 ·intro h
  have hl:a.length=b.length:=by simpa using congrArg List.length h
  refine ⟨hl,fun j hj=>?_⟩
  have:=congrArg (fun l=>l[j]?) h
  have hb:j < b.length:=by omega
  simpa [hj,hb] using this
 ·rintro ⟨hl,h⟩
  apply adF
  ·simpa using hl
  ·intro j h1 h2
   have h3:j < a.length:=by simpa using h1
   have h4:j < b.length:=by simpa using h2
   simpa [h3,h4] using h j h3
theorem acn {c:Cx} (hc:c.Ok) {i k:Int} (hi:c.dS i) (hk:c.dS k) (h2:∀ x∈c.kd i,∀ y∈c.kd k,kV c x y) {H:List aa} (hD:Du c H):aw Tryz.prog 138 (DQ c i k) H (jf c (E c.O (c.tm i) (c.tm k)) H):=by
 refine W7.2.calls rfl ?_
 simp only [W7,aJ,DQ]
 have k2:∀ l,(bt l).ab=bt l:=fun l=>(aG l).2.1
 have l1:=hc.kl i hi
 have l2:=hc.kl k hk
 simp +contextual only [sZ,Nat.reduceEqDiff,Nat.reduceAdd,↓reduceIte,reduceCtorEq]
 refine af (qz hc hi hD) ?_
 rintro r H1 ⟨rfl,rfl⟩
 simp +contextual only [dF,fN,fO,fP,sZ,Nat.reduceEqDiff,Nat.reduceAdd,↓reduceIte,reduceCtorEq]
 refine af (qz hc hk hD) ?_
 rintro r H1 ⟨rfl,rfl⟩
 simp +contextual only [dF,fN,fO,fP,sZ,Nat.reduceEqDiff,↓reduceIte,reduceCtorEq]
 have eqf:∀ b:Bool,c9 false (.bool b) (.bool b)=fun φ=>φ (.bool true):=fun b=>by funext φ;cases b <;> simp [c9]
 have fT0:=HH
 have fT1:∀ (t:T) (φ:AV→Prop),al 1 none (.ai t.av) φ=φ (.ai (.int .i64 t.n)):=fun t φ=>by cases t;simp [al,T.av,apart,AV.cells,AV.one,T.n]
 have ei:(c.nd.getD i.toNat default).fst=c.tm i:=rfl
 have ek:(c.nd.getD k.toNat default).fst=c.tm k:=rfl
 have hE:=RR (O:=c.O) (a:=c.tm i) (b:=c.tm k)
 rw [vJ hc hi,vJ hc hk] at hE
 cases hbi:sr c i with
 | false=>
   have ki:(c.tm i).k≠2:=of_decide_eq_false hbi
   cases Ge:sr c k with
   | false=>
     have kk:(c.tm k).k≠2:=of_decide_eq_false Ge
     simp +contextual only [Bool.not_false,hD.d,nc,fN0,fT1,cJ,ei,ek,sZ,Nat.reduceEqDiff,Nat.reduceAdd,Nat.reduceLT,↓reduceIte,reduceCtorEq]
     refine ⟨hi,hk,eI rfl ?_ (Up.refl c _) hD⟩
     rw [hE,decide_eq_true_eq]
     exact ⟨fun h=>.inr ⟨ki,kk,h⟩,fun h=>by rcases h with h | h;exact absurd h.1 ki;exact h.2.2⟩
   | true=>
     have kk:(c.tm k).k=2:=of_decide_eq_true Ge
     simp +contextual only [Bool.not_false,sZ,Nat.reduceEqDiff,↓reduceIte,reduceCtorEq]
     refine eI rfl ?_ (Up.refl c _) hD
     rw [hE]
     exact ⟨fun h=>by simp at h,fun h=>by rcases h with h | h;exact absurd h.1 ki;exact absurd kk h.2.1⟩
 | true=>
   have ki:(c.tm i).k=2:=of_decide_eq_true hbi
   cases Ge:sr c k with
   | false=>
     have kk:(c.tm k).k≠2:=of_decide_eq_false Ge
     simp +contextual only [Bool.not_false,Bool.not_true,sZ,Nat.reduceEqDiff,↓reduceIte,reduceCtorEq]
     refine eI rfl ?_ (Up.refl c _) hD
     rw [hE]
     exact ⟨fun h=>by simp at h,fun h=>by rcases h with h | h;exact absurd h.2.1 kk;exact absurd ki h.1⟩
   | true=>
     have kk:(c.tm k).k=2:=of_decide_eq_true Ge
     have epi:qy c i=c.O.pl (c.tm i).n:=if_pos ki
     have epk:qy c k=c.O.pl (c.tm k).n:=if_pos kk
     have esi:dE c i=c.O.sp (c.O.pl (c.tm i).n):=if_pos ki
     have hE2:E c.O (c.tm i) (c.tm k)↔qy c i=qy c k∧(if dE c i=3 then ((c.kd i).map (nf c)).Perm ((c.kd k).map (nf c)) else (c.kd i).map (nf c)=(c.kd k).map (nf c)):=by
      rw [hE,epi,epk,esi]
      exact ⟨fun h=>by rcases h with h | h;exact h.2.2;exact absurd ki h.1,fun h=>.inl ⟨ki,kk,h⟩⟩
     have eki:(c.nd.getD i.toNat default).snd=c.kd i:=rfl
     have ekk:(c.nd.getD k.toNat default).snd=c.kd k:=rfl
     have ii:IL (bt (c.kd i)) (c.kd i):=.inl rfl
     have ik:IL (bt (c.kd k)) (c.kd k):=.inl rfl
     have hlen:E c.O (c.tm i) (c.tm k)→(c.kd i).length=(c.kd k).length:=by
      intro h
      have h:=(hE2.1 h).2
      split at h
      ·simpa using h.length_eq
      ·simpa using congrArg List.length h
     simp +contextual only [Bool.not_true,hD.d,nc,EI,cJ,b7,k2,eki,ekk,ii.aL,ik.aL,ii.len (by omega),ik.len (by omega),sZ,Nat.reduceEqDiff,Nat.reduceAdd,Nat.reduceLT,↓reduceIte,reduceCtorEq]
     refine ⟨hi,hk,fun hp=>⟨fun hn=>?_,fun hlk=>⟨fun h3=>?_,fun h3=>?_⟩⟩,fun hp=>?_⟩
     ·refine eI rfl ⟨fun h=>by simp at h,fun h=>absurd (hlen h) (by omega)⟩ (Up.refl c _) hD
     ·refine af (U1 ii ik (by omega) (by omega) h2 hD) ?_
      rintro r G ⟨us,to,BF,rfl,hU,jQ⟩
      have N7:=Pr.perm (f:=nf c) BF (by omega)
      have lbl:=jZ (c.kd i).length fun i=>!us.getD i false
      have il:IL (bt (below (c.kd i).length fun i=>!us.getD i false)) (below (c.kd i).length fun i=>!us.getD i false):=.inl rfl
      generalize (below (c.kd i).length fun i=>!us.getD i false)=L at *
      simp +contextual only [k2,il.aL,il.len (by omega),sZ,Nat.reduceEqDiff,Nat.reduceAdd,Nat.reduceLT,↓reduceIte,reduceCtorEq]
      refine eI rfl ?_ hU jQ
      rw [hE2,if_pos h3,N7,decide_eq_true_eq]
      exact ⟨fun h=>⟨hp,aaK.1 (by omega)⟩,fun h=>by rw [h.2];rfl⟩
     ·refine af (YQ (SD.BC c _) ii ik (by omega) (by omega) 79 [.ptr c.d 0] [] rfl rfl (Q:=fun x y=>E c.O (c.tm x) (c.tm y)) (fun x hx y hy G hG=>(h2 x hx y hy G hG.1).mono fun r H' hr=>hr.sb hG) ⟨hD,Up.refl c _⟩) ?_
      rintro r G ⟨b,rfl,hb,hG⟩
      simp +contextual only [sZ,↓reduceIte,reduceCtorEq]
      refine eI rfl ?_ hG.2 hG.1
      rw [hE2,if_neg h3,hb]
      have:=Gc (f:=nf c) (a:=c.kd i) (b:=c.kd k)
      exact ⟨fun h=>⟨hp,this.2 h⟩,fun h=>this.1 h.2⟩
     ·exact eI rfl ⟨fun h=>by simp at h,fun h=>absurd (hE2.1 h).1 hp⟩ (Up.refl c _) hD
end Go.aI
end
