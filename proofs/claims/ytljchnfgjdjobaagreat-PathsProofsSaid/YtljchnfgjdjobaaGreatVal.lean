/- Part 12 of 20 of the proof. -/
import Derived.Test.YtljchnfgjdjobaaGreatVak
import Derived.Test.YtljchnfgjdjobaaGreatVag
import Derived.KernelRfl
set_option linter.unusedVariables false
set_option linter.unusedSimpArgs false
set_option linter.defProp false
set_option linter.unusedSectionVars false
section
set_option maxRecDepth 100000
namespace Go.aK
open Go Go.Proofs Go.eI
def zI:AV:=.int .i64 0
theorem Cp:jW 1 (bS zI):=⟨rfl,rfl,rfl,rfl⟩
theorem o7 (l:List Int):∀ x∈ints l,jW 1 x:=by
 intro x hx;obtain ⟨n,_,rfl⟩:=aal.1 hx;exact ⟨rfl,rfl,rfl,rfl⟩
theorem pP:∀ l:List Int,flat (ints l)=ints l
 | []=>rfl
 | x::r=>by
   have:=pP r
   show AV.cells (.int .i64 x)++flat (ints r)=_
   rw [this];rfl
theorem Rb {l:List Int} (h:l≠[]):ints l≠[]:=by cases l with | nil=>exact absurd rfl h | cons v r=>simp [ints]
theorem M8 (o:Nat) (v:Int) (r:List Int) (φ:AV→Prop):dz 0 false (.al o (ints (v::r))) φ=φ (.bool false):=by simp [dz,isNil,ints]
theorem M9 (φ:AV→Prop):dz 0 false .ag φ=φ (.bool true):=by simp [dz,isNil]
theorem IG {esz bytes:Nat} {z:AV} (hz:jW esz (bS z)) {id o:Nat} {G:List aa} (bn:G[id]?=some (.cells [])) (ys:List AV) (hy:ys≠[]) (rG:∀ x∈ys,jW esz x) (hb:ys.length * bytes≤140737488355328) {base:Nat} (hG:base≤G.length) {K:AV→List aa→Prop}
 (hK:∀ v' G',RO z base v' ys G'→G'.take base=G.take base→G.length≤G'.length→K v' G'):da esz bytes z (.aZ id 0 0 0) (.al o ys) G K:=by
 obtain ⟨f1,f2,f3,f4⟩:=jW.flat rG
 have lV:∀ n m,aj n (c8 z m)=true:=fun n m=>(jW.flat (kR hz m)).2.2.1 n
 have hl:0 < ys.length:=adW.2 hy
 unfold da
 simp only [dB,bn]
 refine ⟨fun y h=>⟨(rG y h).len,(rG y h).one⟩,by simpa using hb,rC _,by simp,fun h=>absurd h (by omega),fun _ cap hc _=>⟨?_,?_⟩⟩
 ·simp only [afM,List.drop_zero,List.take_nil,List.map_nil,List.nil_append,f2,bK];exact ⟨f3 _,lV _ _⟩
 ·simp only [afM,List.drop_zero,List.take_nil,List.map_nil,List.nil_append,f2,abM]
  refine hK _ _ (.inr ⟨G.length,cap,hG,rfl,?_,by omega,hy⟩) ?_ (by simp)
  ·simp [bB]
  ·rw [aaR hG]
theorem ZU (l:List Int) (H:List aa) (hb:l.length * 8≤140737488355328):ax Tryz.prog 118 [bu l] H fun r H'=>RO zI H.length r (ints l) H'∧H'.take H.length=H∧H.length≤H'.length:=by
 refine SK.2.calls rfl ?_
 simp only [SK,aG]
 cases l with
 | nil=>
   simp +contextual only [bu,M9,sZ,Nat.reduceAdd,↓reduceIte,reduceCtorEq]
   exact aX H.length (rC _) (by rw [aA,if_pos rfl];rfl) ⟨.inl ⟨rfl,by rw [aA,if_pos rfl]⟩,by simp,by simp⟩
 | cons v r=>
   simp +contextual only [bu,M8,wB,uP,sZ,Nat.reduceEqDiff,Nat.reduceAdd,↓reduceIte,reduceCtorEq]
   refine ⟨rfl,IG Cp (by simp [flat]) (ints (v::r)) (Rb (by simp)) (o7 _) (by rw [aw];exact hb) (base:=H.length) (by simp) fun v' G' hR hG hl=>?_⟩
   obtain ⟨o1,o2,o3,o4⟩:=hR.one
   simp +contextual only [o3,sZ,↓reduceIte,reduceCtorEq]
   have xh:H.length≤G'.length:=by simp at hl;omega
   refine aX G'.length xh (by rw [aA,if_pos rfl];exact hR.bc (rC _)) ?_
   rw [aA,if_pos rfl,abp]
   exact ⟨hR,by rw [hG];simp,xh⟩
theorem Cq (l:List Int) (cap:Nat):bB zI (ints l) cap=.cells (ints l++c8 zI (cap - l.length)):=by rw [bB,pP,aw]
theorem IH {l:List Int} {cap i:Nat} (h:i < l.length) (φ:AV→Prop):dd (some (bB zI (ints l) cap)) none (i * 1) φ=φ (.int .i64 (l.getD i 0)):=by
 have e:(ints l++c8 zI (cap - l.length)).getD (i * 1) .any=.int .i64 (l.getD i 0):=by
  rw [abR,rB,yO (by rw [aw];exact h)]
  simp [ints,h]
 have hl:=aw l
 simp only [Cq,dd,e,oW,eq_iff_iff,aaf,hl]
 constructor
 ·exact fun h=>h.2
 ·exact fun h2=>⟨by omega,h2⟩
theorem Na {l:List Int} {cap i:Nat} (h:i < l.length) (n:Int) (id:Nat) (H:List aa) (K:List aa→Prop) (hK:K (H.set id (bB zI (ints (l.set i n)) cap))):iJ (some (bB zI (ints l) cap)) 1 id (i * 1) (.int .i64 n) H K:=by
 have e:ints (l.set i n)=(ints l).set i (.int .i64 n):=by simp [ints,adJ]
 rw [e] at hK
 refine Ch (esz:=1) (c:=0) (o7 l) (by rw [aw];exact h) (by decide) (v:=.int .i64 n) (y:=.int .i64 n) rfl rfl rfl ?_ hK
 simp [ints,h,AV.cells,AV.ab]
structure Tu (l:List Int) (i:Nat) (m:List Int):Prop where
 len:m.length=l.length
 get:∀ j,j < l.length→m.getD j 0=if j < i∨l.length - 1 - j < i then l.getD (l.length - 1 - j) 0 else l.getD j 0
theorem AN {l m:List Int} (h:m.length=l.length) (hg:∀ j,j < l.length→m.getD j 0=l.getD j 0):m=l:=by
 apply adV h
 intro j h1 h2
 have:=hg j h2
 simpa [h1,h2] using this
theorem Tu.done {l m:List Int} {i:Nat} (h:Tu l i m) (hi:l.length≤2 * i + 1):m=l.reverse:=by
 refine AN (by simp [h.len]) fun j hj=>?_
 simp at hj
 rw [h.get j hj]
 have e:l.reverse.getD j 0=l.getD (l.length - 1 - j) 0:=by
  have h1:l.length - 1 - j < l.length:=by omega
  simp [List.getElem?_reverse hj]
 rw [e]
 split
 ·rfl
 ·rename_i hc
  have:l.length - 1 - j=j:=by omega
  rw [this]
theorem jE {l:List Int} {i j:Nat} {x:Int} (hi:i < l.length):(l.set i x).getD j 0=if j=i then x else l.getD j 0:=by
 simp only [rB,ab6]
 by_cases h:i=j
 ·subst h;simp [hi]
 ·rw [if_neg h,if_neg (fun e=>h e.symm)]
theorem Tu.step {l m:List Int} {i k:Nat} (h:Tu l i m) (hk:l.length=i + k + 1) (aS:i < k):Tu l (i + 1) ((m.set i (m.getD k 0)).set k (m.getD i 0)):=by
 refine ⟨by simp [h.len],fun j hj=>?_⟩
 have hl:=h.len
 rw [jE (by simp;omega),jE (by omega)]
 by_cases h1:j=k
 ·subst h1
  rw [if_pos rfl,h.get i (by omega),if_neg (by omega),if_pos (by omega)]
  congr 1;omega
 ·rw [if_neg h1]
  by_cases h2:j=i
  ·subst h2
   rw [if_pos rfl,h.get k (by omega),if_neg (by omega),if_pos (by omega)]
   congr 1;omega
  ·rw [if_neg h2,h.get j hj]
   by_cases h3:j < i∨l.length - 1 - j < i
   ·rw [if_pos h3,if_pos (by omega)]
   ·rw [if_neg h3,if_neg (by omega)]
theorem Hb {H:List aa} {id:Nat} {o:aa} (h:H[id]?=some o):H.set id o=H:=by
 apply abU
 intro j
 rw [ab6]
 split
 ·rename_i e;subst e
  have:=(aaJ.1 h).1
  rw [if_pos this,h]
 ·rfl
theorem ZV (l:List Int) (base:Nat) (v:AV) (H:List aa) (hR:RO zI base v (ints l) H) (hb:l.length * 8≤140737488355328):ax Tryz.prog 199 [v] H fun r H'=>r=.tuple []∧RO zI base v (ints l.reverse) H'∧H'.take base=H.take base∧H'.length=H.length:=by
 refine SO.2.calls rfl ?_
 simp only [SO,aG]
 obtain ⟨o1,o2,o3,o4⟩:=hR.one
 simp +contextual only [o3,hR.len,hR.aO,aw,sZ,Nat.reduceEqDiff,Nat.reduceAdd,↓reduceIte,reduceCtorEq]
 rcases hR with ⟨e,rfl⟩ | ⟨id,cap,bn,rfl,hg,cp,dJ⟩
 ·have e:l=[]:=acp.1 e
  subst e
  refine aD 0 (fun _=>True) (fun _=>[(0,.ag),(2,.int .i64 0),(3,.int .i64 (-1))]) (fun _=>H) ⟨trivial,aE (by rfl) rfl⟩ fun i hi _=>?_
  simp +contextual only [sZ,Nat.reduceEqDiff,↓reduceIte,reduceCtorEq,Int.reduceLT]
  exact ⟨H.length,rC _,[],trivial,rfl,rfl,.inl ⟨rfl,rfl⟩,by simp,by simp⟩
 ·rw [aw] at cp ⊢
  have e1:IntKind.i64.wrap ((l.length:Int) - 1)=(l.length:Int) - 1 - (0:Nat):=by rw [cr _ (by omega)];omega
  rw [e1]
  refine aJ l.length (fun i m=>Tu l i m) (fun i m=>[(0,.aZ id 0 l.length cap),(2,.int .i64 i),(3,.int .i64 ((l.length:Int) - 1 - i))]) (fun i m=>H.set id (bB zI (ints m) cap)) l ⟨⟨rfl,fun j hj=>by simp⟩,aE rfl ?_⟩ fun i m hi hI=>?_
  ·exact (Hb hg).symm
  have wh:=(aaJ.1 hg).1
  have hm:=hI.len
  simp +contextual only [sZ,Nat.reduceEqDiff,↓reduceIte,reduceCtorEq]
  refine ⟨fun aS=>?_,fun jw=>?_⟩
  ·obtain ⟨k,hk⟩:∃ k,l.length=i + k + 1:=⟨l.length - i - 1,by omega⟩
   have e2:(l.length:Int) - 1 - i=(k:Nat):=by omega
   rw [e2] at aS ⊢
   have Nb:k < m.length:=by omega
   have hi1:i < m.length:=by omega
   simp +contextual only [iV,yS wh,IH Nb,IH hi1,sZ,Nat.reduceEqDiff,↓reduceIte,reduceCtorEq]
   refine ⟨by omega,by omega,by omega,Na hi1 _ _ _ _ ?_⟩
   have vf:k < (m.set i (m.getD k 0)).length:=by simp;omega
   simp +contextual only [iV,yS wh,aeg,sZ,Nat.reduceEqDiff,↓reduceIte,reduceCtorEq]
   refine ⟨by omega,Na vf _ _ _ _ ?_⟩
   simp +contextual only [aeg,sZ,Nat.reduceEqDiff,↓reduceIte,reduceCtorEq]
   have hw:IntKind.i64.wrap ((k:Int) - 1)=(l.length:Int) - 1 - ((i + 1:Nat):Int):=by rw [cr _ (by omega)];omega
   exact ⟨i + 1,_,⟨by omega,hI.step hk (by omega)⟩,by omega,aE (by rw [hw,au i (by omega)]) rfl⟩
  ·have hd:=hI.done (by omega)
   subst hd
   refine ⟨H.length,rC _,[],trivial,rfl,rfl,.inr ⟨id,cap,bn,by simp [aw],?_,by simpa [aw] using cp,?_⟩,?_,by simp⟩
   ·rw [aaw (by simp),yS wh]
   ·intro e;apply dJ;have:=acp.1 e;simp at this;rw [this];rfl
   ·rw [aaw (l:=H.set _ _) (by simp),abI bn]
def bt (s:Int) (l:List Int):List Int:=if s=2 then l.reverse else l
theorem Rc {id cap:Nat} {l:List Int} {H:List aa} (h:H[id]?=some (bB zI (ints l) cap)) (hl:l.length≤cap) {K:AV→List aa→Prop} (hK:K (.al 0 (ints l)) (H.set id .dead)):dZ 1 (.aZ id 0 l.length cap) H K:=by
 have hc:∀ (l:List Int) (r:List AV),chunks 1 l.length (ints l++r)=ints l:=by
  intro l r
  induction l with
  | nil=>rfl
  | cons x q ih=>exact congrArg (AV.int .i64 x::·) ih
 have ho:(ints l++c8 zI (cap - l.length)).all AV.one=true:=by
  rw [List.all_append,show (c8 zI (cap - l.length)).all AV.one=true from (jW.flat (kR Cp _)).2.2.2,acb]
  have:=(jW.flat (o7 l)).2.2.2
  rwa [pP] at this
 rw [Cq] at h
 simp only [dZ,h,List.drop_zero,hc,ho]
 exact ⟨by omega,hl,by simp [aw],trivial,hK⟩
theorem Kr (l:List Int) (s:Int) (hb:l.length * 8≤140737488355328):Pure Tryz.prog 149 [bu l,.int .i64 s] (.al 0 (ints (bt s l))):=by
 refine fun H=>SM.2.calls rfl ?_
 simp only [SM,aG]
 obtain ⟨k1,k2,k3,k4,k5⟩:=aI l
 simp +contextual only [k2,sZ,Nat.reduceEqDiff,Nat.reduceAdd,↓reduceIte,reduceCtorEq]
 refine af (ZU l H hb) ?_
 rintro v G ⟨hR,hG,hl⟩
 obtain ⟨o1,o2,o3,o4⟩:=hR.one
 have fin:∀ (m:List Int) (G':List aa) (K:AV→List aa→Prop),RO zI H.length v (ints m) G'→G'.take H.length=H→(∀ x G'',(m=[]∧x=.ag∨x=.al 0 (ints m))→x.ab=x→G''.take H.length=H→K x G'')→fY 1 v G' K:=by
  intro m G' K zD eR hK
  rcases zD with ⟨e,rfl⟩ | ⟨id,cap,bn,rfl,hg,cp,dJ⟩
  ·exact hK _ _ (.inl ⟨acp.1 e,rfl⟩) rfl eR
  ·rw [aw] at cp ⊢
   exact Rc hg cp (hK _ _ (.inr rfl) rfl (by rw [abI bn];exact eR))
 have fin2:∀ (m:List Int) (x:AV) (G':List aa),bt s l=m→(m=[]∧x=.ag∨x=.al 0 (ints m))→G'.take H.length=H→bV H.length [.t 4] [(4,x)] G' fun r H'=>r=.al 0 (ints (bt s l))∧H'=H:=by
  intro m x G' hm hx eR
  rw [hm]
  rcases hx with ⟨rfl,rfl⟩ | rfl
  ·exact ⟨H.length,rC _,.al 0 [],.inr (.inr (.inr (.inl ⟨rfl,0,rfl⟩))),rfl,rfl,eR⟩
  ·exact ⟨H.length,rC _,_,le_refl _,by show AV.bc _ (.al 0 (ints m))=true;rw [bW];exact bf _ _,rfl,eR⟩
 simp +contextual only [o3,sZ,Nat.reduceEqDiff,Nat.reduceAdd,↓reduceIte,reduceCtorEq]
 refine ⟨fun hs=>?_,fun hs=>?_⟩
 ·refine af (ZV l H.length v G hR hb) ?_
  rintro r G' ⟨rfl,zD,eR,_⟩
  simp +contextual only [sZ,↓reduceIte,reduceCtorEq]
  refine fin l.reverse G' _ zD (by rw [eR,hG]) fun x G'' hx hu VM=>?_
  simp +contextual only [hu,sZ,↓reduceIte,reduceCtorEq]
  exact fin2 l.reverse x G'' (by rw [bt,if_pos hs]) hx VM
 ·refine fin l G _ hR hG fun x G'' hx hu VM=>?_
  simp +contextual only [hu,sZ,↓reduceIte,reduceCtorEq]
  exact fin2 l x G'' (by rw [bt,if_neg hs]) hx VM
end Go.aK
end
section
set_option maxRecDepth 100000
namespace Go.aK
open Go Go.Proofs Go.eI
structure Cx where
 ps:List Int
 ss:List Int
 nd:List Nd
 d:Nat
 e:Nat
 g:Nat
def Cx.tm (c:Cx) (i:Int):T:=(c.nd.getD i.toNat default).1
def Cx.kd (c:Cx) (i:Int):List Int:=(c.nd.getD i.toNat default).2
def Cx.ep (c:Cx) (i:Int):Prop:=0≤i∧i < c.nd.length
def VN (ps ss:List Int) (p:Int):Int:=ss.getD (ps.findIdx fun q=>decide (q=p)) 0
def b9 (ps ss:List Int):Od:=⟨fun n=>ps.getD n.toNat 0,VN ps ss⟩
def Cx.O (c:Cx):Od:=b9 c.ps c.ss
structure Va (ps ss:List Int):Prop where
 len:ss.length=ps.length
 st:∀ i j,i < ps.length→j < ps.length→ps.getD i 0=ps.getD j 0→ss.getD i 0=ss.getD j 0
theorem Va.sp {ps ss:List Int} (h:Va ps ss) {i:Nat} (hi:i < ps.length):VN ps ss (ps.getD i 0)=ss.getD i 0:=by
 unfold VN
 have hx:ps.getD i 0∈ps:=by rw [rB,Oq hi];exact acf hi
 have h1:ps.findIdx (fun q=>decide (q=ps.getD i 0)) < ps.length:=afD ⟨_,hx,by simp⟩
 have h2:=afR (xs:=ps) (p:=fun q=>decide (q=ps.getD i 0)) (w:=h1)
 refine h.st _ _ h1 hi ?_
 rw [rB,Oq h1]
 exact of_decide_eq_true h2
structure Cx.Ok (c:Cx):Prop where
 va:Va c.ps c.ss
 nd:c.nd≠[]
 ne1:c.d≠c.e
 ne2:c.d≠c.g
 ne3:c.e≠c.g
 kl:∀ i,c.ep i→(c.kd i).length≤100000000
 kids:∀ i,c.ep i→(c.kd i).map c.tm=(c.tm i).l∧∀ k∈c.kd i,c.ep k
 op:∀ i,c.ep i→(c.tm i).k=2→0≤(c.tm i).n∧(c.tm i).n < c.ps.length
def nJ (m:List ((Int×Int)×Bool)):List (AV×AV):=m.map fun p=>(.agg [.int .i64 p.1.1,.int .i64 p.1.2],.bool p.2)
def Rt (c:Cx) (P:T→T→Prop) (m:List ((Int×Int)×Bool)):Prop:=∀ p∈m,p.2=true↔P (c.tm p.1.1) (c.tm p.1.2)
structure Du (c:Cx) (H:List aa):Prop where
 d:H[c.d]?=some (.cells [.al 0 (ints c.ps),.al 0 (ints c.ss),.al 0 (fj c.nd),.map c.e,.map c.g])
 e:∃ m,H[c.e]?=some (.map (nJ m))∧Rt c (E c.O) m
 g:∃ m,H[c.g]?=some (.map (nJ m))∧Rt c (R c.O) m
structure Up (c:Cx) (H H':List aa):Prop where
 len:H'.length=H.length
 get:∀ j,j≠c.e→j≠c.g→H'[j]?=H[j]?
theorem Up.refl (c:Cx) (H:List aa):Up c H H:=⟨rfl,fun _ _ _=>rfl⟩
theorem Up.trans {c:Cx} {H H' H'':List aa} (h:Up c H H') (k:Up c H' H''):Up c H H'':=⟨k.len.trans h.len,fun j h1 h2=>(k.get j h1 h2).trans (h.get j h1 h2)⟩
theorem Du.lt {c:Cx} {H:List aa} (h:Du c H):c.d < H.length∧c.e < H.length∧c.g < H.length:=by
 obtain ⟨m,h1,_⟩:=h.e
 obtain ⟨m',h2,_⟩:=h.g
 exact ⟨(aaJ.1 h.d).1,(aaJ.1 h1).1,(aaJ.1 h2).1⟩
theorem Du.ue {c:Cx} {H:List aa} (h:Du c H) (X:List aa):Du c (H++X):=by
 obtain ⟨l1,l2,l3⟩:=h.lt
 exact ⟨by rw [yO l1];exact h.d,by rw [yO l2];exact h.e,by rw [yO l3];exact h.g⟩
theorem Du.take {c:Cx} {H:List aa} {n:Nat} (h:Du c H) (h1:c.d < n) (h2:c.e < n) (h3:c.g < n):Du c (H.take n):=by
 exact ⟨by rw [aax,if_pos h1];exact h.d,by rw [aax,if_pos h2];exact h.e,by rw [aax,if_pos h3];exact h.g⟩
theorem Du.set {c:Cx} {H:List aa} {j:Nat} {o:aa} (h:Du c H) (h1:j≠c.d) (h2:j≠c.e) (h3:j≠c.g):Du c (H.set j o):=by
 exact ⟨by rw [yQ h1];exact h.d,by rw [yQ h2];exact h.e,by rw [yQ h3];exact h.g⟩
theorem Up.take {c:Cx} {H X H':List aa} (h:Up c (H++X) H'):Up c H (H'.take H.length):=
 ⟨by have:=h.len;simp at this ⊢;omega,fun j h1 h2=>by
   rw [aax]
   split
   ·rename_i hj;rw [h.get j h1 h2,yO hj]
   ·rename_i hj;rw [abL (by omega)]⟩
def jt (c:Cx) (Q:Prop) (H:List aa) (r:AV) (H':List aa):Prop:=∃ b:Bool,r=.bool b∧(b=true↔Q)∧Up c H H'∧Du c H'
theorem cn (l:List Int) (H:List aa) (φ:AV→Prop):aV none (.ai (bu l)) H φ=φ (bu l):=by
 obtain ⟨k1,k2,_⟩:=aI l
 simp [aV,k1,k2]
theorem fN0 (p:Nd) (φ:AV→Prop):ap 0 (some 3) (.ai (G8 p)) φ=φ (.ai p.1.av):=by
 obtain ⟨⟨k,n,l⟩,ks⟩:=p
 simp [ap,G8,apart,AV.cells,T.av,T.k,T.n,T.l]
theorem FD (p:Nd) (φ:AV→Prop):ap 3 none (.ai (G8 p)) φ=φ (.ai (bu p.2)):=by
 obtain ⟨k1,_⟩:=aI p.2
 simp [ap,G8,apart,AV.cells,k1]
theorem nK (e o:Nat) (l:List Nd) (k:IntKind) (i:Int) (φ:AV→Prop):aC e (.al o (fj l)) (.int k i) φ=((0≤i∧i < l.length)∧φ (.ai (G8 (l.getD i.toNat default)))):=by
 simp only [aC,sN,eq_iff_iff]
 constructor
 ·rintro ⟨h0,h,h2⟩;refine ⟨by omega,?_⟩;simpa [fj,h] using h2
 ·rintro ⟨⟨h0,h⟩,h2⟩;have h:i.toNat < l.length:=by omega
  refine ⟨h0,h,?_⟩;simpa [fj,h] using h2
theorem cT (o:Nat) (l:List Nd):(∀ (own:Nat) (xs:List AV),AV.al o (fj l)=AV.al own xs→∀ z∈xs,z.cells.length=4)=True:=by
 simp only [eq_iff_iff,iff_true]
 intro own xs e z hz
 cases e
 exact (kT l z hz).len
theorem aM (e o:Nat) (l:List Int) (k:IntKind) (i:Int) (φ:AV→Prop):aC e (.al o (ints l)) (.int k i) φ=((0≤i∧i < l.length)∧φ (.ai (.int .i64 (l.getD i.toNat 0)))):=by
 simp only [aC,aw,eq_iff_iff]
 constructor
 ·rintro ⟨h0,h,h2⟩;refine ⟨by omega,?_⟩;simpa [ints,h] using h2
 ·rintro ⟨⟨h0,h⟩,h2⟩;have h:i.toNat < l.length:=by omega
  refine ⟨h0,h,?_⟩;simpa [ints,h] using h2
def rc (c:Cx) (i:Int):Int:=if (c.tm i).k=2 then c.O.pl (c.tm i).n else 0
def dP (c:Cx) (i:Int):Int:=if (c.tm i).k=2 then c.O.sp (c.O.pl (c.tm i).n) else 0
def td (c:Cx) (i:Int):Bool:=decide ((c.tm i).k=2)
def Nc (c:Cx) (i:Int):AV:=.tuple [.int .i64 (rc c i),.int .i64 (dP c i),.bool (td c i)]
theorem II (t:T) (φ:AV→Prop):ap 0 none (.ai t.av) φ=φ (.ai (.int .i64 t.k)):=by cases t;simp [ap,T.av,apart,AV.cells,AV.one,T.k]
theorem AO {Hs G:List aa} {n0 a b c:Nat} {u v w x y z:AV} {R:AV→List aa→Prop} (vA:b≠a∧c≠a∧c≠b) (hH:Hs.take n0=G) (hb:x.bc n0=true∧y.bc n0=true∧z.bc n0=true)
 (hx:u.ab=x) (hy:v.ab=y) (hz:w.ab=z) (hR:R (.tuple [x,y,z]) G):bV n0 [.t a,.t b,.t c] [(a,u),(b,v),(c,w)] Hs R:=by
 subst hH;subst hx;subst hy;subst hz
 refine ⟨n0,rC _,[u.ab,v.ab,w.ab],?_,by simp only [aj,hb.1,hb.2.1,hb.2.2,aco],hR⟩
 simp only [aA,if_neg vA.1,if_neg vA.2.1,if_neg vA.2.2,if_true,List.map]
 exact b8 _
theorem rf {c:Cx} (hc:c.Ok) {i:Int} (hi:c.ep i) {H:List aa} (hD:Du c H):ax Tryz.prog 135 [.ptr c.d 0,.int .i64 i] H fun r H'=>r=Nc c i∧H'=H:=by
 refine X4.2.calls rfl ?_
 simp only [X4,aG]
 simp +contextual only [hD.d,nK,fN0,cT,aM,sZ,Nat.reduceEqDiff,Nat.reduceAdd,Nat.reduceLT,↓reduceIte,reduceCtorEq]
 refine ⟨hi,fun hk=>?_,fun hk=>?_⟩
 ·exact AO (by decide) (abp) ⟨rfl,rfl,rfl⟩ rfl rfl rfl ⟨by rw [Nc,rc,dP,td,if_neg (show ¬(c.tm i).k=2 from hk),if_neg (show ¬(c.tm i).k=2 from hk),decide_eq_false (show ¬(c.tm i).k=2 from hk)];rfl,rfl⟩
 ·obtain ⟨o1,o2⟩:=hc.op i hi hk
  have hl:=hc.va.len
  refine ⟨⟨o1,o2⟩,⟨o1,by rw [hl];exact o2⟩,?_⟩
  refine AO (by decide) (abp) ⟨rfl,rfl,rfl⟩ rfl rfl rfl ⟨?_,rfl⟩
  have e:=hc.va.sp (i:=(c.tm i).n.toNat) (by omega)
  rw [Nc,rc,dP,td,if_pos (show (c.tm i).k=2 from hk),if_pos (show (c.tm i).k=2 from hk),decide_eq_true (show (c.tm i).k=2 from hk)]
  have e2:c.O.sp (c.O.pl (c.tm i).n)=c.ss.getD (c.tm i).n.toNat 0:=e
  rw [e2];rfl
def nL (i k:Int):AV:=.agg [.int .i64 i,.int .i64 k]
theorem uf (i k:Int):∀ (m:List ((Int×Int)×Bool)) (n:Nat),(∃ j b,m[j]?=some ((i,k),b)∧eG 2 (nL i k) (nJ m) n=some (some (n + j,.bool b)))∨eG 2 (nL i k) (nJ m) n=some none
 | [],n=>.inr rfl
 | ((a,b),v)::r,n=>by
   have ih:=uf i k r (n + 1)
   have e:dk 2 (nL i k) (.agg [.int .i64 a,.int .i64 b])=some (decide (i=a∧k=b)):=by simp [dk,nL]
   simp only [nJ,List.map_cons,eG,e]
   by_cases h:i=a∧k=b
   ·obtain ⟨rfl,rfl⟩:=h
    exact .inl ⟨0,v,rfl,by simp⟩
   ·simp only [decide_eq_false h]
    rcases ih with ⟨j,x,h1,h2⟩ | h2
    ·exact .inl ⟨j + 1,x,h1,by rw [show n + (j + 1)=n + 1 + j by omega];exact h2⟩
    ·exact .inr h2
theorem lkM {i k:Int} {m:List ((Int×Int)×Bool)} {φ:AV→Prop} (h1:∀ b,((i,k),b)∈m→φ (.tuple [.bool b,.bool true])) (h2:φ (.tuple [.bool false,.bool false])):jq (some (.map (nJ m))) 2 (.bool false) (nL i k) true φ:=by
 unfold jq
 rcases uf i k m 0 with ⟨j,b,h3,h4⟩ | h4
 ·simp only [h4];exact h1 b (abE h3)
 ·simp only [h4];exact ⟨by simp [dk,nL],h2⟩
theorem Nf (m:List ((Int×Int)×Bool)) (j:Nat) (i k:Int) (b:Bool):(nJ m).set j (nL i k,.bool b)=nJ (m.set j ((i,k),b)):=by simp [nJ,nL,adJ]
theorem msM {i k:Int} {b:Bool} {m:List ((Int×Int)×Bool)} {id:Nat} {H:List aa} {K:List aa→Prop} (h:∀ m',(∀ p∈m',p∈m∨p=((i,k),b))→K (H.set id (.map (nJ m')))):jr (some (.map (nJ m))) 2 id (nL i k) (.bool b) H K:=by
 unfold jr
 refine ⟨by simp [nL,tT,bP,c9,ji],rfl,rfl,?_⟩
 have ec:a7 (.bool b)=.bool b:=rfl
 rcases uf i k m 0 with ⟨j,x,h3,h4⟩ | h4
 ·simp only [h4,ec,abM,Nf]
  refine h _ fun p hp=>?_
  rcases ab7 hp with h | h
  ·exact .inl h
  ·exact .inr h
 ·simp only [h4,ec]
  refine ⟨by simp [dk,nL],?_⟩
  have e:nJ m++[(nL i k,.bool b)]=nJ (m++[((i,k),b)]):=by simp [nJ,nL]
  rw [e]
  refine h _ fun p hp=>?_
  rcases abJ.1 hp with h | h
  ·exact .inl h
  ·exact .inr (by simpa using h)
theorem bdK (i k:Int) (φ:AV→Prop):cH [.int .i64 0,.int .i64 0] [(0,1,.int .i64 i),(1,1,.int .i64 k)] φ=φ (nL i k):=by
 simp only [cH,iB,eq_iff_iff]
 constructor
 ·rintro ⟨_,_,_,_,_,_,h⟩;exact h
 ·exact fun h=>⟨rfl,rfl,by simp,rfl,rfl,by simp [ah,AV.cells],h⟩
theorem Hc (i k:Int):(nL i k).val=true∧(nL i k).cells.length=2∧(nL i k).cells.all AV.one=true:=⟨rfl,rfl,rfl⟩
theorem ldK (i k:Int) (H:List aa) (φ:AV→Prop):aV (some 2) (.ai (nL i k)) H φ=φ (nL i k):=Ra _ _ _ _
def Mp (c:Cx) (w:Nat) (Q:T→T→Prop):Prop:=(w=c.e∧Q=E c.O)∨(w=c.g∧Q=R c.O)
theorem Mp.at {c:Cx} {w:Nat} {Q:T→T→Prop} (h:Mp c w Q) {H:List aa} (hD:Du c H):∃ m,H[w]?=some (.map (nJ m))∧Rt c Q m:=by
 rcases h with ⟨rfl,rfl⟩ | ⟨rfl,rfl⟩
 ·exact hD.e
 ·exact hD.g
theorem Mp.set {c:Cx} (hc:c.Ok) {w:Nat} {Q:T→T→Prop} (h:Mp c w Q) {H:List aa} (hD:Du c H) {m:List ((Int×Int)×Bool)} (hm:Rt c Q m):Du c (H.set w (.map (nJ m)))∧Up c H (H.set w (.map (nJ m))):=by
 obtain ⟨l1,l2,l3⟩:=hD.lt
 obtain ⟨_,_,n1,n2,n3,_,_,_⟩:=hc
 rcases h with ⟨rfl,rfl⟩ | ⟨rfl,rfl⟩
 ·exact ⟨⟨by rw [yQ (fun e=>n1 e.symm)];exact hD.d,⟨m,by rw [yS l2],hm⟩,by rw [yQ n3];exact hD.g⟩,by simp,fun j h1 h2=>by rw [yQ (fun e=>h1 e.symm)]⟩
 ·exact ⟨⟨by rw [yQ (fun e=>n2 e.symm)];exact hD.d,by rw [yQ (fun e=>n3 e.symm)];exact hD.e,⟨m,by rw [yS l3],hm⟩⟩,by simp,fun j h1 h2=>by rw [yQ (fun e=>h2 e.symm)]⟩
theorem eW {c:Cx} {s:Nat} {b:Bool} {Q:Prop} {H H':List aa} {x:AV} (hx:x=.bool b) (hb:b=true↔Q) (hU:Up c H H') (hD:Du c H'):bV H.length [.t s] [(s,x)] H' (jt c Q H):=by
 subst hx
 refine aX H.length (rC _) (by rw [aA,if_pos rfl];rfl) ?_
 rw [aA,if_pos rfl,aaw (by rw [hU.len];exact rC _)]
 exact ⟨b,rfl,hb,hU,hD⟩
theorem ZW {c:Cx} (hc:c.Ok) {w:Nat} {Q:T→T→Prop} (hw:Mp c w Q) (i k:Int) (fn:Nat) (cc:List AV) {H:List aa} (hD:Du c H) (cp:cc.map AV.ab=cc)
 (hf:ax Tryz.prog fn cc H (jt c (Q (c.tm i) (c.tm k)) H)):ax Tryz.prog 133 [.map w,.int .i64 i,.int .i64 k,.fn (.func fn) [] cc] H (jt c (Q (c.tm i) (c.tm k)) H):=by
 refine X2.2.calls rfl ?_
 simp only [X2,aG]
 obtain ⟨m,hm,hr⟩:=hw.at hD
 have kf:=Hc i k
 simp +contextual only [bdK,ldK,kf.1,kf.2.1,kf.2.2,hm,sZ,Nat.reduceEqDiff,Nat.reduceAdd,↓reduceIte,reduceCtorEq]
 refine lkM (fun b hb=>?_) ?_
 ·have hq:=hr _ hb
  cases b with
  | true=>
    simp +contextual only [sZ,Nat.reduceEqDiff,Nat.reduceAdd,Nat.reduceLT,↓reduceIte,reduceCtorEq]
    exact eW rfl hq (Up.refl c H) hD
  | false=>
    simp +contextual only [sZ,Nat.reduceEqDiff,Nat.reduceAdd,Nat.reduceLT,↓reduceIte,reduceCtorEq]
    exact eW rfl hq (Up.refl c H) hD
 ·simp +contextual only [cp,sZ,Nat.reduceEqDiff,Nat.reduceAdd,Nat.reduceLT,↓reduceIte,reduceCtorEq]
  refine af hf ?_
  rintro r H' ⟨b,rfl,hb,hU,kh⟩
  obtain ⟨m',OS,hr'⟩:=hw.at kh
  simp +contextual only [ldK,OS,sZ,Nat.reduceEqDiff,↓reduceIte,reduceCtorEq]
  refine msM fun m2 h2=>?_
  have oq:Rt c Q m2:=by
   intro p hp
   rcases h2 p hp with h | rfl
   ·exact hr' p h
   ·exact hb
  obtain ⟨s1,s2⟩:=hw.set hc kh oq
  simp +contextual only [sZ,Nat.reduceEqDiff,↓reduceIte,reduceCtorEq]
  exact eW rfl hb (hU.trans s2) s1
def lD (c:Cx) (i k:Int):Prop:=∀ H,Du c H→ax Tryz.prog 79 [.ptr c.d 0,.int .i64 i,.int .i64 k] H (jt c (E c.O (c.tm i) (c.tm k)) H)
def jb (c:Cx) (i k:Int):Prop:=∀ H,Du c H→ax Tryz.prog 76 [.ptr c.d 0,.int .i64 i,.int .i64 k] H (jt c (R c.O (c.tm i) (c.tm k)) H)
def EG (c:Cx) (i k:Int):List AV:=[.ai (.ptr c.d 0),.ai (.int .i64 i),.ai (.int .i64 k)]
theorem g53 (a b c d e z:AV):[a,b,c,d,e].getD 3 z=d:=rfl
theorem g54 (a b c d e z:AV):[a,b,c,d,e].getD 4 z=e:=rfl
theorem c79 {c:Cx} (hc:c.Ok) {i k:Int} (h:∀ H,Du c H→ax Tryz.prog 138 (EG c i k) H (jt c (E c.O (c.tm i) (c.tm k)) H)):lD c i k:=by
 intro H hD
 refine k79.2.calls rfl ?_
 simp only [k79,aG]
 simp +contextual only [hD.d,g53,sZ,Nat.reduceEqDiff,Nat.reduceAdd,Nat.reduceLT,↓reduceIte,reduceCtorEq]
 refine af (ZW hc (.inl ⟨rfl,rfl⟩) i k 138 (EG c i k) hD rfl (h H hD)) ?_
 rintro r H' ⟨b,rfl,hb,hU,kh⟩
 simp +contextual only [sZ,↓reduceIte,reduceCtorEq]
 exact eW rfl hb hU kh
theorem c76 {c:Cx} (hc:c.Ok) {i k:Int} (h:∀ H,Du c H→ax Tryz.prog 134 (EG c i k) H (jt c (R c.O (c.tm i) (c.tm k)) H)):jb c i k:=by
 intro H hD
 refine k76.2.calls rfl ?_
 simp only [k76,aG]
 simp +contextual only [hD.d,g54,sZ,Nat.reduceEqDiff,Nat.reduceAdd,Nat.reduceLT,↓reduceIte,reduceCtorEq]
 refine af (ZW hc (.inr ⟨rfl,rfl⟩) i k 134 (EG c i k) hD rfl (h H hD)) ?_
 rintro r H' ⟨b,rfl,hb,hU,kh⟩
 simp +contextual only [sZ,↓reduceIte,reduceCtorEq]
 exact eW rfl hb hU kh
theorem dQ (c:Cx) (i:Int):(Nc c i).ab=Nc c i:=rfl
theorem gb (c:Cx) (i:Int) (φ:AV→Prop):bM (Nc c i) 0 φ=φ (.int .i64 (rc c i)):=by simp [Nc,bM,oW]
theorem gf (c:Cx) (i:Int) (φ:AV→Prop):bM (Nc c i) 1 φ=φ (.int .i64 (dP c i)):=by simp [Nc,bM,oW]
theorem gg (c:Cx) (i:Int) (φ:AV→Prop):bM (Nc c i) 2 φ=φ (.bool (td c i)):=by simp [Nc,bM,pH]
def vX (c:Cx) (i k:Int):Bool:=td c i && (td c k && decide (rc c i=rc c k))
theorem lE {c:Cx} {i k:Int}:vX c i k=true↔(c.tm i).k=2∧(c.tm k).k=2∧c.O.pl (c.tm i).n=c.O.pl (c.tm k).n:=by
 simp only [vX,td,Ot,decide_eq_true_eq]
 unfold rc
 constructor
 ·rintro ⟨h1,h2,h3⟩;rw [if_pos h1,if_pos h2] at h3;exact ⟨h1,h2,h3⟩
 ·rintro ⟨h1,h2,h3⟩;refine ⟨h1,h2,?_⟩;rw [if_pos h1,if_pos h2];exact h3
theorem Hd {c:Cx} (hc:c.Ok) {i k:Int} (hi:c.ep i) (hk:c.ep k) {H:List aa} (hD:Du c H):ax Tryz.prog 155 [.ptr c.d 0,.int .i64 i,.int .i64 k] H fun r H'=>r=.tuple [.int .i64 (dP c i),.bool (vX c i k)]∧H'=H:=by
 refine Yh.2.calls rfl ?_
 simp only [Yh,aG]
 simp +contextual only [sZ,Nat.reduceEqDiff,Nat.reduceAdd,↓reduceIte,reduceCtorEq]
 refine af (rf hc hi hD) ?_
 rintro r H1 ⟨rfl,rfl⟩
 simp +contextual only [dQ,gb,gf,gg,sZ,Nat.reduceEqDiff,Nat.reduceAdd,↓reduceIte,reduceCtorEq]
 refine af (rf hc hk hD) ?_
 rintro r H1 ⟨rfl,rfl⟩
 simp +contextual only [dQ,gb,gf,gg,sZ,Nat.reduceEqDiff,↓reduceIte,reduceCtorEq]
 have fin:∀ (s:Int) (b:Bool),s=dP c i→b=vX c i k→bV H1.length [.t 6,.t 7] [(6,.int .i64 s),(7,.bool b)] H1 fun r H'=>r=.tuple [.int .i64 (dP c i),.bool (vX c i k)]∧H'=H1:=by
  rintro s b rfl rfl
  have:=Au (H:=H1) (e:=[]) (s:=6) (s':=7) (v:=.int .i64 (dP c i)) (v':=.bool (vX c i k)) (by decide) rfl rfl rfl rfl
  rwa [abQ] at this
 cases h1:td c i with
 | false=>
   simp +contextual only [sZ,Nat.reduceEqDiff,↓reduceIte,reduceCtorEq]
   exact fin _ _ rfl (by rw [vX,h1];rfl)
 | true=>
   cases h2:td c k with
   | false=>
     simp +contextual only [sZ,Nat.reduceEqDiff,↓reduceIte,reduceCtorEq]
     exact fin _ _ rfl (by rw [vX,h1,h2];rfl)
   | true=>
     simp +contextual only [sZ,Nat.reduceEqDiff,↓reduceIte,reduceCtorEq]
     exact fin _ _ rfl (by rw [vX,h1,h2];rfl)
end Go.aK
end
section
set_option maxRecDepth 100000
namespace Go.aK
open Go Go.Proofs Go.eI
def IL (v:AV) (l:List Int):Prop:=v=bu l∨v=.al 0 (ints l)
theorem IL.one {v:AV} {l:List Int} (h:IL v l):v.one=true∧v.ab=v∧v.val=true∧v.cells=[v]:=by
 rcases h with rfl | rfl
 ·obtain ⟨k1,k2,_,k4,k5⟩:=aI l;exact ⟨k1,k2,k4,k5⟩
 ·exact ⟨rfl,rfl,rfl,rfl⟩
theorem IL.len {v:AV} {l:List Int} (h:IL v l) (hs:l.length < 9223372036854775808) (H:List aa) (φ:AV→Prop):fg v H φ=φ (.int .i64 l.length):=by
 have hl:∀ l:List Int,l.length < 9223372036854775808→fg (.al 0 (ints l)) H φ=φ (.int .i64 l.length):=by
  intro l hs;simp [fg,aw,hs]
 rcases h with rfl | rfl
 ·cases l with
  | nil=>rfl
  | cons x r=>exact hl _ hs
 ·exact hl _ hs
theorem IL.x8 {v:AV} {l:List Int} (h:IL v l) (H:List aa) (φ:AV→Prop):ja v H φ=φ (.int .i64 l.length):=by
 rcases h with rfl | rfl
 ·cases l with
  | nil=>rfl
  | cons x r=>rw [bu,mw,aw]
 ·rw [mw,aw]
theorem IL.aO {v:AV} {l:List Int} (h:IL v l):aO 1 v=True:=by
 rcases h with rfl | rfl
 ·cases l <;> simp [bu,Go.aK.aO]
 ·simp [Go.aK.aO]
theorem IL.idx {v:AV} {l:List Int} (h:IL v l) (k:IntKind) (i:Int) (φ:AV→Prop):aC 1 v (.int k i) φ=((0≤i∧i < l.length)∧φ (.ai (.int .i64 (l.getD i.toNat 0)))):=by
 rcases h with rfl | rfl
 ·cases l with
  | nil=>simp [bu,aC];omega
  | cons x r=>exact aM 1 0 (x::r) k i φ
 ·exact aM 1 0 l k i φ
theorem IL.lens {v:AV} {l:List Int} (h:IL v l):(∀ (own:Nat) (xs:List AV),v=AV.al own xs→∀ z∈xs,z.cells.length=1)=True:=by
 rcases h with rfl | rfl
 ·cases l with
  | nil=>simp [bu]
  | cons x r=>exact dT 0 (x::r)
 ·exact dT 0 l
def tf (S:List aa→Prop):Prop:=∀ H H',S H→S H'→H'.length=H.length
def SB (S:List aa→Prop) (Q:Prop) (r:AV) (H':List aa):Prop:=∃ b:Bool,r=.bool b∧(b=true↔Q)∧S H'
def SI (S:List aa→Prop) (Q:Int→Prop) (l:List Int) (r:AV) (H':List aa):Prop:=
 S H'∧((r=.int .i64 (-1)∧∀ x∈l,¬ Q x)∨∃ n:Nat,r=.int .i64 n∧n < l.length∧Q (l.getD n 0)∧∀ j,j < n→¬ Q (l.getD j 0))
theorem Cr {S:List aa→Prop} (hl:tf S) {s:Nat} {b:Bool} {Q:Prop} {H H':List aa} {x:AV} (hx:x=.bool b) (hb:b=true↔Q) (hS:S H) (ZX:S H'):bV H.length [.t s] [(s,x)] H' (SB S Q):=by
 subst hx
 refine aX H.length (rC _) (by rw [aA,if_pos rfl];rfl) ?_
 rw [aA,if_pos rfl,aaw (by rw [hl H H' hS ZX];exact rC _)]
 exact ⟨b,rfl,hb,ZX⟩
theorem aT {l:List Int} {i:Nat} (h:i < l.length):l.getD i 0∈l:=by rw [rB,Oq h];exact acf h
theorem ZY {S:List aa→Prop} (hS:tf S) {Q:Int→Int→Prop} {a b:List Int} {va vb:AV} (ha:IL va a) (hb:IL vb b) (la:a.length≤1000000000) (lb:b.length≤1000000000) (g:Nat) (pre cc:List AV) (cp:cc.map AV.ab=cc) (mQ:pre.map AV.ab=pre)
 (hf:∀ x∈a,∀ y∈b,∀ H,S H→ax Tryz.prog g (pre++[.int .i64 x,.int .i64 y]++cc) H (SB S (Q x y))) {H:List aa} (hH:S H) :
 ax Tryz.prog 140 [va,vb,.fn (.func g) pre cc] H (SB S (a.length=b.length∧∀ j,j < a.length→Q (a.getD j 0) (b.getD j 0))):=by
 refine X7.2.calls rfl ?_
 simp only [X7,aG]
 obtain ⟨a1,a2,a3,a4⟩:=ha.one
 obtain ⟨b1,b2,b3,b4⟩:=hb.one
 simp +contextual only [a2,b2,ha.aO,hb.aO,ha.len (by omega),hb.len (by omega),sZ,Nat.reduceEqDiff,Nat.reduceAdd,↓reduceIte,reduceCtorEq]
 refine ⟨fun dJ=>Cr hS rfl ⟨fun h=>by simp at h,fun h=>absurd (by omega) dJ⟩ hH hH,fun heq=>?_⟩
 refine aJ a.length (fun i (G:List aa)=>S G∧∀ j,j < i→Q (a.getD j 0) (b.getD j 0))
  (fun i G=>[(1,vb),(2,.fn (.func g) pre cc),(15,va),(16,.int .i64 b.length),(17,.int .i64 i)]) (fun i G=>G) H ⟨⟨hH,fun j hj=>by omega⟩,aB _ _ _⟩ fun i G hi hI=>?_
 obtain ⟨hG,hq⟩:=hI
 simp +contextual only [b2,ha.lens,hb.lens,ha.idx,hb.idx,yP,cp,mQ,sZ,Nat.reduceEqDiff,Nat.reduceAdd,↓reduceIte,reduceCtorEq]
 refine ⟨fun aS=>⟨by omega,by omega,?_⟩,fun jw=>?_⟩
 ·refine af (hf _ (aT (by omega)) _ (aT (by omega)) G hG) ?_
  rintro r G' ⟨x,rfl,hx,eR⟩
  cases x with
  | true=>
    simp +contextual only [sZ,Nat.reduceEqDiff,↓reduceIte]
    refine ⟨i + 1,G',⟨by omega,eR,fun j hj=>?_⟩,by omega,aE (by rw [au i (by omega)]) rfl⟩
    by_cases h:j=i
    ·subst h;exact hx.1 rfl
    ·exact hq j (by omega)
  | false=>
    simp +contextual only [sZ,Nat.reduceEqDiff,↓reduceIte,reduceCtorEq]
    refine Cr hS rfl ⟨fun h=>by simp at h,fun h=>?_⟩ hH eR
    exact absurd (hx.2 (h.2 i (by omega))) (by simp)
 ·refine Cr hS rfl ⟨fun _=>⟨by omega,fun j hj=>hq j (by omega)⟩,fun _=>rfl⟩ hH hG
theorem Ng {S:List aa→Prop} (hS:tf S) {Q:Int→Prop} {a:List Int} {va:AV} (ha:IL va a) (la:a.length≤1000000000) (g:Nat) (pre cc:List AV) (cp:cc.map AV.ab=cc) (mQ:pre.map AV.ab=pre)
 (hf:∀ x∈a,∀ H,S H→ax Tryz.prog g (pre++[.int .i64 x]++cc) H (SB S (Q x))) {H:List aa} (hH:S H) :
 ax Tryz.prog 100 [va,.fn (.func g) pre cc] H (SI S Q a):=by
 refine DU.2.calls rfl ?_
 simp only [DU,aG]
 obtain ⟨a1,a2,a3,a4⟩:=ha.one
 simp +contextual only [a2,ha.aO,ha.len (by omega),sZ,Nat.reduceEqDiff,Nat.reduceAdd,↓reduceIte,reduceCtorEq]
 have fin:∀ (n:Int) (G:List aa),S G→((n=-1∧∀ x∈a,¬ Q x)∨∃ m:Nat,n=m∧m < a.length∧Q (a.getD m 0)∧∀ j,j < m→¬ Q (a.getD j 0))→bV H.length [.t 4] [(4,.int .i64 n)] G (SI S Q a):=by
  intro n G hG hn
  refine aX H.length (rC _) (by rw [aA,if_pos rfl];rfl) ?_
  rw [aA,if_pos rfl,aaw (by rw [hS H G hH hG];exact rC _)]
  refine ⟨hG,?_⟩
  rcases hn with ⟨rfl,h⟩ | ⟨m,rfl,h⟩
  ·exact .inl ⟨rfl,h⟩
  ·exact .inr ⟨m,rfl,h⟩
 refine aJ a.length (fun i (G:List aa)=>S G∧∀ j,j < i→¬ Q (a.getD j 0))
  (fun i G=>[(0,va),(1,.fn (.func g) pre cc),(7,.int .i64 a.length),(8,.int .i64 i)]) (fun i G=>G) H ⟨⟨hH,fun j hj=>by omega⟩,aB _ _ _⟩ fun i G hi hI=>?_
 obtain ⟨hG,hq⟩:=hI
 simp +contextual only [a2,ha.lens,ha.idx,yP,cp,mQ,sZ,Nat.reduceEqDiff,Nat.reduceAdd,↓reduceIte,reduceCtorEq]
 refine ⟨fun aS=>⟨by omega,?_⟩,fun jw=>?_⟩
 ·refine af (hf _ (aT (by omega)) G hG) ?_
  rintro r G' ⟨x,rfl,hx,eR⟩
  cases x with
  | false=>
    simp +contextual only [sZ,Nat.reduceEqDiff,↓reduceIte,reduceCtorEq]
    refine ⟨i + 1,G',⟨by omega,eR,fun j hj=>?_⟩,by omega,aE (by rw [au i (by omega)]) rfl⟩
    by_cases h:j=i
    ·subst h;exact fun h=>absurd (hx.2 h) (by simp)
    ·exact hq j (by omega)
  | true=>
    simp +contextual only [sZ,Nat.reduceEqDiff,↓reduceIte,reduceCtorEq]
    exact fin _ _ eR (.inr ⟨i,rfl,by omega,hx.1 rfl,hq⟩)
 ·refine fin _ _ hG (.inl ⟨rfl,fun x hx=>?_⟩)
  obtain ⟨j,hj,rfl⟩:=acq hx
  have:=hq j (by omega)
  simpa [hj] using this
theorem EH {S:List aa→Prop} (hS:tf S) {Q:Int→Prop} {a:List Int} {va:AV} (ha:IL va a) (la:a.length≤1000000000) (g:Nat) (pre cc:List AV) (cp:cc.map AV.ab=cc) (mQ:pre.map AV.ab=pre)
 (hf:∀ x∈a,∀ H,S H→ax Tryz.prog g (pre++[.int .i64 x]++cc) H (SB S (Q x))) {H:List aa} (hH:S H) :
 ax Tryz.prog 102 [va,.fn (.func g) pre cc] H (SB S (∃ x∈a,Q x)):=by
 refine DV.2.calls rfl ?_
 simp only [DV,aG]
 obtain ⟨a1,a2,a3,a4⟩:=ha.one
 simp +contextual only [a2,sZ,Nat.reduceEqDiff,Nat.reduceAdd,↓reduceIte,reduceCtorEq]
 refine af (Ng hS ha la g pre cc cp mQ hf hH) ?_
 rintro r G ⟨hG,⟨rfl,h⟩ | ⟨n,rfl,h1,h2,_⟩⟩
 ·simp +contextual only [sZ,↓reduceIte,reduceCtorEq]
  exact Cr hS (b:=false) (by simp) ⟨fun h=>by simp at h,fun ⟨x,hx,h'⟩=>absurd h' (h x hx)⟩ hH hG
 ·simp +contextual only [sZ,↓reduceIte,reduceCtorEq]
  exact Cr hS (b:=true) (by simp) ⟨fun _=>⟨_,aT h1,h2⟩,fun _=>rfl⟩ hH hG
end Go.aK
end
section
set_option maxRecDepth 100000
namespace Go.aK
open Go Go.Proofs Go.eI
def SD (c:Cx) (H0 H:List aa):Prop:=Du c H∧Up c H0 H
theorem SD.Cs (c:Cx) (H0:List aa):tf (SD c H0):=fun H H' h h'=>by rw [h'.2.len,h.2.len]
theorem jt.sb {c:Cx} {Q:Prop} {H0 H H':List aa} {r:AV} (h:jt c Q H r H') (hS:SD c H0 H):SB (SD c H0) Q r H':=by
 obtain ⟨b,h1,h2,h3,h4⟩:=h;exact ⟨b,h1,h2,h4,hS.2.trans h3⟩
theorem ads {c:Cx} {i x:Int} (h:jb c i x) {H:List aa} (hD:Du c H):ax Tryz.prog 233 [.int .i64 x,.ai (.ptr c.d 0),.ai (.int .i64 i)] H (jt c (¬ R c.O (c.tm i) (c.tm x)) H):=by
 refine Y9.2.calls rfl ?_
 simp only [Y9,aG]
 simp +contextual only [sZ,Nat.reduceEqDiff,Nat.reduceAdd,↓reduceIte,reduceCtorEq]
 refine af (h H hD) ?_
 rintro r H' ⟨b,rfl,hb,hU,kh⟩
 simp +contextual only [sZ,↓reduceIte,reduceCtorEq]
 refine eW (b:=!b) rfl ?_ hU kh
 rw [← hb];cases b <;> simp
theorem VO {c:Cx} {i:Int} {l:List Int} {v:AV} (hv:IL v l) (hl:l.length≤1000000000) (h:∀ x∈l,jb c i x) {H:List aa} (hD:Du c H):ax Tryz.prog 204 [.ptr c.d 0,.int .i64 i,v] H (jt c (∀ x∈l,R c.O (c.tm i) (c.tm x)) H):=by
 refine YN.2.calls rfl ?_
 simp only [YN,aG]
 obtain ⟨a1,a2,a3,a4⟩:=hv.one
 simp +contextual only [a2,sZ,Nat.reduceEqDiff,Nat.reduceAdd,↓reduceIte,reduceCtorEq]
 refine af (EH (SD.Cs c H) hv hl 233 [] [.ai (.ptr c.d 0),.ai (.int .i64 i)] rfl rfl (Q:=fun x=>¬ R c.O (c.tm i) (c.tm x)) (fun x hx G hG=>(ads (h x hx) hG.1).mono fun r H' hr=>hr.sb hG) ⟨hD,Up.refl c H⟩) ?_
 rintro r G ⟨b,rfl,hb,hG⟩
 simp +contextual only [sZ,↓reduceIte,reduceCtorEq]
 refine eW (b:=!b) rfl ?_ hG.2 hG.1
 cases b with
 | true=>
   obtain ⟨x,hx,hr⟩:=hb.1 rfl
   exact ⟨fun h=>by simp at h,fun h=>absurd (h x hx) hr⟩
 | false=>
   refine ⟨fun _ x hx=>?_,fun _=>rfl⟩
   by_cases hr:R c.O (c.tm i) (c.tm x)
   ·exact hr
   ·exact absurd (hb.2 ⟨x,hx,hr⟩) (by simp)
theorem adu {c:Cx} {x k:Int} (h1:lD c x k) (h2:jb c x k) {H:List aa} (hD:Du c H):ax Tryz.prog 220 [.int .i64 x,.ai (.ptr c.d 0),.ai (.int .i64 k)] H (jt c (E c.O (c.tm x) (c.tm k)∨R c.O (c.tm x) (c.tm k)) H):=by
 refine YZ.2.calls rfl ?_
 simp only [YZ,aG]
 simp +contextual only [sZ,Nat.reduceEqDiff,Nat.reduceAdd,↓reduceIte,reduceCtorEq]
 refine af (h1 H hD) ?_
 rintro r H' ⟨b,rfl,hb,hU,kh⟩
 cases b with
 | true=>
   simp +contextual only [sZ,Nat.reduceEqDiff,↓reduceIte,reduceCtorEq]
   exact eW rfl ⟨fun _=>.inl (hb.1 rfl),fun _=>rfl⟩ hU kh
 | false=>
   simp +contextual only [sZ,Nat.reduceEqDiff,Nat.reduceAdd,↓reduceIte,reduceCtorEq]
   refine af (h2 H' kh) ?_
   rintro r H2 ⟨b,rfl,qm,SV,C2⟩
   simp +contextual only [sZ,Nat.reduceEqDiff,↓reduceIte,reduceCtorEq]
   refine eW rfl ⟨fun h=>.inr (qm.1 h),fun h=>?_⟩ (hU.trans SV) C2
   rcases h with h | h
   ·exact absurd (hb.2 h) (by simp)
   ·exact qm.2 h
theorem ZZ {c:Cx} (hc:c.Ok) {i k:Int} (hi:c.ep i) (h1:∀ x∈c.kd i,lD c x k) (h2:∀ x∈c.kd i,jb c x k) {H:List aa} (hD:Du c H):ax Tryz.prog 183 [.ptr c.d 0,.int .i64 i,.int .i64 k] H (jt c (∃ x∈c.kd i,E c.O (c.tm x) (c.tm k)∨R c.O (c.tm x) (c.tm k)) H):=by
 refine YA.2.calls rfl ?_
 simp only [YA,aG]
 have k2:∀ l,(bu l).ab=bu l:=fun l=>(aI l).2.1
 simp +contextual only [hD.d,nK,FD,cT,cn,k2,sZ,Nat.reduceEqDiff,Nat.reduceAdd,Nat.reduceLT,↓reduceIte,reduceCtorEq]
 refine ⟨hi,?_⟩
 refine af (EH (SD.Cs c H) (.inl rfl:IL (bu (c.kd i)) (c.kd i)) (by have:=hc.kl i hi;omega) 220 [] [.ai (.ptr c.d 0),.ai (.int .i64 k)] rfl rfl (Q:=fun x=>E c.O (c.tm x) (c.tm k)∨R c.O (c.tm x) (c.tm k)) (fun x hx G hG=>(adu (h1 x hx) (h2 x hx) hG.1).mono fun r H' hr=>hr.sb hG) ⟨hD,Up.refl c H⟩) ?_
 rintro r G ⟨b,rfl,hb,hG⟩
 simp +contextual only [sZ,↓reduceIte,reduceCtorEq]
 exact eW rfl hb hG.2 hG.1
theorem Z0 {c:Cx} (hc:c.Ok) {i k:Int} (hi:c.ep i) (hk:c.ep k) (h:∀ x∈c.kd k,jb c i x) {H:List aa} (hD:Du c H):ax Tryz.prog 184 [.ptr c.d 0,.int .i64 i,.int .i64 k] H
 (jt c (td c k=true∧rc c k < rc c i∧∀ x∈c.kd k,R c.O (c.tm i) (c.tm x)) H):=by
 refine YB.2.calls rfl ?_
 simp only [YB,aG]
 have k2:∀ l,(bu l).ab=bu l:=fun l=>(aI l).2.1
 simp +contextual only [sZ,Nat.reduceEqDiff,Nat.reduceAdd,↓reduceIte,reduceCtorEq]
 refine af (rf hc hi hD) ?_
 rintro r H1 ⟨rfl,rfl⟩
 simp +contextual only [dQ,gb,gf,gg,sZ,Nat.reduceEqDiff,Nat.reduceAdd,↓reduceIte,reduceCtorEq]
 refine af (rf hc hk hD) ?_
 rintro r H1 ⟨rfl,rfl⟩
 simp +contextual only [dQ,gb,gf,gg,sZ,Nat.reduceEqDiff,↓reduceIte,reduceCtorEq]
 cases hb:td c k with
 | false=>
   simp +contextual only [sZ,Nat.reduceEqDiff,↓reduceIte,reduceCtorEq]
   exact eW rfl ⟨fun h=>by simp at h,fun h=>by simp at h⟩ (Up.refl c _) hD
 | true=>
   by_cases hp:rc c k < rc c i
   ·simp +contextual only [hp,hD.d,nK,FD,cT,cn,k2,sZ,Nat.reduceEqDiff,Nat.reduceAdd,Nat.reduceLT,↓reduceIte,reduceCtorEq]
    refine ⟨hk,af (VO (.inl rfl:IL (bu (c.kd k)) (c.kd k)) (by have:=hc.kl k hk;omega) h hD) ?_⟩
    rintro r H2 ⟨b,rfl,qm,hU,kh⟩
    simp +contextual only [sZ,Nat.reduceEqDiff,↓reduceIte,reduceCtorEq]
    exact eW rfl ⟨fun h=>⟨rfl,hp,qm.1 h⟩,fun h=>qm.2 h.2.2⟩ hU kh
   ·simp +contextual only [hp,sZ,Nat.reduceEqDiff,↓reduceIte,reduceCtorEq]
    exact eW rfl ⟨fun h=>by simp at h,fun h=>absurd h.2.1 hp⟩ (Up.refl c _) hD
structure KV (Q:Int→Int→Prop) (a b:List Int) (n:Nat):Prop where
 la:n≤a.length
 lb:n≤b.length
 eq:∀ j,j < n→Q (a.getD j 0) (b.getD j 0)
 no:n < a.length→n < b.length→¬ Q (a.getD n 0) (b.getD n 0)
theorem Z1 {c:Cx} {a b:List Int} {va vb:AV} (ha:IL va a) (hb:IL vb b) (la:a.length≤1000000000) (lb:b.length≤1000000000) (h:∀ x∈a,∀ y∈b,lD c x y) {H:List aa} (hD:Du c H) :
 ax Tryz.prog 150 [.ptr c.d 0,va,vb] H fun r H'=>∃ n:Nat,r=.int .i64 n∧KV (fun x y=>E c.O (c.tm x) (c.tm y)) a b n∧Up c H H'∧Du c H':=by
 refine Yc.2.calls rfl ?_
 simp only [Yc,aG]
 obtain ⟨a1,a2,a3,a4⟩:=ha.one
 obtain ⟨b1,b2,b3,b4⟩:=hb.one
 simp +contextual only [sZ,Nat.reduceEqDiff,Nat.reduceAdd,↓reduceIte,reduceCtorEq]
 refine aJ a.length (fun i (G:List aa)=>SD c H G∧i≤b.length∧∀ j,j < i→E c.O (c.tm (a.getD j 0)) (c.tm (b.getD j 0)))
  (fun i G=>[(0,.ptr c.d 0),(1,va),(2,vb),(7,.int .i64 i)]) (fun i G=>G) H ⟨⟨⟨hD,Up.refl c H⟩,acA _,fun j hj=>by omega⟩,aB _ _ _⟩ fun i G hi hI=>?_
 obtain ⟨hG,hib,hq⟩:=hI
 have fin:∀ G',SD c H G'→KV (fun x y=>E c.O (c.tm x) (c.tm y)) a b i→bV H.length [.t 6] [(6,.int .i64 (i:Int))] G' fun r H'=>∃ n:Nat,r=.int .i64 n∧KV (fun x y=>E c.O (c.tm x) (c.tm y)) a b n∧Up c H H'∧Du c H':=by
  intro G' eR hp
  refine aX H.length (rC _) (by rw [aA,if_pos rfl];rfl) ?_
  rw [aA,if_pos rfl,aaw (by rw [eR.2.len];exact rC _)]
  exact ⟨i,rfl,hp,eR.2,eR.1⟩
 by_cases h1:(i:Int) < a.length
 ·by_cases h2:(i:Int) < b.length
  ·simp +contextual only [a2,b2,ha.aO,hb.aO,ha.x8,hb.x8,ha.lens,hb.lens,ha.idx,hb.idx,yP,h1,h2,decide_true,sZ,Nat.reduceEqDiff,Nat.reduceAdd,↓reduceIte,reduceCtorEq]
   refine ⟨by omega,by omega,?_⟩
   refine af (h _ (aT (by omega)) _ (aT (by omega)) G hG.1) ?_
   rintro r G' ⟨x,rfl,hx,hU,kh⟩
   have eR:SD c H G':=⟨kh,hG.2.trans hU⟩
   cases x with
   | true=>
     simp +contextual only [sZ,Nat.reduceEqDiff,↓reduceIte,reduceCtorEq]
     refine ⟨i + 1,G',⟨by omega,eR,by omega,fun j hj=>?_⟩,by omega,aE (by rw [au i (by omega)]) rfl⟩
     by_cases h:j=i
     ·subst h;exact hx.1 rfl
     ·exact hq j (by omega)
   | false=>
     simp +contextual only [sZ,Nat.reduceEqDiff,↓reduceIte,reduceCtorEq]
     exact fin G' eR ⟨hi,hib,hq,fun _ _ he=>absurd (hx.2 he) (by simp)⟩
  ·simp +contextual only [a2,b2,ha.aO,hb.aO,ha.x8,hb.x8,h1,h2,decide_true,decide_false,sZ,Nat.reduceEqDiff,↓reduceIte,reduceCtorEq]
   exact fin G hG ⟨hi,hib,hq,fun _ h'=>absurd h' (by omega)⟩
 ·simp +contextual only [a2,ha.aO,ha.x8,h1,decide_false,sZ,Nat.reduceEqDiff,↓reduceIte,reduceCtorEq]
  exact fin G hG ⟨hi,hib,hq,fun h' _=>absurd h' (by omega)⟩
def Ct (c:Cx) (i k:Int):Prop:=
 vX c i k=true∧dP c i≠3∧(∀ x∈c.kd k,R c.O (c.tm i) (c.tm x))∧
 ∃ n,KV (fun x y=>E c.O (c.tm x) (c.tm y)) (bt (dP c i) (c.kd i)) (bt (dP c i) (c.kd k)) n∧n < (bt (dP c i) (c.kd i)).length∧
  (n=(bt (dP c i) (c.kd k)).length∨R c.O (c.tm ((bt (dP c i) (c.kd i)).getD n 0)) (c.tm ((bt (dP c i) (c.kd k)).getD n 0)))
theorem kv {s x:Int} {l:List Int}:x∈bt s l↔x∈l:=by unfold bt;split <;> simp
theorem hZ {s:Int} {l:List Int}:(bt s l).length=l.length:=by unfold bt;split <;> simp
theorem KV.VP {Q:Int→Int→Prop} {a b:List Int} {n m:Nat} (h:KV Q a b n) (k:KV Q a b m):n=m:=by
 rcases afi n m with h1 | h1 | h1
 ·exact absurd (k.eq n h1) (h.no (by have:=k.la;omega) (by have:=k.lb;omega))
 ·exact h1
 ·exact absurd (h.eq m h1) (k.no (by have:=h.la;omega) (by have:=h.lb;omega))
theorem Z2 {c:Cx} (hc:c.Ok) {i k:Int} (hi:c.ep i) (hk:c.ep k) (h1:∀ x∈c.kd k,jb c i x) (h2:∀ x∈c.kd i,∀ y∈c.kd k,lD c x y) (h3:∀ x∈c.kd i,∀ y∈c.kd k,jb c x y) {H:List aa} (hD:Du c H) :
 ax Tryz.prog 185 [.ptr c.d 0,.int .i64 i,.int .i64 k] H (jt c (Ct c i k) H):=by
 refine SN.2.calls rfl ?_
 simp only [SN,aG]
 have k2:∀ l,(bu l).ab=bu l:=fun l=>(aI l).2.1
 have l1:=hc.kl i hi
 have l2:=hc.kl k hk
 simp +contextual only [sZ,Nat.reduceEqDiff,Nat.reduceAdd,↓reduceIte,reduceCtorEq]
 refine af (Hd hc hi hk hD) ?_
 rintro r H1 ⟨rfl,rfl⟩
 simp +contextual only [sZ,Nat.reduceEqDiff,Nat.reduceAdd,Nat.reduceLT,↓reduceIte,reduceCtorEq]
 cases hl:vX c i k with
 | false=>
   simp +contextual only [Bool.not_false,sZ,Nat.reduceEqDiff,↓reduceIte,reduceCtorEq]
   exact eW rfl ⟨fun h=>by simp at h,fun h=>by have:=h.1;rw [hl] at this;simp at this⟩ (Up.refl c _) hD
 | true=>
   by_cases hs:dP c i=3
   ·simp +contextual only [Bool.not_true,hs,decide_true,sZ,Nat.reduceEqDiff,↓reduceIte,reduceCtorEq]
    exact eW rfl ⟨fun h=>by simp at h,fun h=>absurd hs h.2.1⟩ (Up.refl c _) hD
   ·simp +contextual only [Bool.not_true,hs,decide_false,hD.d,nK,FD,cT,cn,k2,sZ,Nat.reduceEqDiff,Nat.reduceAdd,Nat.reduceLT,↓reduceIte,reduceCtorEq]
    refine ⟨hk,af (VO (.inl rfl:IL (bu (c.kd k)) (c.kd k)) (by omega) h1 hD) ?_⟩
    rintro r H2 ⟨b,rfl,qm,hU,C2⟩
    cases b with
    | false=>
      simp +contextual only [Bool.not_false,sZ,Nat.reduceEqDiff,↓reduceIte,reduceCtorEq]
      exact eW rfl ⟨fun h=>by simp at h,fun h=>absurd (qm.2 h.2.2.1) (by simp)⟩ hU C2
    | true=>
      have vA:=qm.1 rfl
      simp +contextual only [Bool.not_true,C2.d,nK,FD,cT,cn,k2,sZ,Nat.reduceEqDiff,Nat.reduceAdd,Nat.reduceLT,↓reduceIte,reduceCtorEq]
      refine ⟨hi,ay (Kr (c.kd i) (dP c i) (by omega)) ?_⟩
      simp +contextual only [C2.d,nK,FD,cT,cn,k2,sZ,Nat.reduceEqDiff,Nat.reduceAdd,Nat.reduceLT,↓reduceIte,reduceCtorEq]
      refine ⟨hk,ay (Kr (c.kd k) (dP c i) (by omega)) ?_⟩
      have la:(bt (dP c i) (c.kd i)).length≤1000000000:=by rw [hZ];omega
      have lb:(bt (dP c i) (c.kd k)).length≤1000000000:=by rw [hZ];omega
      have ia:IL (.al 0 (ints (bt (dP c i) (c.kd i)))) (bt (dP c i) (c.kd i)):=.inr rfl
      have ib:IL (.al 0 (ints (bt (dP c i) (c.kd k)))) (bt (dP c i) (c.kd k)):=.inr rfl
      simp +contextual only [sZ,Nat.reduceEqDiff,Nat.reduceAdd,↓reduceIte,reduceCtorEq]
      refine af (Z1 ia ib la lb (fun x hx y hy=>h2 x (kv.1 hx) y (kv.1 hy)) C2) ?_
      rintro r H3 ⟨n,rfl,hp,Z3,Nh⟩
      have U3:=hU.trans Z3
      have yes:∀ (Hx:List aa),Up c H1 Hx→Du c Hx→n < (bt (dP c i) (c.kd i)).length→(n=(bt (dP c i) (c.kd k)).length∨R c.O (c.tm ((bt (dP c i) (c.kd i)).getD n 0)) (c.tm ((bt (dP c i) (c.kd k)).getD n 0)))→
       bV H1.length [.t 6] [(6,.bool true)] Hx (jt c (Ct c i k) H1):=fun Hx u d hn hx=>eW rfl ⟨fun _=>⟨hl,hs,vA,n,hp,hn,hx⟩,fun _=>rfl⟩ u d
      have no:∀ (Hx:List aa),Up c H1 Hx→Du c Hx→¬ (n < (bt (dP c i) (c.kd i)).length∧(n=(bt (dP c i) (c.kd k)).length∨R c.O (c.tm ((bt (dP c i) (c.kd i)).getD n 0)) (c.tm ((bt (dP c i) (c.kd k)).getD n 0))))→
       bV H1.length [.t 6] [(6,.bool false)] Hx (jt c (Ct c i k) H1):=fun Hx u d hx=>eW rfl ⟨fun h=>by simp at h,fun ⟨_,_,_,m,hm,rD⟩=>absurd (hm.VP hp ▸ rD) hx⟩ u d
      by_cases h4:(n:Int) < (bt (dP c i) (c.kd i)).length
      ·have d4:decide ((n:Int) < (bt (dP c i) (c.kd i)).length)=true:=decide_eq_true h4
       by_cases h5:(n:Int)=(bt (dP c i) (c.kd k)).length
       ·have d5:decide ((n:Int)=(bt (dP c i) (c.kd k)).length)=true:=decide_eq_true h5
        simp +contextual only [aw,d4,d5,sZ,Nat.reduceEqDiff,↓reduceIte,reduceCtorEq]
        exact yes H3 U3 Nh (by omega) (.inl (by omega))
       ·have OK:=hp.lb
        simp +contextual only [aw,dT,aM,yP,h4,h5,decide_true,decide_false,sZ,Nat.reduceEqDiff,Nat.reduceAdd,↓reduceIte,reduceCtorEq]
        refine ⟨by omega,⟨by omega,by omega⟩,af (h3 _ (kv.1 (aT (by omega))) _ (kv.1 (aT (by omega))) H3 Nh) ?_⟩
        rintro r H4 ⟨b,rfl,hb,W1,W2⟩
        cases b with
        | true=>
          simp +contextual only [sZ,Nat.reduceEqDiff,↓reduceIte,reduceCtorEq]
          exact yes H4 (U3.trans W1) W2 (by omega) (.inr (hb.1 rfl))
        | false=>
          simp +contextual only [sZ,Nat.reduceEqDiff,↓reduceIte,reduceCtorEq]
          refine no H4 (U3.trans W1) W2 fun ⟨_,hx⟩=>?_
          rcases hx with hx | hx
          ·omega
          ·exact absurd (hb.2 hx) (by simp)
      ·simp +contextual only [aw,h4,decide_false,sZ,Nat.reduceEqDiff,↓reduceIte,reduceCtorEq]
       exact no H3 U3 Nh fun ⟨hx,_⟩=>by omega
end Go.aK
end
section
set_option maxRecDepth 100000
namespace Go.aK
open Go Go.Proofs Go.eI
theorem EI (n:Int) (h:0≤n∧n < 18446744073709551616):IntKind.u64.wrap n=n:=by
 have:IntKind.u64.bits=64:=rfl
 have:IntKind.u64.signed=false:=rfl
 simp only [IntKind.wrap, *]
 have e:n % 2 ^ 64=n:=af2 h.1 (by omega)
 rw [e]
 simp
theorem VQ {n:Nat} (h:n < 4294967296) (φ:AV→Prop):dt .and (.int .u64 (n:Int)) (.int .u64 4294967295) φ=φ (.int .u64 (n:Int)):=by
 have e:(BitVec.ofInt IntKind.u64.bits (n:Int) &&& BitVec.ofInt IntKind.u64.bits 4294967295).toNat=n:=by
  show (BitVec.ofInt 64 (n:Int) &&& BitVec.ofInt 64 4294967295).toNat=n
  rw [BitVec.toNat_and]
  have e1:(BitVec.ofInt 64 (n:Int)).toNat=n:=by rw [BitVec.toNat_ofInt];omega
  have e2:(BitVec.ofInt 64 4294967295).toNat=2 ^ 32 - 1:=rfl
  rw [e1,e2,Nat.and_two_pow_sub_one_eq_mod,Nat.mod_eq_of_lt h]
 simp only [dt,e,true_and]
 rw [EI _ (by omega)]
theorem VR {n:Nat} (h:n < 4294967296) (φ:AV→Prop):eE .shr (.int .u64 (n:Int)) (.int .u64 32) φ=φ (.int .u64 0):=by
 have e:Int.fdiv (n:Int) (2 ^ min (32:Int).toNat IntKind.u64.bits)=0:=by
  show Int.fdiv (n:Int) (2 ^ 32)=0
  rw [Int.fdiv_eq_ediv_of_nonneg _ (by decide)]
  omega
 simp only [eE,e]
 simp
theorem adw {n:Nat} (h:n < 4294967296):Pure Tryz.prog 213 [.int .u64 1,.int .u64 (n:Int)] (.tuple [.int .u64 0,.int .u64 (n:Int)]):=by
 refine fun H=>YR.2.calls rfl ?_
 simp only [YR,aG]
 have a1:∀ φ:AV→Prop,dt .and (.int .u64 1) (.int .u64 4294967295) φ=φ (.int .u64 1):=fun φ=>VQ (n:=1) (by decide) φ
 have s1:∀ φ:AV→Prop,eE .shr (.int .u64 1) (.int .u64 32) φ=φ (.int .u64 0):=fun φ=>VR (n:=1) (by decide) φ
 have a0:∀ φ:AV→Prop,dt .and (.int .u64 0) (.int .u64 4294967295) φ=φ (.int .u64 0):=fun φ=>VQ (n:=0) (by decide) φ
 have s0:∀ φ:AV→Prop,eE .shr (.int .u64 0) (.int .u64 32) φ=φ (.int .u64 0):=fun φ=>VR (n:=0) (by decide) φ
 have w1:IntKind.u64.wrap (1 * (n:Int))=n:=by rw [Int.one_mul];exact EI _ (by omega)
 have w0:IntKind.u64.wrap 0=0:=EI _ (by omega)
 simp +contextual only [a1,s1,a0,s0,VQ h,VR h,w1,w0,Int.zero_mul,Int.mul_zero,Int.add_zero,sZ,Nat.reduceEqDiff,Nat.reduceAdd,↓reduceIte,reduceCtorEq]
 have:=Au (H:=H) (e:=[]) (s:=4) (s':=5) (v:=.int .u64 0) (v':=.int .u64 (n:Int)) (by decide) rfl rfl rfl rfl
 rwa [abQ] at this
theorem adx {n:Nat} (h:n < 4294967296):Pure Tryz.prog 174 [.int .u64 1,.int .u64 (n:Int)] (.tuple [.int .u64 0,.int .u64 (n:Int)]):=by
 refine fun H=>Yr.2.calls rfl ?_
 simp only [Yr,aG]
 simp +contextual only [sZ,Nat.reduceEqDiff,Nat.reduceAdd,↓reduceIte,reduceCtorEq]
 refine ae (adw h) ?_
 simp +contextual only [sZ,Nat.reduceEqDiff,Nat.reduceAdd,Nat.reduceLT,↓reduceIte,reduceCtorEq]
 have:=Au (H:=H) (e:=[]) (s:=4) (s':=5) (v:=.int .u64 0) (v':=.int .u64 (n:Int)) (by decide) rfl rfl rfl rfl
 rwa [abQ] at this
def cD (l:List Int):aa:=.cells (ints l)
def dE (i n:Nat) (x:Int):List Int:=List.replicate i x++List.replicate (n - i) 0
theorem mkI (n:Nat) (H:List aa) (K:AV→List aa→Prop) (h:n≤1000000000):fC 1 8 (.int .i64 0) (.int .i64 (n:Int)) H K=K (.aZ H.length 0 n n) (H++[cD (dE 0 n 0)]):=by
 have e:flat (List.replicate n (bS (.int .i64 0)))=ints (dE 0 n 0):=by
  rw [← pP];simp [dE,ints,bS]
 simp only [fC,yP,e,bf,cD,true_and,eq_iff_iff]
 constructor
 ·rintro ⟨_,_,h⟩;exact h
 ·exact fun k=>⟨by omega,by omega,k⟩
theorem mF (l:List Int) (k:Nat):(ints l).take k=ints (l.take k):=by simp [ints,List.map_take]
theorem ug (l:List Int) (k:Nat):(ints l).drop k=ints (l.drop k):=by simp [ints,List.map_drop]
theorem mG (l m:List Int):ints l++ints m=ints (l++m):=by simp [ints]
theorem wD (l:List Int):(ints l).map AV.ab=ints l:=by simp [ints,AV.ab]
theorem mH (l:List Int):(ints l).all AV.one=true:=by simp [ints,AV.one]
theorem x9 (x:Int) {i m n:Nat} (h:i + m≤n):ah (ints (dE i n x)) i (ints (List.replicate m x))=ints (dE (i + m) n x):=by
 unfold ah
 rw [mF,aw,ug,mG,mG,acH]
 congr 1
 unfold dE
 rw [aaR (by simp),aaw (by simp),adI,abu (by simp),List.nil_append,acH,List.drop_replicate,← abb,afH]
 congr 2;omega
theorem Z4 (x:Int) {id n:Nat} {H:List aa} (hg:H[id]?=some (cD (dE 0 n 0))) (K:AV→List aa→Prop) (hK:K (.int .i64 (min 1 n:Nat)) (H.set id (cD (dE (min 1 n) n x)))):kF 1 (.aZ id 0 n n) (.al 0 (ints [x])) H K:=by
 have e0:dE 0 n 0=dE 0 n x:=by simp [dE]
 rw [e0] at hg
 have ec:wX 1 (.al 0 (ints [x])) H=some (1,ints [x]):=rfl
 have et:(ints [x]).take (min 1 n * 1)=ints (List.replicate (min 1 n) x):=by
  rcases Nat.eq_zero_or_pos n with rfl | h
  ·rfl
  ·rw [show min 1 n=1 by omega];rfl
 have:=x9 x (i:=0) (m:=min 1 n) (n:=n) (by omega)
 rw [abM] at this
 simp only [kF,ec,hg,cD,et,wD,mH,bf,this,aw]
 exact ⟨trivial,by simp [dE];omega,trivial,hK⟩
theorem Z5 (x:Int) {id i n:Nat} (h0:0 < i) (h1:i < n) {H:List aa} (hg:H[id]?=some (cD (dE i n x))) (K:AV→List aa→Prop) (hK:K (.int .i64 (min i (n - i):Nat)) (H.set id (cD (dE (i + min i (n - i)) n x)))):kF 1 (.aZ id i (n - i) (n - i)) (.aZ id 0 i n) H K:=by
 have hl:(dE i n x).length=n:=by simp [dE];omega
 have ec:wX 1 (.aZ id 0 i n) H=some (i,ints (dE i n x)):=by
  simp only [wX,hg,cD,aw,hl,List.drop_zero]
  rw [if_pos (by omega)]
 have et:(ints (dE i n x)).take (min i (n - i) * 1)=ints (List.replicate (min i (n - i)) x):=by
  rw [abR,mF]
  congr 1
  unfold dE
  rw [aaR (by simp;omega),List.take_replicate]
  congr 1;omega
 have:=x9 x (i:=i) (m:=min i (n - i)) (n:=n) (by omega)
 simp only [kF,ec,hg,cD,et,wD,mH,bf,this,aw,hl]
 exact ⟨trivial,by omega,trivial,hK⟩
theorem slA {id i n:Nat} (h:i < n) (φ:AV→Prop):bA 1 (.aZ id 0 n n) (some (.int .i64 (i:Int))) none none φ=φ (.aZ id i (n - i) (n - i)):=by
 simp only [bA,iE,eo,yP,eq_iff_iff]
 rw [if_neg (by omega)]
 constructor
 ·intro h;simpa using h.2.2.2
 ·intro k;exact ⟨by omega,by omega,rC _,by simpa using k⟩
theorem slB {id i n:Nat} (h:i < n) (φ:AV→Prop):bA 1 (.aZ id 0 n n) none (some (.int .i64 (i:Int))) none φ=φ (.aZ id 0 i n):=by
 simp only [bA,iE,eo,yP,eq_iff_iff]
 rw [if_neg (by omega)]
 constructor
 ·intro h;simpa using h.2.2.2
 ·intro k;exact ⟨by omega,by omega,by omega,by simpa using k⟩
theorem VS (o:Nat) (x:Int) (n:Nat) (hn:n≤1000000000) (H:List aa):ax Tryz.prog 113 [.al o (ints [x]),.int .i64 (n:Int)] H fun r H'=>r=.aZ H.length 0 n n∧H'=H++[cD (List.replicate n x)]:=by
 refine XQ.2.calls rfl ?_
 simp only [XQ,aG]
 have w1:IntKind.u64.wrap 1=1:=EI _ (by omega)
 have w2:IntKind.u64.wrap (n:Int)=n:=EI _ (by omega)
 have w3:IntKind.i64.wrap (n:Int)=n:=cr _ (by omega)
 have e1:(ints [x]).length=1:=rfl
 have nn:decide ((n:Int) < 0)=false:=decide_eq_false (by omega)
 have ng:decide ((9223372036854775807:Int) < n)=false:=decide_eq_false (by omega)
 have z0:decide ((0:Int) < 0)=false:=rfl
 have ci:∀ (k k':IntKind) (n:Int) (φ:AV→Prop),cN k (.int k' n) φ=φ (.int k (k.wrap n)):=fun _ _ _ _=>rfl
 simp +contextual only [e1,w2,ci,nn,sZ,Nat.reduceEqDiff,Nat.reduceAdd,Nat.reduceLT,↓reduceIte,reduceCtorEq]
 refine ae (adx (n:=n) (by omega)) ?_
 simp +contextual only [w3,ci,ng,mkI n _ _ hn,sZ,Nat.reduceEqDiff,Nat.reduceAdd,Nat.reduceLT,↓reduceIte,reduceCtorEq,Int.reduceLT]
 have g0:(H++[cD (dE 0 n 0)])[H.length]?=some (cD (dE 0 n 0)):=by simp
 refine Z4 x g0 _ ?_
 simp +contextual only [sZ,Nat.reduceEqDiff,↓reduceIte,reduceCtorEq]
 have es:∀ i j,(H++[cD (dE i n x)]).set H.length (cD (dE j n x))=H++[cD (dE j n x)]:=by intro i j;simp
 refine Mh Nat (fun i=>i≤n∧(0 < n→0 < i)) (fun i=>[(7,.aZ H.length 0 n n),(8,.int .i64 i)]) (fun i=>H++[cD (dE i n x)]) (fun i=>n - i) (min 1 n) ⟨by omega,by omega⟩ (aE rfl ?_) ?_
 ·simp
 ·intro i hI
  have gi:(H++[cD (dE i n x)])[H.length]?=some (cD (dE i n x)):=by simp
  by_cases aS:(i:Int) < n
  ·have k8:i < n:=by omega
   simp +contextual only [aS,decide_true,Option.map_some,Option.map_none,slA k8,slB k8,sZ,Nat.reduceEqDiff,↓reduceIte]
   refine Z5 x (by omega) k8 gi _ ?_
   simp +contextual only [es,sZ,Nat.reduceEqDiff,↓reduceIte]
   refine ⟨i + min i (n - i),⟨by omega,by omega⟩,by omega,aE ?_ rfl⟩
   rw [cr _ (by omega)]
   rw [Int.natCast_add]
  ·have e:i=n:=by omega
   subst e
   simp +contextual only [aS,decide_false,sZ,Nat.reduceEqDiff,↓reduceIte,reduceCtorEq]
   have e3:dE i i x=List.replicate i x:=by simp [dE]
   rw [e3]
   refine aX (H.length + 1) (by omega) (by rw [aA,if_pos rfl,fJ];simp) ?_
   rw [aA,if_pos rfl,aaw (by simp)]
   exact ⟨rfl,rfl⟩
end Go.aK
end
section
set_option maxRecDepth 100000
namespace Go.aK
open Go Go.Proofs Go.eI
def qF (l:List Bool):List AV:=l.map .bool
def uh (l:List Bool):aa:=.cells (qF l)
theorem ui (l:List Bool):(qF l).length=l.length:=by simp [qF]
def below (n:Nat) (p:Nat→Bool):List Int:=((List.range n).filter p).map Int.ofNat
theorem ya (n:Nat) (p:Nat→Bool):below (n + 1) p=if p n=true then below n p++[(n:Int)] else below n p:=by
 unfold below
 rw [acJ,List.filter_append,ab3]
 by_cases h:p n=true
 ·simp [h]
 ·simp [h]
theorem kw (n:Nat) (p:Nat→Bool):(below n p).length≤n:=by
 unfold below
 rw [ace]
 have:=List.length_filter_le p (List.range n)
 simpa using this
theorem ic {n:Nat} {p:Nat→Bool} {x:Int}:x∈below n p↔∃ j:Nat,x=j∧j < n∧p j=true:=by
 unfold below
 simp only [aal,abZ,abK]
 constructor
 ·rintro ⟨j,h,rfl⟩;exact ⟨j,rfl,h⟩
 ·rintro ⟨j,rfl,h⟩;exact ⟨j,h,rfl⟩
structure Pr (Q:Int→Int→Prop) (a b:List Int) (k:Nat) (us:List Bool) (to:List Int):Prop where
 lu:us.length=a.length
 lt:to.length=b.length
 rest:∀ j,k≤j→j < b.length→to.getD j 0=-1
 t1:∀ j,j < k→to.getD j 0=-1∨∃ i:Nat,to.getD j 0=i∧i < a.length∧us.getD i false=true∧Q (a.getD i 0) (b.getD j 0)
 inj:∀ j j',j < k→j' < k→to.getD j 0=to.getD j' 0→to.getD j 0≠-1→j=j'
 uu:∀ i,i < a.length→us.getD i false=true→∃ j,j < k∧to.getD j 0=i
 free:∀ j,j < k→to.getD j 0=-1→∀ i,i < a.length→us.getD i false=false→¬ Q (a.getD i 0) (b.getD j 0)
theorem Ks {l:List Bool} {i j:Nat} {x:Bool} (hi:i < l.length):(l.set i x).getD j false=if j=i then x else l.getD j false:=by
 simp only [rB,ab6]
 by_cases h:i=j
 ·subst h;simp [hi]
 ·rw [if_neg h,if_neg (fun e=>h e.symm)]
theorem Pr.start {Q:Int→Int→Prop} {a b:List Int}:Pr Q a b 0 (List.replicate a.length false) (List.replicate b.length (-1)):=
 ⟨by simp,by simp,fun j _ hj=>by simp [hj],fun j h=>by omega,fun j j' h=>by omega,fun i hi h=>by simp [hi] at h,fun j h=>by omega⟩
theorem Pr.pair {Q:Int→Int→Prop} {a b:List Int} {k i:Nat} {us:List Bool} {to:List Int} (h:Pr Q a b k us to) (hk:k < b.length) (hi:i < a.length) (hu:us.getD i false=false) (hq:Q (a.getD i 0) (b.getD k 0)) :
 Pr Q a b (k + 1) (us.set i true) (to.set k i):=by
 have hl:=h.lt
 have pr:=h.lu
 have gt:∀ j,(to.set k (i:Int)).getD j 0=if j=k then (i:Int) else to.getD j 0:=fun j=>jE (by omega)
 have gu:∀ j,(us.set i true).getD j false=if j=i then true else us.getD j false:=fun j=>Ks (by omega)
 refine ⟨by simp [pr],by simp [hl],fun j h1 h2=>?_,fun j hj=>?_,fun j j' hj vY he hn=>?_,fun i' k9 Jg=>?_,fun j hj hn i' k9 Jg=>?_⟩
 ·rw [gt,if_neg (by omega)];exact h.rest j (by omega) h2
 ·rw [gt]
  by_cases e:j=k
  ·subst e;rw [if_pos rfl];exact .inr ⟨i,rfl,hi,by rw [gu,if_pos rfl],hq⟩
  ·rw [if_neg e]
   rcases h.t1 j (by omega) with h1 | ⟨i',h1,h2,h3,h4⟩
   ·exact .inl h1
   ·exact .inr ⟨i',h1,h2,by rw [gu];split;rfl;exact h3,h4⟩
 ·rw [gt] at he hn
  rw [gt] at he
  by_cases e:j=k
  ·by_cases e':j'=k
   ·omega
   ·rw [if_pos e,if_neg e'] at he
    rcases h.t1 j' (by omega) with h1 | ⟨i',h1,h2,h3,h4⟩
    ·omega
    ·have:i'=i:=by omega
     subst this;rw [hu] at h3;cases h3
  ·rw [if_neg e] at he hn
   by_cases e':j'=k
   ·rw [if_pos e'] at he
    rcases h.t1 j (by omega) with h1 | ⟨i',h1,h2,h3,h4⟩
    ·omega
    ·have:i'=i:=by omega
     subst this;rw [hu] at h3;cases h3
   ·rw [if_neg e'] at he
    exact h.inj j j' (by omega) (by omega) he hn
 ·rw [gu] at Jg
  by_cases e:i'=i
  ·subst e;exact ⟨k,by omega,by rw [gt,if_pos rfl]⟩
  ·rw [if_neg e] at Jg
   obtain ⟨j,h1,h2⟩:=h.uu i' k9 Jg
   exact ⟨j,by omega,by rw [gt,if_neg (by omega)];exact h2⟩
 ·rw [gt] at hn
  rw [gu] at Jg
  by_cases e:j=k
  ·rw [if_pos e] at hn;omega
  ·rw [if_neg e] at hn
   by_cases e':i'=i
   ·rw [if_pos e'] at Jg;cases Jg
   ·rw [if_neg e'] at Jg
    exact h.free j (by omega) hn i' k9 Jg
theorem Pr.ff {Q:Int→Int→Prop} {a b:List Int} {k:Nat} {us:List Bool} {to:List Int} (h:Pr Q a b k us to) (hk:k < b.length) (hq:∀ i,i < a.length→us.getD i false=false→¬ Q (a.getD i 0) (b.getD k 0)):Pr Q a b (k + 1) us to:=by
 have hr:=h.rest k (rC _) hk
 refine ⟨h.lu,h.lt,fun j h1 h2=>h.rest j (by omega) h2,fun j hj=>?_,fun j j' hj vY he hn=>?_,fun i hi hu=>?_,fun j hj hn i hi hu=>?_⟩
 ·by_cases e:j=k
  ·subst e;exact .inl hr
  ·exact h.t1 j (by omega)
 ·have h1:j≠k:=fun e=>by subst e;exact hn hr
  have h2:j'≠k:=fun e=>by subst e;exact hn (he.trans hr)
  exact h.inj j j' (by omega) (by omega) he hn
 ·obtain ⟨j,h1,h2⟩:=h.uu i hi hu;exact ⟨j,by omega,h2⟩
 ·by_cases e:j=k
  ·subst e;exact hq i hi hu
  ·exact h.free j (by omega) hn i hi hu
def Z6 (c:Cx) (a b:List Int) (H:List aa) (r:AV) (H':List aa):Prop:=
 ∃ us to,Pr (fun x y=>E c.O (c.tm x) (c.tm y)) a b b.length us to∧r=.tuple [bu (below a.length fun i=>!us.getD i false),bu (below b.length fun j=>decide (to.getD j 0 < 0)),.al 0 (ints to)]∧Up c H H'∧Du c H'
theorem mkB (n:Nat) (H:List aa) (K:AV→List aa→Prop) (h:n≤1000000000):fC 1 1 (.bool false) (.int .i64 (n:Int)) H K=K (.aZ H.length 0 n n) (H++[uh (List.replicate n false)]):=by
 have e:flat (List.replicate n (bS (.bool false)))=qF (List.replicate n false):=by
  induction n with
  | zero=>rfl
  | succ n ih=>rw [aeE,aeE];exact congrArg (AV.bool false::·) (ih (by omega))
 have eb:∀ m,aj m (qF (List.replicate n false))=true:=fun m=>(a9 _ _).2 fun x hx=>by
  obtain ⟨y,_,rfl⟩:=aal.1 hx;rfl
 simp only [fC,yP,e,eb,uh,true_and,eq_iff_iff]
 constructor
 ·rintro ⟨_,_,h⟩;exact h
 ·exact fun k=>⟨by omega,by omega,k⟩
theorem EJ {n:Nat} {p q:Nat→Bool} (h:∀ j,j < n→p j=q j):below n p=below n q:=by
 unfold below
 congr 1
 apply List.filter_congr
 intro j hj
 exact h j (abK.1 hj)
structure PS (c:Cx) (H:List aa) (us:List Bool) (to:List Int) (G:List aa):Prop where
 du:Du c G
 up:Up c (H++[uh us,cD to]) G
theorem PS.u {c:Cx} {H:List aa} {us:List Bool} {to:List Int} {G:List aa} (hD:Du c H) (h:PS c H us to G):G[H.length]?=some (uh us):=by
 obtain ⟨l1,l2,l3⟩:=hD.lt
 rw [h.up.get _ (by omega) (by omega)];simp
theorem PS.t {c:Cx} {H:List aa} {us:List Bool} {to:List Int} {G:List aa} (hD:Du c H) (h:PS c H us to G):G[H.length + 1]?=some (cD to):=by
 obtain ⟨l1,l2,l3⟩:=hD.lt
 rw [h.up.get _ (by omega) (by omega)];simp
theorem PS.call {c:Cx} {H:List aa} {us:List Bool} {to:List Int} {G G':List aa} (h:PS c H us to G) (hU:Up c G G') (hD:Du c G'):PS c H us to G':=⟨hD,h.up.trans hU⟩
theorem PS.len {c:Cx} {H:List aa} {us:List Bool} {to:List Int} {G:List aa} (h:PS c H us to G):G.length=H.length + 2:=by have:=h.up.len;simpa using this
theorem PS.adz {c:Cx} {H:List aa} {us us':List Bool} {to:List Int} {G:List aa} (hD:Du c H) (h:PS c H us to G):PS c H us' to (G.set H.length (uh us')):=by
 obtain ⟨l1,l2,l3⟩:=hD.lt
 have hl:=h.len
 refine ⟨h.du.set (by omega) (by omega) (by omega),by simp [hl],fun j h1 h2=>?_⟩
 rw [ab6]
 by_cases e:H.length=j
 ·subst e;rw [if_pos rfl,if_pos (by omega)];simp
 ·rw [if_neg e,h.up.get j h1 h2]
  by_cases e2:j < H.length
  ·rw [yO e2,yO e2]
  ·rw [abt (by omega),abt (by omega)]
   obtain ⟨m,rfl⟩:∃ m,j=H.length + (m + 1):=⟨j - H.length - 1,by omega⟩
   simp
theorem PS.adA {c:Cx} {H:List aa} {us:List Bool} {to to':List Int} {G:List aa} (hD:Du c H) (h:PS c H us to G):PS c H us to' (G.set (H.length + 1) (cD to')):=by
 obtain ⟨l1,l2,l3⟩:=hD.lt
 have hl:=h.len
 refine ⟨h.du.set (by omega) (by omega) (by omega),by simp [hl],fun j h1 h2=>?_⟩
 rw [ab6]
 by_cases e:H.length + 1=j
 ·subst e;rw [if_pos rfl,if_pos (by omega)];simp
 ·rw [if_neg e,h.up.get j h1 h2]
  by_cases e2:j < H.length
  ·rw [yO e2,yO e2]
  ·rw [abt (by omega),abt (by omega)]
   obtain ⟨m,rfl⟩:∃ m,j=H.length + m:=⟨j - H.length,by omega⟩
   rcases m with _ | m
   ·simp
   ·rcases m with _ | m
    ·omega
    ·simp
theorem ldB {us:List Bool} {i:Nat} (h:i < us.length) (φ:AV→Prop):dd (some (uh us)) none (i * 1) φ=φ (.bool (us.getD i false)):=by
 have e:(qF us).getD (i * 1) .any=.bool (us.getD i false):=by
  rw [abR];simp [qF,h]
 simp only [uh,dd,e,pH,ui,eq_iff_iff]
 constructor
 ·exact fun h=>h.2
 ·exact fun h2=>⟨by omega,h2⟩
theorem nM {l:List Int} {i:Nat} (h:i < l.length) (φ:AV→Prop):dd (some (cD l)) none (i * 1) φ=φ (.int .i64 (l.getD i 0)):=by
 have e:(ints l).getD (i * 1) .any=.int .i64 (l.getD i 0):=by
  rw [abR];simp [ints,h]
 simp only [cD,dd,e,oW,aw,eq_iff_iff]
 constructor
 ·exact fun h=>h.2
 ·exact fun h2=>⟨by omega,h2⟩
theorem stB {us:List Bool} {i:Nat} (h:i < us.length) (x:Bool) (id:Nat) (H:List aa) (K:List aa→Prop):iJ (some (uh us)) 1 id (i * 1) (.bool x) H K=K (H.set id (uh (us.set i x))):=by
 have e:ah (qF us) (i * 1) [AV.bool x]=qF (us.set i x):=by
  rw [abR,lC _ _ _ (by rw [ui];exact h)];simp [qF,adJ]
 have e2:(AV.bool x).cells.map AV.ab=[.bool x]:=rfl
 simp only [uh,iJ,e2,e,ui,eq_iff_iff]
 constructor
 ·exact fun h=>h.2.2.2.2.2
 ·exact fun h2=>⟨rfl,rfl,by omega,rfl,rfl,h2⟩
theorem He {l:List Int} {i:Nat} (h:i < l.length) (x:Int) (id:Nat) (H:List aa) (K:List aa→Prop):iJ (some (cD l)) 1 id (i * 1) (.int .i64 x) H K=K (H.set id (cD (l.set i x))):=by
 have e:ah (ints l) (i * 1) [AV.int .i64 x]=ints (l.set i x):=by
  rw [abR,lC _ _ _ (by rw [aw];exact h)];simp [ints,adJ]
 have e2:(AV.int .i64 x).cells.map AV.ab=[.int .i64 x]:=rfl
 simp only [cD,iJ,e2,e,aw,eq_iff_iff]
 constructor
 ·exact fun h=>h.2.2.2.2.2
 ·exact fun h2=>⟨rfl,rfl,by omega,rfl,rfl,h2⟩
theorem EK {id:Nat} {l:List Int} {H:List aa} (h:H[id]?=some (cD l)) {K:AV→List aa→Prop} (hK:K (.al 0 (ints l)) (H.set id .dead)):dZ 1 (.aZ id 0 l.length l.length) H K:=by
 have hc:∀ (l:List Int),chunks 1 l.length (ints l)=ints l:=by
  intro l
  induction l with
  | nil=>rfl
  | cons x q ih=>exact congrArg (AV.int .i64 x::·) ih
 simp only [dZ,h,cD,List.drop_zero,hc,mH]
 exact ⟨by omega,rC _,by simp [aw],trivial,hK⟩
theorem Ni {id n:Nat} {l:List Int} {H:List aa} (h:H[id]?=some (cD l)) (hn:l.length=n) {K:AV→List aa→Prop} (hK:K (.al 0 (ints l)) (H.set id .dead)):fY 1 (.aZ id 0 n n) H K:=by
 subst hn;exact EK h hK
theorem VT {c:Cx} {a b:List Int} {va vb:AV} (ha:IL va a) (hb:IL vb b) (la:a.length≤1000000000) (lb:b.length≤1000000000) (h:∀ x∈a,∀ y∈b,lD c x y) {H:List aa} (hD:Du c H) :
 ax Tryz.prog 139 [.ptr c.d 0,va,vb] H (Z6 c a b H):=by
 refine SL.2.calls rfl ?_
 simp only [SL,aG]
 obtain ⟨a1,a2,a3,a4⟩:=ha.one
 obtain ⟨b1,b2,b3,b4⟩:=hb.one
 simp +contextual only [a2,b2,ha.aO,hb.aO,ha.len (by omega),hb.len (by omega),mkB _ _ _ la,sZ,Nat.reduceEqDiff,Nat.reduceAdd,↓reduceIte,reduceCtorEq]
 refine af (VS 0 (-1) b.length lb _) ?_
 rintro r G0 ⟨rfl,rfl⟩
 have el:(H++[uh (List.replicate a.length false)]).length=H.length + 1:=by simp
 rw [el]
 simp +contextual only [b2,hb.aO,hb.len (by omega),sZ,Nat.reduceEqDiff,↓reduceIte,reduceCtorEq]
 have ps0:PS c H (List.replicate a.length false) (List.replicate b.length (-1)) (H++[uh (List.replicate a.length false),cD (List.replicate b.length (-1))]):=⟨hD.ue _,Up.refl c _⟩
 generalize H++[uh (List.replicate a.length false),cD (List.replicate b.length (-1))]=G0 at ps0 ⊢
 refine aJ b.length (fun k (p:List aa×List Bool×List Int)=>PS c H p.2.1 p.2.2 p.1∧Pr (fun x y=>E c.O (c.tm x) (c.tm y)) a b k p.2.1 p.2.2)
  (fun k p=>[(0,.ptr c.d 0),(1,va),(9,.aZ H.length 0 a.length a.length),(10,.aZ (H.length + 1) 0 b.length b.length),(11,.ag),(12,iW (below k fun j=>decide (p.2.2.getD j 0 < 0))),(26,vb),(27,.int .i64 b.length),(28,.int .i64 k)])
  (fun k p=>p.1) (G0,List.replicate a.length false,List.replicate b.length (-1)) ⟨⟨ps0,Pr.start⟩,aB _ _ _⟩ fun k p hk hI=>?_
 obtain ⟨G,us,to⟩:=p
 obtain ⟨rH,Cu⟩:=hI
 simp only at rH Cu
 simp +contextual only [a2,ha.aO,hb.lens,hb.idx,yP,ha.len (by omega),sZ,Nat.reduceEqDiff,↓reduceIte,reduceCtorEq]
 refine ⟨fun aS=>⟨by omega,?_⟩,fun jw=>?_⟩
 ·have aS:=bN aS
  refine mA (Q1:=fun x e G'=>x=.exit 2∧∃ us' to',PS c H us' to' G'∧Pr (fun x y=>E c.O (c.tm x) (c.tm y)) a b (k + 1) us' to'∧(∀ j,j < k→to'.getD j 0=to.getD j 0)∧
   get e 0=.ptr c.d 0∧get e 1=va∧get e 9=.aZ H.length 0 a.length a.length∧get e 10=.aZ (H.length + 1) 0 b.length b.length∧get e 11=.ag∧get e 12=iW (below k fun j=>decide (to.getD j 0 < 0))∧get e 13=.int .i64 (k:Int)∧get e 26=vb∧get e 27=.int .i64 (b.length:Int)∧get e 28=.int .i64 (k:Int)) ?_ ?_
  ·refine aJ a.length (fun i (G':List aa)=>PS c H us to G'∧∀ i',i' < i→us.getD i' false=false→¬ E c.O (c.tm (a.getD i' 0)) (c.tm (b.getD k 0)))
    (fun i G'=>[(0,.ptr c.d 0),(1,va),(9,.aZ H.length 0 a.length a.length),(10,.aZ (H.length + 1) 0 b.length b.length),(11,.ag),(12,iW (below k fun j=>decide (to.getD j 0 < 0))),(13,.int .i64 (k:Int)),(14,.int .i64 (b.getD k 0)),(26,vb),(27,.int .i64 b.length),(28,.int .i64 k),(33,va),(34,.int .i64 a.length),(35,.int .i64 i)])
    (fun i G'=>G') G ⟨⟨rH,fun i' k9=>by omega⟩,aB _ _ _⟩ fun i G' hi hI=>?_
   obtain ⟨Cv,jy⟩:=hI
   have hlu:=Cu.lu
   have oa:=Cu.lt
   have gu:=Cv.u hD
   by_cases OL:(i:Int) < a.length
   ·have Z7:i < a.length:=by omega
    have W3:i < us.length:=by omega
    cases hu:us.getD i false with
    | true=>
      simp +contextual only [OL,decide_true,ha.lens,ha.idx,yP,iV,gu,ldB W3,hu,Bool.not_true,sZ,Nat.reduceEqDiff,↓reduceIte,reduceCtorEq]
      refine ⟨by omega,by omega,⟨i + 1,G',⟨by omega,Cv,fun i' k9 h0=>?_⟩,by omega,aE (by rw [au i (by omega)]) rfl⟩⟩
      by_cases e:i'=i
      ·subst e;rw [hu] at h0;cases h0
      ·exact jy i' (by omega) h0
    | false=>
      simp +contextual only [OL,decide_true,ha.lens,ha.idx,yP,iV,gu,ldB W3,hu,Bool.not_false,sZ,Nat.reduceEqDiff,Nat.reduceAdd,↓reduceIte,reduceCtorEq]
      refine ⟨by omega,by omega,?_⟩
      refine af (h _ (aT Z7) _ (aT aS) G' Cv.du) ?_
      rintro r G2 ⟨x,rfl,hx,hU,C2⟩
      have ps2:=Cv.call hU C2
      cases x with
      | false=>
        simp +contextual only [sZ,Nat.reduceEqDiff,↓reduceIte,reduceCtorEq]
        refine ⟨i + 1,G2,⟨by omega,ps2,fun i' k9 h0=>?_⟩,by omega,aE (by rw [au i (by omega)]) rfl⟩
        by_cases e:i'=i
        ·subst e;exact fun hh=>absurd (hx.2 hh) (by simp)
        ·exact jy i' (by omega) h0
      | true=>
        have gu2:=ps2.u hD
        have ps3:=ps2.adz (us':=us.set i true) hD
        have gt3:=ps3.t hD
        have Jr:k < to.length:=by omega
        simp +contextual only [iV,gu2,gt3,stB W3,He Jr,sZ,Nat.reduceEqDiff,↓reduceIte,reduceCtorEq]
        refine ⟨by omega,by omega,us.set i true,to.set k i,ps3.adA hD,Cu.pair aS Z7 hu (hx.1 rfl),fun j hj=>?_⟩
        rw [jE Jr,if_neg (by omega)]
   ·simp +contextual only [OL,decide_false,sZ,Nat.reduceEqDiff,↓reduceIte,reduceCtorEq]
    exact ⟨us,to,Cv,Cu.ff aS fun i' k9 h0=>jy i' (by omega) h0,fun _ _=>rfl⟩
  ·rintro x e G' ⟨rfl,us',to',Cv,Re,hsame,e0,e1,e9,e10,e11,e12,e13,e26,e27,e28⟩
   have hlu:=Re.lu
   have oa:=Re.lt
   have gt:=Cv.t hD
   have Jr:k < to'.length:=by omega
   have ebl:(below k fun j=>decide (to'.getD j 0 < 0))=below k fun j=>decide (to.getD j 0 < 0):=EJ fun j hj=>by rw [hsame j hj]
   have ebs:=ya k fun j=>decide (to'.getD j 0 < 0)
   have ebn:=kw k fun j=>decide (to.getD j 0 < 0)
   by_cases ze:to'.getD k 0 < 0
   ·rw [if_pos (by simpa using ze),ebl] at ebs
    simp +contextual only [e0,e1,e9,e10,e11,e12,e13,e26,e27,e28,iV,gt,nM Jr,ze,decide_true,(eV _).2.1,oZ,g9,sZ,Nat.reduceEqDiff,Nat.reduceAdd,↓reduceIte,reduceCtorEq]
    refine ⟨by omega,by omega,k + 1,(G',us',to'),⟨aS,Cv,Re⟩,by omega,aE (by rw [au k (by omega),ebs]) rfl⟩
   ·rw [if_neg (by simpa using ze),ebl] at ebs
    simp +contextual only [e0,e1,e9,e10,e11,e12,e13,e26,e27,e28,iV,gt,nM Jr,ze,decide_false,sZ,Nat.reduceEqDiff,↓reduceIte,reduceCtorEq]
    refine ⟨by omega,k + 1,(G',us',to'),⟨aS,Cv,Re⟩,by omega,aE (by rw [au k (by omega),ebs]) rfl⟩
 ·have hkk:k=b.length:=by omega
  subst hkk
  have hlu:=Cu.lu
  have oa:=Cu.lt
  have gu:=rH.u hD
  have gt:=rH.t hD
  refine aD a.length (fun i=>True) (fun i=>[(10,.aZ (H.length + 1) 0 b.length b.length),(11,iW (below i fun j=>!us.getD j false)),(12,iW (below b.length fun j=>decide (to.getD j 0 < 0))),(69,.aZ H.length 0 a.length a.length),(70,.int .i64 a.length),(71,.int .i64 i)])
   (fun i=>G) ⟨trivial,aB _ _ _⟩ fun i hi _=>?_
  have ebs:=ya i fun j=>!us.getD j false
  have ebn:=kw i fun j=>!us.getD j false
  by_cases OL:(i:Int) < a.length
  ·have W3:i < us.length:=by omega
   cases hu:us.getD i false with
   | true=>
     rw [hu,if_neg (by simp)] at ebs
     simp +contextual only [OL,decide_true,iV,gu,ldB W3,hu,Bool.not_true,sZ,Nat.reduceEqDiff,↓reduceIte,reduceCtorEq]
     refine ⟨by omega,i + 1,by omega,by omega,aE (by rw [au i (by omega),ebs]) rfl⟩
   | false=>
     rw [hu,if_pos (by simp)] at ebs
     simp +contextual only [OL,decide_true,iV,gu,ldB W3,hu,Bool.not_false,(eV _).2.1,oZ,g9,sZ,Nat.reduceEqDiff,Nat.reduceAdd,↓reduceIte,reduceCtorEq]
     refine ⟨by omega,by omega,i + 1,by omega,by omega,aE (by rw [au i (by omega),ebs]) rfl⟩
  ·have hii:i=a.length:=by omega
   subst hii
   simp +contextual only [OL,decide_false,(eV _).2.1,sZ,Nat.reduceEqDiff,↓reduceIte]
   refine Ni gt oa ?_
   simp +contextual only [(aI _).2.1,sZ,Nat.reduceEqDiff,↓reduceIte,reduceCtorEq]
   obtain ⟨l1,l2,l3⟩:=hD.lt
   refine AO (by decide) rfl ⟨(aI _).2.2.1 _,(aI _).2.2.1 _,?_⟩ (aI _).2.1 (aI _).2.1 rfl ⟨us,to,Cu,rfl,?_,?_⟩
   ·rw [xF,bW];exact bf _ _
   ·rw [abI (by omega)];exact rH.up.take
   ·rw [abI (by omega)];exact rH.du.take l1 l2 l3
end Go.aK
end
section
namespace Go.aK
open Go Go.Proofs Go.eI
theorem Kt {β:Type} (f:Int→β) (a:List Int):a.map f=(List.range a.length).map fun i=>f (a.getD i 0):=by
 apply adV
 ·simp
 ·intro i h1 h2
  have:i < a.length:=by simpa using h1
  simp [this]
theorem EL {β:Type} (f:Int→β) (a:List Int) (p:Nat→Bool):(a.map f).Perm (((List.range a.length).filter p).map (fun i=>f (a.getD i 0))++((List.range a.length).filter fun i=>!p i).map fun i=>f (a.getD i 0)):=by
 rw [Kt,← ab3]
 exact (List.filter_append_perm p (List.range a.length)).symm.map _
theorem sO (n:Nat) (p:Nat→Bool):((List.range n).filter p).Nodup:=List.Pairwise.filter p List.nodup_range
def vB (f:Int→T) (a:List Int) (us:List Bool):List T:=((List.range a.length).filter fun i=>!us.getD i false).map fun i=>f (a.getD i 0)
def EM (f:Int→T) (b to:List Int):List T:=((List.range b.length).filter fun j=>decide (to.getD j 0 < 0)).map fun j=>f (b.getD j 0)
theorem Pr.parts {f:Int→T} {a b:List Int} {us:List Bool} {to:List Int} (h:Pr (fun x y=>f x=f y) a b b.length us to) :
 ∃ C,(a.map f).Perm (vB f a us++C)∧(b.map f).Perm (EM f b to++C)∧Q5 (vB f a us) (EM f b to):=by
 refine ⟨((List.range b.length).filter fun j=>!decide (to.getD j 0 < 0)).map fun j=>f (b.getD j 0),?_,EL f b _,?_⟩
 ·have h1:=EL f a (fun i=>!us.getD i false)
  refine h1.trans (List.Perm.append_left _ ?_)
  have hp:(((List.range b.length).filter fun j=>!decide (to.getD j 0 < 0)).map fun j=>(to.getD j 0).toNat).Perm ((List.range a.length).filter fun i=>!!us.getD i false):=by
   rw [List.perm_ext_iff_of_nodup]
   ·intro i
    simp only [aal,abZ,abK,abG,decide_eq_false_iff_not,aeN]
    constructor
    ·rintro ⟨j,⟨hj,hn⟩,rfl⟩
     rcases h.t1 j hj with h2 | ⟨i,h2,h3,h4,_⟩
     ·omega
     ·rw [h2];exact ⟨by simpa using h3,by simpa using h4⟩
    ·rintro ⟨hi,hu⟩
     obtain ⟨j,h2,h3⟩:=h.uu i hi hu
     exact ⟨j,⟨h2,by omega⟩,by omega⟩
   ·rw [List.Nodup,List.pairwise_map]
    refine List.Pairwise.imp_of_mem ?_ (sO _ _)
    intro j j' hj vY dJ he
    simp only [abZ,abK,abG,decide_eq_false_iff_not] at hj vY
    exact dJ (h.inj j j' hj.1 vY.1 (by omega) (by omega))
   ·exact sO _ _
  refine (hp.map fun i=>f (a.getD i 0)).symm.trans ?_
  rw [acs]
  refine List.Perm.of_eq (ab4 fun j hj=>?_)
  simp only [abZ,abK,abG,decide_eq_false_iff_not] at hj
  rcases h.t1 j hj.1 with h2 | ⟨i,h2,h3,h4,h5⟩
  ·omega
  ·show f (a.getD (to.getD j 0).toNat 0)=f (b.getD j 0)
   rw [h2];exact h5
 ·intro z hz EN
  simp only [vB,EM,aal,abZ,abK,decide_eq_true_eq,abG] at hz EN
  obtain ⟨i,⟨hi,hu⟩,rfl⟩:=hz
  obtain ⟨j,⟨hj,hn⟩,he⟩:=EN
  refine h.free j hj ?_ i hi hu he.symm
  rcases h.t1 j hj with h2 | ⟨i',h2,_⟩
  ·exact h2
  ·omega
theorem uj {f:Int→T} {a:List Int} {us:List Bool}:vB f a us=[]↔below a.length (fun i=>!us.getD i false)=[]:=by
 simp [vB,below]
theorem Pr.mu {f:Int→T} {G:T→T→Prop} {a b:List Int} {us:List Bool} {to:List Int} (h:Pr (fun x y=>f x=f y) a b b.length us to) :
 Mu G (a.map f) (b.map f)↔below a.length (fun i=>!us.getD i false)≠[]∧∀ y∈below b.length (fun j=>decide (to.getD j 0 < 0)),∃ x∈below a.length (fun i=>!us.getD i false),G (f (a.getD x.toNat 0)) (f (b.getD y.toNat 0)):=by
 obtain ⟨C,h1,h2,h3⟩:=h.parts
 rw [M6 h1 h2 h3,Ne,uj]
 refine and_congr Iff.rfl ⟨fun hh y hy=>?_,fun hh y hy=>?_⟩
 ·obtain ⟨j,rfl,hj,hn⟩:=ic.1 hy
  obtain ⟨x,hx,hg⟩:=hh (f (b.getD j 0)) (by simp only [EM,aal,abZ,abK];exact ⟨j,⟨hj,hn⟩,rfl⟩)
  simp only [vB,aal,abZ,abK] at hx
  obtain ⟨i,⟨hi,hu⟩,rfl⟩:=hx
  exact ⟨i,ic.2 ⟨i,rfl,hi,hu⟩,hg⟩
 ·simp only [EM,aal,abZ,abK] at hy
  obtain ⟨j,⟨hj,hn⟩,rfl⟩:=hy
  obtain ⟨x,hx,hg⟩:=hh j (ic.2 ⟨j,rfl,hj,hn⟩)
  obtain ⟨i,rfl,hi,hu⟩:=ic.1 hx
  refine ⟨f (a.getD i 0),?_,hg⟩
  simp only [vB,aal,abZ,abK]
  exact ⟨i,⟨hi,hu⟩,rfl⟩
theorem Pr.perm {f:Int→T} {a b:List Int} {us:List Bool} {to:List Int} (h:Pr (fun x y=>f x=f y) a b b.length us to) (hl:a.length=b.length) :
 (a.map f).Perm (b.map f)↔below a.length (fun i=>!us.getD i false)=[]:=by
 obtain ⟨C,h1,h2,h3⟩:=h.parts
 rw [qD h1 h2 h3,uj (f:=f)]
 constructor
 ·exact fun h=>h.1
 ·intro h0
  refine ⟨h0,?_⟩
  have e1:=h1.length_eq
  have e2:=h2.length_eq
  have e3:(vB f a us).length=0:=by rw [(uj (f:=f)).2 h0];rfl
  simp only [aaf,ace] at e1 e2
  exact aby.1 (by omega)
end Go.aK
end
section
set_option maxRecDepth 100000
set_option maxHeartbeats 0
namespace Go.aK
open Go Go.Proofs
noncomputable def SW:=aG Tryz.call186 Tryz.func186 Tryz.ntmps186 [(0,0,1),(5,3,2000),(5,8,1000),(6,6,2000)] [(0,[1,2,3]),(1,[1,2,3,7,8]),(2,[1,2,3,26]),(3,[6]),(4,[3,9,10]),(5,[3,9,10,11,12]),(6,[6])] [(4,(.take 0 true (.take 1 true (.take 2 true (.take 3 true (.take 4 true (.take 5 true (.take 6 true (.take 7 true (.take 8 false (.take 9 false (.take 10 false (.take 12 false (.br 11 (.take 13 false (.take 14 false (.take 15 false (.br 16 (.br 17 (.br 18 (.br 19 .done .nil) .nil) .nil) (.br 17 (.br 16 (.br 18 (.br 19 .done .nil) .nil) .nil) .nil))))) (.br 16 (.br 11 (.take 13 false (.take 14 false (.take 15 false (.br 17 (.br 18 (.br 19 .done .nil) .nil) .nil)))) (.br 17 (.br 11 (.take 13 false (.take 14 false (.take 15 false (.br 18 (.br 19 .done .nil) .nil)))) (.br 18 (.take 11 true (.take 13 true (.take 14 true (.take 15 true (.br 19 .done .nil))))) .nil)) .nil)) (.br 17 (.br 11 (.take 13 false (.take 14 false (.take 15 false (.br 16 (.br 18 (.br 19 .done .nil) .nil) .nil)))) (.br 16 (.br 11 (.take 13 false (.take 14 false (.take 15 false (.br 18 (.br 19 .done .nil) .nil)))) (.br 18 (.take 11 true (.take 13 true (.take 14 true (.take 15 true (.br 19 .done .nil))))) .nil)) .nil)) .nil))))))))))))))))]
end Go.aK
end
section
set_option maxRecDepth 100000
namespace Go.aK
open Go Go.Proofs Go.eI
def nf (c:Cx) (x:Int):T:=norm c.O (c.tm x)
def zE (c:Cx) (i k:Int):Prop:=vX c i k=true∧dP c i=3∧Mu (Gt c.O.sp) ((c.kd i).map (nf c)) ((c.kd k).map (nf c))
theorem adC {c:Cx} {a b:List Int} {va vb:AV} (ha:IL va a) (hb:IL vb b) {p q:Nat} {x y:Int} (hx:0≤x∧x < a.length) (hy:0≤y∧y < b.length) (h:jb c (a.getD x.toNat 0) (b.getD y.toNat 0)) {G:List aa} (hD:Du c G) (gp:G[p]?=some (.cells [va])) (gq:G[q]?=some (.cells [vb])) :
 ax Tryz.prog 222 [.int .i64 x,.ai (.ptr c.d 0),.ptr p 0,.ptr q 0,.ai (.int .i64 y)] G (jt c (R c.O (c.tm (a.getD x.toNat 0)) (c.tm (b.getD y.toNat 0))) G):=by
 refine Y1.2.calls rfl ?_
 simp only [Y1,aG]
 obtain ⟨a1,a2,a3,a4⟩:=ha.one
 obtain ⟨b1,b2,b3,b4⟩:=hb.one
 simp +contextual only [gp,gq,a2,b2,ha.lens,hb.lens,ha.idx,hb.idx,sZ,Nat.reduceEqDiff,Nat.reduceAdd,Nat.reduceLT,↓reduceIte,reduceCtorEq]
 refine ⟨hx,hy,af (h G hD) ?_⟩
 rintro r G' ⟨z,rfl,hz,hU,kh⟩
 simp +contextual only [sZ,↓reduceIte,reduceCtorEq]
 exact eW rfl hz hU kh
theorem adD {c:Cx} {a b l:List Int} {va vb vl:AV} (ha:IL va a) (hb:IL vb b) (hl:IL vl l) (ll:l.length≤1000000000) {p q:Nat} {y:Int} (hx:∀ x∈l,0≤x∧x < a.length) (hy:0≤y∧y < b.length) (h:∀ x∈l,jb c (a.getD x.toNat 0) (b.getD y.toNat 0)) {G:List aa} (hD:Du c G)
 (gp:G[p]?=some (.cells [va])) (gq:G[q]?=some (.cells [vb])) (np:p≠c.e∧p≠c.g) (nq:q≠c.e∧q≠c.g) :
 ax Tryz.prog 221 [.int .i64 y,.ai vl,.ai (.ptr c.d 0),.ptr p 0,.ptr q 0] G (jt c (¬ ∃ x∈l,R c.O (c.tm (a.getD x.toNat 0)) (c.tm (b.getD y.toNat 0))) G):=by
 refine Y0.2.calls rfl ?_
 simp only [Y0,aG]
 obtain ⟨a1,a2,a3,a4⟩:=hl.one
 have ld:∀ (H:List aa) (φ:AV→Prop),aV none (.ai vl) H φ=φ vl:=fun H φ=>by simp [aV,a1,a2]
 simp +contextual only [ld,a2,sZ,Nat.reduceEqDiff,Nat.reduceAdd,↓reduceIte,reduceCtorEq]
 refine af (EH (SD.Cs c G) hl ll 222 [] [.ai (.ptr c.d 0),.ptr p 0,.ptr q 0,.ai (.int .i64 y)] rfl rfl (Q:=fun x=>R c.O (c.tm (a.getD x.toNat 0)) (c.tm (b.getD y.toNat 0)))
  (fun x rD G' eR=>(adC ha hb (hx x rD) hy (h x rD) eR.1 (by rw [eR.2.get p np.1 np.2,gp]) (by rw [eR.2.get q nq.1 nq.2,gq])).mono fun r H' hr=>hr.sb eR) ⟨hD,Up.refl c G⟩) ?_
 rintro r G' ⟨z,rfl,hz,eR⟩
 simp +contextual only [sZ,↓reduceIte,reduceCtorEq]
 refine eW (b:=!z) rfl ?_ eR.2 eR.1
 rw [← hz];cases z <;> simp
theorem mI {P:Px} {t:DT} {f:AV→Env} {H:List aa} {o:Option aa} {off:Nat} {K1 K2:Env→List aa→Prop} (h:dd o none off fun x=>jV P t (f x) H K1) (hk:∀ e G,K1 e G→K2 e G):dd o none off fun x=>jV P t (f x) H K2:=by
 unfold dd at *
 split at h
 ·exact ⟨h.1,dS h.2 hk⟩
 ·exact h.elim
theorem Z8 {c:Cx} (hc:c.Ok) {i k:Int} (hi:c.ep i) (hk:c.ep k) (h2:∀ x∈c.kd i,∀ y∈c.kd k,lD c x y) (h3:∀ x∈c.kd i,∀ y∈c.kd k,jb c x y) {H:List aa} (hD:Du c H) :
 ax Tryz.prog 186 [.ptr c.d 0,.int .i64 i,.int .i64 k] H (jt c (zE c i k) H):=by
 refine SW.2.calls rfl ?_
 simp only [SW,aG]
 have k2:∀ l,(bu l).ab=bu l:=fun l=>(aI l).2.1
 have l1:=hc.kl i hi
 have l2:=hc.kl k hk
 simp +contextual only [sZ,Nat.reduceEqDiff,Nat.reduceAdd,↓reduceIte,reduceCtorEq]
 refine af (Hd hc hi hk hD) ?_
 rintro r H1 ⟨rfl,rfl⟩
 simp +contextual only [sZ,Nat.reduceEqDiff,Nat.reduceAdd,Nat.reduceLT,↓reduceIte]
 cases hl:vX c i k with
 | false=>
   simp +contextual only [Bool.not_false,sZ,Nat.reduceEqDiff,↓reduceIte,reduceCtorEq]
   exact eW rfl ⟨fun h=>by simp at h,fun h=>by have:=h.1;rw [hl] at this;simp at this⟩ (Up.refl c _) hD
 | true=>
   by_cases hs:dP c i=3
   ·have d3:decide (dP c i=3)=true:=decide_eq_true hs
    have d3':decide (¬dP c i=3)=false:=decide_eq_false (fun h=>h hs)
    simp +contextual only [Bool.not_true,hs,not_true_eq_false,decide_false,sZ,Nat.reduceEqDiff,Nat.reduceAdd,↓reduceIte]
    obtain ⟨l4,l5,l6⟩:=hD.lt
    have ed:∀ X:List aa,(H1++X)[c.d]?=H1[c.d]?:=fun X=>yO l4
    refine mI (K1:=fun e G=>get e 3=.ai (.ptr c.d 0)∧∃ p q X,get e 9=.ptr p 0∧get e 10=.ptr q 0∧H1.length≤p∧H1.length≤q∧G=H1++X∧G[p]?=some (.cells [bu (c.kd i)])∧G[q]?=some (.cells [bu (c.kd k)])) ?_ ?_
    ·obtain ⟨k1,k3,k4,k5,k6⟩:=aI (c.kd i)
     obtain ⟨m1,m3,m4,m5,m6⟩:=aI (c.kd k)
     have g0:∀ (x:aa) (l:List aa),(H1++x::l)[H1.length]?=some x:=fun x l=>by simp
     have g1:∀ (x y:aa),(H1++[x,y])[H1.length + 1]?=some y:=fun x y=>by simp
     have ei:(c.nd.getD i.toNat default).snd=c.kd i:=rfl
     have ek:(c.nd.getD k.toNat default).snd=c.kd k:=rfl
     have sp:∀ x:AV,ah [AV.ag] 0 [x]=[x]:=fun x=>rfl
     have A:∃ p q X,AV.ptr H1.length 0=AV.ptr p 0∧AV.ptr (H1.length + 1) 0=AV.ptr q 0∧H1.length≤p∧H1.length≤q∧H1++[.cells [bu (c.kd i)],.cells [bu (c.kd k)]]=H1++X∧(H1++[aa.cells [bu (c.kd i)],.cells [bu (c.kd k)]])[p]?=some (.cells [bu (c.kd i)])∧(H1++[aa.cells [bu (c.kd i)],.cells [bu (c.kd k)]])[q]?=some (.cells [bu (c.kd k)]):=
      ⟨_,_,_,rfl,rfl,rC _,Nat.le_succ _,rfl,g0 _ _,g1 _ _⟩
     have B:∃ p q X,AV.ptr (H1.length + 1) 0=AV.ptr p 0∧AV.ptr H1.length 0=AV.ptr q 0∧H1.length≤p∧H1.length≤q∧H1++[.cells [bu (c.kd k)],.cells [bu (c.kd i)]]=H1++X∧(H1++[aa.cells [bu (c.kd k)],.cells [bu (c.kd i)]])[p]?=some (.cells [bu (c.kd i)])∧(H1++[aa.cells [bu (c.kd k)],.cells [bu (c.kd i)]])[q]?=some (.cells [bu (c.kd k)]):=
      ⟨_,_,_,rfl,rfl,Nat.le_succ _,rC _,rfl,g1 _ _,g0 _ _⟩
     simp +contextual only [ed,hD.d,nK,FD,cT,cn,k2,ei,ek,k1,k4,k5,k6,m1,m4,m5,m6,List.map_cons,List.map_nil,sp,List.all_cons,List.all_nil,acb,bP,c9,sZ,Nat.reduceEqDiff,Nat.reduceAdd,Nat.reduceLT,↓reduceIte]
     refine ⟨hi,?_⟩
     repeat' apply hV
     all_goals first | exact hk.1 | exact hk.2 | exact A | exact B
    ·rintro e G ⟨e3,p,q,X,e9,e10,hp,hq,rfl,gp,gq⟩
     simp +contextual only [e3,e9,e10,gp,gq,k2,sZ,Nat.reduceEqDiff,Nat.reduceAdd,Nat.reduceLT,↓reduceIte,reduceCtorEq]
     refine af (VT (.inl rfl:IL (bu (c.kd i)) (c.kd i)) (.inl rfl:IL (bu (c.kd k)) (c.kd k)) (by omega) (by omega) h2 (hD.ue X)) ?_
     rintro r G' ⟨us,to,Cu,rfl,hU,kh⟩
     have VU:=Pr.mu (f:=nf c) (G:=Gt c.O.sp) Cu
     have lbl:=kw (c.kd i).length fun i=>!us.getD i false
     have lbo:=kw (c.kd k).length fun j=>decide (to.getD j 0 < 0)
     have il:IL (bu (below (c.kd i).length fun i=>!us.getD i false)) (below (c.kd i).length fun i=>!us.getD i false):=.inl rfl
     have io:IL (bu (below (c.kd k).length fun j=>decide (to.getD j 0 < 0))) (below (c.kd k).length fun j=>decide (to.getD j 0 < 0)):=.inl rfl
     have ml:∀ x∈below (c.kd i).length (fun i=>!us.getD i false),0≤x∧x < (c.kd i).length:=by
      intro x hx;obtain ⟨j,rfl,hj,_⟩:=ic.1 hx;omega
     have mo:∀ x∈below (c.kd k).length (fun j=>decide (to.getD j 0 < 0)),0≤x∧x < (c.kd k).length:=by
      intro x hx;obtain ⟨j,rfl,hj,_⟩:=ic.1 hx;omega
     generalize (below (c.kd i).length fun i=>!us.getD i false)=L at *
     generalize (below (c.kd k).length fun j=>decide (to.getD j 0 < 0))=V at *
     obtain ⟨a1,a2,a3,a4⟩:=il.one
     obtain ⟨b1,b2,b3,b4⟩:=io.one
     have hG1:∀ G2,Up c (H1++X) G2→Du c G2→Up c H1 (G2.take H1.length)∧Du c (G2.take H1.length):=fun G2 u d=>⟨u.take,d.take l4 l5 l6⟩
     have fin:∀ G2 (b:Bool),Up c (H1++X) G2→Du c G2→(b=true↔zE c i k)→bV H1.length [.t 6] [(6,.bool b)] G2 (jt c (zE c i k) H1):=by
      intro G2 b u d hb
      refine aX H1.length (rC _) (by rw [aA,if_pos rfl];rfl) ?_
      rw [aA,if_pos rfl]
      exact ⟨b,rfl,hb,(hG1 G2 u d).1,(hG1 G2 u d).2⟩
     simp +contextual only [List.map_cons,List.map_nil,k2,a1,a3,a4,il.aO,il.len (by omega),cn,sZ,Nat.reduceEqDiff,Nat.reduceAdd,Nat.reduceLT,↓reduceIte,reduceCtorEq]
     refine ⟨fun hL=>?_,fun hL=>?_⟩
     ·have gp':G'[p]?=some (.cells [bu (c.kd i)]):=by rw [hU.get p (by omega) (by omega),gp]
      have gq':G'[q]?=some (.cells [bu (c.kd k)]):=by rw [hU.get q (by omega) (by omega),gq]
      have gm:∀ {x:Int} {l:List Int},0≤x∧x < l.length→l.getD x.toNat 0∈l:=fun h=>aT (by omega)
      refine af (EH (SD.Cs c G') io (by omega) 221 [] [.ai (bu L),.ai (.ptr c.d 0),.ptr p 0,.ptr q 0] rfl rfl (Q:=fun y=>¬ ∃ x∈L,R c.O (c.tm ((c.kd i).getD x.toNat 0)) (c.tm ((c.kd k).getD y.toNat 0)))
       (fun y hy G2 VV=>(adD (.inl rfl) (.inl rfl) il (by omega) ml (mo y hy) (fun x hx=>h3 _ (gm (ml x hx)) _ (gm (mo y hy))) VV.1 (by rw [VV.2.get p (by omega) (by omega),gp']) (by rw [VV.2.get q (by omega) (by omega),gq']) ⟨by omega,by omega⟩ ⟨by omega,by omega⟩).mono fun r H' hr=>hr.sb VV) ⟨kh,Up.refl c G'⟩) ?_
      rintro r G2 ⟨z,rfl,hz,VV⟩
      simp +contextual only [sZ,Nat.reduceEqDiff,↓reduceIte,reduceCtorEq]
      refine fin G2 (!z) (hU.trans VV.2) VV.1 ?_
      have hLn:L≠[]:=by intro e;rw [e] at hL;simp at hL
      rw [zE,VU]
      cases z with
      | true=>
        obtain ⟨y,hy,hn⟩:=hz.1 rfl
        exact ⟨fun h=>by simp at h,fun ⟨_,_,_,h⟩=>absurd (h y hy) hn⟩
      | false=>
        refine ⟨fun _=>⟨hl,hs,hLn,fun y hy=>?_⟩,fun _=>rfl⟩
        by_cases Jz:∃ x∈L,R c.O (c.tm ((c.kd i).getD x.toNat 0)) (c.tm ((c.kd k).getD y.toNat 0))
        ·exact Jz
        ·exact absurd (hz.2 ⟨y,hy,Jz⟩) (by simp)
     ·refine fin G' false hU kh ⟨fun h=>by simp at h,fun h=>?_⟩
      have:=(VU.1 h.2.2).1
      exact absurd (aby.1 (by omega)) this
   ·have d3':decide (¬dP c i=3)=true:=decide_eq_true hs
    simp +contextual only [Bool.not_true,hs,decide_true,not_false_eq_true,sZ,Nat.reduceEqDiff,↓reduceIte,reduceCtorEq]
    exact eW rfl ⟨fun h=>by simp at h,fun h=>absurd h.2.1 hs⟩ (Up.refl c _) hD
theorem wE {c:Cx} (hc:c.Ok) {i:Int} (hi:c.ep i):(c.tm i).l.map (norm c.O)=(c.kd i).map (nf c):=by
 rw [← (hc.kids i hi).1,acs];rfl
theorem Hf {f:Int→T} {a b:List Int}:a.map f=b.map f↔a.length=b.length∧∀ j,j < a.length→f (a.getD j 0)=f (b.getD j 0):=by
 constructor
 ·intro h
  have hl:a.length=b.length:=by simpa using congrArg List.length h
  refine ⟨hl,fun j hj=>?_⟩
  have:=congrArg (fun l=>l[j]?) h
  have hb:j < b.length:=by omega
  simpa [hj,hb] using this
 ·rintro ⟨hl,h⟩
  apply adV
  ·simpa using hl
  ·intro j h1 h2
   have h3:j < a.length:=by simpa using h1
   have h4:j < b.length:=by simpa using h2
   simpa [h3,h4] using h j h3
theorem adE {c:Cx} (hc:c.Ok) {i k:Int} (hi:c.ep i) (hk:c.ep k) (h2:∀ x∈c.kd i,∀ y∈c.kd k,lD c x y) {H:List aa} (hD:Du c H):ax Tryz.prog 138 (EG c i k) H (jt c (E c.O (c.tm i) (c.tm k)) H):=by
 refine X6.2.calls rfl ?_
 simp only [X6,aG,EG]
 have k2:∀ l,(bu l).ab=bu l:=fun l=>(aI l).2.1
 have l1:=hc.kl i hi
 have l2:=hc.kl k hk
 simp +contextual only [sZ,Nat.reduceEqDiff,Nat.reduceAdd,↓reduceIte,reduceCtorEq]
 refine af (rf hc hi hD) ?_
 rintro r H1 ⟨rfl,rfl⟩
 simp +contextual only [dQ,gb,gf,gg,sZ,Nat.reduceEqDiff,Nat.reduceAdd,↓reduceIte,reduceCtorEq]
 refine af (rf hc hk hD) ?_
 rintro r H1 ⟨rfl,rfl⟩
 simp +contextual only [dQ,gb,gf,gg,sZ,Nat.reduceEqDiff,↓reduceIte,reduceCtorEq]
 have eqf:∀ b:Bool,dg false (.bool b) (.bool b)=fun φ=>φ (.bool true):=fun b=>by funext φ;cases b <;> simp [dg]
 have fT0:=II
 have fT1:∀ (t:T) (φ:AV→Prop),ap 1 none (.ai t.av) φ=φ (.ai (.int .i64 t.n)):=fun t φ=>by cases t;simp [ap,T.av,apart,AV.cells,AV.one,T.n]
 have ei:(c.nd.getD i.toNat default).fst=c.tm i:=rfl
 have ek:(c.nd.getD k.toNat default).fst=c.tm k:=rfl
 have hE:=SS (O:=c.O) (a:=c.tm i) (b:=c.tm k)
 rw [wE hc hi,wE hc hk] at hE
 cases hbi:td c i with
 | false=>
   have ki:(c.tm i).k≠2:=of_decide_eq_false hbi
   cases Hg:td c k with
   | false=>
     have kk:(c.tm k).k≠2:=of_decide_eq_false Hg
     simp +contextual only [Bool.not_false,hD.d,nK,fN0,fT1,cT,ei,ek,sZ,Nat.reduceEqDiff,Nat.reduceAdd,Nat.reduceLT,↓reduceIte,reduceCtorEq]
     refine ⟨hi,hk,eW rfl ?_ (Up.refl c _) hD⟩
     rw [hE,decide_eq_true_eq]
     exact ⟨fun h=>.inr ⟨ki,kk,h⟩,fun h=>by rcases h with h | h;exact absurd h.1 ki;exact h.2.2⟩
   | true=>
     have kk:(c.tm k).k=2:=of_decide_eq_true Hg
     simp +contextual only [Bool.not_false,sZ,Nat.reduceEqDiff,↓reduceIte,reduceCtorEq]
     refine eW rfl ?_ (Up.refl c _) hD
     rw [hE]
     exact ⟨fun h=>by simp at h,fun h=>by rcases h with h | h;exact absurd h.1 ki;exact absurd kk h.2.1⟩
 | true=>
   have ki:(c.tm i).k=2:=of_decide_eq_true hbi
   cases Hg:td c k with
   | false=>
     have kk:(c.tm k).k≠2:=of_decide_eq_false Hg
     simp +contextual only [Bool.not_false,Bool.not_true,sZ,Nat.reduceEqDiff,↓reduceIte,reduceCtorEq]
     refine eW rfl ?_ (Up.refl c _) hD
     rw [hE]
     exact ⟨fun h=>by simp at h,fun h=>by rcases h with h | h;exact absurd h.2.1 kk;exact absurd ki h.1⟩
   | true=>
     have kk:(c.tm k).k=2:=of_decide_eq_true Hg
     have epi:rc c i=c.O.pl (c.tm i).n:=if_pos ki
     have epk:rc c k=c.O.pl (c.tm k).n:=if_pos kk
     have esi:dP c i=c.O.sp (c.O.pl (c.tm i).n):=if_pos ki
     have hE2:E c.O (c.tm i) (c.tm k)↔rc c i=rc c k∧(if dP c i=3 then ((c.kd i).map (nf c)).Perm ((c.kd k).map (nf c)) else (c.kd i).map (nf c)=(c.kd k).map (nf c)):=by
      rw [hE,epi,epk,esi]
      exact ⟨fun h=>by rcases h with h | h;exact h.2.2;exact absurd ki h.1,fun h=>.inl ⟨ki,kk,h⟩⟩
     have eki:(c.nd.getD i.toNat default).snd=c.kd i:=rfl
     have ekk:(c.nd.getD k.toNat default).snd=c.kd k:=rfl
     have ii:IL (bu (c.kd i)) (c.kd i):=.inl rfl
     have ik:IL (bu (c.kd k)) (c.kd k):=.inl rfl
     have hlen:E c.O (c.tm i) (c.tm k)→(c.kd i).length=(c.kd k).length:=by
      intro h
      have h:=(hE2.1 h).2
      split at h
      ·simpa using h.length_eq
      ·simpa using congrArg List.length h
     simp +contextual only [Bool.not_true,hD.d,nK,FD,cT,cn,k2,eki,ekk,ii.aO,ik.aO,ii.len (by omega),ik.len (by omega),sZ,Nat.reduceEqDiff,Nat.reduceAdd,Nat.reduceLT,↓reduceIte,reduceCtorEq]
     refine ⟨hi,hk,fun hp=>⟨fun hn=>?_,fun hlk=>⟨fun h3=>?_,fun h3=>?_⟩⟩,fun hp=>?_⟩
     ·refine eW rfl ⟨fun h=>by simp at h,fun h=>absurd (hlen h) (by omega)⟩ (Up.refl c _) hD
     ·refine af (VT ii ik (by omega) (by omega) h2 hD) ?_
      rintro r G ⟨us,to,Cu,rfl,hU,kh⟩
      have Pa:=Pr.perm (f:=nf c) Cu (by omega)
      have lbl:=kw (c.kd i).length fun i=>!us.getD i false
      have il:IL (bu (below (c.kd i).length fun i=>!us.getD i false)) (below (c.kd i).length fun i=>!us.getD i false):=.inl rfl
      generalize (below (c.kd i).length fun i=>!us.getD i false)=L at *
      simp +contextual only [k2,il.aO,il.len (by omega),sZ,Nat.reduceEqDiff,Nat.reduceAdd,Nat.reduceLT,↓reduceIte,reduceCtorEq]
      refine eW rfl ?_ hU kh
      rw [hE2,if_pos h3,Pa,decide_eq_true_eq]
      exact ⟨fun h=>⟨hp,aby.1 (by omega)⟩,fun h=>by rw [h.2];rfl⟩
     ·refine af (ZY (SD.Cs c _) ii ik (by omega) (by omega) 79 [.ptr c.d 0] [] rfl rfl (Q:=fun x y=>E c.O (c.tm x) (c.tm y)) (fun x hx y hy G hG=>(h2 x hx y hy G hG.1).mono fun r H' hr=>hr.sb hG) ⟨hD,Up.refl c _⟩) ?_
      rintro r G ⟨b,rfl,hb,hG⟩
      simp +contextual only [sZ,↓reduceIte,reduceCtorEq]
      refine eW rfl ?_ hG.2 hG.1
      rw [hE2,if_neg h3,hb]
      have:=Hf (f:=nf c) (a:=c.kd i) (b:=c.kd k)
      exact ⟨fun h=>⟨hp,this.2 h⟩,fun h=>this.1 h.2⟩
     ·exact eW rfl ⟨fun h=>by simp at h,fun h=>absurd (hE2.1 h).1 hp⟩ (Up.refl c _) hD
end Go.aK
end
