/- Part 8 of 15 of the proof. -/
import Derived.Test.YtljchnfgjdjobaaGreatVag
import Derived.Test.YtljchnfgjdjobaaGreatVaf
import Derived.KernelRfl
set_option linter.unusedVariables false
set_option linter.unusedSimpArgs false
set_option linter.defProp false
set_option linter.unusedSectionVars false
section
set_option maxRecDepth 100000
namespace Go.aL
open Go Go.Proofs
def ue (t:T):Int×Int:=if t.sz≤2000∧t.dp≤200 then (t.sz,t.dp) else (2001,201)
theorem ab6 (t:T):(¬ eO (gC t 1 (0,0))↔t.sz≤2000∧t.dp≤200)∧(¬ eO (gC t 1 (0,0))→gC t 1 (0,0)=(t.sz,t.dp)):=by
 have h:=sR t 1 (0,0) (by unfold pC;simp)
 have hd:=t.sQ
 refine ⟨h.1.trans ⟨fun k=>⟨by omega,by omega⟩,fun k=>⟨by simp only;omega,by omega⟩⟩,fun k=>?_⟩
 have:=h.2 k
 exact Prod.ext (by simpa using this.1) (by have:=this.2;simp only at this ⊢;omega)
theorem ab7 (t:T):Pure Tryz.prog 122 [t.av] (.tuple [.int .i64 (ue t).1,.int .i64 (ue t).2]):=by
 refine fun H=>Xl.2.calls rfl ?_
 simp only [Xl,aF]
 simp +contextual only [sZ,Nat.reduceEqDiff,Nat.reduceAdd,↓reduceIte,reduceCtorEq]
 refine af (UD H t 1 (0,0) (by unfold pC;simp)) ?_
 rintro r H' ⟨rfl,rfl⟩
 simp +contextual only [sZ,Nat.reduceEqDiff,Nat.reduceAdd,↓reduceIte]
 refine af (Yq H (gC t 1 (0,0))) ?_
 rintro r H' ⟨rfl,rfl⟩
 have h0:=ab6 t
 cases hb:ud (gC t 1 (0,0)) with
 | true=>
   have hn:¬ (t.sz≤2000∧t.dp≤200):=fun h=>h0.1.2 h ((sS _).1 hb)
   simp +contextual only [eS,sZ,Nat.reduceEqDiff,↓reduceIte,reduceCtorEq]
   exact wH (by decide) rfl rfl (by rw [ue,if_neg hn];rfl) (by rw [ue,if_neg hn];rfl)
 | false=>
   have hn:¬ eO (gC t 1 (0,0)):=fun h=>by rw [(sS _).2 h] at hb;cases hb
   have h1:=h0.1.1 hn
   rw [h0.2 hn]
   simp +contextual only [eS,sZ,Nat.reduceEqDiff,Nat.reduceAdd,Nat.reduceLT,↓reduceIte,reduceCtorEq]
   exact wH (by decide) rfl rfl (by rw [ue,if_pos h1];rfl) (by rw [ue,if_pos h1];rfl)
theorem ab8 (a b:List Int) (o o':Nat):Pure Tryz.prog 198 [.al o (ints a),.al o' (ints b)] (.bool (decide (a=b))):=by
 refine fun H=>X0.2.calls rfl ?_
 simp only [X0,aF]
 simp +contextual only [sZ,Nat.reduceEqDiff,Nat.reduceAdd,↓reduceIte,reduceCtorEq]
 refine fun _ _=>⟨fun dW=>aZ rfl ?_,fun hl=>?_⟩
 ·rw [decide_eq_false]
  intro h;subst h;exact dW rfl
 have hl:a.length=b.length:=by omega
 refine aD a.length (fun i=>decide (a.drop i=b.drop i)=decide (a=b)) (fun i=>[(0,.al o (ints a)),(1,.al o' (ints b)),(5,.int .i64 i)]) (fun i=>H) ⟨rfl,aA _ _ _⟩ fun i hi hI=>?_
 simp +contextual only [sZ,Nat.reduceEqDiff,↓reduceIte,reduceCtorEq]
 intro _
 refine ⟨fun aK=>⟨bi aK,?_⟩,fun gr=>?_⟩
 ·have aK:=bi aK
  have UH:i < b.length:=by omega
  rw [List.drop_eq_getElem_cons aK,List.drop_eq_getElem_cons UH] at hI
  have e1:a.getD i 0=a[i]:=by simp [aK]
  have e2:b.getD i 0=b[i]:=by simp [UH]
  rw [e1,e2]
  refine ⟨UH,fun dW=>aZ rfl ?_,fun he=>⟨i + 1,⟨aK,?_⟩,by omega,aC (by rw [au i (by omega)]) rfl⟩⟩
  ·rw [← hI,decide_eq_false]
   intro h;exact dW (List.cons.inj h).1
  ·rw [← hI,he]
   exact decide_eq_decide.2 (by rw [List.cons.injEq];simp only [true_and])
 ·have gr:=cb gr
  rw [List.drop_of_length_le gr,List.drop_of_length_le (by omega)] at hI
  exact aZ rfl (by rw [← hI];rfl)
mutual
def RE:T→Int
 | .mk k n l=>max (if k=1 then n else -1) (yl l)
def yl:List T→Int
 | []=>-1
 | x::r=>max (RE x) (yl r)
end
theorem Dz {l:List T} {i:Nat} (h:i < l.length):yl (l.drop i)=max (RE (l.getD i default)) (yl (l.drop (i + 1))):=by
 rw [List.drop_eq_getElem_cons h]
 simp [yl,h]
theorem LM:∀ l:List T,-1≤yl l
 | []=>by simp [yl]
 | x::r=>by simp only [yl];have:=LM r;omega
theorem Yx (l:List T):Pure Tryz.prog 109 [.al 0 (bC l)] (.int .i64 (yl l)):=by
 have ih:∀ y∈l,Pure Tryz.prog 109 [.al 0 (bC y.l)] (.int .i64 (yl y.l)):=fun y hy=>Yx y.l
 refine fun H=>Xd.2.calls rfl ?_
 simp only [Xd,aF]
 simp +contextual only [sZ,Nat.reduceEqDiff,Nat.reduceAdd,↓reduceIte,reduceCtorEq]
 intro _
 have h0:=LM l
 refine aJ l.length (fun i (s:Int)=>-1≤s∧max s (yl (l.drop i))=yl l)
  (fun i s=>[(3,.int .i64 s),(6,.al 0 (bC l)),(7,.int .i64 l.length),(8,.int .i64 i)]) (fun i s=>H) (-1) ⟨⟨by omega,by rw [List.drop_zero];omega⟩,aA _ _ _⟩ fun i s hi hI=>?_
 obtain ⟨k1,hI⟩:=hI
 simp +contextual only [sZ,Nat.reduceEqDiff,Nat.reduceAdd,↓reduceIte,reduceCtorEq]
 refine ⟨fun aK=>⟨bi aK,fun hk=>?_,fun hk=>?_⟩,fun gr=>?_⟩
 ·have aK:=bi aK
  rw [Dz aK] at hI
  have e:RE (l.getD i default)=max (if (l.getD i default).k=1 then (l.getD i default).n else -1) (yl (l.getD i default).l):=by cases l.getD i default;simp only [RE,T.k,T.n,T.l];rfl
  rw [if_pos hk] at e
  refine ae (ih _ (cq aK)) ?_
  simp +contextual only [sZ,Nat.reduceEqDiff,↓reduceIte]
  exact ⟨i + 1,max (max s (l.getD i default).n) (yl (l.getD i default).l),⟨aK,by omega,by omega⟩,by omega,aC (by rw [au i (by omega)]) rfl⟩
 ·have aK:=bi aK
  rw [Dz aK] at hI
  have e:RE (l.getD i default)=max (if (l.getD i default).k=1 then (l.getD i default).n else -1) (yl (l.getD i default).l):=by cases l.getD i default;simp only [RE,T.k,T.n,T.l];rfl
  rw [if_neg hk] at e
  refine ae (ih _ (cq aK)) ?_
  simp +contextual only [sZ,Nat.reduceEqDiff,↓reduceIte]
  exact ⟨i + 1,max s (yl (l.getD i default).l),⟨aK,by omega,by omega⟩,by omega,aC (by rw [au i (by omega)]) rfl⟩
 ·rw [List.drop_of_length_le (cb gr)] at hI
  simp only [yl] at hI
  exact aZ rfl (by congr 1;omega)
termination_by SizeOf.sizeOf l
decreasing_by
 have h1:=List.sizeOf_lt_of_mem hy
 have h2:SizeOf.sizeOf y.l < SizeOf.sizeOf y:=by cases y;simp only [T.l,T.mk.sizeOf_spec];omega
 omega
theorem FR (l:List T):qB 3 (bC l)=True:=by
 simp only [qB,eq_iff_iff,iff_true]
 intro y hy
 rw [mK] at hy
 obtain ⟨z,_,rfl⟩:=List.mem_map.1 hy
 exact ⟨z.cw,z.mL⟩
end Go.aL
end
section
set_option maxRecDepth 100000
namespace Go.aL
open Go Go.Proofs
theorem Yy (n:Int):Pure Tryz.prog 177 [.int .i64 n] (T.mk 1 n []).av:=by
 refine fun H=>XP.2.calls rfl ?_
 simp only [XP,aF]
 simp +contextual only [sZ,Nat.reduceEqDiff,Nat.reduceAdd,↓reduceIte,reduceCtorEq]
 exact rn (T.bY _ (.mk 1 n [])) rfl
theorem UI (t:T) (h:t.shaped=true):Pure Tryz.prog 120 [t.av] t.av:=by
 refine fun H=>Xk.2.calls rfl ?_
 simp only [Xk,aF]
 simp +contextual only [sZ,Nat.reduceEqDiff,Nat.reduceAdd,↓reduceIte]
 refine ae (P1 177 [] (fun n=>.mk 1 n []) t rfl rfl (fun n=>Yy n) h) ?_
 have e:nu (fun n=>.mk 1 n []) t=t:=FQ t h
 rw [e]
 simp +contextual only [sZ,Nat.reduceEqDiff,Nat.reduceAdd,↓reduceIte,reduceCtorEq]
 exact rn (T.bY _ t) rfl
def lf (t:T):T×Int:=if t.tree=true then (t,0) else (T0,2)
theorem Yz (t:T):Pure Tryz.prog 124 [t.av] (.tuple [(lf t).1.av,.int .i64 (lf t).2]):=by
 refine fun H=>Xn.2.calls rfl ?_
 simp only [Xn,aF]
 simp +contextual only [sZ,Nat.reduceEqDiff,Nat.reduceAdd,↓reduceIte]
 refine ae (Jf t) ?_
 cases h:t.tree with
 | true=>
   simp +contextual only [sZ,Nat.reduceEqDiff,Nat.reduceAdd,↓reduceIte,reduceCtorEq]
   exact wI (T.bY _ _) rfl (by rw [lf,if_pos h];exact t.fj) (by rw [lf,if_pos h];rfl)
 | false=>
   simp +contextual only [sZ,Nat.reduceEqDiff,Nat.reduceAdd,↓reduceIte,reduceCtorEq]
   exact wI (T.bY _ _) rfl (by rw [lf,if_neg (by rw [h];simp)];rfl) (by rw [lf,if_neg (by rw [h];simp)];rfl)
def sub (l:List T) (t:T):T:=nu (fun n=>l.getD n.toNat default) t
def lK (l:List T) (ts:List T):List T:=gW (fun n=>l.getD n.toNat default) ts
theorem sub_eq (l:List T) (t:T):sub l t=if t.k=1 then l.getD t.n.toNat default else .mk t.k t.n (lK l t.l):=uZ _ t
theorem P4 {l:List T} {t:T} (h:t.k≠1):(sub l t).sz=1 + nF (lK l t.l):=by rw [sub_eq,if_neg h];simp only [T.sz]
def RF (l:List T) (left:Int):aa:=.cells [.al 0 (bC l),iI (l.map T.sz),.int .i64 left]
def RG (S:Int→List aa) (o:T) (left:Int) (r:AV) (H':List aa):Prop:=
 (o.sz≤left∧r=.tuple [o.av,.bool true]∧H'=S (left - o.sz))∨(left < o.sz∧r=.tuple [T0.av,.bool false]∧∃ left',H'=S left')
theorem LN (e:Nat) (l:List Int) (i:Nat) (hi:i < l.length) (k:IntKind) (φ:AV→Prop):ax e (iI l).ab (.int k (i:Int)) φ=φ (.ai (.int .i64 (l.getD i 0))):=by
 cases l with
 | nil=>simp at hi
 | cons v r=>
   show ax e (.al 0 (ints (v::r))) _ φ=_
   rw [wK]
   simp only [hi,true_and]
theorem Ji (l:List Int):(∀ (own:Nat) (xs:List AV),(iI l).ab=AV.al own xs→∀ z∈xs,z.cells.length=1)=True:=by
 simp only [eq_iff_iff,iff_true]
 intro own xs e z hz
 cases l with
 | nil=>cases e
 | cons v r=>
   have e':AV.al 0 (ints (v::r))=AV.al own xs:=e
   cases e'
   obtain ⟨y,_,rfl⟩:=List.mem_map.1 hz
   rfl
theorem ve:∀ (a b:List T),nF (a++b)=nF a + nF b
 | [],b=>by simp [nF]
 | x::r,b=>by rw [List.cons_append];simp only [nF];rw [ve r b];omega
theorem P5 {t:T} {i:Nat} {v:Int} (hk:¬ t.k=1) (h:i < t.l.length) (hv:v∈(t.l.getD i default).fv):v∈t.fv:=by
 have e:t.fv=FN t.l:=by cases t;simp only [T.k] at hk;simp only [T.fv,if_neg hk,T.l]
 rw [e]
 have:∀ (l:List T) (i:Nat),i < l.length→v∈(l.getD i default).fv→v∈FN l:=by
  intro l
  induction l with
  | nil=>intro i h;cases h
  | cons x r ih=>
    intro i h hv
    simp only [FN,List.mem_append]
    cases i with
    | zero=>exact .inl (by simpa using hv)
    | succ j=>exact .inr (ih j (by simpa using h) (by simpa using hv))
 exact this _ _ h hv
theorem YA {S:Int→List aa} {p n:Nat} (l:List T) (F:NC S p (RF l) n) (t:T) (left:Int) (ht:t.shaped=true) (hl:k9 l=true) (hv:∀ v∈t.fv,v < (l.length:Int)) (h0:0≤left) (h1:left≤2000) :
 aq Tryz.prog 123 [.ptr p 0,t.av] (S left) (RG S (sub l t) left):=by
 have hkids:=ct ht
 have ih:∀ y∈t.l,∀ (e:List aa) (left:Int),(∀ v∈y.fv,v < (l.length:Int))→0≤left→left≤2000→aq Tryz.prog 123 [.ptr p 0,y.av] (S left++e) (RG (fun s=>S s++e) (sub l y) left):=
  fun y hy e left hv h0 h1=>YA l (F.rp e) y left (hkids.2 y hy) hl hv h0 h1
 have fg:∀ s,(S s)[p]?=some (.cells [.al 0 (bC l),iI (l.map T.sz),.int .i64 s]):=F.get
 have fg':∀ s e,(S s++e)[p]?=some (.cells [.al 0 (bC l),iI (l.map T.sz),.int .i64 s]):=F.get'
 have fs:∀ s s' ,(S s).set p (.cells [.al 0 (bC l),iI (l.map T.sz),.int .i64 s'])=S s':=F.set
 have fs':∀ s s' e,(S s++e).set p (.cells [.al 0 (bC l),iI (l.map T.sz),.int .i64 s'])=S s'++e:=F.Us
 have hp:=F.lt left
 refine Xm.2.calls rfl ?_
 rw [F.len]
 simp only [Xm,aF]
 have w1:IntKind.i64.wrap (left - 1)=left - 1:=dL _ (by omega)
 by_cases hk:t.k=1
 ·have hn:t.n∈t.fv:=by cases t;simp only [T.k] at hk;simp [T.fv,T.n,hk]
  have Nm:=zw t ht _ hn
  have hn1:=hv _ hn
  have hnn:t.n=((t.n.toNat:Nat):Int):=by omega
  have aK:t.n.toNat < l.length:=by omega
  generalize t.n.toNat=m at *
  have hm:l.getD m default∈l:=cq aK
  have htm:(l.getD m default).tree=true:=List.all_eq_true.1 hl _ hm
  have hti:=(T.cr _).1 htm
  have UJ:=(l.getD m default).wN
  have eo:sub l t=l.getD m default:=by rw [sub_eq,if_pos hk,hnn];rfl
  rw [eo]
  have em:(l.map T.sz).getD m 0=(l.getD m default).sz:=by simp [aK]
  have w2:IntKind.i64.wrap (left - (l.getD m default).sz)=left - (l.getD m default).sz:=dL _ (by omega)
  have oi:=fun k φ=>LN 1 (l.map T.sz) m (by simpa using aK) k φ
  simp +contextual only [hk,hnn,fg',fs',F.len,F.Lv,F.Lw,oi,em,w2,sZ,Nat.reduceEqDiff,Nat.reduceAdd,Nat.reduceLT,↓reduceIte,reduceCtorEq]
  refine ⟨of_eq_true (Ji _),fun ab9=>?_,fun gr=>⟨aK,aE (UI _ hti.2.2) ?_⟩⟩
  ·exact jz (F.take _ _) (T.bY _ T0) rfl rfl rfl (.inr ⟨by omega,rfl,_,rfl⟩)
  ·simp +contextual only [F.Lv,F.Lw,sZ,Nat.reduceEqDiff,Nat.reduceAdd,↓reduceIte,reduceCtorEq]
   exact jz (F.take _ _) (T.bY _ _) rfl (T.fj _) rfl (.inl ⟨by omega,rfl,rfl⟩)
 ·simp +contextual only [hk,fg',fs',F.len,F.Lv,F.Lw,F.Ut,F.W3,w1,sZ,Nat.reduceEqDiff,Nat.reduceAdd,Nat.reduceLT,↓reduceIte,reduceCtorEq]
  have eo:(sub l t).sz=1 + nF (lK l t.l):=P4 hk
  refine ⟨fun ab9=>?_,fun gr _=>?_⟩
  ·exact jz (F.take _ _) (T.bY _ T0) rfl rfl rfl (.inr ⟨by have:=jG (lK l t.l);omega,rfl,_,rfl⟩)
  ·refine aJ t.l.length (fun i (s:Int)=>0≤s∧s=left - 1 - nF (lK l (t.l.take i)))
    (fun i s=>[(0,.ptr p 0),(4,.ptr n 0),(6,.ptr (n + 1) 0),(63,.al 0 (bC t.l)),(64,.int .i64 t.l.length),(65,.int .i64 i)])
    (fun i s=>S s++[.cells [.int .i64 0,.int .i64 0,.ah],.cells [.int .i64 t.k,.int .i64 t.n,sU (lK l (t.l.take i))]]) (left - 1) ⟨⟨by omega,by simp [lK,gW,nF]⟩,aA _ _ _⟩ fun i s hi hI=>?_
   obtain ⟨k1,hI⟩:=hI
   simp +contextual only [F.Lv,F.Lw,F.Ut,zr,sZ,Nat.reduceEqDiff,Nat.reduceAdd,↓reduceIte,reduceCtorEq]
   refine ⟨fun aK=>⟨bi aK,?_⟩,fun gr=>?_⟩
   ·have aK:=bi aK
    refine af (ih _ (cq aK) _ s (fun v hv'=>hv v (P5 hk aK hv')) k1 (by have:=jG (lK l (t.l.take i));omega)) ?_
    have et:lK l (t.l.take (i + 1))=lK l (t.l.take i)++[sub l (t.l.getD i default)]:=mO _ aK
    rintro r H' (⟨h1,rfl,rfl⟩ | ⟨h1,rfl,left',rfl⟩)
    ·simp +contextual only [F.Ut,F.W3,u0,oZ,wP,wQ,sZ,Nat.reduceEqDiff,Nat.reduceAdd,Nat.reduceLT,↓reduceIte,reduceCtorEq]
     refine ⟨by rw [lK,eN];simp;omega,i + 1,_,⟨aK,?_,?_⟩,by omega,aC (by rw [au i (by omega)]) (by rw [et])⟩
     ·omega
     ·rw [et,ve];simp only [nF];omega
    ·simp +contextual only [F.Lv,F.Lw,sZ,Nat.reduceEqDiff,Nat.reduceAdd,Nat.reduceLT,↓reduceIte,reduceCtorEq]
     have e2:lK l t.l=lK l (t.l.take (i + 1))++lK l (t.l.drop (i + 1)):=by
      simp only [lK,eN];rw [← List.map_append,List.take_append_drop]
     have e903:nF (lK l t.l)=nF (lK l (t.l.take i)) + (sub l (t.l.getD i default)).sz + nF (lK l (t.l.drop (i + 1))):=by
      rw [e2,ve,et,ve];simp only [nF];omega
     have:=jG (lK l (t.l.drop (i + 1)))
     exact jz (F.take _ _) (T.bY _ T0) rfl rfl rfl (.inr ⟨by omega,rfl,_,rfl⟩)
   ·rw [List.take_of_length_le (cb gr)] at hI ⊢
    have es:s=left - (sub l t).sz:=by omega
    exact jz (x:=(sub l t).av) (F.take _ _) (T.bY _ _) rfl (by rw [sub_eq l t,if_neg hk];rfl) rfl (.inl ⟨by omega,rfl,by rw [es]⟩)
termination_by SizeOf.sizeOf t
decreasing_by exact T.lt hy
end Go.aL
end
section
set_option maxRecDepth 100000
namespace Go.aL
open Go Go.Proofs
mutual
theorem UK (m:Int) (hm:0≤m):∀ (x:T),(RE x < m↔∀ v∈x.fv,v < m)
 | .mk k n l=>by
   have h:=FT m hm l
   simp only [RE,T.fv]
   by_cases hk:k=1
   ·rw [if_pos hk,if_pos hk]
    constructor
    ·intro h2 v hv
     rcases List.mem_cons.1 hv with rfl | hv
     ·omega
     ·exact h.1 (by omega) v hv
    ·intro h2
     have:=h2 n (by simp)
     have:=h.2 fun v hv=>h2 v (List.mem_cons_of_mem _ hv)
     omega
   ·rw [if_neg hk,if_neg hk,← h]
    omega
theorem FT (m:Int) (hm:0≤m):∀ (l:List T),(yl l < m↔∀ v∈FN l,v < m)
 | []=>by simp only [yl,FN];simp;omega
 | x::r=>by
   simp only [yl,FN,List.mem_append]
   have h1:=UK m hm x
   have h2:=FT m hm r
   constructor
   ·intro h v hv
    rcases hv with hv | hv
    ·exact h1.1 (by omega) v hv
    ·exact h2.1 (by omega) v hv
   ·intro h
    have:=h1.2 fun v hv=>h v (.inl hv)
    have:=h2.2 fun v hv=>h v (.inr hv)
    omega
end
def dA (t:T) (l:List T):T×Int:=
 if t.tree=true∧k9 l=true then if yl [t] < l.length then if (sub l t).tree=true then (sub l t,0) else (T0,2) else (T0,1) else (T0,4)
theorem aca (a b c:AV) (x y:AV) (φ:AV→Prop) (hb:c.ab=c):cA [a,b,c] [(0,1,x),(2,1,y)] φ=(x.val=true∧x.cells.length=1∧y.val=true∧y.cells.length=1∧φ (.agg (ag (ag [a,b,c] 0 (x.cells.map AV.ab)) 2 (y.cells.map AV.ab)))):=by
 simp only [cA,gO,eq_iff_iff]
 constructor
 ·rintro ⟨h1,h2,h3,h4,h5,h6,h7⟩;exact ⟨h1,h2,h4,h5,h7⟩
 ·rintro ⟨h1,h2,h4,h5,h7⟩
  have e1:(x.cells.map AV.ab).length=1:=by simpa using h2
  refine ⟨h1,h2,by simp,h4,h5,?_,h7⟩
  simp [ag,h2]
theorem c60 (t:T) (l:List T) (hl:l.length * 40≤140737488355328):Pure Tryz.prog 60 [t.av,.al 0 (bC l)] (.tuple [(dA t l).1.av,.int .i64 (dA t l).2]):=by
 refine fun H=>k60.2.calls rfl ?_
 simp only [k60,aF]
 simp +contextual only [sZ,Nat.reduceEqDiff,Nat.reduceAdd,↓reduceIte,reduceCtorEq]
 refine ae (Jf t) ?_
 cases ht:t.tree with
 | false=>
   have e:dA t l=(T0,4):=by rw [dA,if_neg (by rw [ht];simp)]
   rw [e]
   simp +contextual only [sZ,Nat.reduceEqDiff,Nat.reduceAdd,↓reduceIte,reduceCtorEq]
   exact wI (T.bY _ T0) rfl rfl rfl
 | true=>
   simp +contextual only [sZ,Nat.reduceEqDiff,Nat.reduceAdd,↓reduceIte]
   refine ae (Ys l) ?_
   cases hb:k9 l with
   | false=>
     have e:dA t l=(T0,4):=by rw [dA,if_neg (by rw [hb];simp)]
     rw [e]
     simp +contextual only [Bool.false_eq_true,sZ,Nat.reduceEqDiff,Nat.reduceAdd,↓reduceIte,reduceCtorEq,Int.reduceEq]
     exact wI (T.bY _ T0) rfl rfl rfl
   | true=>
     have htt:t.tree=true∧k9 l=true:=⟨ht,hb⟩
     have hti:=(T.cr _).1 ht
     simp +contextual only [sZ,Nat.reduceEqDiff,Nat.reduceAdd,↓reduceIte]
     refine ae (Yx [t]) ?_
     simp +contextual only [aca,sZ,Nat.reduceEqDiff,Nat.reduceAdd,↓reduceIte,reduceCtorEq]
     refine fun _=>⟨fun gr=>?_,fun aK=>?_⟩
     ·have e:dA t l=(T0,1):=by rw [dA,if_pos htt,if_neg (by omega)]
      rw [e]
      exact wI (T.bY _ T0) rfl rfl rfl
     have e:dA t l=if (sub l t).tree=true then (sub l t,0) else (T0,2):=by rw [dA,if_pos htt,if_pos aK]
     rw [e]
     have hv:=(FT l.length (by omega) [t]).1 aK
     simp only [FN,List.append_nil] at hv
     refine aD l.length (fun _=>True) (fun i=>[(2,.ai t.av),(4,.ptr H.length 0),(6,.ptr (H.length + 1) 0),(32,.al 0 (bC l)),(33,.int .i64 l.length),(34,.int .i64 i)])
      (fun i=>H++[.cells [.int .i64 0,.int .i64 0,.ah],.cells [.al 0 (bC l),iI ((l.take i).map T.sz),.int .i64 2000]]) ⟨trivial,aA _ _ _⟩ fun i hi hI=>?_
     simp +contextual only [sZ,Nat.reduceEqDiff,Nat.reduceAdd,↓reduceIte,reduceCtorEq]
     refine ⟨fun aK=>⟨bi aK,?_⟩,fun gr=>?_⟩
     ·have aK:=bi aK
      have htr:=(T.cr _).1 (List.all_eq_true.1 hb _ (cq aK))
      have es:(ue (l.getD i default)).1=(l.getD i default).sz:=by rw [ue,if_pos ⟨htr.1,htr.2.1⟩]
      have et:(l.take (i + 1)).map T.sz=(l.take i).map T.sz++[(l.getD i default).sz]:=by
       rw [List.take_add_one,List.map_append];simp [aK]
      refine ae (ab7 _) ?_
      simp +contextual only [es,sT,jK,LI,LJ,sZ,Nat.reduceEqDiff,Nat.reduceAdd,Nat.reduceLT,↓reduceIte]
      refine ⟨by simp;omega,i + 1,aK,by omega,aC (by rw [au i (by omega)]) (by rw [et])⟩
     ·rw [List.take_of_length_le (cb gr)]
      refine af (YA l (NC.mk2 H (RF l) (.cells [.int .i64 0,.int .i64 0,.ah]) []) t 2000 hti.2.2 hb hv (by omega) (by omega)) ?_
      rintro r H' (⟨h1,rfl,rfl⟩ | ⟨h1,rfl,left',rfl⟩)
      ·simp +contextual only [sZ,Nat.reduceEqDiff,Nat.reduceAdd,Nat.reduceLT,↓reduceIte]
       refine ae (Yz _) ?_
       simp +contextual only [sZ,Nat.reduceEqDiff,Nat.reduceAdd,Nat.reduceLT,↓reduceIte,reduceCtorEq]
       exact wI (T.bY _ _) rfl (T.fj _) rfl
      ·simp +contextual only [sZ,Nat.reduceEqDiff,Nat.reduceAdd,Nat.reduceLT,↓reduceIte,reduceCtorEq]
       have e2:¬ (sub l t).tree=true:=fun h=>by have:=((T.cr _).1 h).1;omega
       rw [if_neg e2]
       exact wI (T.bY _ T0) rfl rfl rfl
end Go.aL
end
section
set_option maxRecDepth 100000
namespace Go.aL
open Go Go.Proofs
theorem LO (x y:T):ag x.av.cells 0 y.av.cells=y.av.cells:=by
 cases x;cases y;simp [T.av,AV.cells,ag]
def pi (l:List T):aa:=.cells (flat (bC l))
theorem df (x:T) (l:List T):flat (bC (x::l))=x.av.cells++flat (bC l):=rfl
theorem ol:∀ l:List T,(flat (bC l)).length=l.length * 3
 | []=>rfl
 | x::r=>by rw [df,List.length_append,T.cw,ol r,List.length_cons];omega
theorem uf (x:T):∀ (l:List T) (i:Nat),i < l.length→ag (flat (bC l)) (i * 3) x.av.cells=flat (bC (l.set i x))
 | [],i,h=>by simp at h
 | y::r,0,_=>by
   unfold ag
   simp only [List.set_cons_zero,df,Nat.zero_mul,List.take_zero,List.nil_append,Nat.zero_add]
   rw [show x.av.cells.length=y.av.cells.length by rw [T.cw,T.cw],List.drop_left]
 | y::r,i + 1,h=>by
   have ih:=uf x r i (by simpa using h)
   unfold ag at ih ⊢
   rw [List.set_cons_succ,df,df,← ih]
   rw [show (i + 1) * 3=y.av.cells.length + i * 3 by rw [T.cw];omega,List.take_append,List.drop_append]
   simp only [T.cw]
   rw [List.append_assoc]
   congr 1
   ·rw [List.take_of_length_le (by rw [T.cw];omega)]
   ·rw [show 3 + i * 3 - 3=i * 3 by omega,List.drop_of_length_le (by rw [T.cw];omega),List.nil_append,show 3 + i * 3 + 3 - 3=i * 3 + 3 by omega]
theorem UL {l:List T} {i:Nat} (h:i < l.length) (x:T) (id:Nat) (H:List aa) (K:List aa→Prop):gB (some (pi l)) 3 id (i * 3) x.av H K=K (H.set id (pi (l.set i x))):=by
 simp only [pi,gB,T.sM,T.cw,ol,T.mL,T.kK,uf x l i h,Uz,true_and,eq_iff_iff]
 constructor
 ·exact fun h=>h.2
 ·exact fun h2=>⟨by omega,h2⟩
theorem P6 (id N c i:Nat) (k:IntKind) (φ:AV→Prop):ax 3 (.bc id 0 N c) (.int k (i:Int)) φ=(i < N∧φ (.ptr id (i * 3))):=by
 simp only [ax,Int.toNat_natCast,Nat.zero_add,eq_iff_iff]
 constructor
 ·rintro ⟨_,h⟩;exact h
 ·exact fun h=>⟨by omega,h⟩
theorem LP (n:Nat):flat (List.replicate n (bO (.agg [.int .i64 0,.int .i64 0,.ah])))=flat (bC (List.replicate n T0)):=by
 induction n with
 | zero=>rfl
 | succ n ih=>rw [List.replicate_succ,List.replicate_succ,df,← ih];rfl
theorem YB (x:T):x.av.cells.getD 2 .any=.al 0 (bC x.l):=by cases x;rfl
def keeps (l l':List T):Prop:=∀ i,(l.getD i default).k≠0→l'.getD i default=l.getD i default
theorem zx:∀ (l:List T),(flat (bC l)).all AV.one=true
 | []=>rfl
 | x::r=>by rw [df,List.all_append,T.mL,zx r];rfl
theorem gX (a b:List T):flat (bC (a++b))=flat (bC a)++flat (bC b):=by
 induction a with
 | nil=>rfl
 | cons x r ih=>rw [List.cons_append,df,df,ih,List.append_assoc]
theorem cH:∀ (l:List T),(flat (bC l)).map AV.ab=flat (bC l)
 | []=>rfl
 | x::r=>by rw [df,List.map_append,T.kK,cH r]
theorem dM (n:Nat):∀ (l:List T),aj n (flat (bC l))=true
 | []=>rfl
 | x::r=>by rw [df,aY,Uz,dM n r];exact ⟨rfl,rfl⟩
theorem iP:∀ (l:List T) (n:Nat),(flat (bC l)).take (n * 3)=flat (bC (l.take n))
 | [],n=>by simp [flat,bC]
 | x::r,0=>by simp [flat,bC]
 | x::r,n + 1=>by
   rw [List.take_succ_cons,df,df,← iP r n,show (n + 1) * 3=x.av.cells.length + n * 3 by rw [T.cw];omega,List.take_length_add_append]
theorem pD:∀ (l:List T) (n:Nat),(flat (bC l)).drop (n * 3)=flat (bC (l.drop n))
 | [],n=>by simp [flat,bC]
 | x::r,0=>by simp
 | x::r,n + 1=>by
   rw [List.drop_succ_cons,df,← pD r n,show (n + 1) * 3=x.av.cells.length + n * 3 by rw [T.cw];omega,List.drop_length_add_append]
def RL (base:Nat) (v:AV) (l:List T) (G:List aa):Prop:=
 (l=[]∧v=.ah)∨∃ id l',base≤id∧v=.bc id 0 l.length l'.length∧G[id]?=some (pi l')∧l.length≤l'.length∧l'.take l.length=l
theorem RL.one {base:Nat} {v:AV} {l:List T} {G:List aa} (h:RL base v l G):v.one=true∧v.val=true∧v.ab=v∧v.cells=[v]:=by
 rcases h with ⟨_,rfl⟩ | ⟨id,l',_,rfl,_⟩ <;> exact ⟨rfl,rfl,rfl,rfl⟩
theorem RL.aV {base:Nat} {v:AV} {l:List T} {G:List aa} (h:RL base v l G) {n:Nat} (hn:G.length≤n):v.aV n=true:=by
 rcases h with ⟨_,rfl⟩ | ⟨id,l',_,rfl,c,_⟩
 ·rfl
 ·have:=(List.getElem?_eq_some_iff.1 c).1
  rw [gU];simp;omega
theorem Bj (n:Nat):dh (.agg [.int .i64 0,.int .i64 0,.ah]) n=flat (bC (List.replicate n T0)):=LP n
theorem LQ {base:Nat} {v:AV} {l:List T} {G:List aa} (h:RL base v l G) (o:Nat) (ys:List T) (hy:ys≠[]) (hb:(l.length + ys.length) * 40≤140737488355328) (hG:base≤G.length) {K:AV→List aa→Prop}
 (hK:∀ v' G',RL base v' (l++ys) G'→(∀ j,j < base→G'[j]?=G[j]?)→G'.take base=G.take base→G.length≤G'.length→K v' G'):b7 3 40 (.agg [.int .i64 0,.int .i64 0,.ah]) v (.al o (bC ys)) G K:=by
 have jy:qB 3 (bC ys):=of_eq_true (FR ys)
 have hlen:(bC ys).length=ys.length:=oX ys
 unfold b7
 simp only [dl]
 refine ⟨jy,?_⟩
 rcases h with ⟨rfl,rfl⟩ | ⟨id,l',bp,rfl,hg,hle,RH⟩
 ·simp only [hlen]
  refine ⟨by simpa using hb,fun e=>?_,fun _ cap hc _=>⟨?_,hK _ _ (.inr ⟨G.length,ys++List.replicate (cap - ys.length) T0,hG,?_,?_,by simp,by simp⟩) ?_ ?_ (by simp)⟩⟩
  ·exfalso
   apply hy
   cases ys with
   | nil=>rfl
   | cons a b=>simp [bC] at e
  ·rw [cH,Bj,aY,dM,dM];exact ⟨rfl,rfl⟩
  ·simp;omega
  ·rw [cH,Bj,← gX];simp [pi]
  ·intro j hj
   rw [List.getElem?_append_left (by omega)]
  ·rw [List.take_append_of_le_length hG]
 ·simp only [hg,pi,hlen,ol,Nat.zero_add,List.drop_zero]
  have uM:=(List.getElem?_eq_some_iff.1 hg).1
  refine ⟨hb,hle,Nat.le_refl _,fun hroom=>⟨?_,?_⟩,fun jW fT hc _=>⟨?_,?_⟩⟩
  ·rw [cH,dM]
  ·have e1:ag (flat (bC l')) (l.length * 3) ((flat (bC ys)).map AV.ab)=flat (bC (l'.take l.length++ys++l'.drop (l.length + ys.length))):=by
    rw [cH,ag,iP,ol,show l.length * 3 + ys.length * 3=(l.length + ys.length) * 3 by omega,pD,gX,gX,List.append_assoc]
   rw [e1]
   have el:(l'.take l.length++ys++l'.drop (l.length + ys.length)).length=l'.length:=by simp;omega
   refine hK _ _ (.inr ⟨id,_,bp,?_,by rw [List.getElem?_set_self uM];rfl,?_,?_⟩) ?_ ?_ (by simp)
   ·rw [el];simp
   ·rw [el];simp;omega
   ·rw [RH,List.take_append_of_le_length (by simp)];exact List.take_of_length_le (by simp)
   ·intro j hj
    rw [List.getElem?_set_ne (by omega)]
   ·rw [List.take_set_of_le (by omega)]
  ·rw [cH,Bj,iP,RH,cH,aY,aY,dM,dM,dM];exact ⟨⟨rfl,rfl⟩,rfl⟩
  ·refine hK _ _ (.inr ⟨G.length,l++ys++List.replicate (fT - (l.length + ys.length)) T0,hG,?_,?_,by simp,by rw [List.take_append_of_le_length (by simp)];exact List.take_of_length_le (by simp)⟩) ?_ ?_ (by simp)
   ·simp;omega
   ·rw [cH,Bj,iP,RH,cH,← gX,← gX];simp [pi]
   ·intro j hj
    rw [List.getElem?_append_left (by omega)]
   ·rw [List.take_append_of_le_length hG]
end Go.aL
end
section
set_option maxRecDepth 100000
namespace Go.aL
open Go Go.Proofs
def nv:T→List Int→Option T
 | t,[]=>some t
 | t,i::r=>if i < 0∨(t.l.length:Int)≤i then none else nv (t.l.getD i.toNat default) r
theorem wT {t:T} {p:List Int} {i:Nat} (h:i < p.length):nv t (p.drop i)=if p.getD i 0 < 0∨(t.l.length:Int)≤p.getD i 0 then none else nv (t.l.getD (p.getD i 0).toNat default) (p.drop (i + 1)):=by
 rw [List.drop_eq_getElem_cons h,nv]
 have e:p.getD i 0=p[i]:=by simp [h]
 rw [e]
theorem YC (t:T) (p:List Int):Pure Tryz.prog 119 [t.av,.al 0 (ints p)] (.tuple [((nv t p).getD T0).av,.bool (nv t p).isSome]):=by
 refine fun H=>Xj.2.calls rfl ?_
 simp only [Xj,aF]
 simp +contextual only [sZ,Nat.reduceEqDiff,Nat.reduceAdd,↓reduceIte,reduceCtorEq]
 intro hp
 refine aJ p.length (fun i (s:T)=>nv s (p.drop i)=nv t p)
  (fun i s=>[(2,.ptr H.length 0),(4,.ptr (H.length + 1) 0),(8,.al 0 (ints p)),(9,.int .i64 p.length),(10,.int .i64 i)]) (fun i s=>H++[.cells s.av.cells,.cells [.int .i64 0,.int .i64 0,.ah]]) t ⟨rfl,aA _ _ _⟩ fun i s hi hI=>?_
 simp +contextual only [YB,sZ,Nat.reduceEqDiff,Nat.reduceAdd,Nat.reduceLT,↓reduceIte,reduceCtorEq]
 refine ⟨fun aK=>⟨bi aK,fun HS _=>⟨fun LR=>?_,fun LR=>?_⟩,fun HS=>?_⟩,fun gr=>?_⟩
 ·have aK:=bi aK
  rw [wT aK,if_pos (.inr LR)] at hI
  rw [← hI]
  exact jz (G:=H) (by simp) (T.bY _ T0) rfl rfl rfl ⟨rfl,rfl⟩
 ·have aK:=bi aK
  rw [wT aK,if_neg (by omega)] at hI
  generalize p.getD i 0=k at *
  obtain ⟨m,rfl⟩:=Int.eq_ofNat_of_zero_le HS
  have hm:m < s.l.length:=by omega
  rw [Int.toNat_natCast] at hI
  simp +contextual only [LO,sZ,Nat.reduceEqDiff,Nat.reduceAdd,↓reduceIte]
  refine ⟨hm,i + 1,s.l.getD m default,⟨aK,hI⟩,by omega,aC (by rw [au i (by omega)]) rfl⟩
 ·have aK:=bi aK
  rw [wT aK,if_pos (.inl (by omega))] at hI
  rw [← hI]
  exact jz (G:=H) (by simp) (T.bY _ T0) rfl rfl rfl ⟨rfl,rfl⟩
 ·rw [List.drop_of_length_le (cb gr)] at hI
  simp only [nv] at hI
  rw [← hI]
  exact jz (G:=H) (by simp) (T.bY _ s) rfl (T.fj _) rfl ⟨rfl,rfl⟩
def UM (t:T) (p:List Int):T×Int:=if t.tree=true then (match nv t p with | some x=>(x,0) | none=>(T0,41)) else (T0,4)
theorem wU:∀ (p:List Int) {t x:T},t.shaped=true→nv t p=some x→x.shaped=true
 | [],t,x,h,e=>by simp only [nv] at e;cases e;exact h
 | i::r,t,x,h,e=>by
   simp only [nv] at e
   split at e
   ·cases e
   ·exact wU r ((ct h).2 _ (cq (by omega))) e
theorem c57 (t:T) (p:List Int):Pure Tryz.prog 57 [t.av,.al 0 (ints p)] (.tuple [(UM t p).1.av,.int .i64 (UM t p).2]):=by
 refine fun H=>k57.2.calls rfl ?_
 simp only [k57,aF]
 simp +contextual only [sZ,Nat.reduceEqDiff,Nat.reduceAdd,↓reduceIte,reduceCtorEq]
 refine ae (Jf t) ?_
 cases ht:t.tree with
 | false=>
   have e:UM t p=(T0,4):=by rw [UM,if_neg (by rw [ht];simp)]
   rw [e]
   simp +contextual only [sZ,Nat.reduceEqDiff,Nat.reduceAdd,↓reduceIte,reduceCtorEq]
   exact jz (G:=H) (by simp) (T.bY _ T0) rfl rfl rfl ⟨rfl,rfl⟩
 | true=>
   have hs:=((T.cr t).1 ht).2.2
   simp +contextual only [sZ,Nat.reduceEqDiff,Nat.reduceAdd,↓reduceIte]
   refine ae (YC t p) ?_
   have e:UM t p=(match nv t p with | some x=>(x,0) | none=>(T0,41)):=by rw [UM,if_pos ht]
   have hx:=fun x=>@wU p t x hs
   cases ha:nv t p with
   | none=>
     rw [ha] at e
     rw [e]
     simp +contextual only [Option.isSome,Option.getD,sZ,Nat.reduceEqDiff,Nat.reduceAdd,Nat.reduceLT,↓reduceIte,reduceCtorEq]
     exact jz (G:=H) (by simp) (T.bY _ T0) rfl rfl rfl ⟨rfl,rfl⟩
   | some x=>
     rw [ha] at e
     rw [e]
     simp +contextual only [Option.isSome,Option.getD,sZ,Nat.reduceEqDiff,Nat.reduceAdd,Nat.reduceLT,↓reduceIte]
     refine ae (UI x (hx x ha)) ?_
     simp +contextual only [sZ,Nat.reduceEqDiff,Nat.reduceAdd,↓reduceIte,reduceCtorEq]
     exact jz (G:=H) (by simp) (T.bY _ x) rfl (T.fj _) rfl ⟨rfl,rfl⟩
end Go.aL
end
section
set_option maxRecDepth 100000
namespace Go.aL
open Go Go.Proofs
def RD (base:Nat) (v:AV) (l:List T) (G:List aa):Prop:=
 (l=[]∧v=.al 0 [])∨∃ id l',base≤id∧v=.bc id 0 l.length l'.length∧G[id]?=some (pi l')∧l.length≤l'.length∧l'.take l.length=l
theorem RL.drop {base:Nat} {v:AV} {l:List T} {G:List aa} (h:RL base v l G):RD base v.drop l G:=by
 rcases h with ⟨h,rfl⟩ | ⟨id,l',a,rfl,c⟩
 ·exact .inl ⟨h,rfl⟩
 ·exact .inr ⟨id,l',a,rfl,c⟩
theorem RD.one {base:Nat} {v:AV} {l:List T} {G:List aa} (h:RD base v l G):v.one=true∧v.ab=v∧v.drop=v∧v.val=true:=by
 rcases h with ⟨_,rfl⟩ | ⟨id,l',_,rfl,_⟩ <;> exact ⟨rfl,rfl,rfl,rfl⟩
theorem RD.aV {base:Nat} {v:AV} {l:List T} {G:List aa} (h:RD base v l G) {n:Nat} (hn:G.length≤n):v.aV n=true:=by
 rcases h with ⟨_,rfl⟩ | ⟨id,l',_,rfl,c,_⟩
 ·rfl
 ·have:=(List.getElem?_eq_some_iff.1 c).1
  rw [gU];simp;omega
theorem RD.set {base:Nat} {v:AV} {l:List T} {G:List aa} (h:RD base v l G) {j:Nat} (hj:j < base) (o:aa):RD base v l (G.set j o):=by
 rcases h with h | ⟨id,l',a,b,c,d⟩
 ·exact .inl h
 ·exact .inr ⟨id,l',a,b,by rw [List.getElem?_set_ne (by omega)];exact c,d⟩
theorem RL.set {base:Nat} {v:AV} {l:List T} {G:List aa} (h:RL base v l G) {j:Nat} (hj:j < base) (o:aa):RL base v l (G.set j o):=by
 rcases h with h | ⟨id,l',a,b,c,d⟩
 ·exact .inl h
 ·exact .inr ⟨id,l',a,b,by rw [List.getElem?_set_ne (by omega)];exact c,d⟩
theorem RL.drop_one {base:Nat} {v:AV} {l:List T} {G:List aa} (h:RL base v l G):v.drop.one=true∧v.drop.ab=v.drop∧v.drop.drop=v.drop∧v.drop.val=true:=h.drop.one
theorem LS (l:List T):(pi l).aV 0=true:=by simp [pi,aa.aV,dM]
def LU (H:List aa) (k n:Int) (l:List T) (r:AV) (H':List aa):Prop:=
 ∃ v,r=.agg [.int .i64 k,.int .i64 n,v]∧RD H.length v l H'∧H'.take H.length=H
theorem DA {H G:List aa} {k n:Int} {l:List T} {v:AV} (h:RD H.length v l G) (hG:G.take H.length=H):sL (kH H.length) H.length (.agg [.int .i64 k,.int .i64 n,v]) G (LU H k n l):=by
 rcases h with ⟨rfl,rfl⟩ | ⟨id,l',a,rfl,c,d⟩
 ·exact ⟨H.length,H,Nat.le_refl _,zi hG rfl,_,le_refl _,by simp [og,bH,cP,fM,b9],_,rfl,.inl ⟨rfl,rfl⟩,List.take_length⟩
 ·have hl:=(List.getElem?_eq_some_iff.1 c).1
  refine ⟨G.length,only H.length id G,by omega,FJ c (LS l'),_,le_refl _,?_,_,rfl,.inr ⟨id,l',a,rfl,by rw [Jc];exact c,d⟩,by rw [Jb (Nat.le_refl _)];exact hG⟩
  simp only [og,bH,cP,fM,gU]
  simp [hl]
theorem YD (g:Nat) (cap:List AV) (f:Int→T) (x:T) (cj:cap.map AV.ab=cap) (hb:aj 0 cap=true) (hf:∀ n,Pure Tryz.prog g ([.int .i64 n]++cap) (f n).av) (hs:x.shaped=true) (hk:x.k≠1) (H:List aa) :
 aq Tryz.prog 176 [x.av,.fn (.func g) [] cap] H (LU H x.k x.n (gW f x.l)):=by
 refine RB.2.wF rfl ?_
 simp only [RB,aF]
 have hl8:=(ct hs).1
 simp +contextual only [hk,sZ,Nat.reduceEqDiff,Nat.reduceAdd,↓reduceIte,reduceCtorEq]
 intro _
 refine jF x.l.length (fun i (p:AV×List aa)=>RL (H.length + 2) p.1 (gW f (x.l.take i)) p.2∧p.2[H.length]?=some (.cells [.int .i64 0,.int .i64 0,.ah])∧p.2[H.length + 1]?=some (.cells [.int .i64 x.k,.int .i64 x.n,p.1])∧p.2.take H.length=H)
  (fun i p=>[(1,.fn (.func g) [] cap),(4,.ptr H.length 0),(5,.ptr (H.length + 1) 0),(21,.al 0 (bC x.l)),(22,.int .i64 x.l.length),(23,.int .i64 i)])
  (fun i p=>p.2) (.ah,H++[.cells [.int .i64 0,.int .i64 0,.ah],.cells [.int .i64 x.k,.int .i64 x.n,.ah]]) ⟨⟨.inl ⟨rfl,rfl⟩,by simp,by simp,by simp⟩,lI _ _ _⟩ fun i p hi hI=>?_
 obtain ⟨v,G⟩:=p
 obtain ⟨hR,g0,g1,hG⟩:=hI
 simp only at hR g0 g1 hG
 have hlG:=(List.getElem?_eq_some_iff.1 g1).1
 have ho:=hR.one
 have hd:=hR.drop_one
 simp +contextual only [kj,g0,g1,ho.2.2.1,hd.1,hd.2.1,sZ,Nat.reduceEqDiff,Nat.reduceAdd,Nat.reduceLT,↓reduceIte,reduceCtorEq]
 have hlen:(gW f (x.l.take i)).length=i:=by rw [eN];simp;omega
 have step:∀ (aK:i < x.l.length) {K:AV→List aa→Prop},(∀ v' G',RL (H.length + 2) v' (gW f (x.l.take (i + 1))) G'→G'[H.length]?=some (.cells [.int .i64 0,.int .i64 0,.ah])→G'[H.length + 1]?=some (.cells [.int .i64 x.k,.int .i64 x.n,v])→G'.take H.length=H→
  v'.one=true→v'.val=true→v'.ab=v'→v'.cells=[v']→v'.aV G'.length=true→K v' G')→b7 3 40 (.agg [.int .i64 0,.int .i64 0,.ah]) v (.al 0 [(nu f (x.l.getD i default)).av]) G K:=by
  intro aK K hK
  have ea:[(nu f (x.l.getD i default)).av]=bC [nu f (x.l.getD i default)]:=rfl
  rw [ea]
  refine LQ hR 0 [nu f (x.l.getD i default)] (by simp) (by rw [hlen];simp;omega) (by omega) fun v' G' pE hj ht hl=>?_
  rw [← mO f aK] at pE
  have JI:=pE.one
  refine hK v' G' pE ((hj _ (by omega)).trans g0) ((hj _ (by omega)).trans g1) ?_ JI.1 JI.2.1 JI.2.2.1 JI.2.2.2 (pE.aV (Nat.le_refl _))
  have e:G'.take H.length=(G'.take (H.length + 2)).take H.length:=by rw [List.take_take];congr 1;omega
  rw [e,ht,List.take_take,Nat.min_eq_left (by omega),hG]
 have fin:∀ (aK:i < x.l.length) {v':AV} {G':List aa},RL (H.length + 2) v' (gW f (x.l.take (i + 1))) G'→G'[H.length]?=some (.cells [.int .i64 0,.int .i64 0,.ah])→G'[H.length + 1]?=some (.cells [.int .i64 x.k,.int .i64 x.n,v])→G'.take H.length=H→
  RL (H.length + 2) v' (gW f (x.l.take (i + 1))) (G'.set (H.length + 1) (.cells [.int .i64 x.k,.int .i64 x.n,v']))∧(G'.set (H.length + 1) (.cells [.int .i64 x.k,.int .i64 x.n,v']))[H.length]?=some (.cells [.int .i64 0,.int .i64 0,.ah])∧
  (G'.set (H.length + 1) (.cells [.int .i64 x.k,.int .i64 x.n,v']))[H.length + 1]?=some (.cells [.int .i64 x.k,.int .i64 x.n,v'])∧(G'.set (H.length + 1) (.cells [.int .i64 x.k,.int .i64 x.n,v'])).take H.length=H:=by
  intro aK v' G' pE h0 h1 dN
  have vS:=(List.getElem?_eq_some_iff.1 h1).1
  refine ⟨pE.set (by omega) _,?_,?_,?_⟩
  ·rw [List.getElem?_set_ne (by omega)];exact h0
  ·rw [List.getElem?_set_self vS]
  ·rw [List.take_set_of_le (by omega)];exact dN
 refine ⟨fun aK=>⟨bi aK,?_,?_⟩,fun gr=>?_⟩
 ·have aK:=bi aK
  refine ae (P1 g cap f _ cj hb hf ((ct hs).2 _ (cq aK))) ?_
  simp +contextual only [sZ,Nat.reduceEqDiff,↓reduceIte]
  refine step aK fun v' G' pE g0' g1' dN o1 o2 o3 o4 dU=>?_
  simp +contextual only [kj,g1',o1,o2,o3,o4,sZ,Nat.reduceEqDiff,Nat.reduceAdd,↓reduceIte]
  exact ⟨by omega,dU,i + 1,(v',_),⟨aK,fin aK pE g0' g1' dN⟩,by omega,rq (by rw [au i (by omega)]) rfl⟩
 ·have aK:=bi aK
  refine ae (P1 g cap f _ cj hb hf ((ct hs).2 _ (cq aK))) ?_
  simp +contextual only [g1,ho.2.2.1,sZ,Nat.reduceEqDiff,Nat.reduceAdd,Nat.reduceLT,↓reduceIte]
  refine step aK fun v' G' pE g0' g1' dN o1 o2 o3 o4 dU=>?_
  simp +contextual only [kj,g1',o1,o2,o3,o4,sZ,Nat.reduceEqDiff,Nat.reduceAdd,↓reduceIte]
  exact ⟨by omega,dU,i + 1,(v',_),⟨aK,fin aK pE g0' g1' dN⟩,by omega,rq (by rw [au i (by omega)]) rfl⟩
 ·have me:i=x.l.length:=by have:=cb gr;omega
  rw [me,List.take_length] at hR
  have Aj:=(List.getElem?_eq_some_iff.1 g0).1
  refine ⟨hR.drop.aV (Nat.le_refl _),?_⟩
  rw [List.getElem?_set_self Aj]
  simp +contextual only [hd.2.2.1,sZ]
  refine DA ?_ (by rw [List.take_set_of_le (Nat.le_refl _)];exact hG)
  have h2:=hR.drop.set (j:=H.length) (by omega) (.cells [.int .i64 x.k,.int .i64 x.n,v.drop])
  rcases h2 with h2 | ⟨id,l',a,h2⟩
  ·exact .inl h2
  ·exact .inr ⟨id,l',by omega,h2⟩
theorem YE (x:T) (hs:x.shaped=true) (hk:x.k≠1) (H:List aa):aq Tryz.prog 120 [x.av] H (LU H x.k x.n x.l):=by
 refine RA.2.wF rfl ?_
 simp only [RA,aF]
 have hc:=YD 177 [] (fun n=>.mk 1 n []) x rfl rfl (fun n=>Yy n) hs hk (H++[.cells [.int .i64 0,.int .i64 0,.ah]])
 have e:gW (fun n=>.mk 1 n []) x.l=x.l:=by
  have:nu (fun n=>.mk 1 n []) x=x:=FQ x hs
  rw [uZ,if_neg hk] at this
  cases x with
  | mk k n l=>
    simp at this
    exact this.2.2
 rw [e] at hc
 simp +contextual only [sZ,Nat.reduceEqDiff,Nat.reduceAdd,↓reduceIte]
 refine af hc ?_
 rintro r G ⟨v,rfl,hR,hG⟩
 have ho:=hR.one
 have hb:=hR.aV (Nat.le_refl _)
 have hGl:(H++[aa.cells [.int .i64 0,.int .i64 0,.ah]]).length=H.length + 1:=by simp
 rw [hGl] at hR hG
 have Aj:H.length + 1≤G.length:=by
  have:=congrArg List.length hG
  simp at this
  omega
 have g0:G[H.length]?=some (.cells [.int .i64 0,.int .i64 0,.ah]):=by
  have:(G.take (H.length + 1))[H.length]?=G[H.length]?:=by rw [List.getElem?_take,if_pos (by omega)]
  rw [← this,hG];simp
 have dN:G.take H.length=H:=by
  have:G.take H.length=(G.take (H.length + 1)).take H.length:=by rw [List.take_take];congr 1;omega
  rw [this,hG];simp
 simp +contextual only [kj,g0,ho.1,ho.2.1,sZ,Nat.reduceEqDiff,Nat.reduceAdd,↓reduceIte,reduceCtorEq]
 refine ⟨hb,?_⟩
 rw [List.getElem?_set_self (by omega)]
 simp +contextual only [ho.2.2.1,sZ]
 refine DA ?_ (by rw [List.take_set_of_le (Nat.le_refl _)];exact dN)
 rcases hR.set (j:=H.length) (by omega) (.cells [.int .i64 x.k,.int .i64 x.n,v]) with h2 | ⟨id,l',a,h2⟩
 ·exact .inl h2
 ·exact .inr ⟨id,l',by omega,h2⟩
theorem LV {t:T} (h:t.shaped=true) (hk:t.k=1):t.l=[]:=by
 rw [T.de] at h
 simp only [Bool.and_eq_true,Bool.not_eq_true',Bool.or_eq_false_iff,decide_eq_false_iff_not,Bool.and_eq_false_iff] at h
 have:¬ 0 < t.l.length:=by
  have:=h.1.1.1.2
  rcases this with h | h
  ·exact absurd hk h
  ·exact h
 exact List.length_eq_zero_iff.1 (by omega)
theorem RI (e o:Nat) (l:List Int) (k:IntKind) (φ:AV→Prop):ax e (.al o (ints l)) (.int k 0) φ=(0 < l.length∧φ (.ai (.int .i64 (l.getD 0 0)))):=wK e o l k 0 φ
theorem YF (x:Int) (r:List Int) (φ:AV→Prop):bm 1 (.al 0 (ints (x::r))) (some (.int .i64 1)) none none φ=φ (.al 0 (ints r)):=by
 have er:dl (AV.al 0 (ints (x::r)))=some (ints (x::r)):=rfl
 have e1:(1:Int).toNat=1:=rfl
 have e2:((ints (x::r)).take (ints (x::r)).length).drop 1=ints r:=by rw [List.take_length];rfl
 simp only [bm,eR,er,dQ,e1,e2,eq_iff_iff]
 constructor
 ·intro h;exact h.2.2.2.2
 ·intro h
  refine ⟨fun own xs he z hz=>?_,by omega,by simp [aw],Nat.le_refl _,h⟩
  cases he
  obtain ⟨y,_,rfl⟩:=List.mem_map.1 hz
  rfl
theorem P7 (id N c o:Nat) (H:List aa) (φ:AV→Prop):aQ none (.ai (.bc id o N c)) H φ=φ (.bc id o N c):=by simp [aQ,AV.one,AV.ab]
theorem P8 (id N c o:Nat):(AV.bc id o N c).one=true:=rfl
theorem YG (k n:Int) (id c N o:Nat) (φ:AV→Prop):ak 2 none (.ai (.agg [.int .i64 k,.int .i64 n,.bc id o N c])) φ=φ (.ai (.bc id o N c)):=by simp [ak,apart,AV.cells,AV.one]
theorem YH (a b c:AV) (H:List aa) (φ:AV→Prop):aQ (some 3) (.ai (.agg [a,b,c])) H φ=φ (.agg [a,b,c]):=by simp [aQ,AV.cells]
def km:T→List Int→T→T
 | _,[],u=>u
 | t,i::r,u=>.mk t.k t.n (t.l.set i.toNat (km (t.l.getD i.toNat default) r u))
theorem LW {id:Nat} {l l':List T} {H:List aa} (h:H[id]?=some (pi l')) (hl:l.length≤l'.length) (nE:l'.take l.length=l) (K:AV→List aa→Prop):dn 3 (.bc id 0 l.length l'.length) H K=K (.al 0 (bC l)) (H.set id .dead):=by
 have hc:∀ (n:Nat) (l':List T),n≤l'.length→chunks 3 n (flat (bC l'))=bC (l'.take n):=by
  intro n
  induction n with
  | zero=>intro l' _;rfl
  | succ n ih=>
    intro l' h
    cases l' with
    | nil=>simp at h
    | cons x r=>
      rw [df,chunks,if_neg (by decide),List.take_succ_cons,bC]
      rw [show List.take 3 (x.av.cells++flat (bC r))=x.av.cells by rw [List.take_append_of_le_length (by rw [T.cw];omega),List.take_of_length_le (by rw [T.cw];omega)]]
      rw [show List.drop 3 (x.av.cells++flat (bC r))=flat (bC r) by
       have:=List.drop_left (l₁:=x.av.cells) (l₂:=flat (bC r));rwa [T.cw] at this]
      rw [T.kK,T.lJ,ih r (by simpa using h)]
 simp only [dn,h,pi,List.drop_zero,hc _ _ hl,nE,ol,zx,eq_iff_iff]
 constructor
 ·exact fun k=>k.2.2.2.2
 ·exact fun k=>⟨by omega,hl,by omega,trivial,k⟩
theorem acb:∀ (p:List Int) (t u:T),t.shaped=true→u.shaped=true→(nv t p).isSome=true→Pure Tryz.prog 125 [t.av,.al 0 (ints p),u.av] (km t p u).av:=by
 intro p
 induction p with
 | nil=>
   intro t u ht hu ha H
   refine Hg.2.calls rfl ?_
   simp only [Hg,aF]
   simp +contextual only [aw,sZ,Nat.reduceEqDiff,Nat.reduceAdd,Nat.reduceLT,↓reduceIte,reduceCtorEq]
   refine ⟨fun _=>ae (UI u hu) ?_,fun h=>absurd rfl h⟩
   simp +contextual only [sZ,Nat.reduceEqDiff,Nat.reduceAdd,↓reduceIte,reduceCtorEq]
   exact rn (T.bY _ _) rfl
 | cons i r ih=>
   intro t u ht hu ha H
   refine Hg.2.calls rfl ?_
   simp only [Hg,aF]
   simp only [nv] at ha
   split at ha
   ·cases ha
   ·rename_i hi
    obtain ⟨m,rfl⟩:=Int.eq_ofNat_of_zero_le (show 0≤i by omega)
    have hm:m < t.l.length:=by omega
    have hk:t.k≠1:=fun h=>by rw [LV ht h] at hm;simp at hm
    rw [Int.toNat_natCast] at ha
    have fJ:=(ct ht).2 _ (cq hm)
    simp +contextual only [aw,sZ,Nat.reduceEqDiff,Nat.reduceAdd,↓reduceIte,reduceCtorEq]
    refine fun _=>⟨fun h=>absurd h (by simp;omega),fun _=>?_⟩
    refine af (YE t ht hk _) ?_
    rintro q G ⟨v,rfl,hR,hG⟩
    have hGl:(H++[aa.cells [.int .i64 0,.int .i64 0,.ah]]).length=H.length + 1:=by simp
    rw [hGl] at hR hG
    rcases hR with ⟨h0,_⟩ | ⟨id,l',bp,rfl,hg,hle,RH⟩
    ·rw [h0] at hm;simp at hm
    simp +contextual only [RI,YF,P8,Option.map_some,Option.map_none,sZ,Nat.reduceEqDiff,Nat.reduceAdd,↓reduceIte]
    refine ⟨by omega,hm,?_⟩
    refine aE (ih _ u fJ hu ha) ?_
    have V2:m < l'.length:=by omega
    have fz:∀ K,dn 3 (.bc id 0 t.l.length l'.length) (G.set id (pi (l'.set m (km (t.l.getD m default) r u)))) K=K (.al 0 (bC (t.l.set m (km (t.l.getD m default) r u)))) ((G.set id (pi (l'.set m (km (t.l.getD m default) r u)))).set id .dead):=by
     intro K
     have uM:=(List.getElem?_eq_some_iff.1 hg).1
     have:=LW (id:=id) (l:=t.l.set m (km (t.l.getD m default) r u)) (l':=l'.set m (km (t.l.getD m default) r u)) (H:=G.set id (pi (l'.set m (km (t.l.getD m default) r u)))) (by rw [List.getElem?_set_self uM]) (by simpa using hle) (by
      rw [List.length_set,List.take_set,RH]) K
     rw [List.length_set,List.length_set] at this
     exact this
    have g0:(((G.set id (pi (l'.set m (km (t.l.getD m default) r u)))).set id .dead))[H.length]?=some (.cells [.int .i64 0,.int .i64 0,.ah]):=by
     rw [List.getElem?_set_ne (by omega),List.getElem?_set_ne (by omega)]
     have:(G.take (H.length + 1))[H.length]?=G[H.length]?:=by rw [List.getElem?_take,if_pos (by omega)]
     rw [← this,hG];simp
    simp +contextual only [kj,RI,P7,YG,YH,P6,hm,hg,UL V2,fz,g0,sZ,Nat.reduceEqDiff,Nat.reduceAdd,↓reduceIte,reduceCtorEq]
    refine ⟨by omega,?_⟩
    have Aj:=(List.getElem?_eq_some_iff.1 g0).1
    rw [List.getElem?_set_self Aj]
    simp +contextual only [sZ]
    have ep:km t (↑m::r) u=.mk t.k t.n (t.l.set m (km (t.l.getD m default) r u)):=by rw [km,Int.toNat_natCast]
    have dN:G.take H.length=H:=by
     have:G.take H.length=(G.take (H.length + 1)).take H.length:=by rw [List.take_take];congr 1;omega
     rw [this,hG];simp
    rw [ep]
    refine ⟨H.length,Nat.le_refl _,_,le_refl _,T.bY _ (.mk t.k t.n (t.l.set m (km (t.l.getD m default) r u))),rfl,?_⟩
    rw [List.take_set_of_le (Nat.le_refl _),List.take_set_of_le (by omega),List.take_set_of_le (by omega),dN]
end Go.aL
end
section
set_option maxRecDepth 100000
namespace Go.aL
open Go Go.Proofs
def lg (t:T) (p:List Int) (u:T):T×Int:=if t.tree=true∧u.tree=true then (if (nv t p).isSome=true then lf (km t p u) else (T0,41)) else (T0,4)
theorem c61 (t:T) (p:List Int) (u:T):Pure Tryz.prog 61 [t.av,.al 0 (ints p),u.av] (.tuple [(lg t p u).1.av,.int .i64 (lg t p u).2]):=by
 refine fun H=>k61.2.calls rfl ?_
 simp only [k61,aF]
 simp +contextual only [sZ,Nat.reduceEqDiff,Nat.reduceAdd,↓reduceIte,reduceCtorEq]
 refine ae (Ys [t,u]) ?_
 have etb:k9 [t,u]=(t.tree && u.tree):=by simp [k9]
 rw [etb]
 by_cases V3:t.tree=true∧u.tree=true
 ·have hts:=((T.cr t).1 V3.1).2.2
  have hus:=((T.cr u).1 V3.2).2.2
  have e:lg t p u=if (nv t p).isSome=true then lf (km t p u) else (T0,41):=by rw [lg,if_pos V3]
  rw [V3.1,V3.2]
  simp +contextual only [sZ,Nat.reduceEqDiff,Nat.reduceAdd,↓reduceIte]
  refine ae (YC t p) ?_
  cases ha:(nv t p).isSome with
  | false=>
    have e:lg t p u=(T0,41):=by rw [e,if_neg (by rw [ha];simp)]
    rw [e]
    simp +contextual only [sZ,Nat.reduceEqDiff,Nat.reduceAdd,Nat.reduceLT,↓reduceIte,reduceCtorEq]
    exact jz (G:=H) (by simp) (T.bY _ T0) rfl rfl rfl ⟨rfl,rfl⟩
  | true=>
    have e:lg t p u=lf (km t p u):=by rw [e,if_pos ha]
    rw [e]
    simp +contextual only [sZ,Nat.reduceEqDiff,Nat.reduceAdd,Nat.reduceLT,↓reduceIte]
    refine ae (acb p t u hts hus ha) ?_
    simp +contextual only [sZ,Nat.reduceAdd,↓reduceIte]
    refine ae (Yz _) ?_
    simp +contextual only [sZ,Nat.reduceEqDiff,Nat.reduceAdd,Nat.reduceLT,↓reduceIte,reduceCtorEq]
    exact jz (G:=H) (by simp) (T.bY _ _) rfl (T.fj _) rfl ⟨rfl,rfl⟩
 ·have e:(t.tree && u.tree)=false:=by
   cases h1:t.tree <;> cases h2:u.tree <;> simp_all
  have e2:lg t p u=(T0,4):=by rw [lg,if_neg V3]
  rw [e,e2]
  simp +contextual only [Bool.false_eq_true,sZ,Nat.reduceEqDiff,Nat.reduceAdd,↓reduceIte,reduceCtorEq,Int.reduceEq]
  exact jz (G:=H) (by simp) (T.bY _ T0) rfl rfl rfl ⟨rfl,rfl⟩
mutual
def fm:T→List Int→List (List Int)
 | .mk _ _ l,p=>p::gY l 0 p
def gY:List T→Nat→List Int→List (List Int)
 | [],_,_=>[]
 | x::r,i,p=>fm x (p++[(i:Int)])++gY r (i + 1) p
end
def wV (l:List (List Int)):List AV:=l.map fun p=>.al 0 (ints p)
def uD:List (List Int)→AV
 | []=>.ah
 | p::r=>.al 1 (wV (p::r))
def Bk (o a:Nat):AV:=.fn (.func 117) [] [.ptr o 0,.ptr a 0]
theorem DB {l:List T} {i:Nat} (h:i < l.length) (p:List Int):gY (l.drop i) i p=fm (l.getD i default) (p++[(i:Int)])++gY (l.drop (i + 1)) (i + 1) p:=by
 rw [List.drop_eq_getElem_cons h,gY]
 have e:l.getD i default=l[i]:=by simp [h]
 rw [e]
theorem YI (l:List Int) (hl:l.length * 8≤140737488355328):Pure Tryz.prog 118 [.al 0 (ints l)] (.al 1 (ints l)):=fun H=>
 ru 0 (ints l) H (of_eq_true (kL l)) (by rw [aw];exact hl) (bb _ _)
theorem LX (l:List (List Int)):(uD l).one=true:=by cases l <;> rfl
theorem Hk (n:Nat) (l:List (List Int)):aj n (wV l)=true:=by
 rw [a8];intro x hx;obtain ⟨y,_,rfl⟩:=List.mem_map.1 hx;simp [AV.aV,bb]
theorem LY (n:Nat) (l:List (List Int)):(uD l).aV n=true:=by
 cases l with
 | nil=>rfl
 | cons x r=>show AV.aV n (.al 1 (wV (x::r)))=true;rw [b9];exact Hk n _
theorem P9 (b:Nat) (l:List (List Int)) (p:List Int) (o:Nat) (ψ:List AV→Prop):bn 1 b (uD l) (.al o [.al 0 (ints p)]) ψ=((l.length + 1) * b≤140737488355328∧ψ (wV (l++[p]))):=by
 have jy:qB 1 [AV.al 0 (ints p)]:=by intro y hy;simp at hy;subst hy;exact ⟨rfl,rfl⟩
 cases l with
 | nil=>simp [uD,mH,jy,wV]
 | cons v r=>
   show bn 1 b (.al 1 (wV (v::r))) _ ψ=_
   rw [mI]
   have e1:(wV (v::r)).length=(v::r).length:=by simp [wV]
   have e2:wV (v::r)++[AV.al 0 (ints p)]=wV ((v::r)++[p]):=by simp [wV]
   rw [e1,e2]
   simp [jy]
theorem Jj (l:List (List Int)) (p:List Int):AV.al 1 (wV (l++[p]))=uD (l++[p]):=by cases l <;> rfl
mutual
theorem lL:∀ (t:T) (p:List Int),((fm t p).length:Int)=t.sz
 | .mk k n l,p=>by simp only [fm,List.length_cons,T.sz];have:=mP l 0 p;omega
theorem mP:∀ (l:List T) (i:Nat) (p:List Int),((gY l i p).length:Int)=nF l
 | [],_,_=>by simp [gY,nF]
 | x::r,i,p=>by
   simp only [gY,List.length_append,nF]
   have h1:=lL x (p++[(i:Int)])
   have h2:=mP r (i + 1) p
   omega
end
theorem Bl:∀ {l:List T} {y:T},y∈l→y.dp≤FL l
 | x::r,y,h=>by
   simp only [FL]
   rcases List.mem_cons.1 h with rfl | h
   ·omega
   ·have:=Bl h;omega
theorem T.RJ (t:T):t.dp=1 + FL t.l:=by cases t;rfl
theorem zy (t:T) (p:List Int):fm t p=p::gY t.l 0 p:=by cases t;rfl
theorem UN (p:List Int) (φ:AV→Prop):bm 1 (.al 0 (ints p)) none (some (.int .i64 p.length)) (some (.int .i64 p.length)) φ=φ (.al 1 (ints p)):=by
 have er:dl (AV.al 0 (ints p))=some (ints p):=rfl
 have e2:((ints p).take p.length).drop 0=ints p:=by rw [List.drop_zero];exact List.take_of_length_le (by rw [aw];exact Nat.le_refl _)
 have h1:∀ z∈ints p,z.cells.length=1:=by
  intro z hz
  obtain ⟨y,_,rfl⟩:=List.mem_map.1 hz
  rfl
 simp only [bm,eR,er,dQ,Int.toNat_natCast,e2,eq_iff_iff]
 constructor
 ·intro h;exact h.2.2.2.2.2.2.2.2
 ·intro h
  refine ⟨fun own xs he z hz=>?_,by omega,by omega,by rw [aw];exact Nat.le_refl _,rfl,by omega,trivial,h1,h⟩
  cases he
  exact h1 z hz
theorem YJ {S:List (List Int)→List aa} {o a n:Nat} (F:NC S o (fun ps=>.cells [uD ps]) n) (hA:∀ ps,(S ps)[a]?=some (.cells [Bk o a])):∀ (t:T) (p:List Int) (ps:List (List Int)) (e:List aa),(p.length:Int) + t.dp≤1000→(ps.length:Int) + t.sz≤1000000→
 aq Tryz.prog 117 [t.av,.al 0 (ints p),.ptr o 0,.ptr a 0] (S ps++e) fun r H'=>r=.tuple []∧H'=S (ps++fm t p)++e:=by
 intro t p ps e hp pO
 have ih:∀ y∈t.l,∀ (p:List Int) (ps:List (List Int)) (e:List aa),(p.length:Int) + y.dp≤1000→(ps.length:Int) + y.sz≤1000000→
  aq Tryz.prog 117 [y.av,.al 0 (ints p),.ptr o 0,.ptr a 0] (S ps++e) fun r H'=>r=.tuple []∧H'=S (ps++fm y p)++e:=fun y hy p ps e h1 h2=>YJ F hA y p ps e h1 h2
 have fg:∀ s e,(S s++e)[o]?=some (.cells [uD s]):=F.get'
 have fs:∀ s s' e,(S s++e).set o (.cells [uD s'])=S s'++e:=F.Us
 have fA:∀ s e,(S s++e)[a]?=some (.cells [Bk o a]):=fun s e=>by rw [List.getElem?_append_left (List.getElem?_eq_some_iff.1 (hA s)).1];exact hA s
 have hlen:∀ s (e:List aa),(S s++e).length=n + e.length:=fun s e=>by rw [List.length_append,F.len]
 refine Xi.2.calls rfl ?_
 rw [hlen]
 simp only [Xi,aF]
 simp +contextual only [sZ,Nat.reduceEqDiff,Nat.reduceAdd,↓reduceIte,reduceCtorEq]
 have agZ:=t.sQ
 refine aE (YI p (by omega)) ?_
 have hz:=t.wN
 have hdp:=t.sQ
 have fts:∀ s e (x:aa),((S s++e).set o x)[o]?=some x:=fun s e x=>List.getElem?_set_self (List.getElem?_eq_some_iff.1 (fg s e)).1
 have fss:∀ s s' e (x:aa),((S s++e).set o x).set o (.cells [uD s'])=S s'++e:=fun s s' e x=>by rw [List.set_set];exact fs s s' e
 have cno:∀ xs,aT (.al 1 xs)=.al 0 xs:=fun xs=>rfl
 simp +contextual only [fg,fts,fss,cno,P9,LX,LY,Jj,sZ,Nat.reduceEqDiff,Nat.reduceAdd,Nat.reduceLT,↓reduceIte]
 have hg0:∀ s x,(S s++(e++[x]))[n + e.length]?=some x:=fun s x=>by rw [← List.append_assoc,← hlen s e,List.getElem?_append_right (Nat.le_refl _)];simp
 have Wz:∀ s x y,(S s++(e++[x])).set (n + e.length) y=S s++(e++[y]):=fun s x y=>by rw [← List.append_assoc,← hlen s e,List.set_append_right _ _ (Nat.le_refl _)];simp
 have tk0:∀ s,(S s++e).take (n + e.length)=S s++e:=fun s=>List.take_of_length_le (by rw [hlen];exact Nat.le_refl _)
 refine ⟨by omega,fun _=>?_⟩
 refine aJ t.l.length (fun i (q:List (List Int))=>q++gY (t.l.drop i) i p=ps++fm t p)
  (fun i q=>[(1,.al 0 (ints p)),(3,.ptr a 0),(14,.al 0 (bC t.l)),(15,.int .i64 t.l.length),(16,.int .i64 i)]) (fun i q=>S q++e) (ps++[p]) ⟨by rw [zy,List.drop_zero,List.append_assoc];rfl,aA _ _ _⟩ fun i q hi hI=>?_
 have fA':∀ s e,(S s++e)[a]?=some (.cells [.fn (.func 117) [] [.ptr o 0,.ptr a 0]]):=fA
 simp +contextual only [hlen,hg0,Wz,fA',sZ,Nat.reduceEqDiff,Nat.reduceAdd,Nat.reduceLT,↓reduceIte,reduceCtorEq]
 refine ⟨fun aK=>⟨bi aK,?_⟩,fun gr=>?_⟩
 ·have aK:=bi aK
  simp +contextual only [UN,Option.map_some,Option.map_none,sZ,Nat.reduceEqDiff,Nat.reduceAdd,↓reduceIte,reduceCtorEq]
  rw [DB aK,← List.append_assoc] at hI
  have hy:=cq aK
  have h1:=Bl hy
  have h2:=t.RJ
  have h3:=congrArg List.length hI
  have h4:=lL (t.l.getD i default) (p++[(i:Int)])
  have h5:=lL t p
  have h6:=mP (t.l.drop (i + 1)) (i + 1) p
  have h7:=jG (t.l.drop (i + 1))
  have ha:=(List.getElem?_eq_some_iff.1 (hA q)).1
  rw [F.len] at ha
  simp only [List.length_append] at h3
  refine ⟨by omega,af (ih _ hy (p++[(i:Int)]) q (e++[.cells (t.l.getD i default).av.cells]) (by rw [List.length_append];simp only [List.length_cons,List.length_nil];omega) (by omega)) ?_⟩
  rintro r H' ⟨rfl,rfl⟩
  simp +contextual only [sZ,Nat.reduceEqDiff,↓reduceIte]
  exact ⟨i + 1,q++fm (t.l.getD i default) (p++[(i:Int)]),⟨aK,hI⟩,by omega,wA (by rw [au i (by omega)]) (by rw [hlen];exact Nat.le_refl _) (by rw [hlen];simp only [Hb,KN,b9,fM,bb,dq,pY];simp;omega) [.cells (t.l.getD i default).av.cells] (by rw [List.append_assoc])⟩
 ·rw [List.drop_of_length_le (cb gr),gY,List.append_nil] at hI
  subst hI
  exact ⟨n + e.length,Nat.le_refl _,[],trivial,rfl,rfl,tk0 _⟩
termination_by t=>SizeOf.sizeOf t
decreasing_by exact T.lt hy
def FU (t:T):AV:=if t.tree=true then .al 0 (wV (fm t [])) else .ah
theorem c56 (t:T):Pure Tryz.prog 56 [t.av] (.tuple [FU t,.int .i64 (if t.tree=true then 0 else 4)]):=by
 refine fun H=>k56.2.calls rfl ?_
 simp only [k56,aF]
 unfold FU
 simp +contextual only [sZ,Nat.reduceEqDiff,Nat.reduceAdd,↓reduceIte]
 refine ae (Jf t) ?_
 cases ht:t.tree with
 | false=>
   simp +contextual only [sZ,Nat.reduceEqDiff,↓reduceIte,reduceCtorEq]
   exact zd (by decide) rfl rfl rfl rfl
 | true=>
   have hti:=(T.cr t).1 ht
   let S:List (List Int)→List aa:=fun ps=>H++[.cells [uD ps],.cells [Bk H.length (H.length + 1)]]
   have F:NC S H.length (fun ps=>.cells [uD ps]) (H.length + 2):=⟨fun s=>by simp [S],fun s s'=>by simp [S],fun s=>by simp [S]⟩
   have hA:∀ ps,(S ps)[H.length + 1]?=some (.cells [Bk H.length (H.length + 1)]):=fun ps=>by simp [S]
   have hc:=YJ F hA t [] [] [] (by simp;omega) (by simp;omega)
   rw [List.append_nil,List.append_nil,List.nil_append] at hc
   simp +contextual only [sZ,Nat.reduceEqDiff,Nat.reduceAdd,Nat.reduceLT,↓reduceIte,reduceCtorEq]
   refine ⟨by simp;omega,KP hc ⟨le_refl _,.inr (.inr (.inr (.inl ⟨rfl,0,rfl⟩))),le_refl _,le_refl _,trivial⟩ ?_⟩
   rintro r H' ⟨rfl,rfl⟩
   have e1:uD (fm t [])=.al 1 (wV (fm t [])):=by rw [zy];rfl
   simp only [S,e1]
   simp +contextual only [sZ,Nat.reduceEqDiff,Nat.reduceAdd,Nat.reduceLT,↓reduceIte,reduceCtorEq]
   exact wH (by decide) (by show AV.aV _ (.al 0 (wV _))=true;rw [b9];exact Hk _ _) rfl rfl rfl
theorem T.UO (k n:Int) (l:List T):(T.mk k n l).l=l:=rfl
theorem T.UP (k n:Int) (l:List T):(T.mk k n l).k=k:=rfl
theorem T.YK (k n:Int) (l:List T):(T.mk k n l).n=n:=rfl
mutual
theorem DC:∀ (t:T) (p q:List Int),q∈fm t p→∃ s,q=p++s∧(nv t s).isSome=true
 | .mk k n l,p,q,h=>by
   simp only [fm,List.mem_cons] at h
   rcases h with rfl | h
   ·exact ⟨[],by simp,rfl⟩
   ·obtain ⟨j,s,hj,rfl,h2⟩:=zz l 0 p q h
    refine ⟨(j:Int)::s,by simp,?_⟩
    rw [nv,if_neg (by rw [T.UO];omega),Int.toNat_natCast]
    exact h2
theorem zz:∀ (l:List T) (i:Nat) (p q:List Int),q∈gY l i p→∃ (j:Nat) (s:List Int),j < l.length∧q=p++((i + j:Nat):Int)::s∧(nv (l.getD j default) s).isSome=true
 | [],i,p,q,h=>by simp [gY] at h
 | x::r,i,p,q,h=>by
   simp only [gY,List.mem_append] at h
   rcases h with h | h
   ·obtain ⟨s,rfl,h2⟩:=DC x _ _ h
    exact ⟨0,s,by simp,by simp,h2⟩
   ·obtain ⟨j,s,hj,rfl,h2⟩:=zz r (i + 1) p q h
    exact ⟨j + 1,s,by simpa using hj,by simp;omega,by simpa using h2⟩
end
end Go.aL
end
section
set_option maxRecDepth 100000
namespace Go.aL
open Go Go.Proofs
theorem YL:tZ Tryz.prog 238 (.wu mG):=AY Tryz.func238 (by kernel_rfl) (by kernel_rfl) (by kernel_rfl) (by kernel_rfl)
theorem YM:tZ Tryz.prog 231 (.wu countP):=KC Tryz.func231 (by kernel_rfl) (by kernel_rfl) (by kernel_rfl) (by kernel_rfl)
end Go.aL
end
section
set_option maxRecDepth 100000
namespace Go.aL
open Go Go.Proofs
noncomputable def UQ:yX:=[(53,.ir Rp.1),(59,.ir k59.1),(62,.ir k62.1),(64,.ir W5),(65,.ir V1.1),(81,.ir Uu),(92,.ir k92.1),(100,.ir Dn.1),(102,.ir Dp.1),(108,.ir Pv.1),(114,.ir Dq.1),(118,.wu Be),(121,.ir Py.1),(126,.ir Xo.1),(130,.ir Pz.1),(141,.ir LD),(142,.ir PD.1),(143,.ir LF),(144,.ir LG),(161,.ir PE.1),(165,.ir XJ.1),(171,.ir PF.1),(172,.ir PG.1),(173,.ir PH.1),(178,.ir PI.1),(179,.ir XQ.1),(180,.ir XR.1),(181,.ir XS.1),(190,.ir PJ.1),(191,.ir PK.1),(192,.ir PL.1),(193,.ir PM.1),(194,.ir PN.1),(211,.ir PU.1),(216,.ir Ya.1),(217,.ir Yb.1),(218,.ir Yc.1),(219,.ir Yd.1),(228,.ir PV.1),(229,.ir PW.1),(230,.ir Yh.1),(231,.wu countP),(237,.ir Yk.1),(238,.wu mG),(240,.ir Yl.1),(241,.ir Ym.1),(245,.ir Yn.1),(246,.ir Yo.1),(247,.ir Yp.1)]
theorem sV:yY Tryz.prog UQ:=⟨Rp.2,k59.2,k62.2,abW,V1.2,W7,k92.2,Dn.2,Dp.2,Pv.2,Dq.2,Dr,Py.2,Xo.2,Pz.2,Rr,PD.2,Rv,Rx,PE.2,XJ.2,PF.2,PG.2,PH.2,PI.2,XQ.2,XR.2,XS.2,PJ.2,PK.2,PL.2,PM.2,PN.2,PU.2,Ya.2,Yb.2,Yc.2,Yd.2,PV.2,PW.2,Yh.2,YM,Yk.2,YL,Yl.2,Ym.2,Yn.2,Yo.2,Yp.2,trivial⟩
end Go.aL
end
section
namespace Go.aL
open Go
structure jr (esz:Nat) (x:AV):Prop where
 len:x.cells.length=esz
 un:x.cells.map AV.ab=x.cells
 bl:aj 0 x.cells=true
 one:x.cells.all AV.one=true
theorem jr.flat {esz:Nat}:∀ {xs:List AV},(∀ x∈xs,jr esz x)→(flat xs).length=xs.length * esz∧(flat xs).map AV.ab=flat xs∧(∀ n,aj n (flat xs)=true)∧(Go.aL.flat xs).all AV.one=true
 | [],_=>⟨by simp [Go.aL.flat],rfl,fun _=>rfl,rfl⟩
 | x::r,h=>by
   obtain ⟨h1,h2,h3,h4⟩:=jr.flat (xs:=r) fun y hy=>h y (List.mem_cons_of_mem _ hy)
   have hx:=h x List.mem_cons_self
   have e:Go.aL.flat (x::r)=x.cells++Go.aL.flat r:=rfl
   rw [e]
   refine ⟨by rw [List.length_append,hx.len,h1,List.length_cons,Nat.add_mul];omega,by rw [List.map_append,hx.un,h2],fun n=>?_,by rw [List.all_append,hx.one,h4];rfl⟩
   rw [aY];exact ⟨bI (Nat.zero_le n) _ hx.bl,h3 n⟩
theorem om (xs ys:List AV):flat (xs++ys)=flat xs++flat ys:=by simp [flat]
theorem ko {esz:Nat} {z:AV} (hz:jr esz (bO z)) (n:Nat):∀ x∈List.replicate n (bO z),jr esz x:=fun x hx=>by rw [List.eq_of_mem_replicate hx];exact hz
theorem ry {esz:Nat} {z:AV} (hz:jr esz (bO z)) (n:Nat):(dh z n).length=n * esz:=by
 have:=(jr.flat (ko hz n)).1
 rwa [List.length_replicate] at this
theorem zA {esz:Nat} {z:AV} (hz:jr esz (bO z)) (n k:Nat) (h:k≤n):(dh z n).drop (k * esz)=dh z (n - k):=by
 have e:dh z n=dh z k++dh z (n - k):=by
  unfold dh
  rw [← om,List.replicate_append_replicate]
  congr 2;omega
 rw [e,List.drop_append_of_le_length (by rw [ry hz];omega),List.drop_of_length_le (by rw [ry hz];omega)]
 rfl
def bt (z:AV) (xs:List AV) (cap:Nat):aa:=.cells (flat xs++dh z (cap - xs.length))
def RO (z:AV) (base:Nat) (v:AV) (xs:List AV) (G:List aa):Prop:=
 (xs=[]∧v=.ah)∨∃ id cap,base≤id∧v=.bc id 0 xs.length cap∧G[id]?=some (bt z xs cap)∧xs.length≤cap∧xs≠[]
theorem RO.one {z:AV} {base:Nat} {v:AV} {xs:List AV} {G:List aa} (h:RO z base v xs G):v.one=true∧v.val=true∧v.ab=v∧v.cells=[v]:=by
 rcases h with ⟨_,rfl⟩ | ⟨id,cap,_,rfl,_⟩ <;> exact ⟨rfl,rfl,rfl,rfl⟩
theorem RO.aV {z:AV} {base:Nat} {v:AV} {xs:List AV} {G:List aa} (h:RO z base v xs G) {n:Nat} (hn:G.length≤n):v.aV n=true:=by
 rcases h with ⟨_,rfl⟩ | ⟨id,cap,_,rfl,c,_⟩
 ·rfl
 ·have:=(List.getElem?_eq_some_iff.1 c).1
  rw [gU];simp;omega
theorem RO.set {z:AV} {base:Nat} {v:AV} {xs:List AV} {G:List aa} (h:RO z base v xs G) {j:Nat} (hj:j < base) (o:aa):RO z base v xs (G.set j o):=by
 rcases h with h | ⟨id,cap,a,b,c,d⟩
 ·exact .inl h
 ·exact .inr ⟨id,cap,a,b,by rw [List.getElem?_set_ne (by omega)];exact c,d⟩
theorem RO.len {z:AV} {base:Nat} {v:AV} {xs:List AV} {G:List aa} (h:RO z base v xs G) {H:List aa} (φ:AV→Prop):fx v H φ=φ (.int .i64 xs.length):=by
 rcases h with ⟨rfl,rfl⟩ | ⟨id,cap,_,rfl,_⟩ <;> rfl
theorem LZ {esz bytes:Nat} {z:AV} (hz:jr esz (bO z)) {base:Nat} {v:AV} {xs:List AV} {G:List aa} (h:RO z base v xs G) (fP:∀ x∈xs,jr esz x) (o:Nat) (ys:List AV) (hy:ys≠[]) (qt:∀ x∈ys,jr esz x)
 (hb:(xs.length + ys.length) * bytes≤140737488355328) (hG:base≤G.length) {K:AV→List aa→Prop}
 (hK:∀ v' G',RO z base v' (xs++ys) G'→G'.take base=G.take base→(∀ j,j < base→G'[j]?=G[j]?)→G.length≤G'.length→K v' G'):b7 esz bytes z v (.al o ys) G K:=by
 have jy:qB esz ys:=fun y hy=>⟨(qt y hy).len,(qt y hy).one⟩
 obtain ⟨f1,f2,f3,f4⟩:=jr.flat qt
 obtain ⟨g1,g2,g3,g4⟩:=jr.flat fP
 have vA:=ry hz
 have lh:∀ n m,aj n (dh z m)=true:=fun n m=>(jr.flat (ko hz m)).2.2.1 n
 unfold b7
 simp only [dl]
 refine ⟨jy,?_⟩
 rcases h with ⟨rfl,rfl⟩ | ⟨id,cap,bp,rfl,hg,hle,_⟩
 ·refine ⟨by simpa using hb,fun e=>absurd e hy,fun _ cap hc _=>⟨?_,hK _ _ (.inr ⟨G.length,cap,hG,by simp,?_,by simpa using hc,by simpa using hy⟩) ?_ ?_ (by simp)⟩⟩
  ·rw [f2,aY];exact ⟨f3 _,lh _ _⟩
  ·rw [f2];simp [bt]
  ·rw [List.take_append_of_le_length hG]
  ·intro j hj;rw [List.getElem?_append_left (by omega)]
 ·have uM:=(List.getElem?_eq_some_iff.1 hg).1
  simp only [hg,bt,List.length_append,g1,vA,Nat.zero_add,List.drop_zero]
  refine ⟨hb,hle,by rw [← Nat.add_mul];exact Nat.le_of_eq (by congr 1;omega),fun hroom=>⟨by rw [f2];exact f3 _,?_⟩,fun jW fT hc _=>⟨?_,?_⟩⟩
  ·rw [f2]
   refine hK _ _ (.inr ⟨id,cap,bp,by simp,?_,by simpa using hroom,by simp [hy]⟩) ?_ ?_ (by simp)
   ·rw [List.getElem?_set_self uM,bt]
    congr 2
    unfold ag
    rw [f1,List.take_append_of_le_length (by rw [g1];exact Nat.le_refl _),List.take_of_length_le (by rw [g1];exact Nat.le_refl _),List.drop_append,List.drop_of_length_le (by rw [g1];omega),g1,
     show xs.length * esz + ys.length * esz - xs.length * esz=ys.length * esz by omega,zA hz _ _ (by omega),om,List.nil_append,List.length_append]
    rw [show cap - xs.length - ys.length=cap - (xs.length + ys.length) by omega,List.append_assoc]
   ·rw [List.take_set_of_le (by omega)]
   ·intro j hj;rw [List.getElem?_set_ne (by omega)]
  ·rw [List.take_append_of_le_length (by rw [g1];exact Nat.le_refl _),List.take_of_length_le (by rw [g1];exact Nat.le_refl _),g2,f2,aY,aY];exact ⟨⟨g3 _,f3 _⟩,lh _ _⟩
  ·rw [List.take_append_of_le_length (by rw [g1];exact Nat.le_refl _),List.take_of_length_le (by rw [g1];exact Nat.le_refl _),g2,f2,← om]
   refine hK _ _ (.inr ⟨G.length,fT,hG,by simp,?_,by simpa using hc,by simp [hy]⟩) ?_ ?_ (by simp)
   ·simp [bt]
   ·rw [List.take_append_of_le_length hG]
   ·intro j hj;rw [List.getElem?_append_left (by omega)]
theorem qe {esz:Nat}:∀ {xs:List AV} (_:∀ x∈xs,jr esz x) (i:Nat),i < xs.length→(flat xs).drop (i * esz)=(xs.getD i .any).cells++flat (xs.drop (i + 1))
 | [],_,i,h=>by simp at h
 | x::r,hx,0,_=>by simp [flat]
 | x::r,hx,i + 1,h=>by
   have hl:=(hx x List.mem_cons_self).len
   have e:flat (x::r)=x.cells++flat r:=rfl
   rw [e,show (i + 1) * esz=x.cells.length + i * esz by rw [hl,Nat.add_mul];omega,List.drop_append,List.getD_cons_succ,List.drop_succ_cons]
   have:=qe (xs:=r) (fun y hy=>hx y (List.mem_cons_of_mem _ hy)) i (by simpa using h)
   simp [this]
theorem zB {esz:Nat} {z:AV} {c:Nat} (hc:c < esz) (v:AV):∀ {xs:List AV} (_:∀ x∈xs,jr esz x) (i:Nat) {y:AV} (rest:List AV),i < xs.length→y.cells=(xs.getD i .any).cells.set c v→
 (flat xs++rest).set (i * esz + c) v=flat (xs.set i y)++rest
 | [],_,i,_,_,h,_=>by simp at h
 | x::r,hx,0,y,rest,_,hy=>by
   have hl:=(hx x List.mem_cons_self).len
   have e:flat (x::r)=x.cells++flat r:=rfl
   rw [List.set_cons_zero,e,show flat (y::r)=y.cells++flat r from rfl,hy,Nat.zero_mul,Nat.zero_add,List.append_assoc,List.set_append_left _ _ (by omega),List.append_assoc]
   rfl
 | x::r,hx,i + 1,y,rest,h,hy=>by
   have hl:=(hx x List.mem_cons_self).len
   have e:flat (x::r)=x.cells++flat r:=rfl
   have ih:=zB (z:=z) hc v (xs:=r) (fun y hy=>hx y (List.mem_cons_of_mem _ hy)) i rest (y:=y) (by simpa using h) (by simpa using hy)
   rw [List.set_cons_succ,e,show flat (x::r.set i y)=x.cells++flat (r.set i y) from rfl,List.append_assoc,List.append_assoc,← ih,show (i + 1) * esz + c=x.cells.length + (i * esz + c) by rw [hl,Nat.add_mul];omega]
   rw [List.set_append_right _ _ (by omega)]
   congr 2;omega
theorem lj (e id N c i:Nat) (k:IntKind) (φ:AV→Prop):ax e (.bc id 0 N c) (.int k (i:Int)) φ=(i < N∧φ (.ptr id (i * e))):=by
 simp only [ax,Int.toNat_natCast,Nat.zero_add,eq_iff_iff]
 constructor
 ·rintro ⟨_,h⟩;exact h
 ·exact fun h=>⟨by omega,h⟩
theorem oo {α:Type} (l:List α) (i:Nat) (x:α) (h:i < l.length):ag l i [x]=l.set i x:=by
 unfold ag
 rw [List.set_eq_take_append_cons_drop,if_pos h]
 rfl
theorem Bm {esz cap id:Nat} {z:AV} {ys:List AV} (qt:∀ x∈ys,jr esz x) {i c:Nat} (hi:i < ys.length) (hc:c < esz) {v y:AV} (h1:v.one=true) (h2:v.val=true) (h3:v.ab.aV 0=true) (hy:y.cells=(ys.getD i .any).cells.set c v.ab)
 {H:List aa} {K:List aa→Prop} (hK:K (H.set id (bt z (ys.set i y) cap))):gB (some (bt z ys cap)) 1 id (i * esz + c) v H K:=by
 obtain ⟨g1,g2,g3,g4⟩:=jr.flat qt
 have hle:i * esz + esz≤ys.length * esz:=by rw [← Nat.succ_mul];exact Nat.mul_le_mul_right _ hi
 simp only [bt,Di,yK h1,h2,List.length_cons,List.length_nil,List.all_cons,List.all_nil,h1,List.map_cons,List.map_nil]
 refine ⟨trivial,trivial,by rw [List.length_append,g1];omega,rfl,bI (Nat.zero_le _) [v.ab] (by rw [bH,cP,h3];rfl),?_⟩
 rw [oo _ _ _ (by rw [List.length_append,g1];omega),zB (z:=z) hc v.ab qt i _ hi hy]
 have e:(ys.set i y).length=ys.length:=by simp
 simp only [bt,e] at hK
 exact hK
theorem Hl {esz:Nat} (h0:1 < esz):∀ {xs:List AV} (_:∀ x∈xs,jr esz x) (_:∀ x∈xs,AV.agg x.cells=x) (rest:List AV),chunks esz xs.length (flat xs++rest)=xs
 | [],_,_,_=>rfl
 | x::r,hx,ha,rest=>by
   have hl:=(hx x List.mem_cons_self)
   have e:flat (x::r)=x.cells++flat r:=rfl
   rw [List.length_cons,chunks,if_neg (by omega),e,List.append_assoc,List.take_append_of_le_length (by rw [hl.len];omega),List.take_of_length_le (by rw [hl.len];omega),hl.un,ha x List.mem_cons_self]
   rw [show List.drop esz (x.cells++(flat r++rest))=flat r++rest by rw [← hl.len,List.drop_left],Hl h0 (fun y hy=>hx y (List.mem_cons_of_mem _ hy)) (fun y hy=>ha y (List.mem_cons_of_mem _ hy))]
theorem wW {esz id cap:Nat} (h0:1 < esz) {z:AV} (hz:jr esz (bO z)) {xs:List AV} {H:List aa} (hx:∀ x∈xs,jr esz x) (ha:∀ x∈xs,AV.agg x.cells=x) (h:H[id]?=some (bt z xs cap)) (hl:xs.length≤cap) {K:AV→List aa→Prop} (hK:K (.al 0 xs) (H.set id .dead)):dn esz (.bc id 0 xs.length cap) H K:=by
 obtain ⟨g1,g2,g3,g4⟩:=jr.flat hx
 simp only [dn,h,bt,List.drop_zero,Hl h0 hx ha]
 refine ⟨by omega,hl,by simp [g1],?_,hK⟩
 rw [List.all_append,g4,show (dh z (cap - xs.length)).all AV.one=true from (jr.flat (ko hz _)).2.2.2];rfl
end Go.aL
end
section
set_option maxRecDepth 100000
set_option maxHeartbeats 0
namespace Go.aL
open Go Go.Proofs
noncomputable def YN:=aF Tryz.call58 Tryz.func58 Tryz.ntmps58 [(3,0,2),(3,2,2),(3,3,1)] [(0,[0]),(1,[0,4]),(2,[2]),(3,[2])] []
noncomputable def YO:=aF Tryz.call75 Tryz.func75 Tryz.ntmps75 [(0,0,1),(5,2,1000),(6,0,1),(6,8,1),(7,6,2),(7,9,2),(9,0,6004)] [(0,[1,2]),(1,[1,6]),(2,[1,6,7]),(3,[6,7,15,16,17]),(4,[6,7,15,16,17,18]),(5,[6,7,9,15,16,17]),(6,[6,7,9,15,16,17]),(7,[6,7,15,16,17]),(8,[6,7,15,16,17]),(9,[4,5])] [(7,(.take 1 true (.take 2 true (.take 3 true (.take 4 true (.take 5 true (.take 0 false (.br 6 (.take 7 true (.take 8 true (.br 9 .done .nil))) .nil))))))))]
noncomputable def RK:=aF Tryz.call118 Tryz.func118 Tryz.ntmps118 [(3,0,2),(3,2,2),(3,3,1)] [(0,[0]),(1,[0,4]),(2,[2]),(3,[2])] []
noncomputable def Hm:=aF Tryz.call132 Tryz.func132 Tryz.ntmps132 [(0,0,1),(2,0,1),(2,4,2),(2,5,1),(6,2,1000),(7,0,1),(7,5,1),(8,1,1),(8,2,2),(8,3,1),(11,0,1),(11,1,1)] [(0,[1,2]),(1,[1,2,5]),(2,[1,2,5]),(3,[1,2,5,6]),(4,[1,5,6,17,18,19]),(5,[1,5,6,17,18,19,20]),(6,[1,5,6,8,17,18,19]),(7,[1,5,6,8,17,18,19]),(8,[1,5,6,17,18,19]),(9,[1,5,6,17,18,19]),(10,[1]),(11,[4])] []
noncomputable def RM:=aF Tryz.call139 Tryz.func139 Tryz.ntmps139 [(10,9,2000),(15,0,1),(15,4,1),(21,0,1),(21,4,1),(23,2,3000)] [(0,[0,1,2]),(1,[0,1,2,9]),(2,[0,1,2,9,10]),(3,[0,1,2,9,10,11,12]),(4,[0,1,9,10,11,12,26,27,28]),(5,[0,1,9,10,11,12,26,27,28,29]),(6,[0,1,9,10,11,12,13,14,26,27,28]),(7,[0,1,9,10,11,12,13,14,26,27,28,33,34,35]),(8,[0,1,9,10,11,12,13,14,26,27,28,33,34,35,36]),(9,[0,1,9,10,11,12,13,14,15,16,26,27,28,33,34,35]),(10,[0,1,9,10,11,12,13,14,15,26,27,28,33,34,35,50]),(11,[0,1,9,10,11,12,13,15,26,27,28]),(12,[0,1,9,10,11,12,13,26,27,28]),(13,[0,1,9,10,11,12,13,14,26,27,28,33,34,35]),(14,[0,1,9,10,11,12,13,26,27,28,63]),(15,[0,1,9,10,11,12,26,27,28]),(16,[0,1,9,10,11,12,26,27,28]),(17,[10,11,12,69,70,71]),(18,[10,11,12,69,70,71,72]),(19,[10,11,12,17,18,69,70,71]),(20,[10,11,12,17,69,70,71,77]),(21,[10,11,12,69,70,71]),(22,[10,11,12,69,70,71]),(23,[6,7,8])] []
noncomputable def RN:=aF Tryz.call149 Tryz.func149 Tryz.ntmps149 [(1,2,1),(3,1,2000),(4,0,3000)] [(0,[0,1]),(1,[0,1]),(2,[0,8]),(3,[0]),(4,[4])] []
noncomputable def RP:=aF Tryz.call185 Tryz.func185 Tryz.ntmps185 [(5,3,2000),(6,19,2000)] [(0,[0,1,2]),(1,[0,1,2,7,8]),(2,[0,1,2,7,38]),(3,[6]),(4,[0,9,10]),(5,[0,9,10,11]),(6,[6])] [(4,(.take 0 true (.take 1 true (.take 2 true (.take 3 true (.take 4 true (.take 5 true (.take 6 true (.take 7 true (.take 8 true (.take 9 true (.take 10 true (.take 11 true (.take 12 true (.take 13 true (.take 14 true (.take 15 true (.take 16 true (.take 17 true (.take 18 true (.take 19 true (.take 20 true (.take 21 true .done))))))))))))))))))))))),(6,(.take 0 true (.take 1 true (.take 2 true (.take 3 true (.take 4 true (.take 5 true (.take 6 true (.take 7 true (.take 8 true (.take 9 true (.take 10 true (.take 11 true (.take 12 true (.take 13 true (.take 14 true (.take 15 true (.take 16 true (.take 17 true (.take 18 true (.br 19 (.take 20 true (.take 21 true (.take 22 true .done))) .nil)))))))))))))))))))))]
noncomputable def RQ:=aF Tryz.call199 Tryz.func199 Tryz.ntmps199 [] [(0,[0,2,3]),(1,[0,2,3,9]),(2,[0,2,3]),(3,[0,2,3])] [(3,(.take 0 true (.take 1 true (.take 4 true (.take 5 true (.take 6 true (.take 7 true (.take 8 true (.take 9 true (.take 10 true (.take 11 true (.take 12 true (.take 2 false (.take 3 false (.br 13 (.take 14 true (.br 15 .done .nil)) .nil)))))))))))))))]
end Go.aL
end
section
namespace Go.fN
open Go.aL
mutual
def code:T→List Int
 | .mk k n l=>k::n::(l.length:Int)::zC l
def zC:List T→List Int
 | []=>[]
 | x::r=>code x++zC r
end
mutual
theorem DD:∀ (a b:T) (r s:List Int),code a++r=code b++s→a=b∧r=s
 | .mk k n l,.mk k' n' l',r,s,h=>by
   simp only [code,List.cons_append,List.cons.injEq] at h
   obtain ⟨h1,h2,h3,h4⟩:=h
   obtain ⟨h5,h6⟩:=zD l l' r s (by omega) h4
   exact ⟨by rw [h1,h2,h5],h6⟩
theorem zD:∀ (l m:List T) (r s:List Int),l.length=m.length→zC l++r=zC m++s→l=m∧r=s
 | [],[],r,s,_,h=>⟨rfl,by simpa [zC] using h⟩
 | x::l,y::m,r,s,hl,h=>by
   simp only [zC,List.append_assoc] at h
   obtain ⟨h1,h2⟩:=DD x y _ _ h
   obtain ⟨h3,h4⟩:=zD l m r s (by simpa using hl) h2
   exact ⟨by rw [h1,h3],h4⟩
 | [],_::_,_,_,h,_=>by simp at h
 | _::_,[],_,_,h,_=>by simp at h
end
theorem Hn {a b:T} (h:code a=code b):a=b:=(DD a b [] [] (by rw [h])).1
instance:DecidableEq T:=fun a b=>decidable_of_iff (code a=code b) ⟨Hn,fun h=>by rw [h]⟩
def B4 (a b:T):Prop:=code a≤code b
instance (a b:T):Decidable (B4 a b):=inferInstanceAs (Decidable (code a≤code b))
theorem DE {a b:T} (h1:B4 a b) (h2:B4 b a):a=b:=Hn (List.le_antisymm h1 h2)
theorem zE (a b:T):B4 a b∨B4 b a:=List.le_total _ _
theorem zF {a b c:T} (h1:B4 a b) (h2:B4 b c):B4 a c:=List.le_trans h1 h2
def ins (x:T):List T→List T
 | []=>[x]
 | y::r=>if B4 x y then x::y::r else y::ins x r
def xJ:List T→List T
 | []=>[]
 | x::r=>ins x (xJ r)
theorem DF (x:T):∀ l,(ins x l).Perm (x::l)
 | []=>List.Perm.refl _
 | y::r=>by
   simp only [ins]
   split
   ·exact List.Perm.refl _
   ·exact ((DF x r).cons y).trans (List.Perm.swap _ _ _)
theorem fY:∀ l,(xJ l).Perm l
 | []=>List.Perm.refl _
 | x::r=>(DF x _).trans ((fY r).cons x)
theorem DG (x y:T):∀ l,ins x (ins y l)=ins y (ins x l)
 | []=>by
   simp only [ins]
   by_cases h1:B4 x y <;> by_cases h2:B4 y x <;> simp only [h1,h2,if_true,if_false]
   ·rw [DE h1 h2]
   ·rcases zE x y with h | h
    ·exact absurd h h1
    ·exact absurd h h2
 | z::r=>by
   simp only [ins]
   by_cases hx:B4 x z <;> by_cases hy:B4 y z <;> simp only [hx,hy,if_true,if_false,ins]
   ·by_cases h1:B4 x y <;> by_cases h2:B4 y x <;> simp only [h1,h2,if_true,if_false]
    ·rw [DE h1 h2]
    ·rcases zE x y with h | h
     ·exact absurd h h1
     ·exact absurd h h2
   ·have h2:¬ B4 y x:=fun h=>hy (zF h hx)
    simp only [h2,if_false]
   ·have h2:¬ B4 x y:=fun h=>hx (zF h hy)
    simp only [h2,if_false]
   ·rw [DG x y r]
theorem L3 {l m:List T} (h:l.Perm m):xJ l=xJ m:=by
 induction h with
 | nil=>rfl
 | cons x _ ih=>simp only [xJ,ih]
 | swap x y l=>simp only [xJ];exact DG _ _ _
 | trans _ _ h1 h2=>rw [h1,h2]
theorem Ho {l m:List T}:xJ l=xJ m↔l.Perm m:=⟨fun h=>(fY l).symm.trans (h ▸ fY m),L3⟩
theorem Qa {x:T} {l:List T}:x∈xJ l↔x∈l:=(fY l).mem_iff
mutual
def wt:T→Nat
 | .mk _ _ l=>1 + ij l
def ij:List T→Nat
 | []=>0
 | x::r=>wt x + ij r
end
theorem Hp {x:T}:∀ {l:List T},x∈l→wt x≤ij l
 | y::r,h=>by
   simp only [ij]
   rcases List.mem_cons.1 h with rfl | h
   ·omega
   ·have:=Hp h;omega
theorem fO (a:T):0 < wt a:=by cases a;simp only [wt];omega
theorem bP {a x:T} (h:x∈a.l):wt x < wt a:=by
 cases a with
 | mk k n l=>have:=Hp (l:=l) h;simp only [wt];omega
structure Od where
 pl:Int→Int
 sp:Int→Int
mutual
def norm (O:Od):T→T
 | .mk k n l=>if k=2 then .mk 2 (O.pl n) (if O.sp (O.pl n)=3 then xJ (DH O l) else DH O l) else .mk 1 n []
def DH (O:Od):List T→List T
 | []=>[]
 | x::r=>norm O x::DH O r
end
theorem zG (O:Od):∀ l,DH O l=l.map (norm O)
 | []=>rfl
 | x::r=>by simp [DH,zG O r]
def Lx (G:T→T→Prop):List T→List T→Prop
 | [],_=>False
 | _::_,[]=>True
 | x::l,y::m=>x=y∧Lx G l m∨G x y
def side (s:Int) (l:List T):List T:=if s=2 then l.reverse else l
def Mu (G:T→T→Prop) (l m:List T):Prop:=
 (∃ x∈l,m.count x < l.count x)∧∀ y∈m,l.count y < m.count y→∃ x∈l,m.count x < l.count x∧G x y
def Fm (sp:Int→Int) (G:T→T→Prop) (a b:T):Prop:=
 a.k=2∧((∃ x∈a.l,x=b∨G x b)∨b.k=2∧(
  (b.n < a.n∧∀ y∈b.l,G a y)∨
  (b.n=a.n∧sp a.n≠3∧(∀ y∈b.l,G a y)∧Lx G (side (sp a.n) a.l) (side (sp a.n) b.l))∨
  (b.n=a.n∧sp a.n=3∧Mu G a.l b.l)))
theorem iW {s:Int} {l:List T} {x:T}:x∈side s l↔x∈l:=by unfold side;split <;> simp
theorem DI {G G':T→T→Prop}:∀ {l m:List T},(∀ x∈l,∀ y∈m,(G x y↔G' x y))→(Lx G l m↔Lx G' l m)
 | [],_,_=>Iff.rfl
 | _::_,[],_=>Iff.rfl
 | x::l,y::m,h=>by
   simp only [Lx]
   rw [DI (fun x hx y hy=>h x (List.mem_cons_of_mem _ hx) y (List.mem_cons_of_mem _ hy)),h x List.mem_cons_self y List.mem_cons_self]
theorem DJ {sp:Int→Int} {G G':T→T→Prop} {a b:T} (h1:∀ x∈a.l,(G x b↔G' x b)) (h2:∀ y∈b.l,(G a y↔G' a y)) (h3:∀ x∈a.l,∀ y∈b.l,(G x y↔G' x y)) :
 Fm sp G a b↔Fm sp G' a b:=by
 have e1:(∃ x∈a.l,x=b∨G x b)↔(∃ x∈a.l,x=b∨G' x b):=⟨fun ⟨x,hx,h⟩=>⟨x,hx,by rwa [← h1 x hx]⟩,fun ⟨x,hx,h⟩=>⟨x,hx,by rwa [h1 x hx]⟩⟩
 have e2:(∀ y∈b.l,G a y)↔(∀ y∈b.l,G' a y):=⟨fun h y hy=>(h2 y hy).1 (h y hy),fun h y hy=>(h2 y hy).2 (h y hy)⟩
 have e3:Lx G (side (sp a.n) a.l) (side (sp a.n) b.l)↔Lx G' (side (sp a.n) a.l) (side (sp a.n) b.l):=DI fun x hx y hy=>h3 x (iW.1 hx) y (iW.1 hy)
 have e4:Mu G a.l b.l↔Mu G' a.l b.l:=by
  unfold Mu
  refine and_congr Iff.rfl ⟨fun h y hy hc=>?_,fun h y hy hc=>?_⟩ <;> obtain ⟨x,hx,Ij,hg⟩:=h y hy hc
  ·exact ⟨x,hx,Ij,(h3 x hx y hy).1 hg⟩
  ·exact ⟨x,hx,Ij,(h3 x hx y hy).2 hg⟩
 unfold Fm
 rw [e1,e2,e3,e4]
def NE (sp:Int→Int):Nat→T→T→Prop
 | 0=>fun _ _=>False
 | f + 1=>Fm sp (NE sp f)
def Gt (sp:Int→Int) (a b:T):Prop:=NE sp (wt a + wt b) a b
theorem gD (sp:Int→Int):∀ (f g:Nat) (a b:T),wt a + wt b≤f→wt a + wt b≤g→(NE sp f a b↔NE sp g a b)
 | 0,_,a,b,h,_=>by have:=fO a;omega
 | _ + 1,0,a,b,_,h=>by have:=fO a;omega
 | f + 1,g + 1,a,b,h1,h2=>by
   simp only [NE]
   refine DJ (fun x hx=>?_) (fun y hy=>?_) (fun x hx y hy=>?_)
   ·have:=bP hx;exact gD sp f g x b (by omega) (by omega)
   ·have:=bP hy;exact gD sp f g a y (by omega) (by omega)
   ·have:=bP hx;have:=bP hy;exact gD sp f g x y (by omega) (by omega)
theorem wX {sp:Int→Int} {a b:T}:Gt sp a b↔Fm sp (Gt sp) a b:=by
 have e:NE sp (wt a + wt b) a b↔NE sp (wt a + wt b + 1) a b:=gD sp _ _ a b (by omega) (by omega)
 unfold Gt
 rw [e]
 show Fm sp (NE sp (wt a + wt b)) a b↔_
 refine DJ (fun x hx=>?_) (fun y hy=>?_) (fun x hx y hy=>?_)
 ·have:=bP hx;exact gD sp _ _ x b (by omega) (by omega)
 ·have:=bP hy;exact gD sp _ _ a y (by omega) (by omega)
 ·have:=bP hx;have:=bP hy;exact gD sp _ _ x y (by omega) (by omega)
section
variable {sp:Int→Int}
theorem wY {a b:T} (h:Gt sp a b):a.k=2:=(wX.1 h).1
theorem jt {a b x:T} (ha:a.k=2) (hx:x∈a.l) (h:x=b∨Gt sp x b):Gt sp a b:=wX.2 ⟨ha,.inl ⟨x,hx,h⟩⟩
theorem nj {l m:List T} {x:T} (h:m.count x < l.count x):x∈l:=List.count_pos_iff.1 (by omega)
theorem oq {a b:T} (h:Gt sp a b):(∃ x∈a.l,x=b∨Gt sp x b)∨b.k=2∧(∀ y∈b.l,Gt sp a y)∧(
 b.n < a.n∨(b.n=a.n∧sp a.n≠3∧Lx (Gt sp) (side (sp a.n) a.l) (side (sp a.n) b.l))∨(b.n=a.n∧sp a.n=3∧Mu (Gt sp) a.l b.l)):=by
 obtain ⟨ha,h | ⟨hb,h | h | h⟩⟩:=wX.1 h
 ·exact .inl h
 ·exact .inr ⟨hb,h.2,.inl h.1⟩
 ·exact .inr ⟨hb,h.2.2.1,.inr (.inl ⟨h.1,h.2.1,h.2.2.2⟩)⟩
 ·refine .inr ⟨hb,fun y hy=>?_,.inr (.inr h)⟩
  obtain ⟨_,_,_,h2⟩:=h
  by_cases hc:a.l.count y < b.l.count y
  ·obtain ⟨x,hx,_,hg⟩:=h2 y hy hc
   exact jt ha hx (.inr hg)
  ·have:0 < b.l.count y:=List.count_pos_iff.2 hy
   exact jt ha (List.count_pos_iff.1 (by omega)) (.inl rfl)
theorem L4 {a b:T} (ha:a.k=2) (hb:b.k=2) (h1:∀ y∈b.l,Gt sp a y) (h2:b.n < a.n∨(b.n=a.n∧sp a.n≠3∧Lx (Gt sp) (side (sp a.n) a.l) (side (sp a.n) b.l))∨(b.n=a.n∧sp a.n=3∧Mu (Gt sp) a.l b.l)):Gt sp a b:=by
 refine wX.2 ⟨ha,.inr ⟨hb,?_⟩⟩
 rcases h2 with h | h | h
 ·exact .inl ⟨h,h1⟩
 ·exact .inr (.inl ⟨h.1,h.2.1,h1,h.2.2⟩)
 ·exact .inr (.inr h)
theorem Qb:∀ {a b y:T},Gt sp a b→b.k=2→y∈b.l→Gt sp a y:=by
 intro a
 induction h:wt a using Nat.strongRecOn generalizing a with
 | _ n ih=>
   intro b y xK hb hy
   rcases oq xK with ⟨x,hx,rfl | hg⟩ | ⟨_,h1,_⟩
   ·exact jt (wY xK) hx (.inr (jt hb hy (.inl rfl)))
   ·exact jt (wY xK) hx (.inr (ih _ (by have:=bP hx;omega) rfl hg hb hy))
   ·exact h1 y hy
theorem L5 {G:T→T→Prop}:∀ {l:List T},Lx G l l→∃ x∈l,G x x
 | x::l,h=>by
   rcases h with ⟨_,h⟩ | h
   ·obtain ⟨y,hy,hg⟩:=L5 h;exact ⟨y,List.mem_cons_of_mem _ hy,hg⟩
   ·exact ⟨x,List.mem_cons_self,h⟩
theorem Bn:∀ a:T,¬ Gt sp a a:=by
 intro a
 induction h:wt a using Nat.strongRecOn generalizing a with
 | _ n ih=>
   intro hg
   rcases oq hg with ⟨x,hx,rfl | Qc⟩ | ⟨_,_,h1 | ⟨_,_,h1⟩ | ⟨_,_,h1⟩⟩
   ·have:=bP hx;omega
   ·exact ih (wt x) (by have:=bP hx;omega) x rfl (Qb Qc (wY hg) hx)
   ·omega
   ·obtain ⟨x,hx,Qc⟩:=L5 h1
    have hx:=iW.1 hx
    exact ih (wt x) (by have:=bP hx;omega) x rfl Qc
   ·obtain ⟨⟨x,_,hx⟩,_⟩:=h1;omega
theorem L6 {G:T→T→Prop} {S:List T} (irr:∀ x∈S,¬ G x x) (tr:∀ x∈S,∀ y∈S,∀ z∈S,G x y→G y z→G x z) (P:T→Prop)
 (step:∀ z∈S,(∀ x∈S,G x z→P x)→P z):∀ z∈S,P z:=by
 classical
 intro z
 induction h:S.countP (fun w=>decide (G w z)) using Nat.strongRecOn generalizing z with
 | _ n ih=>
   intro hz
   refine step z hz fun x hx hg=>ih (S.countP fun w=>decide (G w x)) ?_ x rfl hx
   subst h
   have key:∀ (l:List T),(∀ w∈l,w∈S)→l.countP (fun w=>decide (G w x))≤l.countP (fun w=>decide (G w z))∧(x∈l→l.countP (fun w=>decide (G w x)) < l.countP (fun w=>decide (G w z))):=by
    intro l
    induction l with
    | nil=>intro _;exact ⟨Nat.le_refl _,fun h=>by cases h⟩
    | cons w l ihl=>
      intro hl
      obtain ⟨i1,i2⟩:=ihl fun w hw=>hl w (List.mem_cons_of_mem _ hw)
      have hw:=hl w List.mem_cons_self
      by_cases h1:G w x
      ·have h2:G w z:=tr w hw x hx z hz h1 hg
       have dW:x≠w:=fun e=>irr x hx (by rw [← e] at h1;exact h1)
       simp only [List.countP_cons,h1,h2,decide_true,if_true]
       refine ⟨by omega,fun hm=>?_⟩
       rcases List.mem_cons.1 hm with e | hm
       ·exact absurd e dW
       ·have:=i2 hm;omega
      ·by_cases h2:G w z
       ·simp only [List.countP_cons,h1,h2,decide_true,decide_false,if_true]
        refine ⟨by simp;omega,fun _=>by simp;omega⟩
       ·have dW:x≠w:=fun e=>h2 (e ▸ hg)
        simp only [List.countP_cons,h1,h2,decide_false]
        refine ⟨by simpa using i1,fun hm=>?_⟩
        rcases List.mem_cons.1 hm with e | hm
        ·exact absurd e dW
        ·simpa using i2 hm
   exact (key S fun _ h=>h).2 hx
theorem L7 {G:T→T→Prop} {l m k:List T} (irr:∀ x∈l++m++k,¬ G x x) (tr:∀ x∈l++m++k,∀ y∈l++m++k,∀ z∈l++m++k,G x y→G y z→G x z)
 (h1:Mu G l m) (h2:Mu G m k):Mu G l k:=by
 have il:∀ {x},x∈l→x∈l++m++k:=fun h=>by simp [h]
 have im:∀ {x},x∈m→x∈l++m++k:=fun h=>by simp [h]
 have ik:∀ {x},x∈k→x∈l++m++k:=fun h=>by simp [h]
 have up:∀ z∈l++m++k,(l.count z < m.count z∨m.count z < k.count z)→∃ x∈l,k.count x < l.count x∧G x z:=by
  refine L6 irr tr _ fun z hz ih hc=>?_
  rcases hc with hc | hc
  ·obtain ⟨x1,tN,QY,JL⟩:=h1.2 z (nj hc) hc
   by_cases hk:k.count x1 < l.count x1
   ·exact ⟨x1,tN,hk,JL⟩
   ·obtain ⟨x,hx,ph,hg⟩:=ih x1 (il tN) JL (.inr (by omega))
    exact ⟨x,hx,ph,tr x (il hx) x1 (il tN) z hz hg JL⟩
  ·obtain ⟨x1,tN,QY,JL⟩:=h2.2 z (nj hc) hc
   by_cases hk:l.count x1 < m.count x1
   ·obtain ⟨x,hx,ph,hg⟩:=ih x1 (im tN) JL (.inl hk)
    exact ⟨x,hx,ph,tr x (il hx) x1 (im tN) z hz hg JL⟩
   ·exact ⟨x1,List.count_pos_iff.1 (by omega),by omega,JL⟩
 constructor
 ·obtain ⟨x0,J8,NP⟩:=h1.1
  by_cases hk:k.count x0 < l.count x0
  ·exact ⟨x0,J8,hk⟩
  ·obtain ⟨x,hx,hc,_⟩:=up x0 (il J8) (.inr (by omega))
   exact ⟨x,hx,hc⟩
 ·intro y hy hc
  refine up y (ik hy) ?_
  by_cases h:l.count y < m.count y
  ·exact .inl h
  ·exact .inr (by omega)
theorem DK {G:T→T→Prop}:∀ {l m k:List T},(∀ x∈l,∀ y∈m,∀ z∈k,G x y→G y z→G x z)→Lx G l m→Lx G m k→Lx G l k
 | [],_,_,_,h,_=>h.elim
 | _::_,[],_,_,_,h=>h.elim
 | _::_,_::_,[],_,_,_=>trivial
 | x::l,y::m,z::k,tr,h1,h2=>by
   have ih:=@DK G l m k fun x hx y hy z hz=>tr x (List.mem_cons_of_mem _ hx) y (List.mem_cons_of_mem _ hy) z (List.mem_cons_of_mem _ hz)
   rcases h1 with ⟨rfl,h1⟩ | h1 <;> rcases h2 with ⟨rfl,h2⟩ | h2
   ·exact .inl ⟨rfl,ih h1 h2⟩
   ·exact .inr h2
   ·exact .inr h1
   ·exact .inr (tr x List.mem_cons_self y List.mem_cons_self z List.mem_cons_self h1 h2)
theorem Bo:∀ (N:Nat) {a b c:T},wt a≤N→wt b≤N→wt c≤N→Gt sp a b→Gt sp b c→Gt sp a c:=by
 intro N
 induction N with
 | zero=>intro a b c h;have:=fO a;omega
 | succ N ihN=>
 intro a b c
 induction h:wt a + wt b + wt c using Nat.strongRecOn generalizing a b c with
 | _ n ih=>
   intro la lb lc xK RR
   rcases oq xK with ⟨x,hx,rfl | hg⟩ | ⟨hb,h1,h2⟩
   ·exact jt (wY xK) hx (.inr RR)
   ·have:=bP hx
    exact jt (wY xK) hx (.inr (ih (wt x + wt b + wt c) (by omega) rfl (by omega) lb lc hg RR))
   rcases oq RR with ⟨y,hy,rfl | hg⟩ | ⟨hc,h3,h4⟩
   ·exact h1 y hy
   ·have:=bP hy
    exact ih (wt a + wt y + wt c) (by omega) rfl la (by omega) lc (h1 y hy) hg
   have h5:∀ z∈c.l,Gt sp a z:=fun z hz=>by
    have:=bP hz
    exact ih (wt a + wt b + wt z) (by omega) rfl la lb (by omega) xK (h3 z hz)
   refine L4 (wY xK) hc h5 ?_
   rcases h2 with h2 | ⟨e2,s2,h2⟩ | ⟨e2,s2,h2⟩ <;> rcases h4 with h4 | ⟨e4,s4,h4⟩ | ⟨e4,s4,h4⟩
   ·exact .inl (by omega)
   ·exact .inl (by omega)
   ·exact .inl (by omega)
   ·exact .inl (by omega)
   ·refine .inr (.inl ⟨by omega,s2,?_⟩)
    rw [e2] at h4
    refine DK (fun x hx y hy z hz=>?_) h2 h4
    have:=bP (iW.1 hx);have:=bP (iW.1 hy);have:=bP (iW.1 hz)
    exact ihN (by omega) (by omega) (by omega)
   ·rw [e2] at s4;exact absurd s4 s2
   ·exact .inl (by omega)
   ·rw [e2] at s4;exact absurd s2 s4
   ·refine .inr (.inr ⟨by omega,s2,?_⟩)
    have small:∀ x∈a.l++b.l++c.l,wt x≤N:=by
     intro x hx
     simp only [List.mem_append] at hx
     rcases hx with (hx | hx) | hx <;> have:=bP hx <;> omega
    exact L7 (fun x _=>Bn x) (fun x hx y hy z hz=>ihN (small x hx) (small y hy) (small z hz)) h2 h4
theorem gt_trans {a b c:T}:Gt sp a b→Gt sp b c→Gt sp a c:=Bo (wt a + wt b + wt c) (by omega) (by omega) (by omega)
theorem L8 {l m X Y C:List T} (hl:l.Perm (X++C)) (hm:m.Perm (Y++C)) (h0:X≠[]) (h1:∀ y∈Y,∃ x∈X,Gt sp x y):Mu (Gt sp) l m:=by
 have cl:∀ z,l.count z=X.count z + C.count z:=fun z=>by rw [hl.count_eq,List.count_append]
 have cm:∀ z,m.count z=Y.count z + C.count z:=fun z=>by rw [hm.count_eq,List.count_append]
 have up:∀ z∈X++Y,z∈Y→∃ x∈X,Y.count x < X.count x∧Gt sp x z:=by
  refine L6 (G:=Gt sp) (fun x _=>Bn x) (fun x _ y _ z _=>gt_trans) _ fun z hz ih hy=>?_
  obtain ⟨x1,tN,JL⟩:=h1 z hy
  by_cases hc:Y.count x1 < X.count x1
  ·exact ⟨x1,tN,hc,JL⟩
  ·have:0 < X.count x1:=List.count_pos_iff.2 tN
   obtain ⟨x,hx,ph,hg⟩:=ih x1 (by simp [tN]) JL (List.count_pos_iff.1 (by omega))
   exact ⟨x,hx,ph,gt_trans hg JL⟩
 have inl:∀ {x},x∈X→x∈l:=fun hx=>hl.mem_iff.2 (by simp [hx])
 constructor
 ·obtain ⟨x,hx⟩:=List.exists_mem_of_ne_nil X h0
  by_cases hc:Y.count x < X.count x
  ·exact ⟨x,inl hx,by rw [cl,cm];omega⟩
  ·have:0 < X.count x:=List.count_pos_iff.2 hx
   obtain ⟨x',xH,Ij,_⟩:=up x (by simp [hx]) (List.count_pos_iff.1 (by omega))
   exact ⟨x',inl xH,by rw [cl,cm];omega⟩
 ·intro y hy hc
  rw [cl,cm] at hc
  have hyY:y∈Y:=List.count_pos_iff.1 (by omega)
  obtain ⟨x,hx,Ij,hg⟩:=up y (by simp [hyY]) hyY
  exact ⟨x,inl hx,by rw [cl,cm];omega,hg⟩
def Qd (X Y:List T):Prop:=∀ z,z∈X→z∉Y
theorem L9 {G:T→T→Prop} {l m X Y C:List T} (hl:l.Perm (X++C)) (hm:m.Perm (Y++C)) (hd:Qd X Y):Mu G l m↔X≠[]∧∀ y∈Y,∃ x∈X,G x y:=by
 have cl:∀ z,l.count z=X.count z + C.count z:=fun z=>by rw [hl.count_eq,List.count_append]
 have cm:∀ z,m.count z=Y.count z + C.count z:=fun z=>by rw [hm.count_eq,List.count_append]
 have inl:∀ {x},x∈X→x∈l:=fun hx=>hl.mem_iff.2 (by simp [hx])
 have inm:∀ {x},x∈Y→x∈m:=fun hx=>hm.mem_iff.2 (by simp [hx])
 have cX:∀ {z},m.count z < l.count z↔z∈X:=by
  intro z
  rw [cl,cm]
  constructor
  ·intro h;exact List.count_pos_iff.1 (by omega)
  ·intro h
   have h1:0 < X.count z:=List.count_pos_iff.2 h
   have h2:Y.count z=0:=List.count_eq_zero.2 (hd z h)
   omega
 have cY:∀ {z},l.count z < m.count z↔z∈Y:=by
  intro z
  rw [cl,cm]
  constructor
  ·intro h;exact List.count_pos_iff.1 (by omega)
  ·intro h
   have h1:0 < Y.count z:=List.count_pos_iff.2 h
   have h2:X.count z=0:=List.count_eq_zero.2 (fun hx=>hd z hx h)
   omega
 constructor
 ·rintro ⟨⟨x,_,hx⟩,h2⟩
  refine ⟨fun e=>(by have hm:=cX.1 hx;rw [e] at hm;cases hm),fun y hy=>?_⟩
  obtain ⟨x,_,hx,hg⟩:=h2 y (inm hy) (cY.2 hy)
  exact ⟨x,cX.1 hx,hg⟩
 ·rintro ⟨h1,h2⟩
  refine ⟨?_,fun y _ hy=>?_⟩
  ·obtain ⟨x,hx⟩:=List.exists_mem_of_ne_nil X h1
   exact ⟨x,inl hx,cX.2 hx⟩
  ·obtain ⟨x,hx,hg⟩:=h2 y (cY.1 hy)
   exact ⟨x,inl hx,cX.2 hx,hg⟩
theorem ym {l m X Y C:List T} (hl:l.Perm (X++C)) (hm:m.Perm (Y++C)) (hd:Qd X Y):l.Perm m↔X=[]∧Y=[]:=by
 constructor
 ·intro h
  have hc:∀ z,X.count z=Y.count z:=fun z=>by
   have h1:=hl.count_eq z
   have h2:=hm.count_eq z
   have h3:=h.count_eq z
   rw [List.count_append] at h1 h2
   omega
  constructor
  ·cases hX:X with
   | nil=>rfl
   | cons x r=>
     have h1:x∈X:=by rw [hX];simp
     have h2:0 < Y.count x:=by rw [← hc];exact List.count_pos_iff.2 h1
     exact absurd (List.count_pos_iff.1 h2) (hd x h1)
  ·cases hY:Y with
   | nil=>rfl
   | cons x r=>
     have h1:x∈Y:=by rw [hY];simp
     have h2:0 < X.count x:=by rw [hc];exact List.count_pos_iff.2 h1
     exact absurd h1 (hd x (List.count_pos_iff.1 h2))
 ·rintro ⟨rfl,rfl⟩
  exact hl.trans hm.symm
theorem Jk (l m:List T):∃ X Y C,l.Perm (X++C)∧m.Perm (Y++C)∧Qd X Y:=by
 induction l with
 | nil=>exact ⟨[],m,[],by simp,by simp,fun z hz=>by cases hz⟩
 | cons x l ih=>
   obtain ⟨X,Y,C,h1,h2,h3⟩:=ih
   by_cases hx:x∈Y
   ·have hp:Y.Perm (x::Y.erase x):=List.perm_cons_erase hx
    refine ⟨X,Y.erase x,x::C,(h1.cons x).trans List.perm_middle.symm,h2.trans ((hp.append_right C).trans List.perm_middle.symm),fun z hz hz2=>h3 z hz (List.mem_of_mem_erase hz2)⟩
   ·refine ⟨x::X,Y,C,h1.cons x,h2,fun z hz hz2=>?_⟩
    rcases List.mem_cons.1 hz with rfl | hz
    ·exact hx hz2
    ·exact h3 z hz hz2
mutual
def sb (sp:Int→Int) (f:Int→T):T→T
 | .mk k n l=>if k=2 then .mk 2 n (if sp n=3 then xJ (YP sp f l) else YP sp f l) else f n
def YP (sp:Int→Int) (f:Int→T):List T→List T
 | []=>[]
 | x::r=>sb sp f x::YP sp f r
end
theorem Bp (sp:Int→Int) (f:Int→T):∀ l,YP sp f l=l.map (sb sp f)
 | []=>rfl
 | x::r=>by simp [YP,Bp sp f r]
theorem DL {sp:Int→Int} {f:Int→T} {a:T} (h:a.k=2):(sb sp f a).k=2∧(sb sp f a).n=a.n∧(sp a.n=3→(sb sp f a).l.Perm (a.l.map (sb sp f)))∧(sp a.n≠3→(sb sp f a).l=a.l.map (sb sp f)):=by
 cases a with
 | mk k n l=>
   simp only [T.k] at h
   subst h
   simp only [sb,if_true,T.k,T.n,T.l,Bp,true_and]
   refine ⟨fun h=>by rw [if_pos h];exact fY _,fun h=>by rw [if_neg h]⟩
theorem FV {f:Int→T} {a x:T} (h:a.k=2):x∈(sb sp f a).l↔∃ y∈a.l,sb sp f y=x:=by
 obtain ⟨_,_,h1,h2⟩:=DL (sp:=sp) (f:=f) h
 by_cases hs:sp a.n=3
 ·rw [(h1 hs).mem_iff,List.mem_map]
 ·rw [h2 hs,List.mem_map]
theorem Ma {G:T→T→Prop} {g:T→T}:∀ {l m:List T},(∀ x∈l,∀ y∈m,G x y→G (g x) (g y))→Lx G l m→Lx G (l.map g) (m.map g)
 | [],_,_,h=>h.elim
 | _::_,[],_,_=>trivial
 | x::l,y::m,hg,h=>by
   simp only [List.map_cons]
   rcases h with ⟨rfl,h⟩ | h
   ·exact .inl ⟨rfl,Ma (fun x hx y hy=>hg x (List.mem_cons_of_mem _ hx) y (List.mem_cons_of_mem _ hy)) h⟩
   ·exact .inr (hg x List.mem_cons_self y List.mem_cons_self h)
theorem rA (s:Int) (g:T→T) (l:List T):side s (l.map g)=(side s l).map g:=by unfold side;split <;> simp
theorem YQ (f:Int→T):∀ {a b:T},Gt sp a b→Gt sp (sb sp f a) (sb sp f b):=by
 intro a b
 induction h:wt a + wt b using Nat.strongRecOn generalizing a b with
 | _ n ih=>
   intro xK
   have ha:=wY xK
   obtain ⟨ka,na,pa,qa⟩:=DL (sp:=sp) (f:=f) ha
   rcases oq xK with ⟨x,hx,rfl | hg⟩ | ⟨hb,h1,h2⟩
   ·exact jt ka ((FV ha).2 ⟨x,hx,rfl⟩) (.inl rfl)
   ·have:=bP hx
    exact jt ka ((FV ha).2 ⟨x,hx,rfl⟩) (.inr (ih (wt x + wt b) (by omega) rfl hg))
   obtain ⟨kb,nb,pb,qb⟩:=DL (sp:=sp) (f:=f) hb
   refine L4 ka kb (fun y hy=>?_) ?_
   ·obtain ⟨z,hz,rfl⟩:=(FV hb).1 hy
    have:=bP hz
    exact ih (wt a + wt z) (by omega) rfl (h1 z hz)
   rw [na,nb]
   rcases h2 with h2 | ⟨e,s,h2⟩ | ⟨e,s,h2⟩
   ·exact .inl h2
   ·refine .inr (.inl ⟨e,s,?_⟩)
    rw [qa s,qb (by rw [e];exact s),rA,rA]
    refine Ma (fun x hx y hy hg=>?_) h2
    have:=bP (iW.1 hx);have:=bP (iW.1 hy)
    exact ih (wt x + wt y) (by omega) rfl hg
   ·refine .inr (.inr ⟨e,s,?_⟩)
    obtain ⟨X,Y,C,p1,p2,dj⟩:=Jk a.l b.l
    obtain ⟨m1,m2⟩:=(L9 p1 p2 dj).1 h2
    have q1:=(pa s).trans (p1.map (sb sp f))
    have q2:=(pb (by rw [e];exact s)).trans (p2.map (sb sp f))
    rw [List.map_append] at q1 q2
    refine L8 q1 q2 (by simpa using m1) fun y hy=>?_
    obtain ⟨z,hz,rfl⟩:=List.mem_map.1 hy
    obtain ⟨x,hx,hg⟩:=m2 z hz
    have:=bP (p1.mem_iff.2 (List.mem_append_left C hx));have:=bP (p2.mem_iff.2 (List.mem_append_left C hz))
    exact ⟨_,List.mem_map.2 ⟨x,hx,rfl⟩,ih (wt x + wt z) (by omega) rfl hg⟩
theorem FW {G:T→T→Prop} {x y:T} (h:G x y):∀ (p q:List T),Lx G (p++x::q) (p++y::q)
 | [],q=>.inr h
 | z::p,q=>.inl ⟨rfl,FW h p q⟩
theorem UR {a b x y:T} {p q:List T} (ha:a.k=2) (hb:b.k=2) (hn:b.n=a.n) (h:Gt sp x y)
 (hl:if sp a.n=3 then a.l.Perm (p++x::q)∧b.l.Perm (p++y::q) else a.l=p++x::q∧b.l=p++y::q):Gt sp a b:=by
 have ma:∀ z,z∈a.l↔z∈p++x::q:=fun z=>by
  split at hl
  ·exact hl.1.mem_iff
  ·rw [hl.1]
 have mb:∀ z,z∈b.l↔z∈p++y::q:=fun z=>by
  split at hl
  ·exact hl.2.mem_iff
  ·rw [hl.2]
 refine L4 ha hb (fun z hz=>?_) ?_
 ·have hz:=(mb z).1 hz
  simp only [List.mem_append,List.mem_cons] at hz
  rcases hz with hz | rfl | hz
  ·exact jt ha ((ma z).2 (by simp [hz])) (.inl rfl)
  ·exact jt ha ((ma x).2 (by simp)) (.inr h)
  ·exact jt ha ((ma z).2 (by simp [hz])) (.inl rfl)
 ·by_cases hs:sp a.n=3
  ·rw [if_pos hs] at hl
   refine .inr (.inr ⟨hn,hs,?_⟩)
   refine L8 (X:=[x]) (Y:=[y]) (C:=p++q) (hl.1.trans List.perm_middle) (hl.2.trans List.perm_middle) (by simp) fun z hz=>?_
   rw [List.mem_singleton] at hz
   subst hz
   exact ⟨x,by simp,h⟩
  ·rw [if_neg hs] at hl
   refine .inr (.inl ⟨hn,hs,?_⟩)
   rw [hl.1,hl.2]
   unfold side
   split
   ·rw [List.reverse_append,List.reverse_append,List.reverse_cons,List.reverse_cons,List.append_assoc,List.append_assoc]
    exact FW h _ _
   ·exact FW h _ _
theorem T.ext {a b:T} (h1:a.k=b.k) (h2:a.n=b.n) (h3:a.l=b.l):a=b:=by
 cases a;cases b;simp only [T.k,T.n,T.l] at h1 h2 h3;rw [h1,h2,h3]
end
end Go.fN
end
