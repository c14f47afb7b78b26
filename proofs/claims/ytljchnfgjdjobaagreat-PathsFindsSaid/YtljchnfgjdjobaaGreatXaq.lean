/- Part 17 of 20 of the proof. -/
import Derived.Test.YtljchnfgjdjobaaGreatXap
import Derived.Test.YtljchnfgjdjobaaGreatXal
import Derived.Test.YtljchnfgjdjobaaGreatXan
import Derived.Test.YtljchnfgjdjobaaGreatXai
import Derived.KernelRfl
import Derived.Test.YtljchnfgjdjobaaGreatXaj
import Derived.Test.YtljchnfgjdjobaaGreatXaf
import Derived.Test.YtljchnfgjdjobaaGreatXam
set_option linter.unusedVariables false
set_option linter.unusedSimpArgs false
set_option linter.defProp false
set_option linter.unusedSectionVars false
section
set_option maxRecDepth 100000
namespace Go.aI
open Go Go.Proofs Go.dD
theorem Vv {c:UInt8} (h:xY c=false):QM c:=by
 have e:(((c.toNat:Nat):Int).toNat.toUInt8)=c:=by simp
 unfold xY at h
 rw [e,firstIdx_nonneg] at h
 simp only [abQ,decide_eq_false_iff_not,ac3] at h
 obtain ⟨⟨h1,h2⟩,h3⟩:=h
 have k:∀ n:Nat,c.toNat=n→c=n.toUInt8:=fun n hn=>by rw [← hn];simp
 unfold QM
 intro hh
 rcases hh with hh | hh | hh | hh | hh
 ·exact h1 hh
 ·exact h2 hh
 ·have:=k 40 (by omega);subst this;simp at h3
 ·have:=k 41 (by omega);subst this;simp at h3
 ·have:=k 44 (by omega);subst this;simp at h3
theorem NH {s:ByteArray} (h:oA s=true):oB s:=by
 unfold oA at h
 simp only [zC,abC,decide_eq_false_iff_not,abc] at h
 obtain ⟨⟨h1,h2⟩,h3⟩:=h
 refine ⟨fun i hi=>Vv ?_,by omega,by omega⟩
 have hl:i < s.data.toList.length:=hi
 rw [th,Hj hl]
 exact h3 _ (acA hl)
theorem Vw {s:ByteArray} (h:¬ 0≤MS s):Cr s=0:=by
 refine Classical.byContradiction fun dP=>h ?_
 unfold MS
 split
 ·exact afV _
 ·have:=firstIdx_nonneg s 95
  have hb:s.data.toList.any (· == (95:UInt8))=true:=by
   rw [afS]
   have hp:0 < s.data.toList.countP (· == (95:UInt8)):=Nat.pos_of_ne_zero dP
   obtain ⟨x,hx,h2⟩:=List.countP_pos_iff.1 hp
   exact ⟨x,hx,h2⟩
  rw [hb] at this
  exact of_decide_eq_true this
theorem IA {s:Sg}:∀ n i,i + n=s.aU.length→mj (s.aU.drop i) (s.aU.take i)=true→∀ j,i≤j→j < s.aU.length→Vt s j
 | 0,i,e,_,j,h1,h2=>by omega
 | n + 1,i,e,h,j,h1,h2=>by
   have hl:i < s.aU.length:=by omega
   have ht:s.aU.take i++[s.aU.getD i default]=s.aU.take (i + 1):=by
    rw [adC,th,Hj hl];rfl
   rw [pA hl,ht] at h
   split at h
   ·rename_i hc
    obtain ⟨c1,c2,c3⟩:=hc
    by_cases e2:j=i
    ·subst e2
     refine ⟨NH c1,Vw c2,fun k hk he=>c3 ?_⟩
     rw [← he,th,Hj (by omega)]
     exact List.mem_take_iff_getElem.2 ⟨k,by omega,rfl⟩
    ·exact IA n (i + 1) (by omega) h j (by omega) h2
   ·cases h
theorem Sq {s:Sg} {l:List Int} (h:∀ a∈l,GG s.aU.length a=true):jj s l:=fun a ha=>by
 have:=h a ha
 simpa [GG] using this
theorem afh {s:Sg} {o:jg} (h:px o s.aU.length=true):NC s o:=by
 unfold px at h
 rw [Ix] at h
 simp only [zC,abU,decide_eq_true_eq,abC,ac3] at h
 obtain ⟨h1,h2,h3,h4,h5,h6⟩:=h
 exact ⟨NH h1,by omega,by omega,by omega,Sq fun a ha=>by simpa using h6 a ha,Sq fun a ha=>by rw [aay.1 ha];exact h5⟩
theorem Sr {s:Sg}:∀ n i,i + n=s.ops.length→zp s.aU.length (s.ops.drop i) ((s.ops.take i).map kr)=true→∀ j,i≤j→j < s.ops.length→Wf s j
 | 0,i,e,_,j,h1,h2=>by omega
 | n + 1,i,e,h,j,h1,h2=>by
   have hl:i < s.ops.length:=by omega
   have ht:(s.ops.take i).map kr++[kr (s.ops.getD i default)]=(s.ops.take (i + 1)).map kr:=by
    rw [adC,ab8,th,Hj hl];rfl
   rw [uw hl,ht] at h
   split at h
   ·rename_i hc
    obtain ⟨c1,c3⟩:=hc
    by_cases e2:j=i
    ·subst e2
     refine ⟨afh c1,fun k hk he=>c3 ?_⟩
     obtain ⟨m1,m2,m3⟩:=he
     have uY:kr (s.ops.getD k default)=kr (s.ops.getD j default):=by unfold kr GH;rw [m1,m2,m3]
     rw [← uY,aaw]
     refine ⟨_,?_,rfl⟩
     rw [th,Hj (by omega)]
     exact List.mem_take_iff_getElem.2 ⟨k,by omega,rfl⟩
    ·exact Sr n (i + 1) (by omega) h j (by omega) h2
   ·cases h
theorem wz {s:Sg}:vS s↔jw s=true:=by
 refine ⟨NG,fun h=>?_⟩
 unfold jw at h
 simp only [zC,decide_eq_true_eq] at h
 obtain ⟨⟨⟨h1,h2⟩,h3⟩,h4⟩:=h
 exact ⟨by omega,by omega,fun i hi=>IA s.aU.length 0 (by omega) h3 i (by omega) hi,fun i hi=>Sr s.ops.length 0 (by omega) h4 i (by omega) hi⟩
theorem afi (s:Sg) (ps ss:List Int) (hs:On s ps ss):Pure Tryz.prog 25 [s.av,dE ps ss] (.int .i64 (jy s ps ss)):=by
 have h:=c25 s ps ss hs
 unfold jy
 by_cases h1:jw s=true
 ·rw [if_pos (wz.2 h1)] at h
  rw [if_pos h1]
  by_cases h2:dQ s ps ss
  ·rw [if_pos h2] at h ⊢;exact h
  ·rw [if_neg h2] at h ⊢;exact h
 ·rw [if_neg (fun h2=>h1 (wz.1 h2))] at h
  rw [if_neg h1];exact h
end Go.aI
end
section
namespace Go.aI
open Go Go.dD
def nt (l:List Nd) (i:Int):T:=(l.getD i.toNat default).1
def nk (l:List Nd) (i:Int):List Int:=(l.getD i.toNat default).2
def iv:List T→Nat→List Int
 | [],_=>[]
 | x::r,i=>((i + wt x - 1:Nat):Int)::iv r (i + wt x)
mutual
def cj:T→Nat→List Nd
 | .mk k n l,i=>fm l i++[(.mk k n l,iv l i)]
def fm:List T→Nat→List Nd
 | [],_=>[]
 | x::r,i=>cj x i++fm r (i + wt x)
end
theorem NI (t:T) (i:Nat):cj t i=fm t.l i++[(t,iv t.l i)]:=by cases t;rw [cj];rfl
mutual
theorem fX:∀ (t:T) (i:Nat),(cj t i).length=wt t
 | .mk k n l,i=>by rw [cj,aaj,nh,wt];simp;omega
theorem nh:∀ (l:List T) (i:Nat),(fm l i).length=ft l
 | [],_=>rfl
 | x::r,i=>by rw [fm,aaj,fX,nh,ft]
end
theorem yx:∀ (l:List T) (x:T) (i:Nat),fm (l++[x]) i=fm l i++cj x (i + ft l)
 | [],x,i=>by simp [fm,ft]
 | y::r,x,i=>by rw [List.cons_append,fm,fm,yx r x,abe,ft];congr 3;omega
theorem vx:∀ (l:List T) (x:T) (i:Nat),iv (l++[x]) i=iv l i++[((i + ft l + wt x - 1:Nat):Int)]
 | [],x,i=>by simp [iv,ft]
 | y::r,x,i=>by rw [List.cons_append,iv,iv,vx r x,ft];simp;omega
theorem yy:∀ (l:List T) (i:Nat),(iv l i).length=l.length
 | [],_=>rfl
 | x::r,i=>by rw [iv,List.length_cons,yy,List.length_cons]
def NP (l:List Nd):Prop:=∀ (i:Nat),i < l.length→(nk l i).map (nt l)=(nt l i).l∧∀ k∈nk l i,0≤k∧k < (i:Int)
theorem G8 {p q:List Nd} {k:Int} (h0:0≤k) (h:k < p.length):nt (p++q) k=nt p k:=by
 unfold nt
 rw [th,zz (by omega),← th]
theorem Vx {p q:List Nd} {k:Int} (h0:0≤k) (h:k < p.length):nk (p++q) k=nk p k:=by
 unfold nk
 rw [th,zz (by omega),← th]
theorem yz {p q:List Nd} {ks:List Int} (h:∀ k∈ks,0≤k∧k < (p.length:Int)):ks.map (nt (p++q))=ks.map (nt p):=
 ab2 fun k hk=>G8 (h k hk).1 (h k hk).2
theorem NP.snoc {p:List Nd} (h:NP p) {t:T} {ks:List Int} (h1:ks.map (nt p)=t.l) (h2:∀ k∈ks,0≤k∧k < (p.length:Int)):NP (p++[(t,ks)]):=by
 intro i hi
 rw [aaj,aeR] at hi
 by_cases e:i=p.length
 ·subst e
  have e1:nt (p++[(t,ks)]) (p.length:Int)=t:=by simp [nt]
  have e2:nk (p++[(t,ks)]) (p.length:Int)=ks:=by simp [nk]
  rw [e1,e2,yz h2,h1]
  exact ⟨rfl,h2⟩
 ·have hl:i < p.length:=by omega
  obtain ⟨h3,h4⟩:=h i hl
  rw [G8 (by omega) (by omega),Vx (by omega) (by omega),yz fun k hk=>⟨(h4 k hk).1,by have:=(h4 k hk).2;omega⟩]
  exact ⟨h3,h4⟩
mutual
theorem Cs:∀ (t:T) (p:List Nd),NP p→NP (p++cj t p.length)∧nt (p++cj t p.length) ((p.length + wt t - 1:Nat):Int)=t
 | .mk k n l,p,h=>by
   obtain ⟨h1,h2,h3⟩:=EK l p h
   rw [cj,← abe]
   refine ⟨h1.snoc h2 fun k hk=>by have:=h3 k hk;rw [aaj,nh];omega,?_⟩
   have e:p.length + wt (.mk k n l) - 1=(p++fm l p.length).length:=by rw [aaj,nh,wt];omega
   rw [e,abe,← abe]
   unfold nt
   rw [zB,th,abx (zy _),acG];rfl
theorem EK:∀ (l:List T) (p:List Nd),NP p→NP (p++fm l p.length)∧(iv l p.length).map (nt (p++fm l p.length))=l∧∀ k∈iv l p.length,0≤k∧k < ((p.length + ft l:Nat):Int)
 | [],p,h=>⟨by rw [fm,abJ];exact h,rfl,fun k hk=>by cases hk⟩
 | x::r,p,h=>by
   obtain ⟨h1,h2⟩:=Cs x p h
   have hl:(p++cj x p.length).length=p.length + wt x:=by rw [aaj,fX]
   obtain ⟨h3,h4,h5⟩:=EK r (p++cj x p.length) h1
   rw [hl] at h3 h4 h5
   rw [fm,← abe,ft]
   have hw:=dt x
   refine ⟨h3,?_,fun k hk=>?_⟩
   ·rw [iv,List.map_cons,h4,G8 (by omega) (by rw [hl];omega),h2]
   ·rw [iv] at hk
    rcases aak.1 hk with rfl | hk
    ·constructor <;> omega
    ·have:=h5 k hk;constructor <;> omega
end
mutual
theorem EL {p:T→Prop} (hp:∀ t,p t→∀ x∈t.l,p x):∀ (t:T) (i:Nat),p t→∀ q∈cj t i,p q.1
 | .mk k n l,i,h,q,hq=>by
   rw [cj] at hq
   rcases abF.1 hq with hq | hq
   ·exact AP hp l i (fun x hx=>hp _ h x hx) q hq
   ·rw [aay.1 hq];exact h
theorem AP {p:T→Prop} (hp:∀ t,p t→∀ x∈t.l,p x):∀ (l:List T) (i:Nat),(∀ x∈l,p x)→∀ q∈fm l i,p q.1
 | [],i,h,q,hq=>by cases hq
 | x::r,i,h,q,hq=>by
   rw [fm] at hq
   rcases abF.1 hq with hq | hq
   ·exact EL hp x i (h x (by simp)) q hq
   ·exact AP hp r _ (fun y hy=>h y (by simp [hy])) q hq
end
def eI (q:Int→Int→Bool):List Int→List Int→List Int×List Int
 | [],b=>([],b)
 | x::r,b=>if b.findIdx (q x) < b.length then eI q r (b.eraseIdx (b.findIdx (q x))) else (x::(eI q r b).1,(eI q r b).2)
theorem vz {f:Int→T}:∀ {b:List Int} {j:Nat},j < b.length→(b.map f).Perm (f (b.getD j 0)::(b.eraseIdx j).map f)
 | [],j,h=>by cases h
 | y::r,0,h=>by simp
 | y::r,j + 1,h=>by
   have ih:=vz (f:=f) (b:=r) (j:=j) (by simpa using h)
   simp only [List.eraseIdx_cons_succ,List.map_cons,List.getD_cons_succ] at ih ⊢
   exact (ih.cons _).trans (List.Perm.swap _ _ _)
theorem qg {q:Int→Int→Bool}:∀ (a b:List Int),(∀ x∈(eI q a b).1,x∈a)∧∀ y∈(eI q a b).2,y∈b
 | [],b=>⟨fun x hx=>hx,fun y hy=>hy⟩
 | x::r,b=>by
   rw [eI]
   split
   ·obtain ⟨i1,i2⟩:=qg (q:=q) r (b.eraseIdx (b.findIdx (q x)))
    exact ⟨fun u hu=>by simp [i1 u hu],fun y hy=>adv (i2 y hy)⟩
   ·obtain ⟨i1,i2⟩:=qg (q:=q) r b
    refine ⟨fun u hu=>?_,i2⟩
    rcases aak.1 hu with rfl | hu
    ·simp
    ·simp [i1 u hu]
theorem lR {q:Int→Int→Bool} {f g:Int→T}:∀ (a b:List Int),(∀ x∈a,∀ y∈b,q x y=true↔f x=g y)→
 ∃ C,(a.map f).Perm ((eI q a b).1.map f++C)∧(b.map g).Perm ((eI q a b).2.map g++C)∧Qk ((eI q a b).1.map f) ((eI q a b).2.map g)
 | [],b,h=>⟨[],by simp [eI],by simp [eI],fun z hz=>by simp [eI] at hz⟩
 | x::r,b,h=>by
   rw [eI]
   split
   ·rename_i aM
    have hq:=afR (xs:=b) (p:=q x) (w:=aM)
    have hb:b.getD (b.findIdx (q x)) 0=b[b.findIdx (q x)]:=by simp [aM]
    have hm:b.getD (b.findIdx (q x)) 0∈b:=by rw [hb];exact acA aM
    have hfg:f x=g (b.getD (b.findIdx (q x)) 0):=(h x (by simp) _ hm).1 (by rw [hb];exact hq)
    obtain ⟨C,i1,i2,i3⟩:=lR (q:=q) (f:=f) (g:=g) r (b.eraseIdx (b.findIdx (q x))) fun u hu y hy=>h u (by simp [hu]) y (adv hy)
    refine ⟨f x::C,?_,?_,i3⟩
    ·exact (i1.cons _).trans List.perm_middle.symm
    ·refine (vz aM).trans ?_
     rw [← hfg]
     exact (i2.cons _).trans List.perm_middle.symm
   ·rename_i jZ
    have hn:∀ y∈b,¬ q x y=true:=fun y hy hq=>jZ (aet ⟨y,hy,hq⟩)
    obtain ⟨C,i1,i2,i3⟩:=lR (q:=q) (f:=f) (g:=g) r b fun u hu y hy=>h u (by simp [hu]) y hy
    refine ⟨C,i1.cons _,i2,fun z hz xU=>?_⟩
    rcases aak.1 hz with rfl | hz
    ·obtain ⟨y,hy,e⟩:=aaw.1 xU
     have hyb:=(qg (q:=q) r b).2 y hy
     exact hn y hyb ((h x (by simp) y hyb).2 e.symm)
    ·exact i3 z hz xU
theorem G9 {q:Int→Int→Bool} {f g:Int→T} {a b:List Int} (h:∀ x∈a,∀ y∈b,q x y=true↔f x=g y) (hl:a.length=b.length):(eI q a b).1=[]↔(a.map f).Perm (b.map g):=by
 obtain ⟨C,h1,h2,h3⟩:=lR a b h
 rw [qJ h1 h2 h3,acC,acC]
 refine ⟨fun h0=>⟨h0,?_⟩,fun h0=>h0.1⟩
 have e1:=h1.length_eq
 have e2:=h2.length_eq
 rw [h0] at e1
 simp only [aaj,acz,List.length_nil] at e1 e2
 exact abE.1 (by omega)
theorem NJ {q:Int→Int→Bool} {f g:Int→T} {G:T→T→Prop} {a b:List Int} (h:∀ x∈a,∀ y∈b,q x y=true↔f x=g y) :
 Mu G (a.map f) (b.map g)↔(eI q a b).1≠[]∧∀ y∈(eI q a b).2,∃ x∈(eI q a b).1,G (f x) (g y):=by
 obtain ⟨C,h1,h2,h3⟩:=lR a b h
 rw [Mw h1 h2 h3,Ne,acC]
 refine and_congr Iff.rfl ⟨fun hh y hy=>?_,fun hh y hy=>?_⟩
 ·obtain ⟨x,hx,hg⟩:=hh (g y) (aaw.2 ⟨y,hy,rfl⟩)
  obtain ⟨u,hu,rfl⟩:=aaw.1 hx
  exact ⟨u,hu,hg⟩
 ·obtain ⟨v,hv,rfl⟩:=aaw.1 hy
  obtain ⟨u,hu,hg⟩:=hh v hv
  exact ⟨f u,aaw.2 ⟨u,hu,rfl⟩,hg⟩
end Go.aI
end
section
set_option maxRecDepth 100000
namespace Go.aI
open Go Go.Proofs Go.dD
def kB (p:Nd):AV:=.agg [.int .i64 p.1.k,.int .i64 p.1.n,.al 0 (bN p.1.l),.al 0 (ints p.2)]
def dz (l:List Nd):List AV:=l.map kB
def kC:List Nd→AV
 | []=>.ag
 | p::r=>.al 4 (dz (p::r))
theorem fp (l:List Nd):(dz l).length=l.length:=by simp [dz]
theorem uD (p:Nd):(kB p).cells.length=4:=rfl
theorem EM (p:Nd):(kB p).cells.all AV.one=true:=rfl
theorem Km (l:List Nd):qR 4 (dz l)=True:=by
 simp only [qR,eq_iff_iff,iff_true]
 intro y hy
 obtain ⟨z,_,rfl⟩:=aaw.1 hy
 exact ⟨rfl,rfl⟩
theorem EN (p:Nd):qR 4 [kB p]=True:=Km [p]
theorem Ha (l:List Nd) (p:Nd):dz l++[kB p]=dz (l++[p]):=by simp [dz]
theorem qh (n:Nat) (l:List Nd):aw n (dz l)=true:=
 (bg _ _).2 fun x hx=>by
   obtain ⟨p,_,rfl⟩:=aaw.1 hx
   simp [kB,AV.bc,ee,aJ,aw]
theorem QP (vs:List Nd) (p:Nd) (o:Nat) (ψ:List AV→Prop):bC 4 64 (kC vs) (.al o [kB p]) ψ=((vs.length + 1) * 64≤140737488355328∧ψ (dz (vs++[p]))):=by
 cases vs with
 | nil=>simp [kC,lK,EN,dz]
 | cons v r=>
   show bC 4 64 (.al 4 (dz (v::r))) _ ψ=_
   rw [jv,EN,fp,Ha]
   simp
theorem QQ {l:List Nd} (h:l≠[]):AV.al 4 (dz l)=kC l:=by
 cases l with
 | nil=>exact absurd rfl h
 | cons _ _=>rfl
theorem rI (l:List Nd):(kC l).one=true∧(kC l).val=true∧(kC l).cells=[kC l]∧(∀ n,(kC l).bc n=true)∧aO 1 (kC l)=True∧∀ (H:List aa) (φ:AV→Prop),fR (kC l) H φ=(l.length < 9223372036854775808→φ (.int .i64 l.length)):=by
 cases l with
 | nil=>exact ⟨rfl,rfl,rfl,fun _=>rfl,by simp [kC,aO],fun _ φ=>by show φ _=_;simp⟩
 | cons p r=>exact ⟨rfl,rfl,rfl,fun n=>by rw [kC,bA];exact qh n _,by simp [kC,aO],fun _ φ=>by show (_→φ _)=_;rw [fp]⟩
theorem QR (l:List Nd):aO 1 (kC l).ab=True∧∀ (H:List aa) (φ:AV→Prop),fR (kC l).ab H φ=(l.length < 9223372036854775808→φ (.int .i64 l.length)):=by
 cases l with
 | nil=>exact ⟨by simp [kC,AV.ab,aO],fun _ φ=>by show φ _=_;simp⟩
 | cons p r=>exact ⟨by simp [kC,AV.ab,aO],fun _ φ=>by show (_→φ _)=_;rw [fp]⟩
theorem NK (t:T) (ks:List Int) (φ:AV→Prop):cS (some (.cells [.int .i64 t.k,.int .i64 t.n,.al 0 (bN t.l),cC ks])) (some 4) 0 φ=φ (kB (t,ks)):=by
 cases ks <;> simp [cS,kB,cC,AV.drop,ints]
theorem QS (p:Nd):a9 (kB p)=kB p:=rfl
theorem Ct (p:Nd):(kB p).val=true:=rfl
theorem aa5:∀ (N:Nat) (t:T),wt t≤N→∀ (xs:List Nd) (H:List aa),(xs.length + wt t) * 64≤140737488355328→
 aA Tryz.prog 187 [kC xs,t.av] H fun r H'=>r=kC (xs++cj t xs.length)∧H'=H:=by
 intro N
 induction N with
 | zero=>intro t ht;have:=dt t;omega
 | succ N ih=>
 intro t ht xs H hb
 have hw:=vn t
 have V8:=fW t.l
 refine Yg.2.calls rfl ?_
 simp only [Yg,aH]
 simp +contextual only [bdN,sZ,Nat.reduceEqDiff,Nat.reduceAdd,↓reduceIte,reduceCtorEq]
 have gW:∀ i,(xs++fm (t.l.take i) xs.length).length=xs.length + ft (t.l.take i):=fun i=>by rw [aaj,nh]
 refine aq t.l.length (fun i=>True) (fun i=>[(0,kC (xs++fm (t.l.take i) xs.length)),(3,.ah t.av),(5,.ptr H.length 0),(6,.int .i64 i)])
  (fun i=>H++[.cells [.int .i64 t.k,.int .i64 t.n,.al 0 (bN t.l),cC (iv (t.l.take i) xs.length)]]) ⟨trivial,ay (by simp [fm]) rfl⟩ fun i hi hI=>?_
 have hle:=cT t.l i
 have sg:=yy (t.l.take i) xs.length
 have Qn:(t.l.take i).length≤t.l.length:=by simp;omega
 obtain ⟨f1,f2,f3,f4,f5,f6⟩:=rI (xs++fm (t.l.take i) xs.length)
 simp +contextual only [sZ,Nat.reduceEqDiff,Nat.reduceAdd,↓reduceIte,reduceCtorEq]
 refine fun _=>⟨fun aM=>⟨bp aM,?_⟩,fun fV=>?_⟩
 ·have aM:=bp aM
  have hwt:=mQ aM
  have hnext:=cT t.l (i + 1)
  have e2:t.l.take (i + 1)=t.l.take i++[t.l.getD i default]:=by rw [abN aM];simp [aM]
  have hwp:=dt (t.l.getD i default)
  refine af (ih (t.l.getD i default) (by have:=ch (dM aM);omega) _ _ (by rw [gW];omega)) ?_
  rintro r G' ⟨rfl,rfl⟩
  have e3:xs++fm (t.l.take i) xs.length++cj (t.l.getD i default) (xs++fm (t.l.take i) xs.length).length=xs++fm (t.l.take (i + 1)) xs.length:=by
   rw [gW,e2,yx,abe]
  rw [e3]
  obtain ⟨f5,f6⟩:=QR (xs++fm (t.l.take (i + 1)) xs.length)
  have vP:=gW (i + 1)
  simp +contextual only [f5,f6,vP,xJ,xK,kq,dZ,List.getD_cons_succ,List.getD_cons_zero,af1,aeJ,sZ,Nat.reduceEqDiff,Nat.reduceAdd,Nat.reduceLT,↓reduceIte,reduceCtorEq]
  refine fun _=>⟨by omega,i + 1,aM,by omega,ay (by rw [aj i (by omega)]) ?_⟩
  have e4:IntKind.i64.wrap (((xs.length + ft (t.l.take (i + 1)):Nat):Int) - 1)=((xs.length + ft (t.l.take i) + wt (t.l.getD i default) - 1:Nat):Int):=by
   rw [cp _ (by omega)];omega
  rw [e4,e2,vx]
 ·have lW:i=t.l.length:=by have:=bZ fV;omega
  subst lW
  have vP:=gW t.l.length
  rw [aby] at vP hle ⊢
  simp +contextual only [NK,QS,Ct,uD,QP,vP,sZ,Nat.reduceEqDiff,↓reduceIte,reduceCtorEq]
  refine ⟨by omega,aT H.length (zy _) (by rw [aD,if_pos rfl,bA];exact qh _ _) ⟨?_,by simp⟩⟩
  rw [aD,if_pos rfl,QQ (by simp),NI,abe]
end Go.aI
end
section
set_option maxRecDepth 100000
namespace Go.aI
open Go Go.Proofs Go.dD
structure Vy (ps:List Int) (l:List Nd):Prop where
 ne:l≠[]
 len:l.length≤100000000
 np:NP l
 kl:∀ i:Nat,i < l.length→(nk l i).length≤100000000
 kd:∀ i:Nat,i < l.length→(nt l i).k=1∨(nt l i).k=2
 op:∀ i:Nat,i < l.length→(nt l i).k=2→0≤(nt l i).n∧(nt l i).n < ps.length
structure Tb where
 ps:List Int
 ss:List Int
 a:List Nd
 b:List Nd
def Tb.O (c:Tb):Od:=iq c.ps c.ss
def Tb.f (c:Tb) (x:Int):T:=norm c.O (nt c.a x)
def Tb.g (c:Tb) (y:Int):T:=norm c.O (nt c.b y)
def Tb.tE (c:Tb) (i k:Int):Prop:=c.f i=c.g k
def Tb.tR (c:Tb) (i k:Int):Prop:=Gt c.O.sp (c.f i) (c.g k)
structure Tb.Ok (c:Tb):Prop where
 va:Va c.ps c.ss
 a:Vy c.ps c.a
 b:Vy c.ps c.b
theorem Vy.kids {ps:List Int} {l:List Nd} (h:Vy ps l) {i:Int} (h0:0≤i) (h1:i < l.length):(nk l i).map (nt l)=(nt l i).l∧(∀ k∈nk l i,0≤k∧k < i)∧(nk l i).length≤100000000:=by
 obtain ⟨n,rfl⟩:=ab1 h0
 obtain ⟨h2,h3⟩:=h.np n (by omega)
 exact ⟨h2,h3,h.kl n (by omega)⟩
theorem Vy.kind {ps:List Int} {l:List Nd} (h:Vy ps l) {i:Int} (h0:0≤i) (h1:i < l.length):((nt l i).k=1∨(nt l i).k=2)∧((nt l i).k=2→0≤(nt l i).n∧(nt l i).n < ps.length):=by
 obtain ⟨n,rfl⟩:=ab1 h0
 exact ⟨h.kd n (by omega),h.op n (by omega)⟩
def Row (es:List AV) (H:List aa) (nb:Nat) (j m:Int) (Q:Prop):Prop:=
 ∃ r bs x,es.getD j.toNat .any=.aZ r 0 nb nb∧j.toNat < es.length∧H[r]?=some (.cells bs)∧m.toNat < bs.length∧bs.getD m.toNat .any=.bool x∧(x=true↔Q)
structure TbX (c:Tb) (x:Nat) (i k:Int) (H:List aa) (ie ne ce:Nat) (ese:List AV) (ig ng cg:Nat) (esg:List AV):Prop where
 x:H[x]?=some (.cells [.al 0 (ints c.ps),.al 0 (ints c.ss),.al 0 (dz c.a),.al 0 (dz c.b),.aZ ie 0 ne ce,.aZ ig 0 ng cg])
 e:H[ie]?=some (.cells ese)
 g:H[ig]?=some (.cells esg)
 ne:i < ne
 ng:i < ng
 rows:∀ j m:Int,0≤j→0≤m→m < c.b.length→(j < i∨j=i∧m < k)→Row ese H c.b.length j m (c.tE j m)∧Row esg H c.b.length j m (c.tR j m)
def Ss (c:Tb) (x:Nat) (i k:Int) (H:List aa):Prop:=∃ ie ne ce ese ig ng cg esg,TbX c x i k H ie ne ce ese ig ng cg esg
theorem IB (e o:Nat) (l:List Nd) (k:IntKind) (i:Int) (φ:AV→Prop):aG e (.al o (dz l)) (.int k i) φ=((0≤i∧i < l.length)∧φ (.ah (kB (l.getD i.toNat default)))):=by
 simp only [aG,fp,eq_iff_iff]
 constructor
 ·rintro ⟨h0,h,h2⟩;refine ⟨by omega,?_⟩;simpa [dz,h] using h2
 ·rintro ⟨⟨h0,h⟩,h2⟩;have h:i.toNat < l.length:=by omega
  refine ⟨h0,h,?_⟩;simpa [dz,h] using h2
theorem qi (o:Nat) (l:List Nd):(∀ (own:Nat) (xs:List AV),AV.al o (dz l)=AV.al own xs→∀ z∈xs,z.cells.length=4)=True:=by
 simp only [eq_iff_iff,iff_true]
 intro own xs e z hz
 cases e
 obtain ⟨p,_,rfl⟩:=aaw.1 hz
 rfl
theorem uE (e id N c:Nat) (k:IntKind) (i:Int) (φ:AV→Prop):aG e (.aZ id 0 N c) (.int k i) φ=((0≤i∧i < N)∧φ (.ptr id (i.toNat * e))):=by
 simp only [aG,abK,eq_iff_iff]
 constructor
 ·rintro ⟨h0,h,h2⟩;exact ⟨by omega,h2⟩
 ·rintro ⟨⟨h0,h⟩,h2⟩;exact ⟨h0,by omega,h2⟩
theorem QT (p:Nd) (φ:AV→Prop):au 0 (some 3) (.ah (kB p)) φ=φ (.ah p.1.av):=by
 obtain ⟨⟨k,n,l⟩,ks⟩:=p
 simp [au,kB,apart,AV.cells,T.av,T.k,T.n,T.l]
theorem KE (p:Nd) (φ:AV→Prop):au 3 none (.ah (kB p)) φ=φ (.ah (.al 0 (ints p.2))):=by
 simp [au,kB,apart,AV.cells,AV.one]
theorem gP (l:List Nd) (i:Int):(l.getD i.toNat default).2=nk l i:=rfl
theorem kD (l:List Nd) (i:Int):(l.getD i.toNat default).1=nt l i:=rfl
theorem bj {l:List Int} {n:Nat} (h:n < l.length):l.getD n 0∈l:=by simp [h]
theorem fY {l:List Int} {y:Int} (h:y∈l):∃ m,m < l.length∧l.getD m 0=y:=by
 obtain ⟨m,hm,e⟩:=List.mem_iff_getElem.1 h
 exact ⟨m,hm,by simp [hm,e]⟩
theorem fD {H:List aa} {s:Nat} {b:Bool} {Q:AV→Prop} (h:Q (.bool b)):bP H.length [.t s] [(s,.bool b)] H fun r H'=>Q r∧H'=H:=
 aT H.length (zy _) (by rw [aD,if_pos rfl];rfl) ⟨by rw [aD,if_pos rfl];exact h,aby⟩
theorem aa6 (ps ss:List Int) (a b:T) (ha:0≤a.n∧a.n < ps.length) (hb:0≤b.n∧b.n < ps.length):Pure Tryz.prog 158 [dE ps ss,a.av,b.av] (.bool (decide ((iq ps ss).pl a.n=(iq ps ss).pl b.n))):=by
 refine fun H=>XV.2.calls rfl ?_
 simp only [XV,aH]
 obtain ⟨q1,q2,q3,q4,q5,q6⟩:=aR ps ss
 simp +contextual only [q1,rv,aN,sZ,Nat.reduceEqDiff,Nat.reduceAdd,↓reduceIte,reduceCtorEq]
 exact ⟨ha,hb,aK rfl rfl⟩
theorem Hb (l:List Int) {i:Nat} (h:i < l.length):(l.drop (l.length - i)).reverse++[l.getD (l.length - 1 - i) 0]=(l.drop (l.length - (i + 1))).reverse:=by
 have e:l.drop (l.length - (i + 1))=l.getD (l.length - 1 - i) 0::l.drop (l.length - i):=by
  rw [aav (by omega)]
  have e1:l.length - (i + 1) + 1=l.length - i:=by omega
  have e2:l.length - (i + 1)=l.length - 1 - i:=by omega
  rw [e1];congr 1
  have h3:l.length - 1 - i < l.length:=by omega
  simp [h3,e2]
 rw [e,List.reverse_cons]
theorem EO (vs:List Int):(cC vs).ab.ab.le (.al 0 (ints vs)):=by
 have:=ri vs
 cases vs <;> exact this
theorem aa7 (ps ss:List Int) (a:T) (l:List Int) (Je:l.length≤100000000) (ha:0≤a.n∧a.n < ss.length):Pure Tryz.prog 227 [dE ps ss,a.av,.al 0 (ints l)] (.al 0 (ints (bt (ss.getD a.n.toNat 0) l))):=by
 refine fun H=>YP.2.calls rfl ?_
 simp only [YP,aH]
 obtain ⟨q1,q2,q3,q4,q5,q6⟩:=aR ps ss
 simp +contextual only [q1,sT,aN,sZ,Nat.reduceEqDiff,Nat.reduceAdd,↓reduceIte,reduceCtorEq]
 refine ⟨ha,fun h=>?_,fun h=>?_⟩
 ·refine aK (by rw [bA,aJ]) ?_
  rw [bt,if_neg h]
 ·intro hl
  refine aq l.length (fun i=>True) (fun i=>[(2,.al 0 (ints l)),(7,cC (l.drop (l.length - i)).reverse),(8,.int .i64 ((l.length:Int) - 1 - i))]) (fun i=>H) ⟨trivial,ay ?_ rfl⟩ fun i hi _=>?_
  ·rw [cp _ (by omega)];simp [cC]
  have hlen:(l.drop (l.length - i)).reverse.length=i:=by simp;omega
  have Oj:0≤(i:Int):=by omega
  simp +contextual only [aN,kq,dZ,hlen,sZ,Nat.reduceEqDiff,Nat.reduceAdd,↓reduceIte,reduceCtorEq]
  clear hlen
  refine ⟨fun h1=>?_,fun h1=>?_⟩
  ·refine ⟨by omega,by omega,i + 1,by omega,by omega,ay ?_ rfl⟩
   have e:((l.length:Int) - 1 - i).toNat=l.length - 1 - i:=by omega
   have e5:(l.length:Int) - 1 - i - 1=l.length - 1 - ((i + 1:Nat):Int):=by omega
   rw [cp _ (by omega),e,Hb l (by omega),e5]
  ·have lW:i=l.length:=by omega
   subst lW
   refine ⟨H.length,zy _,_,EO _,by rw [bA,aJ],?_,aby⟩
   rw [acG,List.drop_zero,bt,if_pos h]
theorem afk {c:Tb} (hc:c.Ok) {x:Nat} {i k:Int} {H:List aa} (hT:Ss c x i k H) (hi:0≤i∧i < c.a.length) (hk:0≤k∧k < c.b.length) :
 aA Tryz.prog 224 [.ptr x 0,.int .i64 i,.int .i64 k] H fun r H'=>(∃ b:Bool,r=.bool b∧(b=true↔∀ y∈nk c.b k,c.tR i y))∧H'=H:=by
 obtain ⟨ie,ne,ce,ese,ig,ng,cg,esg,h⟩:=hT
 refine YM.2.calls rfl ?_
 simp only [YM,aH]
 simp +contextual only [sZ,Nat.reduceEqDiff,Nat.reduceAdd,↓reduceIte,reduceCtorEq]
 obtain ⟨qy,qz,Wv⟩:=hc.b.kids hk.1 hk.2
 refine aq (nk c.b k).length (fun n=>∀ m,m < n→c.tR i ((nk c.b k).getD m 0)) (fun n=>[(0,.ptr x 0),(1,.int .i64 i),(2,.int .i64 k),(7,.int .i64 n)]) (fun _=>H) ⟨fun m hm=>(by cases hm),ax _ _ _⟩ fun n hn hI=>?_
 by_cases aM:n < (nk c.b k).length
 ·obtain ⟨y0,yk⟩:=qz _ (bj aM)
  obtain ⟨_,r,bs,xb,e1,e2,e3,e4,e5,e6⟩:=h.rows i ((nk c.b k).getD n 0) hi.1 y0 (by omega) (.inr ⟨rfl,yk⟩)
  have l1:decide ((n:Int) < (nk c.b k).length)=true:=decide_eq_true (by omega)
  simp +contextual only [h.x,h.g,IB,qi,KE,gP,aN,uE,e1,e3,e5,l1,List.getD_cons_succ,List.getD_cons_zero,abP,zB,sZ,Nat.reduceEqDiff,Nat.reduceAdd,Nat.reduceLT,↓reduceIte,reduceCtorEq]
  refine ⟨hk,fun _=>⟨⟨hi.1,h.ng⟩,e2,hk,⟨by omega,by omega⟩,⟨y0,by omega⟩,e4,?_⟩⟩
  simp +contextual only [sZ]
  cases xb with
  | false=>
    simp +contextual only [sZ,↓reduceIte,reduceCtorEq]
    exact fD ⟨false,rfl,fun h=>absurd h (by simp),fun hh=>absurd (e6.2 (hh _ (bj aM))) (by simp)⟩
  | true=>
    simp +contextual only [sZ,Nat.reduceEqDiff,↓reduceIte,reduceCtorEq]
    refine ⟨n + 1,⟨aM,fun m hm=>?_⟩,by omega,ay (by rw [aj n (by omega)]) rfl⟩
    by_cases e:m=n
    ·subst e;exact e6.1 rfl
    ·exact hI m (by omega)
 ·have l1:decide ((n:Int) < (nk c.b k).length)=false:=decide_eq_false (by omega)
  simp +contextual only [h.x,IB,qi,KE,gP,l1,List.getD_cons_succ,List.getD_cons_zero,sZ,Nat.reduceEqDiff,Nat.reduceAdd,Nat.reduceLT,↓reduceIte,reduceCtorEq]
  refine ⟨hk,fun _=>fD ⟨true,rfl,fun _ y hy=>?_,fun _=>rfl⟩⟩
  obtain ⟨m,hm,rfl⟩:=fY hy
  exact hI m (by omega)
end Go.aI
end
section
set_option maxRecDepth 100000
namespace Go.aI
open Go Go.Proofs Go.dD
structure KF (c:Tb) (i:Int) (a b:List Int):Prop where
 ia:∀ x∈a,0≤x∧x < i
 ib:∀ y∈b,0≤y∧y < c.b.length
 la:a.length≤100000000
 lb:b.length≤100000000
theorem TbX.cell {c:Tb} {x:Nat} {i k:Int} {H:List aa} {ie ne ce:Nat} {ese:List AV} {ig ng cg:Nat} {esg:List AV} (h:TbX c x i k H ie ne ce ese ig ng cg esg) {a b:List Int} (hI:KF c i a b) {n m:Nat} (hn:n < a.length) (hm:m < b.length) :
 Row ese H c.b.length (a.getD n 0) (b.getD m 0) (c.tE (a.getD n 0) (b.getD m 0))∧Row esg H c.b.length (a.getD n 0) (b.getD m 0) (c.tR (a.getD n 0) (b.getD m 0)):=
 h.rows _ _ (hI.ia _ (bj hn)).1 (hI.ib _ (bj hm)).1 (hI.ib _ (bj hm)).2 (.inl (hI.ia _ (bj hn)).2)
theorem QU {f g:Int→T} {G:T→T→Prop} (irr:∀ x,¬ G x x) {l m:List Int} {n:Nat} (hl:n < l.length) (hm:n < m.length) :
 Lx G ((l.drop n).map f) ((m.drop n).map g)↔if f (l.getD n 0)=g (m.getD n 0) then Lx G ((l.drop (n + 1)).map f) ((m.drop (n + 1)).map g) else G (f (l.getD n 0)) (g (m.getD n 0)):=by
 have e1:l[n]=l.getD n 0:=by simp [hl]
 have e2:m[n]=m.getD n 0:=by simp [hm]
 rw [aav hl,aav hm,e1,e2,List.map_cons,List.map_cons,Lx]
 split
 ·rename_i e
  rw [e]
  exact ⟨fun h=>by rcases h with h | h;exact h.2;exact absurd h (irr _),fun h=>.inl ⟨rfl,h⟩⟩
 ·rename_i e
  exact ⟨fun h=>by rcases h with h | h;exact absurd h.1 e;exact h,.inr⟩
noncomputable def Tb.rest (c:Tb) (a b:List Int):List Int×List Int:=eI (fun x y=>decide (c.f x=c.g y)) a b
theorem findIdx_le {q:Int→Bool} {b:List Int} {m:Nat} (hm:m < b.length) (h1:q (b.getD m 0)=true) (h2:∀ j,j < m→q (b.getD j 0)=false):b.findIdx q=m:=by
 have e:∀ j,(h:j < b.length)→b.getD j 0=b[j]:=fun j h=>by simp [h]
 rw [List.findIdx_eq hm]
 exact ⟨by rw [← e m hm];exact h1,fun j hj=>by rw [← e j (by omega)];exact h2 j hj⟩
theorem Cu {q:Int→Bool} {b:List Int} (h:∀ j,j < b.length→q (b.getD j 0)=false):¬ b.findIdx q < b.length:=fun aM=>by
 have h1:=afR (xs:=b) (p:=q) (w:=aM)
 have:=h _ aM
 simp [aM,h1] at this
theorem ox1 (env:Env) (i:IX):jO env (some i)=some (aE env i):=rfl
theorem ox2 (env:Env):jO env none=none:=rfl
theorem slD (l:List Int) (n:Int) (h:0≤n∧n≤l.length) (φ:AV→Prop):bH 1 (.al 0 (ints l)) (some (.int .i64 n)) none none φ=φ (.al 0 (ints (l.drop n.toNat))):=by
 have er:dK (AV.al 0 (ints l))=some (ints l):=rfl
 have e2:((ints l).take (ints l).length).drop n.toNat=ints (l.drop n.toNat):=by rw [aby];simp [ints]
 simp only [bH,gZ,er,eS,e2,eq_iff_iff]
 constructor
 ·intro h;exact h.2.2.2.2
 ·intro h'
  refine ⟨fun own xs he z hz=>?_,by omega,by have:=ap l;omega,zy _,h'⟩
  cases he
  obtain ⟨y,_,rfl⟩:=aaw.1 hz
  rfl
theorem AQ {H:List aa} {a b:Nat} {u v x y:AV} (tv:b≠a) (hx:u.ab=x) (hy:v.ab=y) (bx:x.bc H.length=true) (rP:y.bc H.length=true):bP H.length [.t a,.t b] [(a,u),(b,v)] H fun r H'=>r=.tuple [x,y]∧H'=H:=by
 subst hx;subst hy
 refine ⟨H.length,zy _,[u.ab,v.ab],?_,by simp only [aw,bx,rP,acj],rfl,aby⟩
 simp only [aD,if_neg tv,if_true,List.map]
 exact da _
theorem aa8 {c:Tb} {x:Nat} {i k:Int} {H:List aa} (hT:Ss c x i k H) {a b:List Int} (tv:KF c i a b) :
 aA Tryz.prog 223 [.ptr x 0,.al 0 (ints a),.al 0 (ints b)] H fun r H'=>r=.tuple [bu (c.rest a b).1,.al 0 (ints (c.rest a b).2)]∧H'=H:=by
 obtain ⟨ie,ne,ce,ese,ig,ng,cg,esg,h⟩:=hT
 have Sd:=tv.la
 have Oj:=tv.lb
 refine YL.2.calls rfl ?_
 simp only [YL,aH]
 simp +contextual only [sZ,Nat.reduceEqDiff,Nat.reduceAdd,↓reduceIte,reduceCtorEq]
 refine aF a.length (fun n (p:List Int×List Int)=>KF c i a p.2∧p.1.length≤n∧c.rest a b=(p.1++(c.rest (a.drop n) p.2).1,(c.rest (a.drop n) p.2).2))
  (fun n p=>[(0,.ptr x 0),(1,.al 0 (ints a)),(8,cC p.1),(9,.al 0 (ints p.2)),(10,.int .i64 n)]) (fun _ _=>H) ([],b) ⟨⟨tv,zy _,rfl⟩,ax _ _ _⟩ fun n p hn hI=>?_
 obtain ⟨l,m⟩:=p
 obtain ⟨ky,Je,hI⟩:=hI
 simp only at ky Je hI
 by_cases h1:n < a.length
 ·have l1:decide ((n:Int) < a.length)=true:=decide_eq_true (by omega)
  simp +contextual only [l1,sZ,Nat.reduceEqDiff,↓reduceIte,reduceCtorEq]
  intro _
  obtain ⟨a0,a1⟩:=ky.ia _ (bj h1)
  have OC:=ky.lb
  have dP:=h.ne
  have hrest (Q:List Int×List Int) (hQ:eI (fun x y=>decide (c.f x=c.g y)) (a.drop n) m=Q):c.rest (a.drop n) m=Q:=hQ
  have edrop:a.drop n=a.getD n 0::a.drop (n + 1):=by rw [aav h1];simp [h1]
  refine aF m.length (fun j (q:Int)=>(q=-1∧∀ s,s < j→¬ c.tE (a.getD n 0) (m.getD s 0))∨∃ s:Nat,q=s∧s < j∧c.tE (a.getD n 0) (m.getD s 0)∧∀ u,u < s→¬ c.tE (a.getD n 0) (m.getD u 0))
   (fun j q=>[(0,.ptr x 0),(1,.al 0 (ints a)),(8,cC l),(9,.al 0 (ints m)),(10,.int .i64 n),(11,.int .i64 q),(12,.int .i64 j)]) (fun _ _=>H) (-1) ⟨.inl ⟨rfl,fun s hs=>(by cases hs)⟩,ax _ _ _⟩ fun j q hj hJ=>?_
  by_cases h2:j < m.length
  ·have l2:decide ((j:Int) < m.length)=true:=decide_eq_true (by omega)
   obtain ⟨⟨r,bs,xb,e1,e2,e3,e4,e5,e6⟩,_⟩:=h.cell ky h1 h2
   obtain ⟨b0,b1⟩:=ky.ib _ (bj h2)
   rcases hJ with ⟨rfl,hJ⟩ | ⟨s,rfl,hs,hJ,hJ2⟩
   ·cases xb with
    | false=>
      simp +contextual only [h.x,h.e,aN,uE,e1,e3,e5,l2,List.getD_cons_succ,List.getD_cons_zero,abP,zB,sZ,Nat.reduceEqDiff,Nat.reduceAdd,Nat.reduceLT,↓reduceIte,reduceCtorEq,Int.reduceLT]
      refine fun _=>⟨⟨by omega,by omega⟩,⟨a0,by omega⟩,e2,⟨by omega,by omega⟩,⟨b0,b1⟩,e4,j + 1,-1,⟨h2,.inl ⟨rfl,fun u hu=>?_⟩⟩,by omega,ay (by rw [aj j (by omega)]) rfl⟩
      by_cases e:u=j
      ·subst e;exact fun hh=>absurd (e6.2 hh) (by simp)
      ·exact hJ u (by omega)
    | true=>
      simp +contextual only [h.x,h.e,aN,uE,e1,e3,e5,l2,List.getD_cons_succ,List.getD_cons_zero,abP,zB,sZ,Nat.reduceEqDiff,Nat.reduceAdd,Nat.reduceLT,↓reduceIte,reduceCtorEq,Int.reduceLT]
      exact fun _=>⟨⟨by omega,by omega⟩,⟨a0,by omega⟩,e2,⟨by omega,by omega⟩,⟨b0,b1⟩,e4,j + 1,j,⟨h2,.inr ⟨j,rfl,by omega,e6.1 rfl,hJ⟩⟩,by omega,ay (by rw [aj j (by omega)]) rfl⟩
   ·have l3:decide ((s:Int) < 0)=false:=decide_eq_false (by omega)
    simp +contextual only [l2,l3,sZ,Nat.reduceEqDiff,↓reduceIte,reduceCtorEq]
    exact fun _=>⟨j + 1,s,⟨h2,.inr ⟨s,rfl,by omega,hJ,hJ2⟩⟩,by omega,ay (by rw [aj j (by omega)]) rfl⟩
  ·have l2:decide ((j:Int) < m.length)=false:=decide_eq_false (by omega)
   have hjm:j=m.length:=by omega
   subst hjm
   rcases hJ with ⟨rfl,hJ⟩ | ⟨s,rfl,hs,hJ,hJ2⟩
   ·simp +contextual only [l2,aN,kq,dZ,zB,sZ,Nat.reduceEqDiff,Nat.reduceAdd,↓reduceIte,reduceCtorEq,Int.reduceLT]
    have e1:c.rest (a.drop n) m=(a.getD n 0::(c.rest (a.drop (n + 1)) m).1,(c.rest (a.drop (n + 1)) m).2):=by
     refine hrest _ ?_
     rw [edrop,eI,if_neg (Cu fun u hu=>decide_eq_false (show ¬ c.f _=c.g _ from hJ u hu))];rfl
    refine fun _=>⟨⟨by omega,by omega⟩,by omega,n + 1,(l++[a.getD n 0],m),⟨h1,ky,by simp;omega,?_⟩,by omega,ay (by rw [aj n (by omega)]) rfl⟩
    rw [hI,e1];simp
   ·have l3:decide ((s:Int) < 0)=false:=decide_eq_false (by omega)
    have w1:=aj s (by omega)
    simp +contextual only [l2,l3,w1,ox1,ox2,slT m s ⟨by omega,by omega⟩,slD m ((s + 1:Nat):Int) ⟨by omega,by omega⟩,zB,sZ,Nat.reduceEqDiff,↓reduceIte,reduceCtorEq]
    have e2:m.eraseIdx s=m.take s++m.drop (s + 1):=adm m s
    have e1:c.rest (a.drop n) m=c.rest (a.drop (n + 1)) (m.eraseIdx s):=by
     refine hrest _ ?_
     have ef:m.findIdx (fun y=>decide (c.f (a.getD n 0)=c.g y))=s:=findIdx_le hs (decide_eq_true (show c.f _=c.g _ from hJ)) fun u hu=>decide_eq_false (show ¬ c.f _=c.g _ from hJ2 u hu)
     rw [edrop,eI,ef,if_pos hs];rfl
    have KY:(m.eraseIdx s).length≤m.length:=by rw [agi];split <;> omega
    refine fun _=>⟨by simp;omega,by simp;omega,n + 1,(l,m.eraseIdx s),⟨h1,⟨ky.ia,fun y hy=>ky.ib y (adv hy),ky.la,by show (m.eraseIdx s).length≤_;omega⟩,by show l.length≤_;omega,?_⟩,by omega,ay (by rw [aj n (by omega),e2];simp [ints]) rfl⟩
    rw [hI,e1]
 ·have l1:decide ((n:Int) < a.length)=false:=decide_eq_false (by omega)
  simp +contextual only [l1,sZ,Nat.reduceEqDiff,↓reduceIte,reduceCtorEq]
  intro _
  have vX:n=a.length:=by omega
  subst vX
  rw [List.drop_length] at hI
  have e0:c.rest [] m=([],m):=rfl
  rw [e0,abJ] at hI
  rw [hI]
  refine AQ (by decide) ?_ rfl ((aL l).2.2.1 _) (by rw [bA,aJ])
  rw [(eZ l).2.1,(aL l).2.1];exact (aL l).2.1
theorem afm {c:Tb} {x:Nat} {i k:Int} {H:List aa} (hT:Ss c x i k H) {l m:List Int} (OC:KF c i l m) :
 aA Tryz.prog 226 [.ptr x 0,.al 0 (ints l),.al 0 (ints m)] H fun r H'=>(∃ b:Bool,r=.bool b∧(b=true↔Lx (Gt c.O.sp) (l.map c.f) (m.map c.g)))∧H'=H:=by
 obtain ⟨ie,ne,ce,ese,ig,ng,cg,esg,h⟩:=hT
 have Sd:=OC.la
 have Oj:=OC.lb
 refine YO.2.calls rfl ?_
 simp only [YO,aH]
 simp +contextual only [sZ,Nat.reduceEqDiff,Nat.reduceAdd,↓reduceIte,reduceCtorEq]
 refine aq l.length (fun n=>n≤m.length∧(Lx (Gt c.O.sp) (l.map c.f) (m.map c.g)↔Lx (Gt c.O.sp) ((l.drop n).map c.f) ((m.drop n).map c.g))) (fun n=>[(0,.ptr x 0),(1,.al 0 (ints l)),(2,.al 0 (ints m)),(7,.int .i64 n)]) (fun _=>H) ⟨⟨by omega,Iff.rfl⟩,ax _ _ _⟩ fun n hn hI=>?_
 obtain ⟨Re,hI⟩:=hI
 by_cases h1:n < l.length
 ·have l1:decide ((n:Int) < l.length)=true:=decide_eq_true (by omega)
  by_cases h2:n < m.length
  ·have l2:decide ((m.length:Int)≤n)=false:=decide_eq_false (by omega)
   obtain ⟨⟨r,bs,xb,e1,e2,e3,e4,e5,e6⟩,r',bs',xb',e1',e2',e3',e4',e5',e6'⟩:=h.cell OC h1 h2
   obtain ⟨a0,a1⟩:=OC.ia _ (bj h1)
   obtain ⟨b0,b1⟩:=OC.ib _ (bj h2)
   have dP:=h.ne
   have hng:=h.ng
   rw [QU (fun x=>xN x) h1 h2] at hI
   cases xb with
   | true=>
     rw [if_pos (show c.f _=c.g _ from e6.1 rfl)] at hI
     simp +contextual only [h.x,h.e,aN,uE,e1,e3,e5,l1,l2,List.getD_cons_succ,List.getD_cons_zero,abP,zB,sZ,Nat.reduceEqDiff,Nat.reduceAdd,Nat.reduceLT,↓reduceIte,reduceCtorEq]
     refine fun _ _=>⟨by omega,by omega,e2,by omega,⟨b0,b1⟩,e4,?_⟩
     exact ⟨n + 1,⟨h1,by omega,hI⟩,by omega,ay (by rw [aj n (by omega)]) rfl⟩
   | false=>
     rw [if_neg (show ¬ c.f _=c.g _ from fun hh=>absurd (e6.2 hh) (by simp))] at hI
     simp +contextual only [h.x,h.e,h.g,aN,uE,e1,e3,e5,e1',e3',e5',l1,l2,List.getD_cons_succ,List.getD_cons_zero,abP,zB,sZ,Nat.reduceEqDiff,Nat.reduceAdd,Nat.reduceLT,↓reduceIte,reduceCtorEq]
     refine fun _ _=>⟨by omega,by omega,e2,by omega,⟨b0,b1⟩,e4,by omega,by omega,e2',⟨by omega,by omega⟩,⟨b0,b1⟩,e4',fD ⟨xb',rfl,?_⟩⟩
     rw [hI];exact e6'
  ·have l2:decide ((m.length:Int)≤n)=true:=decide_eq_true (by omega)
   simp +contextual only [l1,l2,sZ,Nat.reduceEqDiff,↓reduceIte,reduceCtorEq]
   refine fun _ _=>fD ⟨true,rfl,fun _=>hI.2 ?_,fun _=>rfl⟩
   rw [aav h1,aap (show m.length≤n by omega)]
   exact trivial
 ·have l1:decide ((n:Int) < l.length)=false:=decide_eq_false (by omega)
  simp +contextual only [l1,sZ,Nat.reduceEqDiff,↓reduceIte,reduceCtorEq]
  refine fun _=>fD ⟨false,rfl,fun h=>absurd h (by simp),fun hh=>?_⟩
  have:=hI.1 hh
  rw [aap (by omega)] at this
  exact absurd this (fun h=>h)
end Go.aI
end
section
set_option maxRecDepth 100000
namespace Go.aI
open Go Go.Proofs Go.dD
theorem KF.rest {c:Tb} {i:Int} {a b:List Int} (h:KF c i a b):KF c i (c.rest a b).1 (c.rest a b).2:=by
 obtain ⟨h1,h2⟩:=qg (q:=fun x y=>decide (c.f x=c.g y)) a b
 have hl:∀ (a b:List Int),(eI (fun x y=>decide (c.f x=c.g y)) a b).1.length≤a.length∧(eI (fun x y=>decide (c.f x=c.g y)) a b).2.length≤b.length:=by
  intro a
  induction a with
  | nil=>intro b;simp [eI]
  | cons x r ih=>
    intro b
    rw [eI]
    split
    ·have:=ih (b.eraseIdx (b.findIdx fun y=>decide (c.f x=c.g y)))
     have h3:(b.eraseIdx (b.findIdx fun y=>decide (c.f x=c.g y))).length≤b.length:=by rw [agi];split <;> omega
     simp only [List.length_cons];omega
    ·have:=ih b
     simp only [List.length_cons];omega
 exact ⟨fun x hx=>h.ia x (h1 x hx),fun y hy=>h.ib y (h2 y hy),by have:=(hl a b).1;have:=h.la;unfold Tb.rest;omega,by have:=(hl a b).2;have:=h.lb;unfold Tb.rest;omega⟩
theorem NL {l:List Int} (h:l≠[]):bu l=.al 0 (ints l):=by cases l;exact absurd rfl h;rfl
theorem aa9 (l:List Int):aO 1 (bu l)=True∧(∀ (H:List aa) (φ:AV→Prop),fR (bu l) H φ=(l.length < 9223372036854775808→φ (.int .i64 l.length)))∧(bu l).ab=bu l:=by
 cases l with
 | nil=>exact ⟨by simp [bu,aO],fun _ φ=>by show φ _=_;simp,rfl⟩
 | cons p r=>exact ⟨by simp [bu,aO],fun _ φ=>by show (_→φ _)=_;rw [ap],rfl⟩
theorem afn {c:Tb} {x:Nat} {i k:Int} {H:List aa} (hT:Ss c x i k H) {a b:List Int} (tv:KF c i a b) :
 aA Tryz.prog 225 [.ptr x 0,.al 0 (ints a),.al 0 (ints b)] H fun r H'=>(∃ u:Bool,r=.bool u∧(u=true↔Mu (Gt c.O.sp) (a.map c.f) (b.map c.g)))∧H'=H:=by
 have hr:=tv.rest
 have UW:=NJ (q:=fun x y=>decide (c.f x=c.g y)) (f:=c.f) (g:=c.g) (G:=Gt c.O.sp) (a:=a) (b:=b) (fun x _ y _=>by simp)
 have hc:=aa8 hT tv
 obtain ⟨ie,ne,ce,ese,ig,ng,cg,esg,h⟩:=hT
 rw [show eI (fun x y=>decide (c.f x=c.g y)) a b=c.rest a b from rfl] at UW
 rw [UW]
 refine YN.2.calls rfl ?_
 simp only [YN,aH]
 simp +contextual only [sZ,Nat.reduceEqDiff,Nat.reduceAdd,↓reduceIte,reduceCtorEq]
 refine af hc ?_
 rintro r G ⟨rfl,rfl⟩
 generalize c.rest a b=q at hr ⊢
 obtain ⟨l,m⟩:=q
 simp only at hr ⊢
 have Sd:=hr.la
 have Oj:=hr.lb
 have hng:=h.ng
 obtain ⟨kf1,kf2,kf3⟩:=aa9 l
 simp +contextual only [kf1,kf2,kf3,sZ,Nat.reduceEqDiff,Nat.reduceAdd,Nat.reduceLT,↓reduceIte,reduceCtorEq]
 refine fun _=>⟨fun h0=>fD ⟨false,rfl,fun h=>absurd h (by simp),fun hh=>absurd (abE.1 (by omega)) hh.1⟩,fun h0=>?_⟩
 ·have hl:l≠[]:=fun e=>h0 (by rw [e];rfl)
  rw [NL hl]
  refine aq m.length (fun n=>∀ s,s < n→∃ x∈l,Gt c.O.sp (c.f x) (c.g (m.getD s 0))) (fun n=>[(0,.ptr x 0),(7,.al 0 (ints l)),(8,.al 0 (ints m)),(9,.int .i64 n)]) (fun _=>G) ⟨fun s hs=>(by cases hs),ax _ _ _⟩ fun n hn hI=>?_
  by_cases h1:n < m.length
  ·have l1:decide ((n:Int) < m.length)=true:=decide_eq_true (by omega)
   simp +contextual only [l1,sZ,Nat.reduceEqDiff,↓reduceIte,reduceCtorEq]
   intro _
   refine aF l.length (fun j (q:Bool)=>(q=true→∃ x∈l,Gt c.O.sp (c.f x) (c.g (m.getD n 0)))∧(q=false→∀ s,s < j→¬ Gt c.O.sp (c.f (l.getD s 0)) (c.g (m.getD n 0))))
    (fun j q=>[(0,.ptr x 0),(7,.al 0 (ints l)),(8,.al 0 (ints m)),(9,.int .i64 n),(10,.bool q),(11,.int .i64 j)]) (fun _ _=>G) false ⟨⟨fun h=>by simp at h,fun _ s hs=>(by cases hs)⟩,ax _ _ _⟩ fun j q hj hJ=>?_
   by_cases h2:j < l.length
   ·have l2:decide ((j:Int) < l.length)=true:=decide_eq_true (by omega)
    obtain ⟨_,r,bs,xb,e1,e2,e3,e4,e5,e6⟩:=h.cell hr h2 h1
    obtain ⟨a0,a1⟩:=hr.ia _ (bj h2)
    obtain ⟨b0,b1⟩:=hr.ib _ (bj h1)
    cases q with
    | true=>
      simp +contextual only [l2,sZ,Nat.reduceEqDiff,↓reduceIte,reduceCtorEq]
      refine fun _=>⟨n + 1,⟨h1,fun s hs=>?_⟩,by omega,ay (by rw [aj n (by omega)]) rfl⟩
      by_cases e:s=n
      ·subst e;exact hJ.1 rfl
      ·exact hI s (by omega)
    | false=>
      simp +contextual only [h.x,h.g,aN,uE,e1,e3,e5,l2,List.getD_cons_succ,List.getD_cons_zero,abP,zB,sZ,Nat.reduceEqDiff,Nat.reduceAdd,Nat.reduceLT,↓reduceIte,reduceCtorEq]
      refine fun _=>⟨⟨by omega,by omega⟩,⟨a0,by omega⟩,e2,⟨by omega,by omega⟩,⟨b0,b1⟩,e4,j + 1,xb,⟨h2,fun hx=>⟨_,bj h2,e6.1 hx⟩,fun hx s hs=>?_⟩,by omega,ay (by rw [aj j (by omega)]) rfl⟩
      by_cases e:s=j
      ·subst e;exact fun hh=>absurd (e6.2 hh) (by rw [hx];simp)
      ·exact hJ.2 rfl s (by omega)
   ·have l2:decide ((j:Int) < l.length)=false:=decide_eq_false (by omega)
    cases q with
    | true=>
      simp +contextual only [l2,sZ,Nat.reduceEqDiff,↓reduceIte,reduceCtorEq]
      refine fun _=>⟨n + 1,⟨h1,fun s hs=>?_⟩,by omega,ay (by rw [aj n (by omega)]) rfl⟩
      by_cases e:s=n
      ·subst e;exact hJ.1 rfl
      ·exact hI s (by omega)
    | false=>
      simp +contextual only [l2,sZ,Nat.reduceEqDiff,↓reduceIte,reduceCtorEq]
      refine fun _=>fD ⟨false,rfl,fun h=>absurd h (by simp),fun hh=>?_⟩
      obtain ⟨x,hx,hg⟩:=hh.2 _ (bj h1)
      obtain ⟨s,hs,rfl⟩:=fY hx
      exact absurd hg (hJ.2 rfl s (by omega))
  ·have l1:decide ((n:Int) < m.length)=false:=decide_eq_false (by omega)
   simp +contextual only [l1,sZ,Nat.reduceEqDiff,↓reduceIte,reduceCtorEq]
   refine fun _=>fD ⟨true,rfl,fun _=>⟨hl,fun y hy=>?_⟩,fun _=>rfl⟩
   obtain ⟨s,hs,rfl⟩:=fY hy
   exact hI s (by omega)
end Go.aI
end
section
set_option maxRecDepth 100000
namespace Go.aI
open Go Go.Proofs Go.dD
theorem Tb.Ok.ins {c:Tb} (hc:c.Ok) {i k:Int} (hi:0≤i∧i < c.a.length) (hk:0≤k∧k < c.b.length):KF c i (nk c.a i) (nk c.b k):=by
 obtain ⟨_,a2,a3⟩:=hc.a.kids hi.1 hi.2
 obtain ⟨_,b2,b3⟩:=hc.b.kids hk.1 hk.2
 exact ⟨a2,fun y hy=>by have:=b2 y hy;omega,a3,b3⟩
theorem Tb.Ok.aba {c:Tb} (hc:c.Ok) {i:Int} (hi:0≤i∧i < c.a.length):(nt c.a i).l.map (norm c.O)=(nk c.a i).map c.f:=by
 rw [← (hc.a.kids hi.1 hi.2).1,acH];rfl
theorem Tb.Ok.abb {c:Tb} (hc:c.Ok) {k:Int} (hk:0≤k∧k < c.b.length):(nt c.b k).l.map (norm c.O)=(nk c.b k).map c.g:=by
 rw [← (hc.b.kids hk.1 hk.2).1,acH];rfl
theorem IC (p:Nd) (H:List aa) (φ:AV→Prop):a8 (some 4) (.ah (kB p)) H φ=φ (kB p):=by
 simp [a8,kB,AV.cells]
theorem s6 (ps ss:List Int) (a b e g:AV) (φ:AV→Prop):cS (some (.cells [.al 0 (ints ps),.al 0 (ints ss),a,b,e,g])) (some 2) 0 φ=φ (dE ps ss):=by
 simp [cS,dE,AV.drop]
theorem afo {c:Tb} (hc:c.Ok) {x:Nat} {i k:Int} {H:List aa} (hT:Ss c x i k H) (hi:0≤i∧i < c.a.length) (hk:0≤k∧k < c.b.length) :
 aA Tryz.prog 188 [.ptr x 0,.int .i64 i,.int .i64 k] H fun r H'=>(∃ u:Bool,r=.bool u∧(u=true↔c.tE i k))∧H'=H:=by
 have hE:c.tE i k↔E c.O (nt c.a i) (nt c.b k):=Iff.rfl
 rw [R0,hc.aba hi,hc.abb hk] at hE
 have ky:=hc.ins hi hk
 have hrest:=aa8 hT ky
 have OH:=G9 (q:=fun x y=>decide (c.f x=c.g y)) (f:=c.f) (g:=c.g) (a:=nk c.a i) (b:=nk c.b k) (fun x _ y _=>by simp)
 rw [show eI (fun x y=>decide (c.f x=c.g y)) (nk c.a i) (nk c.b k)=c.rest (nk c.a i) (nk c.b k) from rfl] at OH
 have hrl:=ky.rest.la
 obtain ⟨ak,ao⟩:=hc.a.kind hi.1 hi.2
 obtain ⟨bk,bo⟩:=hc.b.kind hk.1 hk.2
 obtain ⟨ie,ne,ce,ese,ig,ng,cg,esg,h⟩:=hT
 have Sd:=ky.la
 have Oj:=ky.lb
 refine Yh.2.calls rfl ?_
 simp only [Yh,aH]
 simp +contextual only [h.x,IB,qi,IC,EM,Ct,uD,QT,kD,List.getD_cons_succ,List.getD_cons_zero,sZ,Nat.reduceEqDiff,Nat.reduceAdd,Nat.reduceLT,↓reduceIte,reduceCtorEq]
 refine ⟨hi,hk,fun dP=>fD ⟨false,rfl,fun h=>absurd h (by simp),fun hh=>?_⟩,fun hq=>⟨fun h1=>fD ⟨_,rfl,?_⟩,fun h1=>?_⟩⟩
 ·rcases hE.1 hh with h | h
  ·exact absurd (h.1.trans h.2.1.symm) dP
  ·exact absurd (by omega) dP
 ·rw [hE,decide_eq_true_eq]
  exact ⟨fun h=>.inr ⟨by omega,by omega,h⟩,fun h=>by rcases h with h | h;omega;exact h.2.2⟩
 have uY:(nt c.b k).k=2:=by omega
 have ID:(nt c.a i).k=2:=by omega
 have hE:c.tE i k↔_:=hE.trans ⟨fun h=>(by rcases h with h | h;exact h.2.2;exact absurd ID h.1),fun h=>.inl ⟨ID,uY,h⟩⟩
 have hss:c.ss.length=c.ps.length:=hc.va.len
 have Hl:=hc.va.sp (i:=(nt c.a i).n.toNat) (by have:=ao ID;omega)
 have vU:c.O.pl (nt c.a i).n=c.ps.getD (nt c.a i).n.toNat 0:=rfl
 rw [show c.O.sp (c.O.pl (nt c.a i).n)=c.ss.getD (nt c.a i).n.toNat 0 from Hl] at hE
 obtain ⟨q1,q2,q3,q4,q5,q6⟩:=aR c.ps c.ss
 simp +contextual only [s6,q4,QT,kD,sZ,Nat.reduceEqDiff,↓reduceIte,reduceCtorEq]
 refine aB (aa6 c.ps c.ss _ _ (ao ID) (bo uY)) ?_
 rw [show (iq c.ps c.ss)=c.O from rfl]
 by_cases hp:c.O.pl (nt c.a i).n=c.O.pl (nt c.b k).n
 rotate_left
 ·simp +contextual only [decide_eq_false hp,sZ,Nat.reduceEqDiff,↓reduceIte,reduceCtorEq]
  exact fD ⟨false,rfl,fun h=>absurd h (by simp),fun hh=>absurd (hE.1 hh).1 hp⟩
 have vX:¬ (nk c.a i).length=(nk c.b k).length→¬ c.tE i k:=fun hl hh=>by
  have:=(hE.1 hh).2
  split at this
  ·exact hl (by simpa using this.length_eq)
  ·exact hl (by simpa using congrArg List.length this)
 simp +contextual only [decide_eq_true hp,h.x,KE,gP,QT,kD,aN,List.getD_cons_succ,List.getD_cons_zero,sZ,Nat.reduceEqDiff,Nat.reduceAdd,Nat.reduceLT,↓reduceIte,reduceCtorEq]
 refine ⟨fun hl=>fD ⟨false,rfl,fun h=>absurd h (by simp),fun hh=>absurd hh (vX (by omega))⟩,fun hl=>⟨⟨(ao ID).1,by have:=(ao ID).2;omega⟩,fun h3=>?_,fun h3=>?_⟩⟩
 ·refine af hrest ?_
  rintro r G ⟨rfl,rfl⟩
  obtain ⟨kf1,kf2,kf3⟩:=aa9 (c.rest (nk c.a i) (nk c.b k)).1
  simp +contextual only [kf1,kf2,kf3,sZ,Nat.reduceEqDiff,Nat.reduceAdd,Nat.reduceLT,↓reduceIte,reduceCtorEq]
  refine fun _=>fD ⟨_,rfl,?_⟩
  rw [hE,if_pos h3,← OH (by omega),decide_eq_true_eq]
  exact ⟨fun h=>⟨hp,abE.1 (by omega)⟩,fun h=>by rw [h.2];rfl⟩
 ·rw [if_neg h3] at hE
  refine aq (nk c.a i).length (fun n=>∀ s,s < n→c.tE ((nk c.a i).getD s 0) ((nk c.b k).getD s 0)) (fun n=>[(0,.ptr x 0),(7,.ah (kB (c.a.getD i.toNat default))),(8,.ah (kB (c.b.getD k.toNat default))),(11,.int .i64 n)]) (fun _=>H) ⟨fun s hs=>(by cases hs),ax _ _ _⟩ fun n hn hI=>?_
  by_cases h1:n < (nk c.a i).length
  ·have l1:decide ((n:Int) < (nk c.a i).length)=true:=decide_eq_true (by omega)
   have h2:n < (nk c.b k).length:=by omega
   obtain ⟨⟨r,bs,xb,e1,e2,e3,e4,e5,e6⟩,_⟩:=h.cell ky h1 h2
   obtain ⟨a0,a1⟩:=ky.ia _ (bj h1)
   obtain ⟨b0,b1⟩:=ky.ib _ (bj h2)
   have dP:=h.ne
   cases xb with
   | false=>
     simp +contextual only [h.x,h.e,KE,gP,aN,uE,e1,e3,e5,l1,List.getD_cons_succ,List.getD_cons_zero,abP,zB,sZ,Nat.reduceEqDiff,Nat.reduceAdd,Nat.reduceLT,↓reduceIte,reduceCtorEq]
     refine fun _=>⟨⟨by omega,by omega⟩,⟨a0,by omega⟩,e2,⟨by omega,by omega⟩,⟨b0,b1⟩,e4,fD ⟨false,rfl,fun h=>absurd h (by simp),fun hh=>?_⟩⟩
     have hm:=(hE.1 hh).2
     have:=congrArg (fun l=>l.getD n default) hm
     simp only [th,abZ,Hj h1,Hj h2,Option.map_some,Option.getD_some] at this
     refine absurd (e6.2 ?_) (by simp)
     unfold Tb.tE
     simpa [h1,h2] using this
   | true=>
     simp +contextual only [h.x,h.e,KE,gP,aN,uE,e1,e3,e5,l1,List.getD_cons_succ,List.getD_cons_zero,abP,zB,sZ,Nat.reduceEqDiff,Nat.reduceAdd,Nat.reduceLT,↓reduceIte,reduceCtorEq]
     refine fun _=>⟨⟨by omega,by omega⟩,⟨a0,by omega⟩,e2,⟨by omega,by omega⟩,⟨b0,b1⟩,e4,n + 1,⟨h1,fun s hs=>?_⟩,by omega,ay (by rw [aj n (by omega)]) rfl⟩
     by_cases e:s=n
     ·subst e;exact e6.1 rfl
     ·exact hI s (by omega)
  ·have l1:decide ((n:Int) < (nk c.a i).length)=false:=decide_eq_false (by omega)
   simp +contextual only [KE,gP,l1,sZ,Nat.reduceEqDiff,↓reduceIte,reduceCtorEq]
   refine fun _=>fD ⟨true,rfl,fun _=>hE.2 ⟨hp,?_⟩,fun _=>rfl⟩
   refine aes (by simp;omega) fun s hs SL=>?_
   have:=hI s (by simp at hs;omega)
   unfold Tb.tE at this
   have q1:s < (nk c.a i).length:=by simpa using hs
   have q2:s < (nk c.b k).length:=by simpa using SL
   simpa [q1,q2] using this
end Go.aI
end
section
set_option maxRecDepth 100000
namespace Go.aI
open Go Go.Proofs Go.dD
theorem Tb.Ok.Vz {c:Tb} (hc:c.Ok) {i k:Int} (hi:0≤i∧i < c.a.length) (hk:0≤k∧k < c.b.length):c.tR i k↔(nt c.a i).k=2∧((∃ x∈nk c.a i,c.tE x k∨c.tR x k)∨(nt c.b k).k=2∧(
 (c.O.pl (nt c.b k).n < c.O.pl (nt c.a i).n∧∀ y∈nk c.b k,c.tR i y)∨
 (c.O.pl (nt c.b k).n=c.O.pl (nt c.a i).n∧c.O.sp (c.O.pl (nt c.a i).n)≠3∧(∀ y∈nk c.b k,c.tR i y)∧Lx (Gt c.O.sp) ((bt (c.O.sp (c.O.pl (nt c.a i).n)) (nk c.a i)).map c.f) ((bt (c.O.sp (c.O.pl (nt c.a i).n)) (nk c.b k)).map c.g))∨
 (c.O.pl (nt c.b k).n=c.O.pl (nt c.a i).n∧c.O.sp (c.O.pl (nt c.a i).n)=3∧Mu (Gt c.O.sp) ((nk c.a i).map c.f) ((nk c.b k).map c.g)))):=by
 have h:c.tR i k↔R c.O (nt c.a i) (nt c.b k):=Iff.rfl
 have e1:(∃ x∈(nt c.a i).l,E c.O x (nt c.b k)∨R c.O x (nt c.b k))↔∃ x∈nk c.a i,c.tE x k∨c.tR x k:=by
  rw [← (hc.a.kids hi.1 hi.2).1]
  constructor
  ·rintro ⟨x,hx,h⟩;obtain ⟨y,hy,rfl⟩:=aaw.1 hx;exact ⟨y,hy,h⟩
  ·rintro ⟨y,hy,h⟩;exact ⟨_,aaw.2 ⟨y,hy,rfl⟩,h⟩
 have e2:(∀ y∈(nt c.b k).l,R c.O (nt c.a i) y)↔∀ y∈nk c.b k,c.tR i y:=by
  rw [← (hc.b.kids hk.1 hk.2).1]
  constructor
  ·intro h y hy;exact h _ (aaw.2 ⟨y,hy,rfl⟩)
  ·intro h y hy;obtain ⟨z,hz,rfl⟩:=aaw.1 hy;exact h z hz
 rw [h,qK,e1,e2,hc.aba hi,hc.abb hk,iH,iH]
theorem rJ {P:Program} {lo:Option Nat} {g:FuncId} {xs:List AV} {H:List aa} {Q:Prop} {K:AV→Prop} (hc:aA P g xs H fun r H'=>(∃ u:Bool,r=.bool u∧(u=true↔Q))∧H'=H) (hk:∀ u:Bool,(u=true↔Q)→K (.bool u)):z5 ⟨P,lo⟩ true g xs H K:=by
 refine ⟨.bool (@decide Q (Classical.propDecidable Q)),⟨xs,da _,hc.mono ?_⟩,hk _ (by simp)⟩
 rintro r H' ⟨⟨u,rfl,hu⟩,rfl⟩
 refine ⟨?_,rfl⟩
 congr 1
 rw [abV,hu];simp
theorem afp {c:Tb} (hc:c.Ok) {x:Nat} {i k:Int} {H:List aa} (hT:Ss c x i k H) (hi:0≤i∧i < c.a.length) (hk:0≤k∧k < c.b.length) :
 aA Tryz.prog 189 [.ptr x 0,.int .i64 i,.int .i64 k] H fun r H'=>(∃ u:Bool,r=.bool u∧(u=true↔c.tR i k))∧H'=H:=by
 have hR:=hc.Vz hi hk
 have ky:=hc.ins hi hk
 have fU:=afk hc hT hi hk
 have hmul:=afn hT ky
 have afq {l m:List Int} (h:KF c i l m):=afm hT h
 obtain ⟨ak,ao⟩:=hc.a.kind hi.1 hi.2
 obtain ⟨bk,bo⟩:=hc.b.kind hk.1 hk.2
 obtain ⟨ie,ne,ce,ese,ig,ng,cg,esg,h⟩:=hT
 have Sd:=ky.la
 have Oj:=ky.lb
 have dP:=h.ne
 have hng:=h.ng
 refine Yi.2.calls rfl ?_
 simp only [Yi,aH]
 obtain ⟨q1,q2,q3,q4,q5,q6⟩:=aR c.ps c.ss
 simp +contextual only [h.x,IB,qi,IC,EM,Ct,uD,QT,kD,List.getD_cons_succ,List.getD_cons_zero,sZ,Nat.reduceEqDiff,Nat.reduceAdd,Nat.reduceLT,↓reduceIte,reduceCtorEq]
 refine ⟨hi,hk,fun uY=>fD ⟨false,rfl,fun h=>absurd h (by simp),fun hh=>absurd (hR.1 hh).1 uY⟩,fun ID=>?_⟩
 have hR:c.tR i k↔_:=hR.trans ⟨fun h=>h.2,fun h=>⟨ID,h⟩⟩
 have hss:c.ss.length=c.ps.length:=hc.va.len
 have ao2:=ao ID
 have Hl:=hc.va.sp (i:=(nt c.a i).n.toNat) (by omega)
 have vU:c.O.pl (nt c.a i).n=c.ps.getD (nt c.a i).n.toNat 0:=rfl
 rw [show c.O.sp (c.O.pl (nt c.a i).n)=c.ss.getD (nt c.a i).n.toNat 0 from Hl] at hR
 refine aq (nk c.a i).length (fun n=>∀ s,s < n→¬ (c.tE ((nk c.a i).getD s 0) k∨c.tR ((nk c.a i).getD s 0) k)) (fun n=>[(0,.ptr x 0),(1,.int .i64 i),(2,.int .i64 k),(7,.ah (kB (c.a.getD i.toNat default))),(8,.ah (kB (c.b.getD k.toNat default))),(9,.int .i64 n)]) (fun _=>H) ⟨fun s hs=>(by cases hs),ax _ _ _⟩ fun n hn hI=>?_
 by_cases h1:n < (nk c.a i).length
 ·have l1:decide ((n:Int) < (nk c.a i).length)=true:=decide_eq_true (by omega)
  obtain ⟨a0,a1⟩:=ky.ia _ (bj h1)
  obtain ⟨⟨r,bs,xb,e1,e2,e3,e4,e5,e6⟩,r',bs',xb',e1',e2',e3',e4',e5',e6'⟩:=h.rows ((nk c.a i).getD n 0) k a0 hk.1 hk.2 (.inl a1)
  have yes (hx:c.tE ((nk c.a i).getD n 0) k∨c.tR ((nk c.a i).getD n 0) k):c.tR i k:=hR.2 (.inl ⟨_,bj h1,hx⟩)
  cases xb with
  | true=>
    simp +contextual only [h.x,h.e,KE,gP,aN,uE,e1,e3,e5,l1,List.getD_cons_succ,List.getD_cons_zero,abP,zB,sZ,Nat.reduceEqDiff,Nat.reduceAdd,Nat.reduceLT,↓reduceIte,reduceCtorEq]
    exact fun _=>⟨⟨by omega,by omega⟩,⟨a0,by omega⟩,e2,hk,e4,fD ⟨true,rfl,fun _=>yes (.inl (e6.1 rfl)),fun _=>rfl⟩⟩
  | false=>
    simp +contextual only [h.x,h.e,h.g,KE,gP,aN,uE,e1,e3,e5,e1',e3',e5',l1,List.getD_cons_succ,List.getD_cons_zero,abP,zB,sZ,Nat.reduceEqDiff,Nat.reduceAdd,Nat.reduceLT,↓reduceIte,reduceCtorEq]
    refine fun _=>⟨⟨by omega,by omega⟩,⟨a0,by omega⟩,e2,hk,e4,⟨by omega,by omega⟩,⟨a0,by omega⟩,e2',hk,e4',?_⟩
    cases xb' with
    | true=>
      simp +contextual only [sZ,↓reduceIte,reduceCtorEq]
      exact fD ⟨true,rfl,fun _=>yes (.inr (e6'.1 rfl)),fun _=>rfl⟩
    | false=>
      simp +contextual only [sZ,Nat.reduceEqDiff,↓reduceIte,reduceCtorEq]
      refine ⟨n + 1,⟨h1,fun s hs=>?_⟩,by omega,ay (by rw [aj n (by omega)]) rfl⟩
      by_cases e:s=n
      ·subst e
       rintro (hh | hh)
       ·exact absurd (e6.2 hh) (by simp)
       ·exact absurd (e6'.2 hh) (by simp)
      ·exact hI s (by omega)
 ·have l1:decide ((n:Int) < (nk c.a i).length)=false:=decide_eq_false (by omega)
  have no:¬ ∃ x∈nk c.a i,c.tE x k∨c.tR x k:=by
   rintro ⟨x,hx,hh⟩
   obtain ⟨s,hs,rfl⟩:=fY hx
   exact hI s (by omega) hh
  have hR:c.tR i k↔_:=hR.trans ⟨fun h=>h.resolve_left no,.inr⟩
  simp +contextual only [KE,QT,gP,kD,l1,h.x,aN,List.getD_cons_zero,sZ,Nat.reduceEqDiff,Nat.reduceAdd,Nat.reduceLT,↓reduceIte,reduceCtorEq]
  refine fun _=>⟨fun uY=>fD ⟨false,rfl,fun h=>absurd h (by simp),fun hh=>absurd (hR.1 hh).1 uY⟩,fun uY=>⟨ao2,bo uY,fun Rf=>?_,fun Rf=>?_⟩⟩
  ·refine af fU ?_
   rintro r G ⟨⟨u,rfl,hu⟩,rfl⟩
   simp +contextual only [sZ,↓reduceIte,reduceCtorEq]
   refine fD ⟨u,rfl,hu.trans ⟨fun h=>hR.2 ⟨uY,.inl ⟨Rf,h⟩⟩,fun hh=>?_⟩⟩
   rcases (hR.1 hh).2 with h | h | h
   ·exact h.2
   ·have:=h.1
    exact absurd Rf (by rw [show c.ps.getD (nt c.b k).n.toNat 0=c.ps.getD (nt c.a i).n.toNat 0 from this];omega)
   ·have:=h.1
    exact absurd Rf (by rw [show c.ps.getD (nt c.b k).n.toNat 0=c.ps.getD (nt c.a i).n.toNat 0 from this];omega)
  have hR:c.tR i k↔_:=hR.trans ⟨fun h=>h.2.resolve_left fun h2=>absurd h2.1 (by rw [← Int.not_lt] at Rf;exact Rf),fun h=>⟨uY,.inr h⟩⟩
  simp +contextual only [s6,q4,QT,kD,sZ,Nat.reduceEqDiff,↓reduceIte,reduceCtorEq]
  refine aB (aa6 c.ps c.ss _ _ (ao ID) (bo uY)) ?_
  rw [show (iq c.ps c.ss)=c.O from rfl]
  by_cases hp:c.O.pl (nt c.a i).n=c.O.pl (nt c.b k).n
  rotate_left
  ·simp +contextual only [decide_eq_false hp,sZ,Nat.reduceEqDiff,↓reduceIte,reduceCtorEq]
   exact fD ⟨false,rfl,fun h=>absurd h (by simp),fun hh=>by rcases hR.1 hh with h | h <;> exact absurd h.1.symm hp⟩
  simp +contextual only [decide_eq_true hp,h.x,QT,KE,kD,gP,aN,List.getD_cons_succ,List.getD_cons_zero,sZ,Nat.reduceEqDiff,Nat.reduceAdd,Nat.reduceLT,↓reduceIte,reduceCtorEq]
  refine ⟨⟨ao2.1,by omega⟩,fun h3=>?_,fun h3=>?_⟩
  ·refine af hmul ?_
   rintro r G ⟨⟨u,rfl,hu⟩,rfl⟩
   simp +contextual only [sZ,↓reduceIte,reduceCtorEq]
   refine fD ⟨u,rfl,hu.trans ⟨fun h=>hR.2 (.inr ⟨hp.symm,h3,h⟩),fun hh=>?_⟩⟩
   rcases hR.1 hh with h | h
   ·exact absurd h3 h.2.1
   ·exact h.2.2
  ·have hside {l m:List Int} (h1:KF c i l m) (s:Int):KF c i (bt s l) (bt s m):=⟨fun x hx=>h1.ia x (kJ.1 hx),fun y hy=>h1.ib y (kJ.1 hy),by rw [iF];exact h1.la,by rw [iF];exact h1.lb⟩
   simp +contextual only [s6,q4,QT,KE,kD,gP,sZ,Nat.reduceEqDiff,↓reduceIte,reduceCtorEq]
   refine aB (aa7 c.ps c.ss _ _ Sd ⟨ao2.1,by omega⟩) ?_
   simp +contextual only [h.x,s6,q4,QT,KE,kD,gP,sZ,Nat.reduceEqDiff,Nat.reduceAdd,↓reduceIte,reduceCtorEq]
   refine aB (aa7 c.ps c.ss _ _ Oj ⟨ao2.1,by omega⟩) ?_
   simp +contextual only [sZ,Nat.reduceEqDiff,↓reduceIte,reduceCtorEq]
   refine rJ (afq (hside ky (c.ss.getD (nt c.a i).n.toNat 0))) fun u hu=>?_
   cases u with
   | false=>
     simp +contextual only [sZ,Nat.reduceEqDiff,↓reduceIte,reduceCtorEq]
     refine fD ⟨false,rfl,fun h=>absurd h (by simp),fun hh=>?_⟩
     rcases hR.1 hh with h | h
     ·exact absurd (hu.2 h.2.2.2) (by simp)
     ·exact absurd h.2.1 h3
   | true=>
     simp +contextual only [sZ,Nat.reduceEqDiff,Nat.reduceAdd,↓reduceIte,reduceCtorEq]
     refine af fU ?_
     rintro r G ⟨⟨v,rfl,hv⟩,rfl⟩
     simp +contextual only [sZ,Nat.reduceEqDiff,↓reduceIte,reduceCtorEq]
     refine fD ⟨v,rfl,hv.trans ⟨fun h=>hR.2 (.inl ⟨hp.symm,h3,h,hu.1 rfl⟩),fun hh=>?_⟩⟩
     rcases hR.1 hh with h | h
     ·exact h.2.2.1
     ·exact absurd h.2.1 h3
end Go.aI
end
section
set_option maxRecDepth 100000
set_option maxHeartbeats 0
namespace Go.aI
open Go Go.Proofs
noncomputable def Su:=aH Tryz.call137 Tryz.func137 Tryz.ntmps137 [(0,0,1),(0,1,1),(0,2,1),(1,2,1),(1,4,1),(5,12,3),(5,15,2),(6,12,3),(6,15,2)] [(0,[3,4,5]),(1,[7]),(2,[7,8]),(3,[7,8,23]),(4,[7,8]),(5,[7,8]),(6,[7,8]),(7,[7,8,9]),(8,[7,8,9,62]),(9,[7,8,9]),(10,[7,8,9]),(11,[7,8,9]),(12,[6])] [(1,(.take 1 true (.take 0 false (.take 3 false (.br 2 (.br 4 (.take 5 true (.br 6 (.take 7 true .done) .nil)) .nil) .nil))))),(5,(tkq 5 5 (.take 0 false (.take 1 false (.take 2 false (.take 3 false (.br 4 (.br 10 (.take 11 true (.br 12 (.take 13 true (.take 14 true (.br 15 .done .nil))) .nil)) .nil) (.br 10 (.take 4 true (.take 11 true (.br 12 (.take 13 true (.take 14 true (.br 15 .done .nil))) .nil))) .nil)))))))),(6,(tkq 5 5 (.take 0 false (.take 1 false (.take 2 false (.take 3 false (.br 4 (.br 10 (.take 11 true (.br 12 (.take 13 true (.take 14 true (.br 15 .done .nil))) .nil)) .nil) (.br 10 (.take 4 true (.take 11 true (.br 12 (.take 13 true (.take 14 true (.br 15 .done .nil))) .nil))) .nil)))))))),(10,(tkq 8 4 (tkq 0 8 (.take 12 true (.br 13 .done .nil))))),(11,(tkq 8 4 (tkq 0 8 (.take 12 true (.br 13 .done .nil)))))]
end Go.aI
end
section
set_option maxRecDepth 100000
namespace Go.aI
open Go Go.Proofs Go.dD
structure yK {τ:Type} (n0:Nat) (G:List aa) (ad:τ→Nat) (ct:τ→Option aa):Prop where
 get:∀ t o,ct t=some o→G[ad t]?=some o
 inj:∀ s t,ct s≠none→ct t≠none→ad s=ad t→s=t
 lo:∀ t,ct t≠none→n0≤ad t
section
variable {τ:Type} [DecidableEq τ] {n0:Nat} {G:List aa} {ad:τ→Nat} {ct:τ→Option aa}
theorem yK.lt (h:yK n0 G ad ct) {t:τ} (ht:ct t≠none):ad t < G.length:=by
 cases e:ct t with
 | none=>exact absurd e ht
 | some o=>exact (aa2.1 (h.get t o e)).1
theorem yK.set (h:yK n0 G ad ct) {t:τ} (ht:ct t≠none) (o:aa):yK n0 (G.set (ad t) o) ad (fun s=>if s=t then some o else ct s):=by
 refine ⟨fun s p hs=>?_,fun s u hs hu e=>?_,fun s hs=>?_⟩
 ·by_cases e:s=t
  ·subst e
   rw [if_pos rfl] at hs;cases hs
   rw [Sx (h.lt ht)]
  ·rw [if_neg e] at hs
   rw [zA (fun e2=>e (h.inj s t (by rw [hs];simp) ht e2.symm))]
   exact h.get s p hs
 ·refine h.inj s u (fun e2=>hs ?_) (fun e2=>hu ?_) e
  ·by_cases e3:s=t
   ·subst e3;exact absurd e2 ht
   ·rw [if_neg e3];exact e2
  ·by_cases e3:u=t
   ·subst e3;exact absurd e2 ht
   ·rw [if_neg e3];exact e2
 ·by_cases e3:s=t
  ·subst e3;exact h.lo s ht
  ·rw [if_neg e3] at hs;exact h.lo s hs
theorem yK.new (h:yK n0 G ad ct) (hn:n0≤G.length) (t:τ) (o:aa):yK n0 (G++[o]) (fun s=>if s=t then G.length else ad s) (fun s=>if s=t then some o else ct s):=by
 refine ⟨fun s p hs=>?_,fun s u hs hu e=>?_,fun s hs=>?_⟩
 ·by_cases e:s=t
  ·simp only [if_pos e] at hs ⊢;cases hs;simp
  ·simp only [if_neg e] at hs ⊢
   rw [zz (h.lt (by rw [hs];simp))]
   exact h.get s p hs
 ·by_cases e1:s=t <;> by_cases e2:u=t
  ·rw [e1,e2]
  ·simp only [if_pos e1,if_neg e2] at hs hu e
   have:=h.lt hu;omega
  ·simp only [if_neg e1,if_pos e2] at hs hu e
   have:=h.lt hs;omega
  ·simp only [if_neg e1,if_neg e2] at hs hu e
   exact h.inj s u hs hu e
 ·by_cases e1:s=t
  ·simp only [if_pos e1];exact hn
  ·simp only [if_neg e1] at hs ⊢;exact h.lo s hs
theorem yK.congr {ad':τ→Nat} {ct':τ→Option aa} (h:yK n0 G ad ct) (hc:∀ t,ct' t=ct t) (ha:∀ t,ct t≠none→ad' t=ad t):yK n0 G ad' ct':=by
 refine ⟨fun t o ht=>?_,fun s t hs ht e=>?_,fun t ht=>?_⟩
 ·rw [hc] at ht
  rw [ha t (by rw [ht];simp)];exact h.get t o ht
 ·rw [hc] at hs ht
  rw [ha s hs,ha t ht] at e
  exact h.inj s t hs ht e
 ·rw [hc] at ht
  rw [ha t ht];exact h.lo t ht
noncomputable def yA (n0:Nat) (ad:τ→Nat) (ct:τ→Option aa) (G:List aa):List aa:=
 G.mapIdx fun j o=>@ite _ (j < n0∨∃ t,ct t≠none∧ad t=j) (Classical.propDecidable _) o .dead
theorem uF (j:Nat):(yA n0 ad ct G)[j]?=(G[j]?).map fun o=>@ite _ (j < n0∨∃ t,ct t≠none∧ad t=j) (Classical.propDecidable _) o .dead:=by simp [yA]
theorem uG:(yA n0 ad ct G).length=G.length:=by simp [yA]
theorem Hc:(yA n0 ad ct G).take n0=G.take n0:=by
 apply abT
 intro j
 rw [aaG,aaG]
 split
 ·rename_i hj
  rw [uF]
  cases G[j]? with
  | none=>rfl
  | some o=>simp [hj]
 ·rfl
theorem yK.mv (h:yK n0 G ad ct):yK n0 (yA n0 ad ct G) ad ct:=by
 refine ⟨fun t o ht=>?_,h.inj,h.lo⟩
 rw [uF,h.get t o ht,Option.map_some,if_pos (.inr ⟨t,by rw [ht];simp,rfl⟩)]
theorem yK.shut (h:yK n0 G ad ct) (hb:∀ t o,ct t=some o→o.bc G.length=true):xm n0 G G.length (yA n0 ad ct G):=by
 refine ⟨by rw [uG];simp,fun j x hx=>?_⟩
 rw [uF] at hx
 obtain ⟨y,hy,e⟩:=aal.1 hx
 split at e
 ·rename_i hp
  subst e
  refine .inr ⟨hy,fun h0=>?_⟩
  rcases hp with h1 | ⟨t,ht,rfl⟩
  ·omega
  ·cases e2:ct t with
   | none=>exact absurd e2 ht
   | some o=>
     have:=h.get t o e2
     rw [hy] at this;cases this
     rw [uG]
     exact hb t _ e2
 ·exact .inl e.symm
end
inductive Tg where
 | x | e | g
 | re (j:Nat)
 | rg (j:Nat)
 deriving DecidableEq
def iw (E:Nat→Bool) (nb m:Nat):aa:=.cells ((List.range nb).map fun k=>.bool (decide (k < m) && E k))
noncomputable def Tb.eB (c:Tb) (i k:Nat):Bool:=decide (c.f i=c.g k)
noncomputable def Tb.gB (c:Tb) (i k:Nat):Bool:=@decide (c.tR i k) (Classical.propDecidable _)
def jC (c:Tb) (ne ng:Nat) (ve vg:AV) (oe og:Option aa) (fE fG:Nat→aa):Tg→Option aa
 | .x=>some (.cells [.al 0 (ints c.ps),.al 0 (ints c.ss),.al 0 (dz c.a),.al 0 (dz c.b),ve,vg])
 | .e=>oe
 | .g=>og
 | .re j=>if j < ne then some (fE j) else none
 | .rg j=>if j < ng then some (fG j) else none
def eR (ad:Tg→Nat) (rr:Nat→Tg) (nb n cap:Nat):List AV:=(List.range n).map (fun j=>.aZ (ad (rr j)) 0 nb nb)++List.replicate (cap - n) .ag
def RV (ad:Tg→Nat) (nb:Nat) (tt:Tg) (rr:Nat→Tg) (v:AV) (o:Option aa) (n:Nat):Prop:=
 (n=0∧v=.ag∧o=none)∨(0 < n∧∃ cap,n≤cap∧v=.aZ (ad tt) 0 n cap∧o=some (.cells (eR ad rr nb n cap)))
def iM (c:Tb) (H:List aa) (i kE kG ne ng:Nat) (G:List aa):Prop:=
 ∃ ad ve vg oe og,ad .x=H.length∧G.take H.length=H∧H.length≤G.length∧
  yK H.length G ad (jC c ne ng ve vg oe og (fun j=>iw (c.eB j) c.b.length (if j < i then c.b.length else kE)) (fun j=>iw (c.gB j) c.b.length (if j < i then c.b.length else kG)))∧
  RV ad c.b.length .e .re ve oe ne∧RV ad c.b.length .g .rg vg og ng
theorem qj {ad:Tg→Nat} {rr:Nat→Tg} {nb n cap j:Nat} (h:j < n):(eR ad rr nb n cap).getD j .any=.aZ (ad (rr j)) 0 nb nb∧j < (eR ad rr nb n cap).length:=by
 constructor
 ·rw [eR,th,zz (by simpa using h)]
  simp [h]
 ·simp [eR];omega
theorem EP {E:Nat→Bool} {nb m k:Nat} (h:k < nb):((List.range nb).map fun k=>AV.bool (decide (k < m) && E k)).getD k .any=.bool (decide (k < m) && E k):=by
 simp [h]
theorem iM.tb {c:Tb} {H G:List aa} {i kE kG k:Nat} (h:iM c H i kE kG (i + 1) (i + 1) G) (h1:k≤kE) (h2:k≤kG):Ss c H.length i k G:=by
 obtain ⟨ad,ve,vg,oe,og,hx,_,_,hL,hE,hG⟩:=h
 rcases hE with ⟨h0,_⟩ | ⟨_,ce,hce,rfl,rfl⟩
 ·omega
 rcases hG with ⟨h0,_⟩ | ⟨_,cg,hcg,rfl,rfl⟩
 ·omega
 refine ⟨ad .e,i + 1,ce,_,ad .g,i + 1,cg,_,?_,hL.get .e _ rfl,hL.get .g _ rfl,by omega,by omega,fun j m h0 hm Wh hjm=>?_⟩
 ·have:=hL.get .x _ rfl
  rwa [hx] at this
 obtain ⟨j,rfl⟩:=ab1 h0
 obtain ⟨m,rfl⟩:=ab1 hm
 have hj:j < i + 1:=by omega
 have Wh:m < c.b.length:=by omega
 have aM:∀ kk,k≤kk→m < if j < i then c.b.length else kk:=fun kk hk=>by
  split
  ·exact Wh
  ·have:j=i:=by omega
   omega
 have e1:=hL.get (.re j) _ (if_pos hj)
 have e2:=hL.get (.rg j) _ (if_pos hj)
 obtain ⟨g1,g2⟩:=qj (ad:=ad) (rr:=.re) (nb:=c.b.length) (cap:=ce) hj
 obtain ⟨g3,g4⟩:=qj (ad:=ad) (rr:=.rg) (nb:=c.b.length) (cap:=cg) hj
 refine ⟨⟨_,_,_,g1,g2,e1,by simpa using Wh,EP Wh,?_⟩,_,_,_,g3,g4,e2,by simpa using Wh,EP Wh,?_⟩
 ·have:=aM kE h1
  simp only [zB]
  rw [decide_eq_true this]
  simp [Tb.eB,Tb.tE]
 ·have:=aM kG h2
  simp only [zB]
  rw [decide_eq_true this]
  simp [Tb.gB]
end Go.aI
end
section
set_option maxRecDepth 100000
namespace Go.aI
open Go Go.Proofs Go.dD
theorem Kn (k:Nat):flat (List.replicate k AV.ag)=List.replicate k .ag:=by
 induction k with
 | zero=>rfl
 | succ k ih=>rw [acE,show flat (AV.ag::List.replicate k .ag)=.ag::flat (List.replicate k .ag) from rfl,ih]
theorem AR (k:Nat):cz .ag k=List.replicate k .ag:=Kn k
theorem pH {ad ad':Tg→Nat} {rr:Nat→Tg} {nb n cap:Nat} (h:∀ j,j < n→ad' (rr j)=ad (rr j)):eR ad' rr nb n cap=eR ad rr nb n cap:=by
 unfold eR
 congr 1
 exact ab2 fun j hj=>by rw [h j (abG.1 hj)]
theorem Ko {ad:Tg→Nat} {rr:Nat→Tg} {nb n cap:Nat} (h:n≤cap):(eR ad rr nb n cap).length=cap:=by simp [eR];omega
theorem uH {ad:Tg→Nat} {rr:Nat→Tg} {nb n cap m:Nat} (h:∀ j,j < n→ad (rr j) < m):aw m (eR ad rr nb n cap)=true:=by
 rw [bg]
 intro x hx
 rw [eR] at hx
 rcases abF.1 hx with hx | hx
 ·obtain ⟨j,hj,rfl⟩:=aaw.1 hx
  have:=h j (abG.1 hj)
  rw [eL];simpa using this
 ·rw [abX hx];rfl
theorem rK {ad:Tg→Nat} {rr:Nat→Tg} {nb n cap:Nat}:eR ad rr nb (n + 1) cap=(List.range n).map (fun j=>AV.aZ (ad (rr j)) 0 nb nb)++[.aZ (ad (rr n)) 0 nb nb]++List.replicate (cap - (n + 1)) .ag:=by
 rw [eR,adp,ab8];rfl
theorem Cv {ad:Tg→Nat} {rr:Nat→Tg} {nb n cap:Nat} (h:n < cap):ai (eR ad rr nb n cap) n [.aZ (ad (rr n)) 0 nb nb]=eR ad rr nb (n + 1) cap:=by
 rw [rK,eR]
 have hl:((List.range n).map (fun j=>AV.aZ (ad (rr j)) 0 nb nb)).length=n:=by simp
 generalize (List.range n).map (fun j=>AV.aZ (ad (rr j)) 0 nb nb)=X at hl ⊢
 subst hl
 have e:cap - X.length=(cap - (X.length + 1)) + 1:=by omega
 rw [e,acE]
 simp [ai]
theorem EQ {ad:Tg→Nat} {rr:Nat→Tg} {nb n:Nat}:((List.range n).map (fun j=>AV.aZ (ad (rr j)) 0 nb nb)).map AV.ab=(List.range n).map (fun j=>AV.aZ (ad (rr j)) 0 nb nb):=by
 rw [acH];rfl
theorem Hd {ad:Tg→Nat} {rr:Nat→Tg} {nb n cap:Nat}:(eR ad rr nb n cap).take n=(List.range n).map (fun j=>AV.aZ (ad (rr j)) 0 nb nb):=by
 rw [eR,abd (by simp),aax (by simp)]
theorem RV.facts {ad:Tg→Nat} {nb:Nat} {tt:Tg} {rr:Nat→Tg} {v:AV} {o:Option aa} {n:Nat} (h:RV ad nb tt rr v o n):v.one=true∧v.val=true∧v.ab=v∧v.cells=[v]:=by
 rcases h with ⟨_,rfl,_⟩ | ⟨_,cap,_,rfl,_⟩ <;> exact ⟨rfl,rfl,rfl,rfl⟩
theorem apW {n0:Nat} {G:List aa} {ad:Tg→Nat} {ct:Tg→Option aa} {nb n:Nat} {tt:Tg} {rr:Nat→Tg} {v:AV} (dP:∀ j,rr j≠tt) (hL:yK n0 G ad ct) (Ba:n0≤G.length) (hv:RV ad nb tt rr v (ct tt) n)
 (K3:∀ j,j≤n→ct (rr j)≠none) (hb:(n + 1) * 24≤140737488355328) (o:Nat) {K:AV→List aa→Prop}
 (hK:∀ ad' v' o' G',(∀ s,s≠tt→ad' s=ad s)→yK n0 G' ad' (fun s=>if s=tt then o' else ct s)→RV ad' nb tt rr v' o' (n + 1)→G'.take n0=G.take n0→G.length≤G'.length→v'.bc G'.length=true→K v' G') :
 fL n0 1 24 .ag v (.al o [.aZ (ad (rr n)) 0 nb nb]) G K:=by
 have aM:∀ j,j≤n→ad (rr j) < G.length:=fun j hj=>hL.lt (K3 j hj)
 have kw:qR 1 [.aZ (ad (rr n)) 0 nb nb]:=fun y hy=>by rw [aay.1 hy];exact ⟨rfl,rfl⟩
 have fl:(flat [AV.aZ (ad (rr n)) 0 nb nb]).map AV.ab=[.aZ (ad (rr n)) 0 nb nb]:=rfl
 unfold fL jN
 simp only [dK]
 rcases hv with ⟨rfl,rfl,he⟩ | ⟨hn,cap,bY,rfl,he⟩
 ·dsimp only
  refine ⟨fun _ _ _ _ e=>(by cases e),kw,by simp,fun e=>(by cases e),fun _ cap hc _=>?_⟩
  rw [fl,AR]
  have e1:[AV.aZ (ad (rr 0)) 0 nb nb]++List.replicate (cap - [AV.aZ (ad (rr 0)) 0 nb nb].length) .ag=eR ad rr nb (0 + 1) cap:=by rw [rK];rfl
  rw [e1]
  have e2:eR (fun s=>if s=tt then G.length else ad s) rr nb (0 + 1) cap=eR ad rr nb (0 + 1) cap:=pH fun j _=>if_neg (dP j)
  refine ⟨uH fun j hj=>by have:=aM j (by omega);omega,hK _ _ _ _ (fun s hs=>if_neg hs) (hL.new Ba tt _) (.inr ⟨by omega,cap,by simpa using hc,?_,?_⟩) ?_ (by simp) (by rw [eL];simp)⟩
  ·simp
  ·rw [e2]
  ·rw [abd Ba]
 ·have hg:=hL.get tt _ he
  have ht:ct tt≠none:=by rw [he];simp
  have bF:=hL.lt ht
  simp only [hg]
  refine ⟨fun _ _ _ _ e=>by cases e;exact hL.lo tt ht,kw,by simpa using hb,bY,by rw [Ko bY];simp,fun hroom=>?_,fun jZ c8 hc _=>?_⟩
  ·rw [fl]
   have hroom:n < cap:=by simp only [aeR] at hroom;omega
   rw [show 0 + n * 1=n by omega,Cv hroom]
   refine ⟨by rw [bL,cV,eL];simpa using aM n (zy _),hK ad _ _ _ (fun s _=>rfl) (hL.set ht _) (.inr ⟨by omega,cap,hroom,rfl,rfl⟩) (abz (hL.lo tt ht)) (by simp) (by rw [eL];simpa using bF)⟩
  ·rw [fl,AR,List.drop_zero,abP,Hd,EQ]
   have e1:(List.range n).map (fun j=>AV.aZ (ad (rr j)) 0 nb nb)++[.aZ (ad (rr n)) 0 nb nb]++List.replicate (c8 - (n + [AV.aZ (ad (rr n)) 0 nb nb].length)) .ag=eR ad rr nb (n + 1) c8:=by rw [rK];rfl
   rw [e1]
   have e2:eR (fun s=>if s=tt then G.length else ad s) rr nb (n + 1) c8=eR ad rr nb (n + 1) c8:=pH fun j _=>if_neg (dP j)
   refine ⟨uH fun j hj=>by have:=aM j (by omega);omega,hK _ _ _ _ (fun s hs=>if_neg hs) (hL.new Ba tt _) (.inr ⟨by omega,c8,by simpa using hc,?_,?_⟩) ?_ (by simp) (by rw [eL];simp)⟩
   ·simp
   ·rw [e2]
   ·rw [abd Ba]
theorem Kp (E:Nat→Bool) (nb:Nat):aa.cells (flat (List.replicate nb (bU (.bool false))))=iw E nb 0:=by
 rw [iw]
 congr 1
 induction nb with
 | zero=>rfl
 | succ k ih=>
   rw [adp,ab8,← ih,afT]
   unfold flat
   rw [adS];rfl
theorem NM (E:Nat→Bool) {nb m:Nat} (h:m < nb):(((List.range nb).map fun k=>AV.bool (decide (k < m) && E k)).set m (.bool (E m)))=(List.range nb).map fun k=>AV.bool (decide (k < m + 1) && E k):=by
 apply aes
 ·simp
 ·intro j h1 h2
  rw [List.getElem_set]
  split
  ·rename_i e
   subst e;simp
  ·rename_i e
   have:decide (j < m)=decide (j < m + 1):=by
    by_cases hj:j < m
    ·rw [decide_eq_true hj,decide_eq_true (by omega)]
    ·rw [decide_eq_false hj,decide_eq_false (by omega)]
   simp [this]
end Go.aI
end
section
set_option maxRecDepth 100000
namespace Go.aI
open Go Go.Proofs Go.dD
theorem RV.congr {ad ad':Tg→Nat} {nb:Nat} {tt:Tg} {rr:Nat→Tg} {v:AV} {o:Option aa} {n:Nat} (h:RV ad nb tt rr v o n) (h1:ad' tt=ad tt) (h2:∀ j,j < n→ad' (rr j)=ad (rr j)):RV ad' nb tt rr v o n:=by
 rcases h with h | ⟨hn,cap,hc,e1,e2⟩
 ·exact .inl h
 ·exact .inr ⟨hn,cap,hc,by rw [h1];exact e1,by rw [pH h2];exact e2⟩
def iz (c:Tb) (ve vg:AV):aa:=.cells [.al 0 (ints c.ps),.al 0 (ints c.ss),.al 0 (dz c.a),.al 0 (dz c.b),ve,vg]
theorem NN {nb:Nat} (E:Nat→Bool) (h:nb≤100000000) (G:List aa) (K:AV→List aa→Prop):gY 1 1 (.bool false) (.int .i64 (nb:Int)) G K=K (.aZ G.length 0 nb nb) (G++[iw E nb 0]):=by
 have hb:aw (G.length + 1) (flat (List.replicate nb (bU (.bool false))))=true:=by
  rw [bg]
  intro x hx
  obtain ⟨y,hy,hxy⟩:=abY.1 hx
  rw [abX hy] at hxy
  rw [aay.1 hxy];rfl
 simp only [gY,zB,eq_iff_iff,Kp E nb]
 exact ⟨fun h=>h.2.2.2,fun hk=>⟨by omega,by omega,hb,hk⟩⟩
theorem iM.afr {c:Tb} {H G:List aa} {i:Nat} (h:iM c H i 0 0 i i G) (hi:i≤100000000) {ve vg:AV} (hX:G[H.length]?=some (iz c ve vg)) {K:AV→List aa→Prop}
 (hK:∀ v' G2,G2[H.length]?=some (iz c ve vg)→(v'.one=true∧v'.val=true∧v'.ab=v'∧v'.cells=[v'])→v'.bc G2.length=true→H.length≤G2.length→iM c H i 0 0 (i + 1) i (G2.set H.length (iz c v' vg))→K v' G2) :
 fL H.length 1 24 .ag ve (.al 0 [.aZ G.length 0 c.b.length c.b.length]) (G++[iw (c.eB i) c.b.length 0]) K:=by
 obtain ⟨ad,ve0,vg0,oe,og,hx,hH,hlen,hL,hE,hG⟩:=h
 have Qu:=hL.get .x _ rfl
 rw [hx,hX] at Qu
 simp only [iz,Option.some.injEq,aa.cells.injEq,List.cons.injEq,true_and,and_true] at Qu
 obtain ⟨rfl,rfl⟩:=Qu
 have Rk:=hL.new hlen (.re i) (iw (c.eB i) c.b.length 0)
 have hE1:RV (fun s=>if s=Tg.re i then G.length else ad s) c.b.length .e .re ve oe i:=hE.congr (by simp) (fun j hj=>by simp;omega)
 have key:=apW (n:=i) (tt:=.e) (rr:=.re) (nb:=c.b.length) (v:=ve) (fun j=>by simp) Rk (by simp;omega) (by simpa [jC] using hE1) (fun j hj=>by
  by_cases e:j=i
  ·simp [e]
  ·simp [e,jC];omega) (by omega) 0 (K:=K) (fun ad' v' o' G2 ha hl hr ht v7 nj=>?_)
 ·rw [show (if Tg.re i=Tg.re i then G.length else ad (Tg.re i))=G.length from if_pos rfl] at key
  exact key
 have rN:ad' .x=H.length:=by rw [ha .x (by simp)];simp [hx]
 have Sv:=hl.get .x (iz c ve vg) (by simp [jC,iz])
 rw [rN] at Sv
 have qM:=hl.set (t:=.x) (by simp [jC]) (iz c v' vg)
 rw [rN] at qM
 have KB:H.length≤G2.length:=by simp at v7;omega
 refine hK v' G2 Sv hr.facts nj KB ⟨ad',v',vg,o',og,rN,?_,by simpa using KB,qM.congr (fun t=>?_) (fun t _=>rfl),hr,hG.congr ?_ fun j hj=>?_⟩
 ·rw [abz (zy _),ht,abd hlen,hH]
 ·cases t with
  | x=>simp [jC,iz]
  | e=>simp [jC]
  | g=>simp [jC]
  | re j=>
    by_cases e:j=i
    ·subst e;simp [jC]
    ·by_cases e2:j < i
     ·simp [jC,e,e2,show j < i + 1 by omega]
     ·simp [jC,e,e2,show ¬ j < i + 1 by omega]
  | rg j=>simp [jC]
 ·rw [ha .g (by simp)];simp
 ·rw [ha (.rg j) (by simp)];simp
theorem iM.aft {c:Tb} {H G:List aa} {i:Nat} (h:iM c H i 0 0 (i + 1) i G) (hi:i≤100000000) {ve vg:AV} (hX:G[H.length]?=some (iz c ve vg)) {K:AV→List aa→Prop}
 (hK:∀ v' G2,G2[H.length]?=some (iz c ve vg)→(v'.one=true∧v'.val=true∧v'.ab=v'∧v'.cells=[v'])→v'.bc G2.length=true→H.length≤G2.length→iM c H i 0 0 (i + 1) (i + 1) (G2.set H.length (iz c ve v'))→K v' G2) :
 fL H.length 1 24 .ag vg (.al 0 [.aZ G.length 0 c.b.length c.b.length]) (G++[iw (c.gB i) c.b.length 0]) K:=by
 obtain ⟨ad,ve0,vg0,oe,og,hx,hH,hlen,hL,hE,hG⟩:=h
 have Qu:=hL.get .x _ rfl
 rw [hx,hX] at Qu
 simp only [iz,Option.some.injEq,aa.cells.injEq,List.cons.injEq,true_and,and_true] at Qu
 obtain ⟨rfl,rfl⟩:=Qu
 have Rk:=hL.new hlen (.rg i) (iw (c.gB i) c.b.length 0)
 have hE1:RV (fun s=>if s=Tg.rg i then G.length else ad s) c.b.length .g .rg vg og i:=hG.congr (by simp) (fun j hj=>by simp;omega)
 have key:=apW (n:=i) (tt:=.g) (rr:=.rg) (nb:=c.b.length) (v:=vg) (fun j=>by simp) Rk (by simp;omega) (by simpa [jC] using hE1) (fun j hj=>by
  by_cases e:j=i
  ·simp [e]
  ·simp [e,jC];omega) (by omega) 0 (K:=K) (fun ad' v' o' G2 ha hl hr ht v7 nj=>?_)
 ·rw [show (if Tg.rg i=Tg.rg i then G.length else ad (Tg.rg i))=G.length from if_pos rfl] at key
  exact key
 have rN:ad' .x=H.length:=by rw [ha .x (by simp)];simp [hx]
 have Sv:=hl.get .x (iz c ve vg) (by simp [jC,iz])
 rw [rN] at Sv
 have qM:=hl.set (t:=.x) (by simp [jC]) (iz c ve v')
 rw [rN] at qM
 have KB:H.length≤G2.length:=by simp at v7;omega
 refine hK v' G2 Sv hr.facts nj KB ⟨ad',ve,v',oe,o',rN,?_,by simpa using KB,qM.congr (fun t=>?_) (fun t _=>rfl),hE.congr ?_ fun j hj=>?_,hr⟩
 ·rw [abz (zy _),ht,abd hlen,hH]
 ·cases t with
  | x=>simp [jC,iz]
  | e=>simp [jC]
  | g=>simp [jC]
  | rg j=>
    by_cases e:j=i
    ·subst e;simp [jC]
    ·by_cases e2:j < i
     ·simp [jC,e,e2,show j < i + 1 by omega]
     ·simp [jC,e,e2,show ¬ j < i + 1 by omega]
  | re j=>simp [jC]
 ·rw [ha .e (by simp)];simp
 ·rw [ha (.re j) (by simp)];simp
theorem iM.afu {c:Tb} {H G:List aa} {i k kG:Nat} (h:iM c H i k kG (i + 1) (i + 1) G) (hk:k < c.b.length) :
 ∃ ie ce vg es r,G[H.length]?=some (iz c (.aZ ie 0 (i + 1) ce) vg)∧G[ie]?=some (.cells es)∧es.getD i .any=.aZ r 0 c.b.length c.b.length∧i < es.length∧
  G[r]?=some (iw (c.eB i) c.b.length k)∧iM c H i (k + 1) kG (i + 1) (i + 1) (G.set r (iw (c.eB i) c.b.length (k + 1))):=by
 obtain ⟨ad,ve,vg,oe,og,hx,hH,hlen,hL,hE,hG⟩:=h
 have hX:=hL.get .x _ rfl
 rw [hx] at hX
 have hE0:=hE
 rcases hE with ⟨h0,_⟩ | ⟨_,ce,hce,rfl,rfl⟩
 ·omega
 obtain ⟨g1,g2⟩:=qj (ad:=ad) (rr:=.re) (nb:=c.b.length) (cap:=ce) (show i < i + 1 by omega)
 have hr:=hL.get (.re i) _ (if_pos (show i < i + 1 by omega))
 simp only [adj,↓reduceIte] at hr
 have hct:jC c (i + 1) (i + 1) (.aZ (ad .e) 0 (i + 1) ce) vg (some (.cells (eR ad .re c.b.length (i + 1) ce))) og (fun j=>iw (c.eB j) c.b.length (if j < i then c.b.length else k)) (fun j=>iw (c.gB j) c.b.length (if j < i then c.b.length else kG)) (.re i)≠none:=by simp [jC]
 have hs:=hL.set hct (iw (c.eB i) c.b.length (k + 1))
 refine ⟨ad .e,ce,vg,_,ad (.re i),hX,hL.get .e _ rfl,g1,g2,hr,ad,_,vg,_,og,hx,?_,by simpa using hlen,hs.congr (fun t=>?_) (fun _ _=>rfl),hE0,hG⟩
 ·rw [abz (hL.lo _ hct),hH]
 ·cases t with
  | re j=>
    by_cases e:j=i
    ·subst e;simp [jC]
    ·by_cases e2:j < i
     ·simp [jC,e,e2]
     ·simp [jC,e,show ¬ j < i + 1 by omega]
  | _=>simp [jC]
theorem iM.afv {c:Tb} {H G:List aa} {i k kE:Nat} (h:iM c H i kE k (i + 1) (i + 1) G) (hk:k < c.b.length) :
 ∃ ig cg ve es r,G[H.length]?=some (iz c ve (.aZ ig 0 (i + 1) cg))∧G[ig]?=some (.cells es)∧es.getD i .any=.aZ r 0 c.b.length c.b.length∧i < es.length∧
  G[r]?=some (iw (c.gB i) c.b.length k)∧iM c H i kE (k + 1) (i + 1) (i + 1) (G.set r (iw (c.gB i) c.b.length (k + 1))):=by
 obtain ⟨ad,ve,vg,oe,og,hx,hH,hlen,hL,hE,hG⟩:=h
 have hX:=hL.get .x _ rfl
 rw [hx] at hX
 have hG0:=hG
 rcases hG with ⟨h0,_⟩ | ⟨_,cg,hcg,rfl,rfl⟩
 ·omega
 obtain ⟨g1,g2⟩:=qj (ad:=ad) (rr:=.rg) (nb:=c.b.length) (cap:=cg) (show i < i + 1 by omega)
 have hr:=hL.get (.rg i) _ (if_pos (show i < i + 1 by omega))
 simp only [adj,↓reduceIte] at hr
 have hct:jC c (i + 1) (i + 1) ve (.aZ (ad .g) 0 (i + 1) cg) oe (some (.cells (eR ad .rg c.b.length (i + 1) cg))) (fun j=>iw (c.eB j) c.b.length (if j < i then c.b.length else kE)) (fun j=>iw (c.gB j) c.b.length (if j < i then c.b.length else k)) (.rg i)≠none:=by simp [jC]
 have hs:=hL.set hct (iw (c.gB i) c.b.length (k + 1))
 refine ⟨ad .g,cg,ve,_,ad (.rg i),hX,hL.get .g _ rfl,g1,g2,hr,ad,ve,_,oe,_,hx,?_,by simpa using hlen,hs.congr (fun t=>?_) (fun _ _=>rfl),hE,hG0⟩
 ·rw [abz (hL.lo _ hct),hH]
 ·cases t with
  | rg j=>
    by_cases e:j=i
    ·subst e;simp [jC]
    ·by_cases e2:j < i
     ·simp [jC,e,e2]
     ·simp [jC,e,show ¬ j < i + 1 by omega]
  | _=>simp [jC]
theorem iM.full {c:Tb} {H G:List aa} {i:Nat} (h:iM c H i c.b.length c.b.length (i + 1) (i + 1) G):iM c H (i + 1) 0 0 (i + 1) (i + 1) G:=by
 obtain ⟨ad,ve,vg,oe,og,hx,hH,hlen,hL,hE,hG⟩:=h
 refine ⟨ad,ve,vg,oe,og,hx,hH,hlen,hL.congr (fun t=>?_) (fun _ _=>rfl),hE,hG⟩
 cases t with
 | re j=>
   by_cases e:j < i + 1
   ·simp [jC,e]
   ·simp [jC,e]
 | rg j=>
   by_cases e:j < i + 1
   ·simp [jC,e]
   ·simp [jC,e]
 | _=>simp [jC]
theorem iM.start (c:Tb) (H:List aa):iM c H 0 0 0 0 0 (H++[iz c .ag .ag]):=by
 refine ⟨fun _=>H.length,.ag,.ag,none,none,rfl,by simp,by simp,⟨fun t o ht=>?_,fun s t hs ht _=>?_,fun _ _=>zy _⟩,.inl ⟨rfl,rfl,rfl⟩,.inl ⟨rfl,rfl,rfl⟩⟩
 ·cases t <;> simp [jC] at ht
  subst ht;simp [iz]
 ·cases s <;> simp [jC] at hs
  cases t <;> simp [jC] at ht
  rfl
theorem iM.x {c:Tb} {H G:List aa} {i kE kG ne ng:Nat} (h:iM c H i kE kG ne ng G):∃ ve vg,G[H.length]?=some (iz c ve vg)∧ve.ab=ve∧vg.ab=vg:=by
 obtain ⟨ad,ve,vg,oe,og,hx,hH,hlen,hL,hE,hG⟩:=h
 have hX:=hL.get .x _ rfl
 rw [hx] at hX
 exact ⟨ve,vg,hX,hE.facts.2.2.1,hG.facts.2.2.1⟩
theorem iM.back {c:Tb} {H G:List aa} {i:Nat} (h:iM c H (i + 1) 0 0 (i + 1) (i + 1) G):iM c H i c.b.length c.b.length (i + 1) (i + 1) G:=by
 obtain ⟨ad,ve,vg,oe,og,hx,hH,hlen,hL,hE,hG⟩:=h
 refine ⟨ad,ve,vg,oe,og,hx,hH,hlen,hL.congr (fun t=>?_) (fun _ _=>rfl),hE,hG⟩
 cases t with
 | re j=>
   by_cases e:j < i + 1
   ·simp [jC,e]
   ·simp [jC,e]
 | rg j=>
   by_cases e:j < i + 1
   ·simp [jC,e]
   ·simp [jC,e]
 | _=>simp [jC]
theorem ER (E:Nat→Bool) (nb m n:Nat):(iw E nb m).bc n=true:=by
 rw [iw,aa.bc,bg]
 intro x hx
 obtain ⟨k,_,rfl⟩:=aaw.1 hx
 rfl
theorem iM.shut {c:Tb} {H G:List aa} {i kE kG ne ng:Nat} (h:iM c H i kE kG ne ng G):∃ G2,xm H.length G G.length G2∧iM c H i kE kG ne ng G2∧H.length < G.length:=by
 obtain ⟨ad,ve,vg,oe,og,hx,hH,hlen,hL,hE,hG⟩:=h
 have E4:=hL.lt (t:=.x) (by simp [jC])
 rw [hx] at E4
 refine ⟨_,hL.shut fun t o ht=>?_,⟨ad,ve,vg,oe,og,hx,by rw [Hc,hH],by rw [uG];exact hlen,hL.mv,hE,hG⟩,E4⟩
 have hrv:∀ {tt rr v oo n},RV ad c.b.length tt rr v oo n→jC c ne ng ve vg oe og (fun j=>iw (c.eB j) c.b.length (if j < i then c.b.length else kE)) (fun j=>iw (c.gB j) c.b.length (if j < i then c.b.length else kG)) tt=oo→(∀ j,j < n→jC c ne ng ve vg oe og (fun j=>iw (c.eB j) c.b.length (if j < i then c.b.length else kE)) (fun j=>iw (c.gB j) c.b.length (if j < i then c.b.length else kG)) (rr j)≠none)→
  v.bc G.length=true∧∀ o,oo=some o→o.bc G.length=true:=by
  intro tt rr v oo n h h1 h2
  rcases h with ⟨_,rfl,rfl⟩ | ⟨_,cap,hc,rfl,rfl⟩
  ·exact ⟨rfl,fun o h=>by cases h⟩
  ·have:=hL.lt (t:=tt) (by rw [h1];simp)
   refine ⟨by rw [eL];simpa using this,fun o h=>?_⟩
   cases h
   exact uH fun j hj=>hL.lt (h2 j hj)
 obtain ⟨e1,e2⟩:=hrv hE rfl (fun j hj=>by simp [jC,hj])
 obtain ⟨g1,g2⟩:=hrv hG rfl (fun j hj=>by simp [jC,hj])
 cases t with
 | x=>
   cases ht
   simp only [aa.bc,bL,cV,bA,aJ,qh,e1,g1,acj]
 | e=>exact e2 o ht
 | g=>exact g2 o ht
 | re j=>
   simp only [jC] at ht
   split at ht <;> cases ht
   exact ER _ _ _ _
 | rg j=>
   simp only [jC] at ht
   split at ht <;> cases ht
   exact ER _ _ _ _
theorem IE (a b c d:Nat):(AV.aZ a b c d).val=true:=rfl
theorem ES (a b c d:Nat):(AV.aZ a b c d).cells.length=1:=rfl
theorem AS (a b c d:Nat):a9 (AV.aZ a b c d)=.aZ a b c d:=rfl
theorem afw (a b c d e f v:AV):ai [a,b,c,d,e,f] 4 [v]=[a,b,c,d,v,f]:=rfl
theorem afx (a b c d e f v:AV):ai [a,b,c,d,e,f] 5 [v]=[a,b,c,d,e,v]:=rfl
theorem ET {E:Nat→Bool} {nb m:Nat} (h:m < nb) {r:Nat} {b:Bool} (hb:b=E m) {H:List aa} {K:List aa→Prop} (hK:K (H.set r (iw E nb (m + 1)))):hZ (some (iw E nb m)) 1 r m (.bool b) H K:=by
 subst hb
 have hl:((List.range nb).map fun k=>AV.bool (decide (k < m) && E k)).length=nb:=by simp
 simp only [iw,pn]
 refine ⟨rfl,rfl,by rw [hl];show m + 1≤nb;omega,rfl,rfl,?_⟩
 rw [show (AV.bool (E m)).cells.map AV.ab=[.bool (E m)] from rfl,iE _ _ _ (by rw [hl];exact h),NM E h]
 exact hK
theorem EU {l:List Nd} (h:l≠[]):(kC l).ab=.al 0 (dz l):=by
 cases l with
 | nil=>exact absurd rfl h
 | cons _ _=>rfl
theorem afy {ps ss:List Int} {A B:List Nd} (hA:A≠[]) (hB:B≠[]) (φ:AV→Prop):cr [.ag,.ag,.ag,.ag,.ag,.ag] [(0,2,dE ps ss),(2,1,kC A),(3,1,kC B)] φ=φ (.agg [.al 0 (ints ps),.al 0 (ints ss),.al 0 (dz A),.al 0 (dz B),.ag,.ag]):=by
 obtain ⟨q1,q2,q3,q4,q5,q6⟩:=aR ps ss
 obtain ⟨a1,a2,a3,_⟩:=rI A
 obtain ⟨b1,b2,b3,_⟩:=rI B
 have o1:(dE ps ss).cells=[.al 0 (ints ps),.al 0 (ints ss)]:=rfl
 simp [cr,gb,a2,a3,b2,b3,q1,o1,ai,EU hA,EU hB]
 rfl
theorem pS0 (v:AV) (l:List IX):bn (IX.c v::l) (some 0)=none:=rfl
theorem uS0 (env:Env):dB env none=env:=rfl
theorem afz {c:Tb} (hc:c.Ok) {a b:T} (ha:c.a=cj a 0) (hb:c.b=cj b 0) (H:List aa) :
 jH Tryz.prog 137 [dE c.ps c.ss,a.av,b.av] H fun r H'=>r=.ptr H.length 0∧H'.take H.length=H∧Ss c H.length ((c.a.length:Int) - 1) c.b.length H':=by
 have Sd:=hc.a.len
 have Oj:=hc.b.len
 have wa:c.a.length=wt a:=by rw [ha,fX]
 have wb:c.b.length=wt b:=by rw [hb,fX]
 refine Su.2.T3 rfl ?_
 simp only [Su,aH]
 obtain ⟨q1,q2,q3,q4,q5,q6⟩:=aR c.ps c.ss
 simp +contextual only [bQ,q1,sZ,Nat.reduceEqDiff,Nat.reduceAdd,↓reduceIte,reduceCtorEq]
 have na:kC []=.ag:=rfl
 refine af (aa5 _ a (zy _) [] H (by simp;omega)) ?_
 rintro r G ⟨rfl,rfl⟩
 simp +contextual only [pS0,uS0,sZ,Nat.reduceEqDiff,Nat.reduceAdd,↓reduceIte,reduceCtorEq]
 refine af (aa5 _ b (zy _) [] G (by simp;omega)) ?_
 rintro r G' ⟨rfl,rfl⟩
 simp +contextual only [pS0,uS0,List.length_nil,← ha,← hb,afy hc.a.ne hc.b.ne,qh,sZ,Nat.reduceEqDiff,↓reduceIte]
 refine eY c.a.length (fun i (G:List aa)=>iM c G' i 0 0 i i G) (fun i G=>[(7,.ptr G'.length 0),(8,.int .i64 i)]) (fun i G=>G) _ ⟨iM.start c G',iD _ _ _⟩ fun i G hi hI=>?_
 obtain ⟨ve,vg,hX,hve,hvg⟩:=hI.x
 by_cases h1:i < c.a.length
 rotate_left
 ·have l1:decide ((i:Int) < c.a.length)=false:=decide_eq_false (by omega)
  rw [iz] at hX
  simp +contextual only [km,hX,fp,l1,List.getD_cons_succ,List.getD_cons_zero,sZ,Nat.reduceEqDiff,Nat.reduceAdd,Nat.reduceLT,↓reduceIte,reduceCtorEq]
  have dP:c.a.length≠0:=fun e=>hc.a.ne (abE.1 e)
  obtain ⟨n,hn⟩:=Nat.exists_eq_succ_of_ne_zero dP
  have ky:i=n + 1:=by omega
  subst ky
  obtain ⟨G2,s1,s2,s3⟩:=hI.shut
  refine fun _=>⟨G.length,G2,by omega,s1,_,le_refl _,by rw [ra];simpa using s3,rfl,?_,?_⟩
  ·obtain ⟨ad,ve,vg,oe,og,hx,hH,_⟩:=s2;exact hH
  ·have:=s2.back.tb (k:=c.b.length) (zy _) (zy _)
   rw [show (c.a.length:Int) - 1=(n:Int) by omega]
   exact this
 have l1:decide ((i:Int) < c.a.length)=true:=decide_eq_true (by omega)
 have hX':=hX
 rw [iz] at hX'
 have A6:G'.length < G.length:=(aa2.1 hX).1
 have Sv:(G++[iw (c.eB i) c.b.length 0])[G'.length]?=some (.cells [.al 0 (ints c.ps),.al 0 (ints c.ss),.al 0 (dz c.a),.al 0 (dz c.b),ve,vg]):=by rw [zz A6];exact hX
 simp +contextual only [xz,hX',Sv,hve,IE,ES,AS,NN (c.eB i) Oj,fp,l1,List.getD_cons_succ,List.getD_cons_zero,sZ,Nat.reduceEqDiff,Nat.reduceAdd,Nat.reduceLT,↓reduceIte]
 intro _
 refine ⟨?_,?_⟩ <;> (
  refine hI.afr (by omega) hX fun v' G2 hg2 hv' ew xf hO=>?_
  obtain ⟨w1,w2,w3,w4⟩:=hv'
  rw [iz] at hg2
  simp +contextual only [km,hg2,w1,w2,w3,w4,ew,afw,sZ,Nat.reduceEqDiff,Nat.reduceAdd,Nat.reduceLeDiff,↓reduceIte]
  rw [iz] at hO
  generalize G2.set G'.length (aa.cells [.al 0 (ints c.ps),.al 0 (ints c.ss),.al 0 (dz c.a),.al 0 (dz c.b),v',vg])=G3 at hO ⊢
  clear hg2 ew xf w1 w2 w3 w4 Sv hX' hX hI A6
  obtain ⟨ve3,vg3,hX3,aj9,afB⟩:=hO.x
  have qM:G'.length < G3.length:=(aa2.1 hX3).1
  have VA:=hX3
  rw [iz] at VA
  have hX4:(G3++[iw (c.gB i) c.b.length 0])[G'.length]?=some (.cells [.al 0 (ints c.ps),.al 0 (ints c.ss),.al 0 (dz c.a),.al 0 (dz c.b),ve3,vg3]):=by rw [zz qM];exact hX3
  simp +contextual only [xz,VA,hX4,afB,IE,ES,AS,NN (c.gB i) Oj,fp,List.getD_cons_succ,List.getD_cons_zero,sZ,Nat.reduceEqDiff,Nat.reduceAdd,Nat.reduceLT,↓reduceIte]
  refine ⟨?_,?_⟩ <;> (
   refine hO.aft (by omega) hX3 fun v4 G4 hg4 hv4 hb4 hl4 hO4=>?_
   obtain ⟨w1,w2,w3,w4⟩:=hv4
   rw [iz] at hg4
   simp +contextual only [km,hg4,w1,w2,w3,w4,hb4,afx,sZ,Nat.reduceEqDiff,Nat.reduceAdd,↓reduceIte]
   rw [iz] at hO4
   generalize G4.set G'.length (aa.cells [.al 0 (ints c.ps),.al 0 (ints c.ss),.al 0 (dz c.a),.al 0 (dz c.b),ve3,v4])=G5 at hO4 ⊢
   clear hg4 hb4 hl4 w1 w2 w3 w4 hX4 VA hX3 hO qM
   refine eY c.b.length (fun k (G:List aa)=>iM c G' i k k (i + 1) (i + 1) G) (fun k G=>[(7,.ptr G'.length 0),(8,.int .i64 i),(9,.int .i64 k)]) (fun k G=>G) _ ⟨hO4,iD _ _ _⟩ fun k G6 hk hI6=>?_
   clear hO4
   by_cases h2:k < c.b.length
   ·have l2:decide ((k:Int) < c.b.length)=true:=decide_eq_true (by omega)
    obtain ⟨ie,ce,vg6,es,r,x1,x2,x3,x4,x5,x6⟩:=hI6.afu h2
    have x1':=x1
    rw [iz] at x1'
    have ci:(0:Int)≤i∧(i:Int) < c.a.length:=⟨by omega,by omega⟩
    have ck:(0:Int)≤k∧(k:Int) < c.b.length:=⟨by omega,by omega⟩
    simp +contextual only [x1',l2,fp,List.getD_cons_succ,List.getD_cons_zero,sZ,Nat.reduceEqDiff,Nat.reduceAdd,Nat.reduceLT,↓reduceIte]
    intro _
    refine rJ (afo hc (hI6.tb (zy _) (zy _)) ci ck) fun u hu=>?_
    have eu:u=c.eB i k:=by rw [abV,hu,Tb.eB,decide_eq_true_eq];rfl
    simp +contextual only [x1',x2,x3,x5,uE,abP,zB,List.getD_cons_succ,List.getD_cons_zero,sZ,Nat.reduceEqDiff,Nat.reduceAdd,Nat.reduceLT,↓reduceIte,reduceCtorEq]
    refine ⟨⟨by omega,by omega⟩,x4,ck,ET h2 eu ?_⟩
    generalize G6.set r (iw (c.eB i) c.b.length (k + 1))=G7 at x6 ⊢
    clear x1 x2 x3 x4 x5 x1' hI6
    obtain ⟨ig,cg,ve7,es7,r7,y1,y2,y3,y4,y5,y6⟩:=x6.afv h2
    rw [iz] at y1
    simp +contextual only [sZ,Nat.reduceEqDiff,↓reduceIte]
    refine rJ (afp hc (x6.tb (Nat.le_succ _) (zy _)) ci ck) fun u2 VB=>?_
    have eu2:u2=c.gB i k:=by rw [abV,VB,Tb.gB];simp
    simp +contextual only [y1,y2,y3,y5,uE,abP,zB,List.getD_cons_succ,List.getD_cons_zero,sZ,Nat.reduceEqDiff,Nat.reduceAdd,Nat.reduceLT,↓reduceIte,reduceCtorEq]
    refine ⟨⟨by omega,by omega⟩,y4,ck,ET h2 eu2 ?_⟩
    simp +contextual only [sZ,Nat.reduceEqDiff,↓reduceIte]
    exact ⟨k + 1,_,⟨h2,y6⟩,by omega,nV (by rw [aj k (by omega)]) rfl⟩
   ·have l2:decide ((k:Int) < c.b.length)=false:=decide_eq_false (by omega)
    obtain ⟨ve6,vg6,x1,_,_⟩:=hI6.x
    rw [iz] at x1
    simp +contextual only [x1,l2,fp,List.getD_cons_succ,List.getD_cons_zero,sZ,Nat.reduceEqDiff,Nat.reduceAdd,Nat.reduceLT,↓reduceIte]
    have KH:k=c.b.length:=by omega
    subst KH
    exact fun _=>⟨i + 1,G6,⟨h1,hI6.full⟩,by omega,nV (by rw [aj i (by omega)]) rfl⟩))
end Go.aI
end
section
set_option maxRecDepth 100000
set_option maxHeartbeats 0
namespace Go.aI
open Go Go.Proofs
end Go.aI
end
section
set_option maxRecDepth 100000
namespace Go.aI
open Go Go.Proofs
end Go.aI
end
section
set_option maxRecDepth 100000
namespace Go.aI
open Go Go.Proofs
def keeps (l l':List T):Prop:=∀ i,(l.getD i default).k≠0→l'.getD i default=l.getD i default
end Go.aI
end
section
set_option maxRecDepth 100000
namespace Go.aI
open Go Go.Proofs
end Go.aI
end
section
set_option maxRecDepth 100000
namespace Go.aI
open Go Go.Proofs
end Go.aI
end
section
set_option maxRecDepth 100000
namespace Go.aI
open Go Go.Proofs
mutual
def He:T→List Int→List (List Int)
 | .mk _ _ l,p=>p::yB l 0 p
def yB:List T→Nat→List Int→List (List Int)
 | [],_,_=>[]
 | x::r,i,p=>He x (p++[(i:Int)])++yB r (i + 1) p
end
mutual
theorem AT:∀ (t:T) (p:List Int),((He t p).length:Int)=t.sz
 | .mk k n l,p=>by simp only [He,List.length_cons,T.sz];have:=rL l 0 p;omega
theorem rL:∀ (l:List T) (i:Nat) (p:List Int),((yB l i p).length:Int)=lB l
 | [],_,_=>by simp [yB,lB]
 | x::r,i,p=>by
   simp only [yB,aaj,lB]
   have h1:=AT x (p++[(i:Int)])
   have h2:=rL r (i + 1) p
   omega
end
theorem IF:∀ {l:List T} {y:T},y∈l→y.dp≤Gs l
 | x::r,y,h=>by
   simp only [Gs]
   rcases aak.1 h with rfl | h
   ·omega
   ·have:=IF h;omega
theorem T.abf (t:T):t.dp=1 + Gs t.l:=by cases t;rfl
end Go.aI
end
section
set_option maxRecDepth 100000
namespace Go.aI
open Go Go.Proofs Go.dD
end Go.aI
end
section
set_option maxRecDepth 100000
namespace Go.aI
open Go Go.Proofs Go.dD
theorem EV:∀ {l:List T} {y:T},y∈l→y.sz≤lB l
 | x::r,y,h=>by
   have h0:∀ l:List T,0≤lB l:=fun l=>by
    have:=rL l 0 []
    omega
   have h1:0≤x.sz:=by have:=AT x [];omega
   have:=h0 r
   simp only [lB]
   rcases aak.1 h with rfl | h
   ·omega
   ·have:=EV h;omega
theorem NO {t y:T} (h:t.tree=true) (hy:y∈t.l):y.tree=true:=by
 obtain ⟨h1,h2,h3⟩:=(T.cI t).1 h
 have a:=EV hy
 have b:=IF hy
 refine (T.cI y).2 ⟨?_,?_,(fN h3).2 y hy⟩
 ·have:t.sz=1 + lB t.l:=by cases t;rfl
  omega
 ·have:=T.abf t;omega
end Go.aI
end
section
set_option maxRecDepth 100000
namespace Go.aI
open Go Go.Proofs Go.dD
structure Tt (ps:List Int) (t:T):Prop where
 tree:t.tree=true
 all:vO (fun n=>0≤n∧n < ps.length) t
theorem Tt.Vd {ps:List Int} {t x:T} (h:Tt ps t) (hx:x∈t.l):Tt ps x:=⟨NO h.tree hx,h.all.mem hx⟩
theorem Cw {ps:List Int} {t:T} (h:Tt ps t):Vy ps (cj t 0):=by
 have hw:wt t≤2000:=by have:=lP (l:=[t]) (by simpa using h.tree);simpa [ft] using this
 have fU:=EL (p:=fun x=>Tt ps x∧wt x≤2000) (fun t ht x hx=>⟨ht.1.Vd hx,by have:=ch hx;omega⟩) t 0 ⟨h,hw⟩
 have hnp:=(Cs t [] (fun i hi=>by simp at hi)).1
 simp only [List.nil_append,List.length_nil] at hnp
 have hat:∀ i:Nat,i < (cj t 0).length→Tt ps (nt (cj t 0) i)∧wt (nt (cj t 0) i)≤2000:=fun i hi=>by
  have:=fU _ (acA hi)
  unfold nt
  rw [zB,th,Hj hi];exact this
 refine ⟨fun e=>?_,by rw [fX];omega,hnp,fun i hi=>?_,fun i hi=>?_,fun i hi h2=>(hat i hi).1.all.op h2⟩
 ·have:=fX t 0
  rw [e] at this
  have:=dt t
  simp at *;omega
 ·have h1:=congrArg List.length (hnp i hi).1
  rw [acz] at h1
  have:=fW (nt (cj t 0) i).l
  have:=vn (nt (cj t 0) i)
  have:=(hat i hi).2
  omega
 ·have hs:=((T.cI _).1 (hat i hi).1.tree).2.2
  rw [T.dn] at hs
  simp only [zC,abC,abQ,afj,decide_eq_false_iff_not] at hs
  have:=hs.1.1.2
  omega
theorem abg {ps ss:List Int} (hv:Va ps ss) {a b:T} (ha:Tt ps a) (hb:Tt ps b):Tb.Ok ⟨ps,ss,cj a 0,cj b 0⟩:=⟨hv,Cw ha,Cw hb⟩
theorem IG (t:T):nt (cj t 0) ((cj t 0).length - 1:Int)=t:=by
 have:=(Cs t [] (fun i hi=>by simp at hi)).2
 simp only [List.nil_append,List.length_nil,abK] at this
 have hw:=dt t
 rw [fX]
 rw [show ((wt t:Nat):Int) - 1=((wt t - 1:Nat):Int) by omega]
 exact this
theorem c78 {ps ss:List Int} (hv:Va ps ss) {a b:T} (ha:Tt ps a) (hb:Tt ps b):Pure Tryz.prog 78 [dE ps ss,a.av,b.av] (.bool (oO ps ss a b)):=by
 refine fun H=>k78.2.xx rfl ?_
 simp only [k78,aH]
 obtain ⟨q1,q2,q3,q4,q5,q6⟩:=aR ps ss
 simp +contextual only [bQ,q1,q4,sZ,Nat.reduceEqDiff,Nat.reduceAdd,↓reduceIte,reduceCtorEq]
 have kw:=abg hv ha hb
 refine Jx (zy _) (afz kw rfl rfl H) ?_
 rintro r G ⟨rfl,hG,ie,ne,ce,ese,ig,ng,cg,esg,h⟩
 have la:(cj a 0).length=wt a:=fX a 0
 have lb:(cj b 0).length=wt b:=fX b 0
 have pa:=dt a
 have pb:=dt b
 have wa:=(Cw ha).len
 have wb:=(Cw hb).len
 obtain ⟨_,r',bs',xb',e1',e2',e3',e4',e5',e6'⟩:=h.rows ((cj a 0).length - 1) ((cj b 0).length - 1) (by omega) (by omega) (by show _ < ((cj b 0).length:Int);omega) (.inr ⟨rfl,by show _ < ((cj b 0).length:Int);omega⟩)
 have w1:IntKind.i64.wrap (((cj a 0).length:Int) - 1)=((cj a 0).length:Int) - 1:=cp _ (by omega)
 have w2:IntKind.i64.wrap (((cj b 0).length:Int) - 1)=((cj b 0).length:Int) - 1:=cp _ (by omega)
 have e1:esg.getD (((cj a 0).length:Int) - 1).toNat .any=.aZ r' 0 (cj b 0).length (cj b 0).length:=e1'
 have hn:((cj a 0).length:Int) - 1 < ng:=h.ng
 simp +contextual only [km,h.x,h.g,fp,List.getD_cons_succ,List.getD_cons_zero,uE,abP,w1,w2,e1,e3',e5',sZ,Nat.reduceEqDiff,Nat.reduceAdd,Nat.reduceLT,↓reduceIte,reduceCtorEq]
 refine ⟨⟨by omega,hn⟩,e2',⟨by omega,by omega⟩,e4',H.length,H,zy _,tW hG rfl,_,le_refl _,rfl,?_,rfl⟩
 congr 1
 rw [abV,e6',dF]
 show R (iq ps ss) (nt (cj a 0) _) (nt (cj b 0) _)↔_
 rw [IG,IG]
end Go.aI
end
