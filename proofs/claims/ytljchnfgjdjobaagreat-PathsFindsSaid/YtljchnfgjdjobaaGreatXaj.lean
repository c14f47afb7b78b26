/- Part 10 of 20 of the proof. -/
import Derived.Test.YtljchnfgjdjobaaGreatXai
import Derived.Test.YtljchnfgjdjobaaGreatXaf
import Derived.KernelRfl
import Derived.SizedLaws
import Derived.Test.YtljchnfgjdjobaaGreatXag
set_option linter.unusedVariables false
set_option linter.unusedSimpArgs false
set_option linter.defProp false
set_option linter.unusedSectionVars false
section
set_option maxRecDepth 100000
namespace Go.aI
open Go Go.Proofs
mutual
def T.sz:T→Int
 | .mk _ _ l=>1 + lB l
def lB:List T→Int
 | []=>0
 | x::r=>x.sz + lB r
end
mutual
def T.dp:T→Int
 | .mk _ _ l=>1 + Gs l
def Gs:List T→Int
 | []=>0
 | x::r=>max x.dp (Gs r)
end
mutual
theorem T.Gu:∀ x:T,1≤x.sz
 | .mk k n l=>by simp only [T.sz];have:=gN l;omega
theorem gN:∀ l:List T,0≤lB l
 | []=>by simp [lB]
 | x::r=>by simp only [lB];have:=T.Gu x;have:=gN r;omega
end
mutual
theorem T.BN:∀ x:T,1≤x.dp
 | .mk k n l=>by simp only [T.dp];have:=pW l;omega
theorem pW:∀ l:List T,0≤Gs l
 | []=>by simp [Gs]
 | x::r=>by simp only [Gs];have:=T.BN x;have:=pW r;omega
end
def fQ (s:Int×Int):Prop:=2000 < s.1∨200 < s.2
mutual
theorem ub:∀ (x:T) (d:Int) (s:Int×Int),qI d s→(¬ fQ (ic x d s)↔s.1 + x.sz≤2000∧d + x.dp - 1≤200)∧(¬ fQ (ic x d s)→(ic x d s).1=s.1 + x.sz∧(ic x d s).2=max s.2 (d + x.dp - 1))
 | .mk k n l,d,s,h=>by
   obtain ⟨h1,h2,h3,h4,h5,h6⟩:=h
   simp only [ic,T.sz,T.dp]
   have hp:=pW l
   have ih:=Ag l (d + 1) (s.1 + 1,max s.2 d) (by unfold nX;simp only;omega) (by omega) (by simp only;omega)
   simp only at ih
   refine ⟨ih.1.trans ⟨fun k=>⟨by omega,by omega⟩,fun k=>⟨by omega,by omega,by omega⟩⟩,fun k=>?_⟩
   have k1:=ih.2 k
   have k2:=ih.1.1 k
   exact ⟨by omega,by omega⟩
theorem Ag:∀ (l:List T) (d:Int) (s:Int×Int),nX s→0≤d→d≤s.2 + 1→(¬ fQ (mi l d s)↔s.1 + lB l≤2000∧s.2≤200∧d + Gs l - 1≤200)∧(¬ fQ (mi l d s)→(mi l d s).1=s.1 + lB l∧(mi l d s).2=max s.2 (d + Gs l - 1))
 | [],d,s,h,h5,h6=>by
   simp only [mi,lB,Gs,fQ]
   exact ⟨⟨fun k=>⟨by omega,by omega,by omega⟩,fun k=>by omega⟩,fun k=>⟨by omega,by omega⟩⟩
 | x::r,d,s,h,h5,h6=>by
   obtain ⟨h1,h2,h3,h4⟩:=h
   simp only [mi]
   have KW:=x.Gu
   have hd0:=x.BN
   have hr0:=gN r
   have he0:=pW r
   simp only [lB,Gs]
   by_cases ho:2000 < s.1∨200 < s.2
   ·rw [if_pos ho]
    refine ⟨⟨fun k=>absurd ho k,fun k=>?_⟩,fun k=>absurd ho k⟩
    omega
   ·rw [if_neg ho]
    have kw:qI d s:=⟨h1,by omega,h3,by omega,h5,by omega⟩
    have hx:=ub x d s kw
    have Ze:=xH x d s kw
    have RW:=tZ x d s
    have ih:=Ag r d (ic x d s) Ze.1 h5 (by omega)
    generalize ic x d s=t at *
    by_cases hot:fQ t
    ·have hn:fQ (mi r d t):=by
      refine Classical.byContradiction fun hc=>?_
      have:=ih.1.1 hc
      unfold fQ at hot
      omega
     refine ⟨⟨fun k=>absurd hn k,fun k=>?_⟩,fun k=>absurd hn k⟩
     have:=hx.1.2 (by omega)
     exact absurd hot this
    ·have k1:=hx.2 hot
     have k2:=hx.1.1 hot
     refine ⟨ih.1.trans ⟨fun k=>⟨by omega,by omega,by omega⟩,fun k=>⟨by omega,by omega,by omega⟩⟩,fun k=>?_⟩
     have k3:=ih.2 k
     exact ⟨by omega,by omega⟩
end
theorem uc (s:Int×Int):vi s=true↔fQ s:=by simp [vi,fQ]
mutual
theorem Ah:∀ (x:T) (left d:Int),0≤left→d≤201→((jd x left d).2=true↔x.sz≤left∧d + x.dp - 1≤200)∧((jd x left d).2=true→(jd x left d).1=left - x.sz)
 | .mk k n l,left,d,h0,hd=>by
   simp only [jd,T.sz,T.dp]
   have hp:=pW l
   have hs:=gN l
   by_cases ho:left - 1 < 0∨200 < d
   ·rw [if_pos ho]
    refine ⟨⟨fun k=>(by cases k),fun k=>?_⟩,fun k=>(by cases k)⟩
    omega
   ·rw [if_neg ho]
    have ih:=Ai l (left - 1) (d + 1) (by omega) (by omega)
    exact ⟨ih.1.trans ⟨fun k=>⟨by omega,by omega⟩,fun k=>⟨by omega,by omega⟩⟩,fun k=>by have:=ih.2 k;omega⟩
theorem Ai:∀ (l:List T) (left d:Int),0≤left→d≤201→((nY l left d).2=true↔lB l≤left∧d + Gs l - 1≤200)∧((nY l left d).2=true→(nY l left d).1=left - lB l)
 | [],left,d,h0,hd=>by simp only [nY,lB,Gs];exact ⟨⟨fun _=>⟨by omega,by omega⟩,fun _=>trivial⟩,fun _=>by omega⟩
 | x::r,left,d,h0,hd=>by
   simp only [nY,lB,Gs]
   have KW:=x.Gu
   have hd0:=x.BN
   have hr0:=gN r
   have he0:=pW r
   have hx:=Ah x left d h0 hd
   have hle:=BM x left d
   cases hb:(jd x left d).2 with
   | false=>
     rw [if_neg (by simp)]
     refine ⟨⟨fun k=>(by cases k),fun k=>?_⟩,fun k=>(by cases k)⟩
     have:=hx.1.2 (by omega)
     rw [hb] at this;cases this
   | true=>
     rw [if_pos rfl]
     have k1:=hx.2 hb
     have k2:=hx.1.1 hb
     have ih:=Ai r (jd x left d).1 d ((hle.2 h0).2 hb) hd
     exact ⟨ih.1.trans ⟨fun k=>⟨by omega,by omega⟩,fun k=>⟨by omega,by omega⟩⟩,fun k=>by have:=ih.2 k;omega⟩
end
theorem T.cI (x:T):x.tree=true↔x.sz≤2000∧x.dp≤200∧x.shaped=true:=by
 have h:=(ub x 1 (0,0) (by unfold qI;simp)).1
 unfold T.tree
 rw [zC,abC,← Bool.not_eq_true,uc]
 constructor
 ·rintro ⟨h1,h2⟩
  have:=h.1 h1
  simp only at this
  exact ⟨by omega,by omega,h2⟩
 ·rintro ⟨h1,h2,h3⟩
  exact ⟨h.2 (by simp only;omega),h3⟩
theorem UH (x:T):((jd x 2000 1).2 && x.shaped)=x.tree:=by
 have h:=(Ah x 2000 1 (by omega) (by omega)).1
 rw [abV,zC,h,T.cI]
 constructor
 ·rintro ⟨⟨h1,h2⟩,h3⟩;exact ⟨h1,by omega,h3⟩
 ·rintro ⟨h1,h2,h3⟩;exact ⟨⟨h1,by omega⟩,h3⟩
theorem Mk (x:T):Pure Tryz.prog 175 [x.av] (.bool x.tree):=by rw [← UH];exact ada x
theorem Ml {p:T→Bool} {l:List T} {i:Nat} (h:i < l.length):(l.drop i).all p=(p (l.getD i default) && (l.drop (i + 1)).all p):=by
 rw [aav h,List.all_cons]
 simp [h]
theorem adb (l:List T):Pure Tryz.prog 243 [.al 0 (bN l)] (.bool (kZ l)):=by
 refine fun H=>Y0.2.calls rfl ?_
 simp only [Y0,aH]
 simp +contextual only [sZ,Nat.reduceAdd,↓reduceIte,reduceCtorEq]
 refine aq l.length (fun i=>(l.drop i).all T.tree=kZ l) (fun i=>[(0,.al 0 (bN l)),(3,.int .i64 i)]) (fun i=>H) ⟨rfl,ax _ _ _⟩ fun i hi hI=>?_
 simp +contextual only [sZ,Nat.reduceEqDiff,Nat.reduceAdd,↓reduceIte,reduceCtorEq]
 intro _
 refine ⟨fun aM=>⟨bp aM,?_⟩,fun fV=>?_⟩
 ·have aM:=bp aM
  rw [Ml aM] at hI
  refine ae (Mk _) ?_
  simp +contextual only [sZ,Nat.reduceEqDiff,↓reduceIte,reduceCtorEq]
  refine nT (fun hb=>?_) (fun hb=>?_) <;> simp +contextual only [sZ,↓reduceIte,reduceCtorEq]
  ·exact ⟨i + 1,⟨aM,by rw [hb] at hI;simpa using hI⟩,by omega,ay (by rw [aj i (by omega)]) rfl⟩
  ·exact aK rfl (by rw [← hI,hb];rfl)
 ·rw [aap (bZ fV)] at hI
  exact aK rfl (by rw [← hI];rfl)
def ents (vs:List Int):List (AV×AV):=vs.map fun v=>(.int .i64 v,.bool true)
theorem rh (n:Int):∀ (vs:List Int) (i:Nat),(n∈vs→∃ j,dL 0 (.int .i64 n) (ents vs) i=some (some (j,.bool true)))∧(n∉vs→dL 0 (.int .i64 n) (ents vs) i=some none)
 | [],i=>⟨fun h=>(by cases h),fun _=>rfl⟩
 | v::r,i=>by
   have ih:=rh n r (i + 1)
   simp only [ents,List.map_cons,dL,de,if_true]
   by_cases hv:n=v
   ·subst hv
    simp
   ·simp only [aak,hv,false_or]
    exact ih
theorem sH (n:Int) (vs:List Int) (φ:AV→Prop):gM (some (.map (ents vs))) 0 (.bool false) (.int .i64 n) false φ=φ (.bool (decide (n∈vs))):=by
 have h:=rh n vs 0
 unfold gM
 by_cases hn:n∈vs
 ·obtain ⟨j,hj⟩:=h.1 hn
  simp [hj,hn,nS]
 ·simp [h.2 hn,hn,de,a9,bi.a9,nS]
theorem HS {n:Int} {vs:List Int} (hn:n∉vs) (id:Nat) (H:List aa) (K:List aa→Prop):fy (some (.map (ents vs))) 0 id (.int .i64 n) (.bool true) H K=K (H.set id (.map (ents (vs++[n])))):=by
 have h:=(rh n vs 0).2 hn
 unfold fy
 simp only [h]
 simp [de,ja,sw,v8,ents,a9,bi.a9,nS]
def cC:List Int→AV
 | []=>.ag
 | v::r=>.al 1 (ints (v::r))
theorem dZ (vs:List Int) (n:Int):AV.al 1 (ints (vs++[n]))=cC (vs++[n]):=by
 cases vs <;> rfl
theorem xJ (vs:List Int):(cC vs).one=true:=by cases vs <;> rfl
theorem xK (k:Nat) (vs:List Int):(cC vs).bc k=true:=by
 cases vs with
 | nil=>rfl
 | cons v r=>simp only [cC,bA,aJ]
theorem kq (vs:List Int) (n:Int) (o:Nat) (ψ:List AV→Prop):bC 1 8 (cC vs) (.al o [.int .i64 n]) ψ=((vs.length + 1) * 8≤140737488355328∧ψ (ints (vs++[n]))):=by
 cases vs with
 | nil=>simp [cC,lK,ok_int,ints]
 | cons v r=>
   show bC 1 8 (.al 1 (ints (v::r))) _ ψ=_
   rw [jv,ok_int,ap,pV]
   simp
def cW (vs:List Int):List aa:=[.cells [cC vs],.map (ents vs)]
def BO (vs:List Int) (x:T):List Int:=if x.k=1∧x.n∉vs then vs++[x.n] else vs
theorem ade (H:List aa) (x:T) (vs:List Int) (hl:vs.length≤1000000) :
 aA Tryz.prog 246 [x.av,.ah (.map (H.length + 1)),.ptr H.length 0] (H++cW vs) fun r H'=>r=.tuple []∧H'=H++cW (BO vs x):=by
 refine Y3.2.calls rfl ?_
 simp only [Y3,aH]
 simp +contextual only [cW,sH,sZ,Nat.reduceEqDiff,Nat.reduceAdd,↓reduceIte,reduceCtorEq]
 refine ⟨fun hk=>⟨fun hn=>?_,fun hn=>?_⟩,fun hk=>?_⟩
 ·exact jR (by simp [cW]) (by simp [BO,hk,hn,cW])
 ·rw [HS hn]
  simp +contextual only [kq,dZ,xJ,xK,sZ,Nat.reduceEqDiff,Nat.reduceAdd,Nat.reduceLT,↓reduceIte,reduceCtorEq]
  refine ⟨by omega,?_⟩
  exact jR (by simp [cW]) (by simp [BO,hk,hn,cW])
 ·exact jR (by simp [cW]) (by simp [BO,hk,cW])
mutual
def lM:T→List Int→List Int
 | .mk k n l,vs=>dC l (if k=1∧n∉vs then vs++[n] else vs)
def dC:List T→List Int→List Int
 | [],vs=>vs
 | x::r,vs=>dC r (lM x vs)
end
mutual
theorem ud:∀ (x:T) (vs:List Int),((lM x vs).length:Int)≤vs.length + x.sz
 | .mk k n l,vs=>by
   simp only [lM,T.sz]
   have:=xL l (if k=1∧n∉vs then vs++[n] else vs)
   split at this
   ·rename_i h;rw [if_pos h];simp only [aaj,List.length_cons,List.length_nil] at this;omega
   ·rename_i h;rw [if_neg h];omega
theorem xL:∀ (l:List T) (vs:List Int),((dC l vs).length:Int)≤vs.length + lB l
 | [],vs=>by simp [dC,lB]
 | x::r,vs=>by
   simp only [dC,lB]
   have h1:=ud x vs
   have h2:=xL r (lM x vs)
   omega
end
theorem vj {l:List T} {i:Nat} {vs:List Int} (h:i < l.length):dC (l.drop i) vs=dC (l.drop (i + 1)) (lM (l.getD i default) vs):=by
 rw [aav h]
 simp [dC,h]
theorem sI {l:List T} {i:Nat} (h:i < l.length):lB (l.drop i)=(l.getD i default).sz + lB (l.drop (i + 1)):=by
 rw [aav h]
 simp [lB,h]
theorem Zf (H:List aa) (x:T) (vs:List Int) (hl:vs.length + x.sz≤1000000) :
 aA Tryz.prog 245 [x.av,.fn (.func 246) [] [.ah (.map (H.length + 1)),.ptr H.length 0]] (H++cW vs) fun r H'=>r=.tuple []∧H'=H++cW (lM x vs):=by
 have ih:∀ y∈x.l,∀ (vs:List Int),vs.length + y.sz≤1000000→aA Tryz.prog 245 [y.av,.fn (.func 246) [] [.ah (.map (H.length + 1)),.ptr H.length 0]] (H++cW vs) fun r H'=>r=.tuple []∧H'=H++cW (lM y vs):=
  fun y hy vs h=>Zf H y vs h
 have e:lM x vs=dC x.l (BO vs x):=by cases x;simp only [lM,BO,T.k,T.n,T.l];rfl
 have es:x.sz=1 + lB x.l:=by cases x;simp only [T.sz,T.l]
 have V0:=gN x.l
 have ha:((BO vs x).length:Int)≤vs.length + 1:=by
  unfold BO;split
  ·simp only [aaj,List.length_cons,List.length_nil];omega
  ·omega
 refine Y2.2.calls rfl ?_
 simp only [Y2,aH]
 simp +contextual only [cW,sZ,Nat.reduceEqDiff,Nat.reduceAdd,↓reduceIte,reduceCtorEq]
 refine af (ade H x vs (by omega)) ?_
 rintro r H' ⟨rfl,rfl⟩
 simp +contextual only [cW,sZ,Nat.reduceEqDiff,↓reduceIte]
 intro E4
 refine aF x.l.length (fun i (s:List Int)=>(s.length:Int) + lB (x.l.drop i)≤1000000∧dC (x.l.drop i) s=lM x vs)
  (fun i s=>[(1,.fn (.func 246) [] [.ah (.map (H.length + 1)),.ptr H.length 0]),(10,.al 0 (bN x.l)),(11,.int .i64 x.l.length),(12,.int .i64 i)]) (fun i s=>H++cW s) (BO vs x) ⟨⟨by rw [List.drop_zero];omega,by rw [e];rfl⟩,ax _ _ _⟩ fun i s hi hI=>?_
 obtain ⟨k1,hI⟩:=hI
 simp +contextual only [cW,sZ,Nat.reduceEqDiff,Nat.reduceAdd,↓reduceIte,reduceCtorEq]
 refine ⟨fun aM=>⟨bp aM,?_⟩,fun fV=>?_⟩
 ·have aM:=bp aM
  rw [vj aM] at hI
  rw [sI aM] at k1
  have hp:=gN (x.l.drop (i + 1))
  refine af (ih _ (dM aM) s (by omega)) ?_
  rintro r H' ⟨rfl,rfl⟩
  simp +contextual only [cW,sZ,Nat.reduceEqDiff,↓reduceIte]
  have:=ud (x.l.getD i default) s
  exact ⟨i + 1,_,⟨aM,by omega,hI⟩,by omega,ay (by rw [aj i (by omega)]) rfl⟩
 ·rw [aap (bZ fV)] at hI
  rw [← hI]
  exact jR (by simp [cW]) rfl
termination_by SizeOf.sizeOf x
decreasing_by exact T.lt hy
theorem ri (vs:List Int):(cC vs).ab.le (.al 0 (ints vs)):=by
 cases vs with
 | nil=>exact .inr (.inr (.inr (.inl ⟨rfl,0,rfl⟩)))
 | cons v r=>exact le_refl _
theorem adf (l:List T) (hl:lB l≤1000000):Pure Tryz.prog 237 [.al 0 (bN l)] (.al 0 (ints (dC l []))):=by
 refine fun H=>YY.2.calls rfl ?_
 simp only [YY,aH]
 simp +contextual only [sZ,Nat.reduceEqDiff,Nat.reduceAdd,↓reduceIte,reduceCtorEq]
 intro E4
 refine aF l.length (fun i (s:List Int)=>(s.length:Int) + lB (l.drop i)≤1000000∧dC (l.drop i) s=dC l [])
  (fun i s=>[(3,.ptr H.length 0),(4,.ah (.map (H.length + 1))),(8,.al 0 (bN l)),(9,.int .i64 l.length),(10,.int .i64 i)]) (fun i s=>H++cW s) [] ⟨⟨by rw [List.drop_zero,List.length_nil];omega,rfl⟩,ax _ _ _⟩ fun i s hi hI=>?_
 obtain ⟨k1,hI⟩:=hI
 simp +contextual only [cW,sZ,Nat.reduceEqDiff,Nat.reduceAdd,Nat.reduceLT,↓reduceIte,reduceCtorEq]
 refine ⟨fun aM=>⟨bp aM,?_⟩,fun fV=>?_⟩
 ·have aM:=bp aM
  rw [vj aM] at hI
  rw [sI aM] at k1
  have hp:=gN (l.drop (i + 1))
  refine af (Zf H (l.getD i default) s (by omega)) ?_
  rintro r H' ⟨rfl,rfl⟩
  simp +contextual only [cW,sZ,Nat.reduceEqDiff,↓reduceIte]
  have:=ud (l.getD i default) s
  exact ⟨i + 1,_,⟨aM,by omega,hI⟩,by omega,ay (by rw [aj i (by omega)]) rfl⟩
 ·rw [aap (bZ fV)] at hI
  have:s=dC l []:=hI
  subst this
  refine Xd ?_ (by simp only [bA,aJ])
  have e:(cC (dC l [])).ab.ab=(cC (dC l [])).ab:=by cases (dC l []) <;> rfl
  rw [e]
  exact ri _
theorem adg (l:List Int) (n:Int) (o:Nat):Pure Tryz.prog 249 [.al o (ints l),.int .i64 n] (.bool (decide (n∈l))):=by
 refine fun H=>Y5.2.calls rfl ?_
 simp only [Y5,aH]
 simp +contextual only [sZ,Nat.reduceEqDiff,Nat.reduceAdd,↓reduceIte,reduceCtorEq]
 refine aq l.length (fun i=>decide (n∈l.drop i)=decide (n∈l)) (fun i=>[(0,.al o (ints l)),(1,.int .i64 n),(5,.int .i64 i)]) (fun i=>H) ⟨rfl,ax _ _ _⟩ fun i hi hI=>?_
 simp +contextual only [sZ,Nat.reduceEqDiff,↓reduceIte,reduceCtorEq]
 intro _
 refine ⟨fun aM=>⟨bp aM,?_⟩,fun fV=>?_⟩
 ·have aM:=bp aM
  rw [aav aM] at hI
  have eg:l.getD i 0=l[i]:=by simp [aM]
  rw [eg]
  refine ⟨fun he=>aK rfl (by rw [← hI,← he,decide_eq_true (abD)]),fun he=>⟨i + 1,⟨aM,?_⟩,by omega,ay (by rw [aj i (by omega)]) rfl⟩⟩
  rw [← hI]
  have:¬ n=l[i]:=fun h=>he h.symm
  exact decide_eq_decide.2 (by rw [aak];exact ⟨.inr,fun h=>h.resolve_left this⟩)
 ·rw [aap (bZ fV)] at hI
  exact aK rfl (by rw [← hI];simp)
mutual
def Kz:T→List Int→List Int
 | .mk k n l,vs=>if k=1 then (if n∈vs then vs else vs++[n]) else HT l vs
def HT:List T→List Int→List Int
 | [],vs=>vs
 | x::r,vs=>HT r (Kz x vs)
end
mutual
theorem BP:∀ (x:T) (vs:List Int),((Kz x vs).length:Int)≤vs.length + x.sz
 | .mk k n l,vs=>by
   simp only [Kz,T.sz]
   have:=HU l vs
   have:=gN l
   split
   ·split
    ·omega
    ·simp only [aaj,List.length_cons,List.length_nil];omega
   ·omega
theorem HU:∀ (l:List T) (vs:List Int),((HT l vs).length:Int)≤vs.length + lB l
 | [],vs=>by simp [HT,lB]
 | x::r,vs=>by
   simp only [HT,lB]
   have h1:=BP x vs
   have h2:=HU r (Kz x vs)
   omega
end
mutual
theorem Qc:∀ (x:T) (vs:List Int),x.shaped=true→lM x vs=Kz x vs
 | .mk k n l,vs,h=>by
   have h':=h
   rw [T.dn] at h
   simp only [T.k,T.n,T.l,zC,abC,abQ,afj] at h
   obtain ⟨⟨⟨⟨h1,h2⟩,h3⟩,h4⟩,h5⟩:=h
   simp only [lM,Kz]
   by_cases hk:k=1
   ·have hl:l=[]:=by
     rcases h2 with h2 | h2
     ·simp [hk] at h2
     ·cases l with
      | nil=>rfl
      | cons x r=>simp at h2
    subst hl
    simp only [dC,hk,true_and,if_true]
    by_cases hn:n∈vs <;> simp [hn]
   ·simp only [hk,false_and,if_false]
    exact sJ l vs h5
theorem sJ:∀ (l:List T) (vs:List Int),eh l=true→dC l vs=HT l vs
 | [],vs,_=>rfl
 | x::r,vs,h=>by
   simp only [eh,zC] at h
   simp only [dC,HT,Qc x vs h.1]
   exact sJ r _ h.2
end
theorem DX {l:List T} {i:Nat} {vs:List Int} (h:i < l.length):HT (l.drop i) vs=HT (l.drop (i + 1)) (Kz (l.getD i default) vs):=by
 rw [aav h]
 simp [HT,h]
theorem Zg (H:List aa) (x:T) (vs:List Int) (hl:vs.length + x.sz≤1000000) :
 aA Tryz.prog 244 [x.av,.al 1 (ints vs)] H fun r H'=>r=.al 1 (ints (Kz x vs))∧H'=H:=by
 have ih:∀ y∈x.l,∀ (vs:List Int),vs.length + y.sz≤1000000→aA Tryz.prog 244 [y.av,.al 1 (ints vs)] H fun r H'=>r=.al 1 (ints (Kz y vs))∧H'=H:=
  fun y hy vs h=>Zg H y vs h
 have e:Kz x vs=if x.k=1 then (if x.n∈vs then vs else vs++[x.n]) else HT x.l vs:=by cases x;simp only [Kz,T.k,T.n,T.l];rfl
 have es:x.sz=1 + lB x.l:=by cases x;simp only [T.sz,T.l]
 have V0:=gN x.l
 refine Y1.2.calls rfl ?_
 simp only [Y1,aH]
 simp +contextual only [sZ,Nat.reduceEqDiff,Nat.reduceAdd,↓reduceIte,reduceCtorEq]
 refine ⟨fun hk=>?_,fun hk=>?_⟩
 ·refine ae (adg vs x.n 0) ?_
  by_cases hn:x.n∈vs
  ·rw [decide_eq_true hn]
   simp +contextual only [sZ,Nat.reduceEqDiff,↓reduceIte,reduceCtorEq]
   exact aK (by simp only [bA,aJ]) (by rw [e,if_pos hk,if_pos hn])
  ·rw [decide_eq_false hn]
   simp +contextual only [sZ,Nat.reduceEqDiff,Nat.reduceAdd,↓reduceIte,reduceCtorEq]
   refine ⟨by omega,?_⟩
   exact aK (by simp only [bA,aJ]) (by rw [e,if_pos hk,if_neg hn])
 ·refine aF x.l.length (fun i (s:List Int)=>(s.length:Int) + lB (x.l.drop i)≤1000000∧HT (x.l.drop i) s=Kz x vs)
   (fun i s=>[(1,.al 1 (ints s)),(2,x.av.ah),(5,.int .i64 i)]) (fun i s=>H) vs ⟨⟨by rw [List.drop_zero];omega,by rw [e,if_neg hk];rfl⟩,ax _ _ _⟩ fun i s hi hI=>?_
  obtain ⟨k1,hI⟩:=hI
  simp +contextual only [sZ,Nat.reduceEqDiff,Nat.reduceAdd,↓reduceIte,reduceCtorEq]
  intro _
  refine ⟨fun aM=>⟨bp aM,?_⟩,fun fV=>?_⟩
  ·have aM:=bp aM
   rw [DX aM] at hI
   rw [sI aM] at k1
   have hp:=gN (x.l.drop (i + 1))
   refine af (ih _ (dM aM) s (by omega)) ?_
   rintro r H' ⟨rfl,rfl⟩
   simp +contextual only [sZ,Nat.reduceEqDiff,↓reduceIte]
   have:=BP (x.l.getD i default) s
   exact ⟨i + 1,_,⟨aM,by omega,hI⟩,by omega,ay (by rw [aj i (by omega)]) rfl⟩
  ·rw [aap (bZ fV)] at hI
   exact aK (by simp only [bA,aJ]) (by rw [← hI];rfl)
termination_by SizeOf.sizeOf x
decreasing_by exact T.lt hy
def eU (l:List T):List Int:=if kZ l=true then HT l [] else []
theorem Zh (l:List T) (hl:lB l≤1000000):Pure Tryz.prog 235 [.al 0 (bN l)] (.al 0 (ints (eU l))):=by
 refine fun H=>YW.2.calls rfl ?_
 simp only [YW,aH]
 simp +contextual only [sZ,Nat.reduceAdd,↓reduceIte,reduceCtorEq]
 refine ae (adb l) ?_
 cases hb:kZ l with
 | false=>
   simp +contextual only [sZ,Nat.reduceEqDiff,↓reduceIte,reduceCtorEq]
   exact aK rfl (by simp [eU,hb,ints])
 | true=>
   simp +contextual only [sZ,Nat.reduceEqDiff,↓reduceIte,reduceCtorEq]
   refine aF l.length (fun i (s:List Int)=>(s.length:Int) + lB (l.drop i)≤1000000∧HT (l.drop i) s=eU l)
    (fun i s=>[(0,.al 0 (bN l)),(3,.al 1 (ints s)),(4,.int .i64 i)]) (fun i s=>H) [] ⟨⟨by rw [List.drop_zero,List.length_nil];omega,by rw [eU,if_pos hb];rfl⟩,ax _ _ _⟩ fun i s hi hI=>?_
   obtain ⟨k1,hI⟩:=hI
   simp +contextual only [sZ,Nat.reduceEqDiff,Nat.reduceAdd,↓reduceIte,reduceCtorEq]
   intro _
   refine ⟨fun aM=>⟨bp aM,?_⟩,fun fV=>?_⟩
   ·have aM:=bp aM
    rw [DX aM] at hI
    rw [sI aM] at k1
    have hp:=gN (l.drop (i + 1))
    refine af (Zg H (l.getD i default) s (by omega)) ?_
    rintro r H' ⟨rfl,rfl⟩
    simp +contextual only [sZ,Nat.reduceEqDiff,↓reduceIte,reduceCtorEq]
    have:=BP (l.getD i default) s
    exact ⟨i + 1,_,⟨aM,by omega,hI⟩,by omega,ay (by rw [aj i (by omega)]) rfl⟩
   ·rw [aap (bZ fV)] at hI
    exact aK (by simp only [bA,aJ]) (by rw [← hI];rfl)
theorem c41 (a b:T):Pure Tryz.prog 41 [a.av,b.av] (.bool (a.same b)):=by
 have ih:∀ x∈a.l,∀ y,Pure Tryz.prog 41 [x.av,y.av] (.bool (x.same y)):=fun x hx y=>c41 x y
 have e:a.same b=(decide (a.k=b.k) && decide (a.n=b.n) && gF a.l b.l):=by
  cases a;cases b;simp only [T.same,T.k,T.n,T.l];rfl
 refine fun H=>k41.2.calls rfl ?_
 simp only [k41,aH]
 simp +contextual only [sZ,Nat.reduceEqDiff,Nat.reduceAdd,↓reduceIte,reduceCtorEq]
 have fin:∀ (H':List aa),H'=H→(a.k=b.k→a.n=b.n→a.l.length=b.l.length→False)→bP H.length [RX.t 4] [(4,AV.bool false)] H' fun r H'=>r=AV.bool (a.same b)∧H'=H:=by
  rintro H' rfl hh
  refine aK rfl ?_
  cases hs:a.same b with
  | false=>rfl
  | true=>
    rw [e] at hs
    simp only [zC,decide_eq_true_eq] at hs
    exact (hh hs.1.1 hs.1.2 (tY hs.2)).elim
 refine ⟨fun hk=>⟨fun hn _ _=>⟨fun hl=>fin _ rfl (by omega),fun hl=>?_⟩,fun hn=>fin _ rfl (by omega)⟩,fun hk=>fin _ rfl (by omega)⟩
 have hl:a.l.length=b.l.length:=by omega
 refine aq a.l.length (fun i=>gF (a.l.drop i) (b.l.drop i)=a.same b) (fun i=>[(2,.ah a.av),(3,.ah b.av),(5,.int .i64 i)]) (fun i=>H) ⟨by rw [e,decide_eq_true hk,decide_eq_true hn];rfl,ax _ _ _⟩ fun i hi hI=>?_
 simp +contextual only [sZ,Nat.reduceEqDiff,↓reduceIte,reduceCtorEq]
 intro _
 refine ⟨fun aM=>⟨bp aM,?_⟩,fun fV=>?_⟩
 ·have aM:=bp aM
  have BQ:i < b.l.length:=by omega
  rw [xF aM BQ] at hI
  refine ⟨BQ,aB (ih _ (dM aM) _) ?_⟩
  simp +contextual only [sZ,Nat.reduceEqDiff,↓reduceIte]
  refine nT (fun hb=>?_) (fun hb=>?_) <;> simp +contextual only [sZ,Nat.reduceEqDiff,↓reduceIte,reduceCtorEq]
  ·exact ⟨i + 1,⟨aM,by rw [hb] at hI;simpa using hI⟩,by omega,ay (by rw [aj i (by omega)]) rfl⟩
  ·exact aK rfl (by rw [← hI,hb];rfl)
 ·have fV:=bZ fV
  rw [aap fV,aap (by omega)] at hI
  exact aK rfl (by rw [← hI];rfl)
termination_by SizeOf.sizeOf a
decreasing_by exact T.lt hx
end Go.aI
end
section
set_option maxRecDepth 100000
namespace Go.aI
open Go Go.Proofs
mutual
def Zi (f:Int→T):T→T
 | .mk k n l=>if k=1 then f n else .mk k n (RY f l)
def RY (f:Int→T):List T→List T
 | []=>[]
 | x::r=>Zi f x::RY f r
end
def rj:List T→AV
 | []=>.ag
 | v::r=>.al 3 (bN (v::r))
theorem Mm (l:List T) (x:T):bN l++[x.av]=bN (l++[x]):=by simp [nW]
theorem Aj (vs:List T) (n:T):AV.al 3 (bN (vs++[n]))=rj (vs++[n]):=by
 cases vs <;> rfl
theorem HV (b:Nat) (vs:List T) (n:T) (o:Nat) (ψ:List AV→Prop):bC 3 b (rj vs) (.al o [n.av]) ψ=((vs.length + 1) * b≤140737488355328∧ψ (bN (vs++[n]))):=by
 cases vs with
 | nil=>simp [rj,lK,UC,bN]
 | cons v r=>
   show bC 3 b (.al 3 (bN (v::r))) _ ψ=_
   rw [jv,UC,sF,Mm]
   simp
theorem fN {x:T} (h:x.shaped=true):x.l.length≤8∧∀ y∈x.l,y.shaped=true:=by
 rw [x.dn,zC,abC,abQ] at h
 have h1:=h.1.2
 have h2:=h.2
 rw [lL] at h2
 exact ⟨by simpa using h1,fun y hy=>abc.1 h2 y hy⟩
end Go.aI
end
section
set_option maxRecDepth 100000
namespace Go.aI
open Go Go.Proofs
theorem ue (a b:Int):vN b a=- vN a b:=by unfold vN;split <;> split <;> (try split) <;> omega
def Qd (a b:Int):Int:=if a≠0 then a else b
theorem Mn (a b:T):a.cmp b=Qd (vN a.k b.k) (Qd (vN a.n b.n) (Qd (vN a.l.length b.l.length) (xG a.l b.l))):=by
 cases a;cases b
 simp only [T.cmp,orL,T.k,T.n,T.l,Qd]
 repeat' split
 all_goals first | rfl | simp_all
theorem Ak (x y:T) (r s:List T):xG (x::r) (y::s)=Qd (x.cmp y) (xG r s):=by simp only [xG,Qd]
theorem wc {a b c d:Int} (h1:a=-c) (h2:b=-d):Qd a b=- Qd c d:=by unfold Qd;repeat' split <;> omega
mutual
theorem T.Mo:∀ a b:T,b.cmp a=- a.cmp b
 | .mk k n l,.mk k' n' l'=>by
   rw [Mn,Mn]
   exact wc (ue _ _) (wc (ue _ _) (wc (ue _ _) (Al l l')))
theorem Al:∀ l m:List T,xG m l=- xG l m
 | [],[]=>by simp [xG]
 | [],_::_=>by simp [xG]
 | _::_,[]=>by simp [xG]
 | x::r,y::s=>by rw [Ak,Ak];exact wc (T.Mo x y) (Al r s)
end
mutual
theorem T.Mq:∀ a b:T,a.same b=true↔a=b
 | .mk k n l,.mk k' n' l'=>by
   simp only [T.same,zC,beq_iff_eq,T.mk.injEq,uf l l',and_assoc]
theorem uf:∀ l m:List T,gF l m=true↔l=m
 | [],[]=>by simp [gF]
 | [],_::_=>by simp [gF]
 | _::_,[]=>by simp [gF]
 | x::r,y::s=>by simp only [gF,zC,T.Mq x y,uf r s,List.cons.injEq]
end
end Go.aI
end
section
set_option maxRecDepth 100000
namespace Go.aI
open Go Go.RowKit
mutual
def T.wf:T→Prop
 | .mk k n l=>(-9223372036854775808≤k∧k≤9223372036854775807)∧(-9223372036854775808≤n∧n≤9223372036854775807)∧l.length≤9223372036854775807∧UI l
def UI:List T→Prop
 | []=>True
 | x::r=>x.wf∧UI r
end
theorem HW:∀ l:List T,UI l↔∀ x∈l,x.wf
 | []=>by simp [UI]
 | x::r=>by simp [UI,HW r]
section
variable {H:Type} {enc:TypeId×Value→H} {P:Program} {w:World} {base:Nat} {sp:Nat→Bool} {held:Bool}
structure k7 (P:Program) (ti tt tl:TypeId):Prop where
 int:P.underlying ti=some (.int .i64)
 tree:∃ f0 f1 f2:Field,P.underlying tt=some (.struct #[f0,f1,f2])∧f0.type=ti∧f0.offset=0∧f1.type=ti∧f1.offset=1∧f2.type=tl∧f2.offset=2
 list:P.underlying tl=some (.slice tt)
 c1:P.cellsOf ti=1
 c3:P.cellsOf tt=3
 cl:P.cellsOf tl=1
theorem Mr {n:Int} (h:(Lit.int .i64 n).wf=true):-9223372036854775808≤n∧n≤9223372036854775807:=by
 simp only [Lit.wf,zC,decide_eq_true_eq] at h
 revert h
 simp [IntKind.has,IntKind.min,IntKind.max,IntKind.signed,IntKind.bits]
theorem Gv {n:Nat} {p:Nat→T→Prop} (h:∀ i,i < n→∃ t,p i t):∃ f:Nat→T,∀ i,i < n→p i (f i):=by
 refine ⟨fun i=>if hi:i < n then Classical.choose (h i hi) else default,fun i hi=>?_⟩
 simp only [dif_pos hi]
 exact Classical.choose_spec (h i hi)
def isT (w:World) (cs:List Value) (t:T):Prop:=aP (eH w) [] cs t.av.cells∧t.wf
def UJ (w:World) (cs:List Value) (l:List T):Prop:=(∃ v,cs=[v]∧(∃ y,a7 (eH w) [] v y∧(y=.al 0 (bN l)∨(y=.ag∧l=[]))))∧l.length≤9223372036854775807∧UI l
theorem UJ.Wq {cs:List Value} {l:List T} (h:UJ w cs l):∃ v,cs=[v]∧a7 (eH w) [] v (.al 0 (bN l)):=by
 obtain ⟨⟨v,rfl,y,hr,hy⟩,_⟩:=h
 refine ⟨v,rfl,?_⟩
 rcases hy with rfl | ⟨rfl,rfl⟩
 ·exact hr
 ·exact hr.drop
def DY (d:DataW H) (l:List T):Prop:=match d with | .slice es _=>l.length=es.length | _=>l=[]
theorem Am {ti tt tl:TypeId} (hT:k7 P ti tt tl):∀ (fuel:Nat),
 (∀ (cs:List Value) (x:DataW H×List MemPlace),DataW.trod enc P w base sp held fuel tt cs=some x→∃ t:T,isT w cs t)∧
 (∀ (cs:List Value) (x:DataW H×List MemPlace),DataW.trod enc P w base sp held fuel tl cs=some x→∃ l:List T,UJ w cs l∧DY x.1 l):=by
 intro fuel
 induction fuel with
 | zero=>exact ⟨fun cs x h=>by simp [DataW.trod] at h,fun cs x h=>by simp [DataW.trod] at h⟩
 | succ n ih=>
   refine ⟨fun cs x h=>?_,fun cs x h=>?_⟩
   ·obtain ⟨f0,f1,f2,hu,h0,o0,h1,o1,h2,o2⟩:=hT.tree
    obtain ⟨xs,m,hm,rfl,hlen,fe,hf⟩:=DataW.trod_struct hu h
    cases hm
    have g0:=hf 0 f0 rfl
    have g1:=hf 1 f1 rfl
    have g2:=hf 2 f2 rfl
    rw [h0,o0,hT.c1] at g0
    rw [h1,o1,hT.c1] at g1
    rw [h2,o2,hT.cl] at g2
    simp at fe
    rw [hT.c3] at hlen
    match cs,hlen with
    | [a,b,c],_=>
      have e0:xs[0]?=some xs[0]:=by simp [fe]
      have e1:xs[1]?=some xs[1]:=by simp [fe]
      have e2:xs[2]?=some xs[2]:=by simp [fe]
      rw [e0] at g0;rw [e1] at g1;rw [e2] at g2
      obtain ⟨k,ek,_,wk⟩:=DataW.trod_int hT.int g0
      obtain ⟨q,eq,_,wq⟩:=DataW.trod_int hT.int g1
      obtain ⟨l,hl,_⟩:=ih.2 _ _ g2
      obtain ⟨v,ev,hv⟩:=hl.Wq
      simp at ek eq ev
      subst ek eq ev
      exact ⟨.mk k q l,.cons _ _ _ _ (.int _ _) (.cons _ _ _ _ (.int _ _) (.cons _ _ _ _ hv .nil)),Mr wk,Mr wq,hl.2.1,hl.2.2⟩
   ·rcases DataW.trod_slice hT.list h with ⟨rfl,rfl⟩ | ⟨a,len,cap,elems,rest,m,hm,rfl,rfl,hb,hle,bY,KY,kM,_,_⟩
    ·exact ⟨[],⟨⟨_,rfl,.ag,.ag,.inr ⟨rfl,rfl⟩⟩,by simp,trivial⟩,rfl⟩
    cases hm
    rw [hT.c3] at kM
    have hex:∀ i,i < len→∃ t:T,∃ cs',w.cells? base (a.add (i * 3)) 3=some cs'∧isT w cs' t:=by
     intro i hi
     have:=kM i hi
     rw [Hj (by omega)] at this
     obtain ⟨cs',k1,k2⟩:=Option.bind_eq_some_iff.1 this
     obtain ⟨t,ht⟩:=ih.1 _ _ k2
     exact ⟨t,cs',k1,ht⟩
    obtain ⟨f,hf⟩:=Gv hex
    have VU:maxLen=9223372036854775807:=rfl
    refine ⟨(List.range len).map f,⟨⟨_,rfl,_,?_,.inl rfl⟩,by simp;omega,?_⟩,by simp [DY,KY]⟩
    ·rw [nW,acH]
     refine Ab (e:=3) (base:=base) (by decide) hle bY (fun i=>if hi:i < len then Classical.choose (hf i hi) else []) _ fun i hi=>?_
     simp only [dif_pos hi]
     obtain ⟨k1,k2⟩:=Classical.choose_spec (hf i hi)
     exact ⟨k1,k2.1⟩
    ·rw [HW]
     intro x hx
     obtain ⟨i,hi,rfl⟩:=aaw.1 hx
     obtain ⟨cs',_,k2⟩:=hf i (abG.1 hi)
     exact k2.2
theorem Qe {ti tt tl:TypeId} (hT:k7 P ti tt tl) {r:Reach} {b0:Nat} {v:Value} {d:DataW H} {ps:List MemPlace} (nD:Value.okWide P w r b0 tl v) (hd:DataW.Trod enc P w base sp held tl v d ps) :
 ∃ l:List T,a7 (eH w) [] v (.al 0 (bN l))∧DY d l∧UI l:=by
 obtain ⟨a,len,cap,rfl⟩:=WideShapes.okWide_slice hT.list nD
 obtain ⟨fuel,hf⟩:=hd
 obtain ⟨l,hl,hlen⟩:=(Am hT fuel).2 _ _ hf
 obtain ⟨v,hv,hr⟩:=hl.Wq
 simp [Value.cells] at hv
 subst hv
 exact ⟨l,hr,hlen,hl.2.2⟩
theorem Qf {ti tt tl:TypeId} (hT:k7 P ti tt tl) {ts:List TypeId} {ds:List (DataW H)} (h:(DataW.weightsEach P ts ds).all (·≤reachBytes)=true) {j:Nat} {d:DataW H} {l:List T} (ht:ts[j]?=some tl) (hd:ds[j]?=some d) (hl:DY d l) :
 l.length * P.bytesOf tt≤reachBytes:=by
 unfold DY at hl
 split at hl
 ·rename_i es sp
  have:=sized_slice h ht hd hT.list
  rw [hl]
  exact abW (acu _ (Nat.le_add_right _ _)) this
 ·subst hl;simp
end
end Go.aI
end
section
end
section
set_option maxRecDepth 100000
namespace Go.aI
open Go Go.Proofs
mutual
def T.fv:T→List Int
 | .mk k n l=>if k=1 then n::Qg l else Qg l
def Qg:List T→List Int
 | []=>[]
 | x::r=>x.fv++Qg r
end
mutual
theorem J2:∀ (x:T) (vs:List Int) (v:Int),v∈lM x vs↔v∈vs∨v∈x.fv
 | .mk k n l,vs,v=>by
   simp only [lM,T.fv]
   rw [rk l _ v]
   by_cases hk:k=1
   ·by_cases hn:n∈vs
    ·simp only [hk,hn,not_true_eq_false,and_false,if_false,if_true,aak]
     constructor
     ·rintro (h | h)
      ·exact .inl h
      ·exact .inr (.inr h)
     ·rintro (h | h | h)
      ·exact .inl h
      ·subst h;exact .inl hn
      ·exact .inr h
    ·simp only [hk,hn,not_false_eq_true,and_self,if_true,abF,aak,abA,or_false,or_assoc]
   ·simp only [hk,false_and,if_false]
theorem rk:∀ (l:List T) (vs:List Int) (v:Int),v∈dC l vs↔v∈vs∨v∈Qg l
 | [],vs,v=>by simp [dC,Qg]
 | x::r,vs,v=>by
   simp only [dC,Qg,abF]
   rw [rk r _ v,J2 x vs v,or_assoc]
end
end Go.aI
end
section
set_option maxRecDepth 100000
namespace Go.aI
open Go Go.Proofs
def An (t:T):Int×Int:=if t.sz≤2000∧t.dp≤200 then (t.sz,t.dp) else (2001,201)
theorem adh (t:T):(¬ fQ (ic t 1 (0,0))↔t.sz≤2000∧t.dp≤200)∧(¬ fQ (ic t 1 (0,0))→ic t 1 (0,0)=(t.sz,t.dp)):=by
 have h:=ub t 1 (0,0) (by unfold qI;simp)
 have hd:=t.BN
 refine ⟨h.1.trans ⟨fun k=>⟨by omega,by omega⟩,fun k=>⟨by simp only;omega,by omega⟩⟩,fun k=>?_⟩
 have:=h.2 k
 exact Prod.ext (by simpa using this.1) (by have:=this.2;simp only at this ⊢;omega)
theorem aiR (t:T):Pure Tryz.prog 122 [t.av] (.tuple [.int .i64 (An t).1,.int .i64 (An t).2]):=by
 refine fun H=>Xv.2.calls rfl ?_
 simp only [Xv,aH]
 simp +contextual only [sZ,Nat.reduceEqDiff,Nat.reduceAdd,↓reduceIte,reduceCtorEq]
 refine af (UG H t 1 (0,0) (by unfold qI;simp)) ?_
 rintro r H' ⟨rfl,rfl⟩
 simp +contextual only [sZ,Nat.reduceEqDiff,Nat.reduceAdd,↓reduceIte]
 refine af (Y9 H (ic t 1 (0,0))) ?_
 rintro r H' ⟨rfl,rfl⟩
 have h0:=adh t
 cases hb:vi (ic t 1 (0,0)) with
 | true=>
   have hn:¬ (t.sz≤2000∧t.dp≤200):=fun h=>h0.1.2 h ((uc _).1 hb)
   simp +contextual only [fq,sZ,Nat.reduceEqDiff,↓reduceIte,reduceCtorEq]
   exact xB (by decide) rfl rfl (by rw [An,if_neg hn];rfl) (by rw [An,if_neg hn];rfl)
 | false=>
   have hn:¬ fQ (ic t 1 (0,0)):=fun h=>by rw [(uc _).2 h] at hb;cases hb
   have h1:=h0.1.1 hn
   rw [h0.2 hn]
   simp +contextual only [fq,sZ,Nat.reduceEqDiff,Nat.reduceAdd,Nat.reduceLT,↓reduceIte,reduceCtorEq]
   exact xB (by decide) rfl rfl (by rw [An,if_pos h1];rfl) (by rw [An,if_pos h1];rfl)
theorem adi (a b:List Int) (o o':Nat):Pure Tryz.prog 198 [.al o (ints a),.al o' (ints b)] (.bool (decide (a=b))):=by
 refine fun H=>Yr.2.calls rfl ?_
 simp only [Yr,aH]
 simp +contextual only [sZ,Nat.reduceEqDiff,Nat.reduceAdd,↓reduceIte,reduceCtorEq]
 refine fun _ _=>⟨fun dP=>aK rfl ?_,fun hl=>?_⟩
 ·rw [decide_eq_false]
  intro h;subst h;exact dP rfl
 have hl:a.length=b.length:=by omega
 refine aq a.length (fun i=>decide (a.drop i=b.drop i)=decide (a=b)) (fun i=>[(0,.al o (ints a)),(1,.al o' (ints b)),(5,.int .i64 i)]) (fun i=>H) ⟨rfl,ax _ _ _⟩ fun i hi hI=>?_
 simp +contextual only [sZ,Nat.reduceEqDiff,↓reduceIte,reduceCtorEq]
 intro _
 refine ⟨fun aM=>⟨bp aM,?_⟩,fun fV=>?_⟩
 ·have aM:=bp aM
  have BQ:i < b.length:=by omega
  rw [aav aM,aav BQ] at hI
  have e1:a.getD i 0=a[i]:=by simp [aM]
  have e2:b.getD i 0=b[i]:=by simp [BQ]
  rw [e1,e2]
  refine ⟨BQ,fun dP=>aK rfl ?_,fun he=>⟨i + 1,⟨aM,?_⟩,by omega,ay (by rw [aj i (by omega)]) rfl⟩⟩
  ·rw [← hI,decide_eq_false]
   intro h;exact dP (List.cons.inj h).1
  ·rw [← hI,he]
   exact decide_eq_decide.2 (by rw [List.cons.injEq];simp only [true_and])
 ·have fV:=bZ fV
  rw [aap fV,aap (by omega)] at hI
  exact aK rfl (by rw [← hI];rfl)
theorem Zj (l:List T):eU l=if kZ l=true then dC l [] else []:=by
 unfold eU
 split
 ·rename_i h
  rw [sJ l []]
  rw [lL,abc]
  intro x hx
  exact ((T.cI x).1 (abc.1 h x hx)).2.2
 ·rfl
theorem Zk (l:List T) (hl:lB l≤1000000):Pure Tryz.prog 219 [.al 0 (bN l)] (.al 0 (ints (eU l))):=by
 refine fun H=>YH.2.calls rfl ?_
 simp only [YH,aH]
 simp +contextual only [sZ,Nat.reduceAdd,↓reduceIte,reduceCtorEq]
 refine ae (ac9 l) ?_
 cases hb:kZ l with
 | false=>
   simp +contextual only [abI,sZ,↓reduceIte,reduceCtorEq,Int.reduceEq]
   exact Xc (by rw [eU,hb];exact .inr (.inr (.inr (.inl ⟨rfl,0,rfl⟩)))) (by simp only [bA,aJ])
 | true=>
   simp +contextual only [sZ,Nat.reduceAdd,↓reduceIte,reduceCtorEq]
   refine ae (adf l hl) ?_
   simp +contextual only [sZ,↓reduceIte,reduceCtorEq]
   exact aK (by simp only [bA,aJ]) (by rw [Zj,if_pos hb])
theorem BR (l:List T):qR 3 (bN l)=True:=by
 simp only [qR,eq_iff_iff,iff_true]
 intro y hy
 rw [nW] at hy
 obtain ⟨z,_,rfl⟩:=aaw.1 hy
 exact ⟨z.jc,z.rf⟩
end Go.aI
end
section
set_option maxRecDepth 100000
namespace Go.aI
open Go Go.Proofs
def sub (l:List T) (t:T):T:=Zi (fun n=>l.getD n.toNat default) t
theorem J3 (l:List Int):(∀ (own:Nat) (xs:List AV),(cC l).ab=AV.al own xs→∀ z∈xs,z.cells.length=1)=True:=by
 simp only [eq_iff_iff,iff_true]
 intro own xs e z hz
 cases l with
 | nil=>cases e
 | cons v r=>
   have e':AV.al 0 (ints (v::r))=AV.al own xs:=e
   cases e'
   obtain ⟨y,_,rfl⟩:=aaw.1 hz
   rfl
end Go.aI
end
section
namespace Go.dD
open Go.aI
mutual
def code:T→List Int
 | .mk k n l=>k::n::(l.length:Int)::Ao l
def Ao:List T→List Int
 | []=>[]
 | x::r=>code x++Ao r
end
mutual
theorem DZ:∀ (a b:T) (r s:List Int),code a++r=code b++s→a=b∧r=s
 | .mk k n l,.mk k' n' l',r,s,h=>by
   simp only [code,List.cons_append,List.cons.injEq] at h
   obtain ⟨h1,h2,h3,h4⟩:=h
   obtain ⟨h5,h6⟩:=Ap l l' r s (by omega) h4
   exact ⟨by rw [h1,h2,h5],h6⟩
theorem Ap:∀ (l m:List T) (r s:List Int),l.length=m.length→Ao l++r=Ao m++s→l=m∧r=s
 | [],[],r,s,_,h=>⟨rfl,by simpa [Ao] using h⟩
 | x::l,y::m,r,s,hl,h=>by
   simp only [Ao,abe] at h
   obtain ⟨h1,h2⟩:=DZ x y _ _ h
   obtain ⟨h3,h4⟩:=Ap l m r s (by simpa using hl) h2
   exact ⟨by rw [h1,h3],h4⟩
 | [],_::_,_,_,h,_=>by simp at h
 | _::_,[],_,_,h,_=>by simp at h
end
theorem HX {a b:T} (h:code a=code b):a=b:=(DZ a b [] [] (by rw [h])).1
instance:DecidableEq T:=fun a b=>decidable_of_iff (code a=code b) ⟨HX,fun h=>by rw [h]⟩
def CC (a b:T):Prop:=code a≤code b
instance (a b:T):Decidable (CC a b):=inferInstanceAs (Decidable (code a≤code b))
theorem D0 {a b:T} (h1:CC a b) (h2:CC b a):a=b:=HX (List.le_antisymm h1 h2)
theorem Aq (a b:T):CC a b∨CC b a:=List.le_total _ _
theorem Ar {a b c:T} (h1:CC a b) (h2:CC b c):CC a c:=List.le_trans h1 h2
def ins (x:T):List T→List T
 | []=>[x]
 | y::r=>if CC x y then x::y::r else y::ins x r
def vk:List T→List T
 | []=>[]
 | x::r=>ins x (vk r)
theorem D1 (x:T):∀ l,(ins x l).Perm (x::l)
 | []=>List.Perm.refl _
 | y::r=>by
   simp only [ins]
   split
   ·exact List.Perm.refl _
   ·exact ((D1 x r).cons y).trans (List.Perm.swap _ _ _)
theorem mN:∀ l,(vk l).Perm l
 | []=>List.Perm.refl _
 | x::r=>(D1 x _).trans ((mN r).cons x)
theorem D2 (x y:T):∀ l,ins x (ins y l)=ins y (ins x l)
 | []=>by
   simp only [ins]
   by_cases h1:CC x y <;> by_cases h2:CC y x <;> simp only [h1,h2,if_true,if_false,ins]
   ·rw [D0 h1 h2]
   ·rcases Aq x y with h | h
    ·exact absurd h h1
    ·exact absurd h h2
 | z::r=>by
   simp only [ins]
   by_cases hx:CC x z <;> by_cases hy:CC y z <;> simp only [hx,hy,if_true,if_false,ins]
   ·by_cases h1:CC x y <;> by_cases h2:CC y x <;> simp only [h1,h2,hx,hy,if_true,if_false,ins]
    ·rw [D0 h1 h2]
    ·rcases Aq x y with h | h
     ·exact absurd h h1
     ·exact absurd h h2
   ·have h2:¬ CC y x:=fun h=>hy (Ar h hx)
    simp only [h2,hy,if_false,ins]
   ·have h2:¬ CC x y:=fun h=>hx (Ar h hy)
    simp only [h2,hx,if_false,ins]
   ·rw [D2 x y r]
theorem UK {l m:List T} (h:l.Perm m):vk l=vk m:=by
 induction h with
 | nil=>rfl
 | cons x _ ih=>simp only [vk,ih]
 | swap x y l=>simp only [vk];exact D2 _ _ _
 | trans _ _ h1 h2=>rw [h1,h2]
theorem HY {l m:List T}:vk l=vk m↔l.Perm m:=⟨fun h=>(mN l).symm.trans (h ▸ mN m),UK⟩
theorem Qh {x:T} {l:List T}:x∈vk l↔x∈l:=(mN l).mem_iff
mutual
def wt:T→Nat
 | .mk _ _ l=>1 + ft l
def ft:List T→Nat
 | []=>0
 | x::r=>wt x + ft r
end
theorem HZ {x:T}:∀ {l:List T},x∈l→wt x≤ft l
 | y::r,h=>by
   simp only [ft]
   rcases aak.1 h with rfl | h
   ·omega
   ·have:=HZ h;omega
theorem dt (a:T):0 < wt a:=by cases a;simp only [wt];omega
theorem ch {a x:T} (h:x∈a.l):wt x < wt a:=by
 cases a with
 | mk k n l=>have:=HZ (l:=l) h;simp only [wt];omega
structure Od where
 pl:Int→Int
 sp:Int→Int
mutual
def norm (O:Od):T→T
 | .mk k n l=>if k=2 then .mk 2 (O.pl n) (if O.sp (O.pl n)=3 then vk (D3 O l) else D3 O l) else .mk 1 n []
def D3 (O:Od):List T→List T
 | []=>[]
 | x::r=>norm O x::D3 O r
end
theorem As (O:Od):∀ l,D3 O l=l.map (norm O)
 | []=>rfl
 | x::r=>by simp [D3,As O r]
def Lx (G:T→T→Prop):List T→List T→Prop
 | [],_=>False
 | _::_,[]=>True
 | x::l,y::m=>x=y∧Lx G l m∨G x y
def side (s:Int) (l:List T):List T:=if s=2 then l.reverse else l
def Mu (G:T→T→Prop) (l m:List T):Prop:=
 (∃ x∈l,m.count x < l.count x)∧∀ y∈m,l.count y < m.count y→∃ x∈l,m.count x < l.count x∧G x y
def Fm (sp:Int→Int) (G:T→T→Prop) (a b:T):Prop:=
 a.k=2∧((∃ x∈a.l,x=b∨G x b)∨b.k=2∧(
  (b.n < a.n∧∀ y∈b.l,G a y)∨
  (b.n=a.n∧sp a.n≠3∧(∀ y∈b.l,G a y)∧Lx G (side (sp a.n) a.l) (side (sp a.n) b.l))∨
  (b.n=a.n∧sp a.n=3∧Mu G a.l b.l)))
theorem mO {s:Int} {l:List T} {x:T}:x∈side s l↔x∈l:=by unfold side;split <;> simp
theorem D4 {G G':T→T→Prop}:∀ {l m:List T},(∀ x∈l,∀ y∈m,(G x y↔G' x y))→(Lx G l m↔Lx G' l m)
 | [],_,_=>Iff.rfl
 | _::_,[],_=>Iff.rfl
 | x::l,y::m,h=>by
   simp only [Lx]
   rw [D4 (fun x hx y hy=>h x (aaA _ hx) y (aaA _ hy)),h x abD y abD]
theorem D5 {sp:Int→Int} {G G':T→T→Prop} {a b:T} (h1:∀ x∈a.l,(G x b↔G' x b)) (h2:∀ y∈b.l,(G a y↔G' a y)) (h3:∀ x∈a.l,∀ y∈b.l,(G x y↔G' x y)) :
 Fm sp G a b↔Fm sp G' a b:=by
 have e1:(∃ x∈a.l,x=b∨G x b)↔(∃ x∈a.l,x=b∨G' x b):=⟨fun ⟨x,hx,h⟩=>⟨x,hx,by rwa [← h1 x hx]⟩,fun ⟨x,hx,h⟩=>⟨x,hx,by rwa [h1 x hx]⟩⟩
 have e2:(∀ y∈b.l,G a y)↔(∀ y∈b.l,G' a y):=⟨fun h y hy=>(h2 y hy).1 (h y hy),fun h y hy=>(h2 y hy).2 (h y hy)⟩
 have e3:Lx G (side (sp a.n) a.l) (side (sp a.n) b.l)↔Lx G' (side (sp a.n) a.l) (side (sp a.n) b.l):=D4 fun x hx y hy=>h3 x (mO.1 hx) y (mO.1 hy)
 have e4:Mu G a.l b.l↔Mu G' a.l b.l:=by
  unfold Mu
  refine and_congr Iff.rfl ⟨fun h y hy hc=>?_,fun h y hy hc=>?_⟩ <;> obtain ⟨x,hx,E8,hg⟩:=h y hy hc
  ·exact ⟨x,hx,E8,(h3 x hx y hy).1 hg⟩
  ·exact ⟨x,hx,E8,(h3 x hx y hy).2 hg⟩
 unfold Fm
 rw [e1,e2,e3,e4]
def Oi (sp:Int→Int):Nat→T→T→Prop
 | 0=>fun _ _=>False
 | f + 1=>Fm sp (Oi sp f)
def Gt (sp:Int→Int) (a b:T):Prop:=Oi sp (wt a + wt b) a b
theorem ij (sp:Int→Int):∀ (f g:Nat) (a b:T),wt a + wt b≤f→wt a + wt b≤g→(Oi sp f a b↔Oi sp g a b)
 | 0,_,a,b,h,_=>by have:=dt a;omega
 | _ + 1,0,a,b,_,h=>by have:=dt a;omega
 | f + 1,g + 1,a,b,h1,h2=>by
   simp only [Oi]
   refine D5 (fun x hx=>?_) (fun y hy=>?_) (fun x hx y hy=>?_)
   ·have:=ch hx;exact ij sp f g x b (by omega) (by omega)
   ·have:=ch hy;exact ij sp f g a y (by omega) (by omega)
   ·have:=ch hx;have:=ch hy;exact ij sp f g x y (by omega) (by omega)
theorem xM {sp:Int→Int} {a b:T}:Gt sp a b↔Fm sp (Gt sp) a b:=by
 have e:Oi sp (wt a + wt b) a b↔Oi sp (wt a + wt b + 1) a b:=ij sp _ _ a b (by omega) (by omega)
 unfold Gt
 rw [e]
 show Fm sp (Oi sp (wt a + wt b)) a b↔_
 refine D5 (fun x hx=>?_) (fun y hy=>?_) (fun x hx y hy=>?_)
 ·have:=ch hx;exact ij sp _ _ x b (by omega) (by omega)
 ·have:=ch hy;exact ij sp _ _ a y (by omega) (by omega)
 ·have:=ch hx;have:=ch hy;exact ij sp _ _ x y (by omega) (by omega)
section
variable {sp:Int→Int}
theorem At {a b:T} (h:Gt sp a b):a.k=2:=(xM.1 h).1
theorem rn {a b x:T} (ha:a.k=2) (hx:x∈a.l) (h:x=b∨Gt sp x b):Gt sp a b:=xM.2 ⟨ha,.inl ⟨x,hx,h⟩⟩
theorem oz {l m:List T} {x:T} (h:m.count x < l.count x):x∈l:=abM.1 (by omega)
theorem sK {a b:T} (h:Gt sp a b):(∃ x∈a.l,x=b∨Gt sp x b)∨b.k=2∧(∀ y∈b.l,Gt sp a y)∧(
 b.n < a.n∨(b.n=a.n∧sp a.n≠3∧Lx (Gt sp) (side (sp a.n) a.l) (side (sp a.n) b.l))∨(b.n=a.n∧sp a.n=3∧Mu (Gt sp) a.l b.l)):=by
 obtain ⟨ha,h | ⟨hb,h | h | h⟩⟩:=xM.1 h
 ·exact .inl h
 ·exact .inr ⟨hb,h.2,.inl h.1⟩
 ·exact .inr ⟨hb,h.2.2.1,.inr (.inl ⟨h.1,h.2.1,h.2.2.2⟩)⟩
 ·refine .inr ⟨hb,fun y hy=>?_,.inr (.inr h)⟩
  obtain ⟨_,_,_,h2⟩:=h
  by_cases hc:a.l.count y < b.l.count y
  ·obtain ⟨x,hx,_,hg⟩:=h2 y hy hc
   exact rn ha hx (.inr hg)
  ·have:0 < b.l.count y:=abM.2 hy
   exact rn ha (abM.1 (by omega)) (.inl rfl)
theorem Zl {a b:T} (ha:a.k=2) (hb:b.k=2) (h1:∀ y∈b.l,Gt sp a y) (h2:b.n < a.n∨(b.n=a.n∧sp a.n≠3∧Lx (Gt sp) (side (sp a.n) a.l) (side (sp a.n) b.l))∨(b.n=a.n∧sp a.n=3∧Mu (Gt sp) a.l b.l)):Gt sp a b:=by
 refine xM.2 ⟨ha,.inr ⟨hb,?_⟩⟩
 rcases h2 with h | h | h
 ·exact .inl ⟨h,h1⟩
 ·exact .inr (.inl ⟨h.1,h.2.1,h1,h.2.2⟩)
 ·exact .inr (.inr h)
theorem Qi:∀ {a b y:T},Gt sp a b→b.k=2→y∈b.l→Gt sp a y:=by
 intro a
 induction h:wt a using Nat.strongRecOn generalizing a with
 | _ n ih=>
   intro b y tv hb hy
   rcases sK tv with ⟨x,hx,rfl | hg⟩ | ⟨_,h1,_⟩
   ·exact rn (At tv) hx (.inr (rn hb hy (.inl rfl)))
   ·exact rn (At tv) hx (.inr (ih _ (by have:=ch hx;omega) rfl hg hb hy))
   ·exact h1 y hy
theorem Ms {G:T→T→Prop}:∀ {l:List T},Lx G l l→∃ x∈l,G x x
 | x::l,h=>by
   rcases h with ⟨_,h⟩ | h
   ·obtain ⟨y,hy,hg⟩:=Ms h;exact ⟨y,aaA _ hy,hg⟩
   ·exact ⟨x,abD,h⟩
theorem xN:∀ a:T,¬ Gt sp a a:=by
 intro a
 induction h:wt a using Nat.strongRecOn generalizing a with
 | _ n ih=>
   intro hg
   rcases sK hg with ⟨x,hx,rfl | Qj⟩ | ⟨_,_,h1 | ⟨_,_,h1⟩ | ⟨_,_,h1⟩⟩
   ·have:=ch hx;omega
   ·exact ih (wt x) (by have:=ch hx;omega) x rfl (Qi Qj (At hg) hx)
   ·omega
   ·obtain ⟨x,hx,Qj⟩:=Ms h1
    have hx:=mO.1 hx
    exact ih (wt x) (by have:=ch hx;omega) x rfl Qj
   ·obtain ⟨⟨x,_,hx⟩,_⟩:=h1;omega
theorem Mt {G:T→T→Prop} {S:List T} (irr:∀ x∈S,¬ G x x) (tr:∀ x∈S,∀ y∈S,∀ z∈S,G x y→G y z→G x z) (P:T→Prop)
 (step:∀ z∈S,(∀ x∈S,G x z→P x)→P z):∀ z∈S,P z:=by
 classical
 intro z
 induction h:S.countP (fun w=>decide (G w z)) using Nat.strongRecOn generalizing z with
 | _ n ih=>
   intro hz
   refine step z hz fun x hx hg=>ih (S.countP fun w=>decide (G w x)) ?_ x rfl hx
   subst h
   have key:∀ (l:List T),(∀ w∈l,w∈S)→l.countP (fun w=>decide (G w x))≤l.countP (fun w=>decide (G w z))∧(x∈l→l.countP (fun w=>decide (G w x)) < l.countP (fun w=>decide (G w z))):=by
    intro l
    induction l with
    | nil=>intro _;exact ⟨zy _,fun h=>by cases h⟩
    | cons w l ihl=>
      intro hl
      obtain ⟨i1,i2⟩:=ihl fun w hw=>hl w (aaA _ hw)
      have hw:=hl w abD
      by_cases h1:G w x
      ·have h2:G w z:=tr w hw x hx z hz h1 hg
       have dP:x≠w:=fun e=>irr x hx (by rw [← e] at h1;exact h1)
       simp only [afN,h1,h2,decide_true,if_true]
       refine ⟨by omega,fun hm=>?_⟩
       rcases aak.1 hm with e | hm
       ·exact absurd e dP
       ·have:=i2 hm;omega
      ·by_cases h2:G w z
       ·simp only [afN,h1,h2,decide_true,decide_false,if_true]
        refine ⟨by simp;omega,fun _=>by simp;omega⟩
       ·have dP:x≠w:=fun e=>h2 (e ▸ hg)
        simp only [afN,h1,h2,decide_false]
        refine ⟨by simpa using i1,fun hm=>?_⟩
        rcases aak.1 hm with e | hm
        ·exact absurd e dP
        ·simpa using i2 hm
   exact (key S fun _ h=>h).2 hx
theorem Mv {G:T→T→Prop} {l m k:List T} (irr:∀ x∈l++m++k,¬ G x x) (tr:∀ x∈l++m++k,∀ y∈l++m++k,∀ z∈l++m++k,G x y→G y z→G x z)
 (h1:Mu G l m) (h2:Mu G m k):Mu G l k:=by
 have il:∀ {x},x∈l→x∈l++m++k:=fun h=>by simp [h]
 have im:∀ {x},x∈m→x∈l++m++k:=fun h=>by simp [h]
 have ik:∀ {x},x∈k→x∈l++m++k:=fun h=>by simp [h]
 have up:∀ z∈l++m++k,(l.count z < m.count z∨m.count z < k.count z)→∃ x∈l,k.count x < l.count x∧G x z:=by
  refine Mt irr tr _ fun z hz ih hc=>?_
  rcases hc with hc | hc
  ·obtain ⟨x1,vZ,NY,Ku⟩:=h1.2 z (oz hc) hc
   by_cases hk:k.count x1 < l.count x1
   ·exact ⟨x1,vZ,hk,Ku⟩
   ·obtain ⟨x,hx,nG,hg⟩:=ih x1 (il vZ) Ku (.inr (by omega))
    exact ⟨x,hx,nG,tr x (il hx) x1 (il vZ) z hz hg Ku⟩
  ·obtain ⟨x1,vZ,NY,Ku⟩:=h2.2 z (oz hc) hc
   by_cases hk:l.count x1 < m.count x1
   ·obtain ⟨x,hx,nG,hg⟩:=ih x1 (im vZ) Ku (.inl hk)
    exact ⟨x,hx,nG,tr x (il hx) x1 (im vZ) z hz hg Ku⟩
   ·exact ⟨x1,abM.1 (by omega),by omega,Ku⟩
 constructor
 ·obtain ⟨x0,KW,Kt⟩:=h1.1
  by_cases hk:k.count x0 < l.count x0
  ·exact ⟨x0,KW,hk⟩
  ·obtain ⟨x,hx,hc,_⟩:=up x0 (il KW) (.inr (by omega))
   exact ⟨x,hx,hc⟩
 ·intro y hy hc
  refine up y (ik hy) ?_
  by_cases h:l.count y < m.count y
  ·exact .inl h
  ·exact .inr (by omega)
theorem D6 {G:T→T→Prop}:∀ {l m k:List T},(∀ x∈l,∀ y∈m,∀ z∈k,G x y→G y z→G x z)→Lx G l m→Lx G m k→Lx G l k
 | [],_,_,_,h,_=>h.elim
 | _::_,[],_,_,_,h=>h.elim
 | _::_,_::_,[],_,_,_=>trivial
 | x::l,y::m,z::k,tr,h1,h2=>by
   have ih:=@D6 G l m k fun x hx y hy z hz=>tr x (aaA _ hx) y (aaA _ hy) z (aaA _ hz)
   rcases h1 with ⟨rfl,h1⟩ | h1 <;> rcases h2 with ⟨rfl,h2⟩ | h2
   ·exact .inl ⟨rfl,ih h1 h2⟩
   ·exact .inr h2
   ·exact .inr h1
   ·exact .inr (tr x abD y abD z abD h1 h2)
theorem BS:∀ (N:Nat) {a b c:T},wt a≤N→wt b≤N→wt c≤N→Gt sp a b→Gt sp b c→Gt sp a c:=by
 intro N
 induction N with
 | zero=>intro a b c h;have:=dt a;omega
 | succ N ihN=>
 intro a b c
 induction h:wt a + wt b + wt c using Nat.strongRecOn generalizing a b c with
 | _ n ih=>
   intro la lb lc tv RZ
   rcases sK tv with ⟨x,hx,rfl | hg⟩ | ⟨hb,h1,h2⟩
   ·exact rn (At tv) hx (.inr RZ)
   ·have:=ch hx
    exact rn (At tv) hx (.inr (ih (wt x + wt b + wt c) (by omega) rfl (by omega) lb lc hg RZ))
   rcases sK RZ with ⟨y,hy,rfl | hg⟩ | ⟨hc,h3,h4⟩
   ·exact h1 y hy
   ·have:=ch hy
    exact ih (wt a + wt y + wt c) (by omega) rfl la (by omega) lc (h1 y hy) hg
   have h5:∀ z∈c.l,Gt sp a z:=fun z hz=>by
    have:=ch hz
    exact ih (wt a + wt b + wt z) (by omega) rfl la lb (by omega) tv (h3 z hz)
   refine Zl (At tv) hc h5 ?_
   rcases h2 with h2 | ⟨e2,s2,h2⟩ | ⟨e2,s2,h2⟩ <;> rcases h4 with h4 | ⟨e4,s4,h4⟩ | ⟨e4,s4,h4⟩
   ·exact .inl (by omega)
   ·exact .inl (by omega)
   ·exact .inl (by omega)
   ·exact .inl (by omega)
   ·refine .inr (.inl ⟨by omega,s2,?_⟩)
    rw [e2] at h4
    refine D6 (fun x hx y hy z hz=>?_) h2 h4
    have:=ch (mO.1 hx);have:=ch (mO.1 hy);have:=ch (mO.1 hz)
    exact ihN (by omega) (by omega) (by omega)
   ·rw [e2] at s4;exact absurd s4 s2
   ·exact .inl (by omega)
   ·rw [e2] at s4;exact absurd s2 s4
   ·refine .inr (.inr ⟨by omega,s2,?_⟩)
    have small:∀ x∈a.l++b.l++c.l,wt x≤N:=by
     intro x hx
     simp only [abF] at hx
     rcases hx with (hx | hx) | hx <;> have:=ch hx <;> omega
    exact Mv (fun x _=>xN x) (fun x hx y hy z hz=>ihN (small x hx) (small y hy) (small z hz)) h2 h4
theorem gt_trans {a b c:T}:Gt sp a b→Gt sp b c→Gt sp a c:=BS (wt a + wt b + wt c) (by omega) (by omega) (by omega)
theorem Zm {l m X Y C:List T} (hl:l.Perm (X++C)) (hm:m.Perm (Y++C)) (h0:X≠[]) (h1:∀ y∈Y,∃ x∈X,Gt sp x y):Mu (Gt sp) l m:=by
 have cl:∀ z,l.count z=X.count z + C.count z:=fun z=>by rw [hl.count_eq,aeM]
 have cm:∀ z,m.count z=Y.count z + C.count z:=fun z=>by rw [hm.count_eq,aeM]
 have up:∀ z∈X++Y,z∈Y→∃ x∈X,Y.count x < X.count x∧Gt sp x z:=by
  refine Mt (G:=Gt sp) (fun x _=>xN x) (fun x _ y _ z _=>gt_trans) _ fun z hz ih hy=>?_
  obtain ⟨x1,vZ,Ku⟩:=h1 z hy
  by_cases hc:Y.count x1 < X.count x1
  ·exact ⟨x1,vZ,hc,Ku⟩
  ·have:0 < X.count x1:=abM.2 vZ
   obtain ⟨x,hx,nG,hg⟩:=ih x1 (by simp [vZ]) Ku (abM.1 (by omega))
   exact ⟨x,hx,nG,gt_trans hg Ku⟩
 have inl:∀ {x},x∈X→x∈l:=fun hx=>hl.mem_iff.2 (by simp [hx])
 constructor
 ·obtain ⟨x,hx⟩:=List.exists_mem_of_ne_nil X h0
  by_cases hc:Y.count x < X.count x
  ·exact ⟨x,inl hx,by rw [cl,cm];omega⟩
  ·have:0 < X.count x:=abM.2 hx
   obtain ⟨x',rN,E8,_⟩:=up x (by simp [hx]) (abM.1 (by omega))
   exact ⟨x',inl rN,by rw [cl,cm];omega⟩
 ·intro y hy hc
  rw [cl,cm] at hc
  have hyY:y∈Y:=abM.1 (by omega)
  obtain ⟨x,hx,E8,hg⟩:=up y (by simp [hyY]) hyY
  exact ⟨x,inl hx,by rw [cl,cm];omega,hg⟩
def Qk (X Y:List T):Prop:=∀ z,z∈X→z∉Y
theorem Mw {G:T→T→Prop} {l m X Y C:List T} (hl:l.Perm (X++C)) (hm:m.Perm (Y++C)) (hd:Qk X Y):Mu G l m↔X≠[]∧∀ y∈Y,∃ x∈X,G x y:=by
 have cl:∀ z,l.count z=X.count z + C.count z:=fun z=>by rw [hl.count_eq,aeM]
 have cm:∀ z,m.count z=Y.count z + C.count z:=fun z=>by rw [hm.count_eq,aeM]
 have inl:∀ {x},x∈X→x∈l:=fun hx=>hl.mem_iff.2 (by simp [hx])
 have inm:∀ {x},x∈Y→x∈m:=fun hx=>hm.mem_iff.2 (by simp [hx])
 have cX:∀ {z},m.count z < l.count z↔z∈X:=by
  intro z
  rw [cl,cm]
  constructor
  ·intro h;exact abM.1 (by omega)
  ·intro h
   have h1:0 < X.count z:=abM.2 h
   have h2:Y.count z=0:=List.count_eq_zero.2 (hd z h)
   omega
 have cY:∀ {z},l.count z < m.count z↔z∈Y:=by
  intro z
  rw [cl,cm]
  constructor
  ·intro h;exact abM.1 (by omega)
  ·intro h
   have h1:0 < Y.count z:=abM.2 h
   have h2:X.count z=0:=List.count_eq_zero.2 (fun hx=>hd z hx h)
   omega
 constructor
 ·rintro ⟨⟨x,_,hx⟩,h2⟩
  refine ⟨fun e=>(by have hm:=cX.1 hx;rw [e] at hm;cases hm),fun y hy=>?_⟩
  obtain ⟨x,_,hx,hg⟩:=h2 y (inm hy) (cY.2 hy)
  exact ⟨x,cX.1 hx,hg⟩
 ·rintro ⟨h1,h2⟩
  refine ⟨?_,fun y _ hy=>?_⟩
  ·obtain ⟨x,hx⟩:=List.exists_mem_of_ne_nil X h1
   exact ⟨x,inl hx,cX.2 hx⟩
  ·obtain ⟨x,hx,hg⟩:=h2 y (cY.1 hy)
   exact ⟨x,inl hx,cX.2 hx,hg⟩
theorem qJ {l m X Y C:List T} (hl:l.Perm (X++C)) (hm:m.Perm (Y++C)) (hd:Qk X Y):l.Perm m↔X=[]∧Y=[]:=by
 constructor
 ·intro h
  have hc:∀ z,X.count z=Y.count z:=fun z=>by
   have h1:=hl.count_eq z
   have h2:=hm.count_eq z
   have h3:=h.count_eq z
   rw [aeM] at h1 h2
   omega
  constructor
  ·cases hX:X with
   | nil=>rfl
   | cons x r=>
     have h1:x∈X:=by rw [hX];simp
     have h2:0 < Y.count x:=by rw [← hc];exact abM.2 h1
     exact absurd (abM.1 h2) (hd x h1)
  ·cases hY:Y with
   | nil=>rfl
   | cons x r=>
     have h1:x∈Y:=by rw [hY];simp
     have h2:0 < X.count x:=by rw [hc];exact abM.2 h1
     exact absurd h1 (hd x (abM.1 h2))
 ·rintro ⟨rfl,rfl⟩
  exact hl.trans hm.symm
theorem D7 (s:Int) (g:T→T) (l:List T):side s (l.map g)=(side s l).map g:=by unfold side;split <;> simp
theorem T.ext {a b:T} (h1:a.k=b.k) (h2:a.n=b.n) (h3:a.l=b.l):a=b:=by
 cases a;cases b;simp only [T.k,T.n,T.l] at h1 h2 h3;rw [h1,h2,h3]
end
end Go.dD
end
section
namespace Go.dD
open Go.aI
def E (O:Od) (a b:T):Prop:=norm O a=norm O b
def R (O:Od) (a b:T):Prop:=Gt O.sp (norm O a) (norm O b)
theorem kmk (k n:Int) (l:List T):(T.mk k n l).k=k:=rfl
section
variable {O:Od}
theorem pX {a:T} (h:a.k=2):(norm O a).k=2∧(norm O a).n=O.pl a.n∧(O.sp (O.pl a.n)=3→(norm O a).l=vk (a.l.map (norm O)))∧(O.sp (O.pl a.n)≠3→(norm O a).l=a.l.map (norm O)):=by
 cases a with
 | mk k n l=>
   simp only [T.k] at h
   subst h
   simp only [norm,if_true,T.k,T.n,T.l,As,true_and]
   exact ⟨fun h=>by rw [if_pos h],fun h=>by rw [if_neg h]⟩
theorem xO {a:T} (h:a.k≠2):norm O a=.mk 1 a.n []:=by
 cases a with
 | mk k n l=>simp only [kmk] at h;simp only [norm];rw [if_neg h];rfl
theorem uh {a:T}:(norm O a).k=2↔a.k=2:=by
 by_cases h:a.k=2
 ·simp [h,(pX h).1]
 ·rw [xO h,kmk];simp [h]
theorem sL {a x:T} (h:a.k=2):x∈(norm O a).l↔∃ y∈a.l,norm O y=x:=by
 obtain ⟨_,_,h1,h2⟩:=pX (O:=O) h
 by_cases hs:O.sp (O.pl a.n)=3
 ·rw [h1 hs,Qh,aaw]
 ·rw [h2 hs,aaw]
theorem Ql {G:T→T→Prop} {l m l' m':List T} (h1:l.Perm l') (h2:m.Perm m'):Mu G l m↔Mu G l' m':=by
 unfold Mu
 simp only [h1.count_eq,h2.count_eq,h1.mem_iff,h2.mem_iff]
theorem R0 {a b:T}:E O a b↔(a.k=2∧b.k=2∧O.pl a.n=O.pl b.n∧(if O.sp (O.pl a.n)=3 then (a.l.map (norm O)).Perm (b.l.map (norm O)) else a.l.map (norm O)=b.l.map (norm O)))∨(a.k≠2∧b.k≠2∧a.n=b.n):=by
 by_cases ha:a.k=2
 ·by_cases hb:b.k=2
  ·obtain ⟨ka,na,pa,qa⟩:=pX (O:=O) ha
   obtain ⟨kb,nb,pb,qb⟩:=pX (O:=O) hb
   simp only [ha,hb,true_and,ne_eq,not_true_eq_false,false_and,or_false]
   unfold E
   constructor
   ·intro h
    have hn:O.pl a.n=O.pl b.n:=by rw [← na,← nb,h]
    refine ⟨hn,?_⟩
    have hl:(norm O a).l=(norm O b).l:=by rw [h]
    split
    ·rename_i hs
     rw [pa hs,pb (by rw [← hn];exact hs)] at hl
     exact HY.1 hl
    ·rename_i hs
     rw [qa hs,qb (by rw [← hn];exact hs)] at hl
     exact hl
   ·rintro ⟨hn,hl⟩
    refine T.ext (by rw [ka,kb]) (by rw [na,nb,hn]) ?_
    split at hl
    ·rename_i hs
     rw [pa hs,pb (by rw [← hn];exact hs)]
     exact HY.2 hl
    ·rename_i hs
     rw [qa hs,qb (by rw [← hn];exact hs)]
     exact hl
  ·simp only [ha,hb,ne_eq,not_true_eq_false,false_and,and_false,or_false,iff_false]
   intro h
   have:=uh (O:=O) (a:=a)
   unfold E at h
   rw [h,uh] at this
   exact hb (this.2 ha)
 ·by_cases hb:b.k=2
  ·simp only [ha,hb,ne_eq,not_true_eq_false,false_and,and_false,or_false,iff_false]
   intro h
   have:=uh (O:=O) (a:=b)
   unfold E at h
   rw [← h,uh] at this
   exact ha (this.2 hb)
  ·simp only [ha,hb,ne_eq,not_false_eq_true,false_and,true_and,false_or]
   unfold E
   rw [xO ha,xO hb]
   simp
theorem qK {a b:T}:R O a b↔a.k=2∧((∃ x∈a.l,E O x b∨R O x b)∨b.k=2∧(
 (O.pl b.n < O.pl a.n∧∀ y∈b.l,R O a y)∨
 (O.pl b.n=O.pl a.n∧O.sp (O.pl a.n)≠3∧(∀ y∈b.l,R O a y)∧Lx (Gt O.sp) (side (O.sp (O.pl a.n)) (a.l.map (norm O))) (side (O.sp (O.pl a.n)) (b.l.map (norm O))))∨
 (O.pl b.n=O.pl a.n∧O.sp (O.pl a.n)=3∧Mu (Gt O.sp) (a.l.map (norm O)) (b.l.map (norm O))))):=by
 unfold R
 rw [xM]
 unfold Fm
 rw [uh,uh]
 refine and_congr_right fun ha=>?_
 obtain ⟨ka,na,pa,qa⟩:=pX (O:=O) ha
 refine or_congr ?_ (and_congr_right fun hb=>?_)
 ·constructor
  ·rintro ⟨x,hx,h⟩
   obtain ⟨y,hy,rfl⟩:=(sL ha).1 hx
   exact ⟨y,hy,h⟩
  ·rintro ⟨x,hx,h⟩
   exact ⟨_,(sL ha).2 ⟨x,hx,rfl⟩,h⟩
 ·obtain ⟨kb,nb,pb,qb⟩:=pX (O:=O) hb
  have e:(∀ y∈(norm O b).l,Gt O.sp (norm O a) y)↔∀ y∈b.l,Gt O.sp (norm O a) (norm O y):=by
   constructor
   ·intro h y hy;exact h _ ((sL hb).2 ⟨y,hy,rfl⟩)
   ·intro h y hy;obtain ⟨z,hz,rfl⟩:=(sL hb).1 hy;exact h z hz
  rw [e,na,nb]
  refine or_congr Iff.rfl (or_congr ?_ ?_)
  ·refine and_congr_right fun hn=>and_congr_right fun hs=>?_
   rw [qa hs,qb (by rw [hn];exact hs)]
  ·refine and_congr_right fun hn=>and_congr_right fun hs=>?_
   exact Ql (by rw [pa hs];exact mN _) (by rw [pb (by rw [hn];exact hs)];exact mN _)
theorem Mx {a b:T} (h:E O a b):¬ R O a b:=by unfold R;rw [show norm O a=norm O b from h];exact xN _
theorem BT {a b c:T} (h1:R O a b) (h2:R O b c):R O a c:=gt_trans h1 h2
theorem Zn {a b x:T} (ha:a.k=2) (hx:x∈a.l) (h:E O x b∨R O x b):R O a b:=qK.2 ⟨ha,.inl ⟨x,hx,h⟩⟩
end
inductive vO (p:Int→Prop):T→Prop
 | mk (k n:Int) (l:List T) (h1:k=2→p n) (h2:∀ x∈l,vO p x):vO p (.mk k n l)
theorem vO.op {p:Int→Prop} {a:T} (h:vO p a) (hk:a.k=2):p a.n:=by cases h with | mk k n l h1 _=>exact h1 hk
theorem vO.mem {p:Int→Prop} {a x:T} (h:vO p a) (hx:x∈a.l):vO p x:=by cases h with | mk k n l _ h2=>exact h2 x hx
end Go.dD
end
section
set_option maxRecDepth 100000
namespace Go.aI
open Go Go.Proofs Go.dD
abbrev Nd:=T×List Int
def bu:List Int→AV
 | []=>.ag
 | v::r=>.al 0 (ints (v::r))
def Gw (p:Nd):AV:=.agg [.int .i64 p.1.k,.int .i64 p.1.n,.al 0 (bN p.1.l),bu p.2]
def fw (l:List Nd):List AV:=l.map Gw
def zN:AV:=.agg [.int .i64 0,.int .i64 0,.ag,.ag]
theorem aL (l:List Int):(bu l).one=true∧(bu l).ab=bu l∧(∀ n,(bu l).bc n=true)∧(bu l).val=true∧(bu l).cells=[bu l]:=by
 cases l with
 | nil=>exact ⟨rfl,rfl,fun _=>rfl,rfl,rfl⟩
 | cons v r=>exact ⟨rfl,rfl,fun n=>by rw [bu,bA];exact aJ n _,rfl,rfl⟩
theorem Qm (p:Nd):ko 4 (Gw p):=by
 obtain ⟨t,ks⟩:=p
 cases ks with
 | nil=>exact ⟨rfl,rfl,by simp [Gw,bu,AV.cells,ee,bL,cV,ja,bA,HH],rfl⟩
 | cons v r=>exact ⟨rfl,rfl,by simp [Gw,bu,AV.cells,ee,bL,cV,ja,bA,aJ],rfl⟩
theorem BU:ko 4 (bU zN):=⟨rfl,rfl,rfl,rfl⟩
theorem k8 (l:List Nd):∀ x∈fw l,ko 4 x:=by
 intro x hx;obtain ⟨p,_,rfl⟩:=aaw.1 hx;exact Qm p
def ba:List T→Nat→List Int
 | [],_=>[]
 | x::r,n=>(n:Int)::ba r (n + wt x)
mutual
def xP:T→Nat→List Nd
 | .mk k n l,i=>(.mk k n l,ba l (i + 1))::dk l (i + 1)
def dk:List T→Nat→List Nd
 | [],_=>[]
 | x::r,i=>xP x i++dk r (i + wt x)
end
mutual
theorem sM:∀ (t:T) (i:Nat),(xP t i).length=wt t
 | .mk k n l,i=>by rw [xP,List.length_cons,je,wt];omega
theorem je:∀ (l:List T) (i:Nat),(dk l i).length=ft l
 | [],_=>rfl
 | x::r,i=>by rw [dk,aaj,sM,je,ft]
end
theorem pY (t:T) (i:Nat):xP t i=(t,ba t.l (i + 1))::dk t.l (i + 1):=by cases t;rw [xP];rfl
theorem vn (t:T):wt t=ft t.l + 1:=by cases t;rw [wt];exact af2 _ _
theorem mP:∀ (l:List T) (x:T) (i:Nat),dk (l++[x]) i=dk l i++xP x (i + ft l)
 | [],x,i=>by simp [dk,ft]
 | y::r,x,i=>by rw [List.cons_append,dk,dk,mP r x,abe,ft];congr 3;omega
theorem jS:∀ (l:List T) (x:T) (i:Nat),ba (l++[x]) i=ba l i++[((i + ft l:Nat):Int)]
 | [],x,i=>by simp [ba,ft]
 | y::r,x,i=>by rw [List.cons_append,ba,ba,jS r x,ft];simp;omega
theorem mQ {l:List T} {i:Nat} (h:i < l.length):ft (l.take (i + 1))=ft (l.take i) + wt (l.getD i default):=by
 have e:∀ (a:List T) (x:T),ft (a++[x])=ft a + wt x:=by
  intro a x;induction a with
  | nil=>simp [ft]
  | cons y r ih=>rw [List.cons_append,ft,ft,ih];omega
 rw [abN h,e]
 simp [h]
theorem cT:∀ (l:List T) (i:Nat),ft (l.take i)≤ft l
 | [],i=>by simp [ft]
 | x::r,0=>by simp [ft]
 | x::r,i + 1=>by rw [List.take_succ_cons,ft,ft];have:=cT r i;omega
theorem cJ:∀ (l:List T) (i:Nat),(ba l i).length=l.length
 | [],_=>rfl
 | x::r,i=>by rw [ba,List.length_cons,cJ,List.length_cons]
theorem fW:∀ l:List T,l.length≤ft l
 | []=>by simp
 | x::r=>by rw [List.length_cons,ft];have:=fW r;have:=dt x;omega
def nZ (t:T):AV:=.agg [.int .i64 t.k,.int .i64 t.n,.al 0 (bN t.l),.al 0 []]
theorem sN (t:T):ko 4 (nZ t):=⟨rfl,rfl,by simp [nZ,AV.cells,ee,bL,ja,bA,aw],rfl⟩
theorem bdN (t:T) (φ:AV→Prop):cr [.int .i64 0,.int .i64 0,.ag,.ag] [(0,3,t.av)] φ=φ (.agg [.int .i64 t.k,.int .i64 t.n,.al 0 (bN t.l),.ag]):=by
 cases t with
 | mk k n l=>
 simp only [cr,gb,T.av,eq_iff_iff]
 constructor
 ·rintro ⟨_,_,_,h⟩;exact h
 ·exact fun h=>⟨rfl,rfl,by decide,h⟩
theorem Zo (t:T):a9 (.agg [.int .i64 t.k,.int .i64 t.n,.al 0 (bN t.l),.ag])=nZ t:=rfl
theorem RO.aO {z:AV} {base:Nat} {v:AV} {xs:List AV} {G:List aa} (h:RO z base v xs G):aO 1 v=True:=by
 rcases h with ⟨_,rfl⟩ | ⟨id,cap,_,rfl,_⟩ <;> simp [Go.aI.aO]
theorem eZ (l:List Int):(cC l).one=true∧(cC l).ab=bu l∧(cC l).val=true∧(cC l).cells=[cC l]:=by
 cases l with
 | nil=>exact ⟨rfl,rfl,rfl,rfl⟩
 | cons v r=>exact ⟨rfl,rfl,rfl,rfl⟩
def Zp (base:Nat) (H:List aa) (xs:List AV) (r:AV) (H':List aa):Prop:=RO zN base r xs H'∧H'.take base=H.take base∧H.length≤H'.length
theorem sO (a b:List Nd):fw (a++b)=fw a++fw b:=by simp [fw]
theorem sP (a:List Nd):(fw a).length=a.length:=by simp [fw]
theorem adk:∀ (N:Nat) (t:T),wt t≤N→∀ (base:Nat) (v:AV) (xs:List AV) (H:List aa),RO zN base v xs H→(∀ x∈xs,ko 4 x)→base≤H.length→(xs.length + wt t) * 64≤140737488355328→
 aA Tryz.prog 132 [t.av,v] H (Zp base H (xs++fw (xP t xs.length))):=by
 intro N
 induction N with
 | zero=>intro t ht;have:=dt t;omega
 | succ N ih=>
 intro t ht base v xs H hR fe hbase hb
 have hw:=vn t
 have V8:=fW t.l
 refine HQ.2.calls rfl ?_
 simp only [HQ,aH]
 obtain ⟨o1,o2,o3,o4⟩:=hR.one
 simp +contextual only [o3,hR.len,hR.aO,bdN,Zo,sZ,Nat.reduceEqDiff,Nat.reduceAdd,↓reduceIte,reduceCtorEq]
 refine Mc BU hR fe 0 [nZ t] (by simp) (by simp [sN]) (by simp;omega) hbase fun v1 G1 UL UM hj1 tO=>?_
 obtain ⟨o1',o2',o3',o4'⟩:=UL.one
 simp +contextual only [sZ]
 intro _
 have gW:∀ i,(xs++nZ t::fw (dk (t.l.take i) (xs.length + 1))).length=xs.length + 1 + ft (t.l.take i):=by intro i;simp [sP,je];omega
 have kw:∀ i,∀ x∈xs++nZ t::fw (dk (t.l.take i) (xs.length + 1)),ko 4 x:=by
  intro i x hx
  rcases abF.1 hx with hx | hx
  ·exact fe x hx
  ·rcases aak.1 hx with rfl | hx
   ·exact sN t
   ·exact k8 _ x hx
 refine aF t.l.length (fun i (p:AV×List aa)=>RO zN base p.1 (xs++nZ t::fw (dk (t.l.take i) (xs.length + 1))) p.2∧p.2.take base=H.take base∧H.length≤p.2.length)
  (fun i p=>[(1,p.1),(5,.int .i64 xs.length),(6,cC (ba (t.l.take i) (xs.length + 1))),(17,.al 0 (bN t.l)),(18,.int .i64 t.l.length),(19,.int .i64 i)])
  (fun i p=>p.2) (v1,G1) ⟨⟨UL,UM,tO⟩,ax _ _ _⟩ fun i p hi hI=>?_
 obtain ⟨v,G⟩:=p
 obtain ⟨hR,hG,hl⟩:=hI
 simp only at hR hG hl
 obtain ⟨o1,o2,o3,o4⟩:=hR.one
 have hle:=cT t.l i
 have sg:=cJ (t.l.take i) (xs.length + 1)
 have Qn:(t.l.take i).length≤t.l.length:=by simp;omega
 simp +contextual only [o3,hR.len,hR.aO,gW,kq,(eZ _).2.1,dZ,sZ,Nat.reduceEqDiff,Nat.reduceAdd,↓reduceIte,reduceCtorEq]
 refine ⟨fun aM=>⟨bp aM,by omega,?_⟩,fun fV=>?_⟩
 ·have aM:=bp aM
  have hwt:=mQ aM
  have hnext:=cT t.l (i + 1)
  have e2:t.l.take (i + 1)=t.l.take i++[t.l.getD i default]:=by rw [abN aM];simp [aM]
  refine af (ih (t.l.getD i default) (by have:=ch (dM aM);omega) base v _ G hR (kw i) (by omega) (by rw [gW];omega)) ?_
  rintro r G' ⟨zj,fa,xf⟩
  obtain ⟨o1',o2',o3',o4'⟩:=zj.one
  simp +contextual only [o3',sZ,Nat.reduceEqDiff,↓reduceIte]
  refine ⟨i + 1,(r,G'),⟨aM,?_,fa.trans hG,abW hl xf⟩,by omega,ay ?_ rfl⟩
  ·rw [gW] at zj
   rw [e2,mP,sO,← List.cons_append,← abe]
   exact zj
  ·rw [e2,jS,aj i (by omega)]
 ·have lW:i=t.l.length:=by have:=bZ fV;omega
  subst lW
  rw [aby] at hR
  have vP:=gW t.l.length
  have Gx:=kw t.l.length
  rw [aby] at vP Gx
  have iJ:(xs++nZ t::fw (dk t.l (xs.length + 1))).set xs.length (Gw (t,ba t.l (xs.length + 1)))=xs++fw (xP t xs.length):=by
   rw [acF _ _ (zy _),acG,aeJ,pY];rfl
  have kM:(xs++nZ t::fw (dk t.l (xs.length + 1))).getD xs.length .any=nZ t:=by simp
  generalize xs++nZ t::fw (dk t.l (xs.length + 1))=ys at hR vP Gx iJ kM
  rcases hR with ⟨rfl,_⟩ | ⟨id,cap,bF,rfl,hg,bY,_⟩
  ·simp at vP
   omega
  have v7:=(aa2.1 hg).1
  obtain ⟨k1,k2,k3,k4,k5⟩:=aL (ba t.l (xs.length + 1))
  simp +contextual only [hg,jb,aby,sZ,Nat.reduceEqDiff,↓reduceIte,reduceCtorEq]
  refine ⟨by omega,?_⟩
  refine BK Gx (by omega) (by decide) (y:=Gw (t,ba t.l (xs.length + 1))) k1 k4 (by rw [k2];exact k3 _) (by rw [kM,k2];rfl) ?_
  simp +contextual only [sZ,Nat.reduceEqDiff,↓reduceIte,reduceCtorEq]
  rw [iJ]
  refine aT (G.length) (by omega) (by rw [aD,if_pos rfl,eL];simpa using v7) ?_
  rw [aD,if_pos rfl,aax (by simp)]
  refine ⟨.inr ⟨id,cap,bF,?_,?_,?_,?_⟩,?_,by simpa using hl⟩
  ·rw [← iJ];simp
  ·rw [Sx v7]
  ·rw [← iJ];simpa using bY
  ·rw [pY];simp [fw]
  ·rw [abz bF];exact hG
end Go.aI
end
section
set_option maxRecDepth 100000
namespace Go.aI
open Go Go.Proofs Go.dD
def pr (l:List Nd):AV:=if l=[] then .ag else .al 0 (fw l)
def dE (ps ss:List Int):AV:=.agg [.al 0 (ints ps),.al 0 (ints ss)]
def k9 (ps ss:List Int) (l:List Nd) (e g:Nat):aa:=.cells [.al 0 (ints ps),.al 0 (ints ss),pr l,.map e,.map g]
theorem bdD (ps ss:List Int) (a b:Nat) (φ:AV→Prop):cr [.ag,.ag,.ag,.nr,.nr] [(0,2,.agg [.al 0 (ints ps),.al 0 (ints ss)]),(3,1,.map a),(4,1,.map b)] φ=φ (.agg [.al 0 (ints ps),.al 0 (ints ss),.ag,.map a,.map b]):=by
 simp only [cr,gb,eq_iff_iff]
 constructor
 ·rintro ⟨_,_,_,_,_,_,_,_,_,h⟩;exact h
 ·exact fun h=>⟨rfl,rfl,by simp,rfl,rfl,by simp [ai,AV.cells],rfl,rfl,by simp [ai,AV.cells],h⟩
theorem Qo (a b:AV) (H:List aa) (φ:AV→Prop):a8 (some 2) (.ah (.agg [a,b])) H φ=φ (.agg [a,b]):=by simp [a8,AV.cells]
theorem D8 (id:Nat) (H:List aa) (K:AV→List aa→Prop):jl 3004 (.ptr id 0) H K=Bg 4 id 2 H (K (.ptr id 0)):=rfl
def R1 (H:List aa) (ps ss:List Int) (ts:List T) (r:AV) (H':List aa):Prop:=
 r=.tuple [.ptr (H.length + 2) 0,bu (ba ts 0)]∧H'=H++[.map [],.map [],k9 ps ss (dk ts 0) H.length (H.length + 1)]
theorem kH (l:List T):(fw (dk l 0)).length=ft l:=by rw [sP,je]
theorem D9 {l:List Nd} (h:fw l=[]):l=[]:=acC.1 h
theorem My {C:List aa→Nat→List aa→Prop} {n0 a b m:Nat} {env:Env} {H H':List aa} {R:AV→List aa→Prop} {x y:AV} (hm:n0≤m) (hC:C H m H') (hx:(get env a).ab=x) (hy:(get env b).ab=y) (bx:x.bc m=true) (rP:y.bc m=true)
 (hR:R (.tuple [x,y]) H'):jP C n0 [.t a,.t b] env H R:=by
 subst hx;subst hy
 exact ⟨m,H',hm,hC,_,da _,by show aw m [(get env a).ab,(get env b).ab]=true;rw [bL,bL,cV,bx,rP];rfl,hR⟩
theorem Gy {n0 m:Nat} {G:List aa} (hm:m≤G.length) (hb:∀ (j:Nat) (o:aa),n0≤j→j < m→G[j]?=some o→o=.dead∨o.bc (j + 1)=true):ox n0 G m (G.take m):=by
 refine ⟨by simp,fun j o ho=>?_⟩
 rw [aaG] at ho
 split at ho
 ·rename_i hj
  by_cases h0:n0≤j
  ·rcases hb j o h0 hj ho with h | h
   ·exact .inl h
   ·exact .inr ⟨ho,fun _=>h⟩
  ·exact .inr ⟨ho,fun h=>by omega⟩
 ·cases ho
theorem xQ (n:Nat) (l:List Nd):aw n (fw l)=true:=
 (bg _ _).2 fun x hx=>by
   obtain ⟨⟨t,ks⟩,_,rfl⟩:=aaw.1 hx
   cases ks with
   | nil=>simp [Gw,bu,AV.bc,ee,aw]
   | cons v r=>simp [Gw,bu,AV.bc,ee,aJ,aw]
theorem Au (ps ss:List Int) (l:List Nd) (n:Nat):(k9 ps ss l n (n + 1)).bc (n + 2 + 1)=true:=by
 have h:(pr l).bc (n + 2 + 1)=true:=by
  unfold pr
  split
  ·rfl
  ·rw [bA]
   exact xQ _ _
 simp only [k9,aa.bc,bL,cV,bA,aJ,h,Lm]
 simp;omega
theorem Zq (ps ss:List Int) (ts:List T) (H:List aa) (hb:ft ts * 64≤140737488355328):aA Tryz.prog 75 [dE ps ss,.al 0 (bN ts)] H (R1 H ps ss ts):=by
 refine Y8.2.xx rfl ?_
 simp only [Y8,aH,dE]
 have V8:=fW ts
 simp +contextual only [bdD,Qo,sZ,Nat.reduceEqDiff,Nat.reduceAdd,↓reduceIte,reduceCtorEq]
 refine ⟨by simp;omega,fun _=>?_⟩
 have e0:∀ (l:List aa) (x:aa),(H++x::l)[H.length]?=some x:=by simp
 refine eY ts.length (fun i (p:AV×List aa)=>RO zN (H.length + 3) p.1 (fw (dk (ts.take i) 0)) p.2∧H.length + 3≤p.2.length∧
  p.2.take (H.length + 3)=H++[.map [],.map [],.cells [.al 0 (ints ps),.al 0 (ints ss),p.1,.map H.length,.map (H.length + 1)]])
  (fun i p=>[(6,.ptr (H.length + 2) 0),(7,cC (ba (ts.take i) 0)),(15,.al 0 (bN ts)),(16,.int .i64 ts.length),(17,.int .i64 i)])
  (fun i p=>p.2) (.ag,_) ⟨⟨.inl ⟨rfl,rfl⟩,by simp,?_⟩,iD _ _ _⟩ fun i p hi hI=>?_
 ·rw [aax (by simp)]
 obtain ⟨v,G⟩:=p
 obtain ⟨hR,hl,hG⟩:=hI
 simp only at hR hl hG
 obtain ⟨o1,o2,o3,o4⟩:=hR.one
 have gget:∀ j,j < H.length + 3→G[j]?=(H++[.map [],.map [],.cells [.al 0 (ints ps),.al 0 (ints ss),v,.map H.length,.map (H.length + 1)]])[j]?:=by
  intro j hj;rw [← hG,aaG,if_pos hj]
 have g2:G[H.length + 2]?=some (.cells [.al 0 (ints ps),.al 0 (ints ss),v,.map H.length,.map (H.length + 1)]):=by rw [gget _ (by omega)];simp
 have hle:=cT ts i
 have sg:=cJ (ts.take i) 0
 have Qn:(ts.take i).length≤ts.length:=by simp;omega
 simp +contextual only [o3,g2,hR.len,hR.aO,kH,kq,(eZ _).2.1,dZ,sZ,Nat.reduceEqDiff,Nat.reduceAdd,Nat.reduceLT,↓reduceIte,reduceCtorEq]
 refine ⟨fun aM=>⟨bp aM,by omega,?_⟩,fun fV=>?_⟩
 ·have aM:=bp aM
  have hwt:=mQ aM
  have hnext:=cT ts (i + 1)
  have e2:ts.take (i + 1)=ts.take i++[ts.getD i default]:=by rw [abN aM];simp [aM]
  have hc:=adk (wt (ts.getD i default)) (ts.getD i default) (zy _) (H.length + 3) v _ G hR (k8 _) hl (by rw [kH];omega)
  refine af hc ?_
  rintro r G' ⟨zj,fa,xf⟩
  obtain ⟨o1',o2',o3',o4'⟩:=zj.one
  have g2':G'[H.length + 2]?=some (.cells [.al 0 (ints ps),.al 0 (ints ss),v,.map H.length,.map (H.length + 1)]):=by
   have:(G'.take (H.length + 3))[H.length + 2]?=(G.take (H.length + 3))[H.length + 2]?:=by rw [fa]
   rw [aaG,aaG,if_pos (by omega),if_pos (by omega)] at this
   rw [this,g2]
  have ew:=zj.bc (zy _)
  simp +contextual only [km,o1',o2',o3',o4',g2',ew,sZ,Nat.reduceEqDiff,Nat.reduceAdd,Nat.reduceLeDiff,↓reduceIte]
  refine ⟨by omega,i + 1,(r,_),⟨aM,?_,by simp;omega,?_⟩,by omega,nV ?_ rfl⟩
  ·have h1:=zj.set (j:=H.length + 2) (by omega) (.cells (ai [.al 0 (ints ps),.al 0 (ints ss),v,.map H.length,.map (H.length + 1)] 2 [r]))
   rw [kH] at h1
   rw [e2,mP,sO,abK]
   exact h1
  ·rw [afU,fa,hG]
   simp [ai]
  ·rw [e2,jS,aj i (by omega),abK]
 ·have lW:i=ts.length:=by have:=bZ fV;omega
  subst lW
  rw [aby] at hR
  have fin:∀ (G':List aa),G'.length=G.length→G'.take (H.length + 3)=H++[.map [],.map [],k9 ps ss (dk ts 0) H.length (H.length + 1)]→jP (ox H.length) H.length [.t 4,.t 5] [(4,.ptr (H.length + 2) 0),(5,bu (ba ts 0))] G' (R1 H ps ss ts):=by
   intro G' xf fa
   refine My (m:=H.length + 3) (by omega) (Gy (by omega) fun j o h1 h2 ho=>.inr ?_) (x:=.ptr (H.length + 2) 0) (y:=bu (ba ts 0)) rfl ?_ ?_ ((aL _).2.2.1 _) ⟨rfl,fa⟩
   ·have h3:(G'.take (H.length + 3))[j]?=some o:=by rw [aaG,if_pos h2];exact ho
    rw [fa,abx h1] at h3
    have:j=H.length∨j=H.length + 1∨j=H.length + 2:=by omega
    rcases this with rfl | rfl | rfl
    ·simp at h3;subst h3;rfl
    ·simp at h3;subst h3;rfl
    ·simp at h3;subst h3;exact Au ps ss _ _
   ·have h2:=(aL (ba ts 0)).2.1
    simp [aD,h2]
   ·rw [ra];simp
  rw [D8]
  unfold Bg
  rw [g2]
  rcases hR with ⟨e1,rfl⟩ | ⟨id,cap,bF,rfl,hg,bY,dP⟩
  ·simp +contextual only [List.getElem?_cons_succ,List.getElem?_cons_zero,aby,(eZ _).2.1,(aL _).2.1,sZ,Nat.reduceEqDiff,↓reduceIte,reduceCtorEq]
   refine fin G rfl ?_
   rw [hG,k9,pr,if_pos (D9 e1)]
  ·simp +contextual only [List.getElem?_cons_succ,List.getElem?_cons_zero,aby,(eZ _).2.1,(aL _).2.1,sZ,Nat.reduceEqDiff,↓reduceIte,reduceCtorEq]
   refine xD (by decide) BU (k8 _) (fun x hx=>?_) hg bY ⟨?_,?_,?_⟩
   ·obtain ⟨q,_,rfl⟩:=aaw.1 hx;rfl
   ·rw [zA (by omega)];exact g2
   ·rw [bA];exact xQ _ _
   ·refine fin _ (by simp) ?_
    rw [afU,afU,hG]
    have e1:∀ X:List aa,X.length≤id→X.set id .dead=X:=fun X h=>List.set_eq_of_length_le h
    rw [e1 _ (by simp;omega),k9,pr,if_neg (fun e=>dP (by rw [e];rfl))]
    simp
end Go.aI
end
section
set_option maxRecDepth 100000
namespace Go.aI
open Go Go.Proofs Go.dD
def zI:AV:=.int .i64 0
theorem BV:ko 1 (bU zI):=⟨rfl,rfl,rfl,rfl⟩
theorem pv (l:List Int):∀ x∈ints l,ko 1 x:=by
 intro x hx;obtain ⟨n,_,rfl⟩:=aaw.1 hx;exact ⟨rfl,rfl,rfl,rfl⟩
theorem kI:∀ l:List Int,flat (ints l)=ints l
 | []=>rfl
 | x::r=>by
   have:=kI r
   show AV.cells (.int .i64 x)++flat (ints r)=_
   rw [this];rfl
theorem Qp {l:List Int} (h:l≠[]):ints l≠[]:=by cases l with | nil=>exact absurd rfl h | cons v r=>simp [ints]
theorem Mz (o:Nat) (v:Int) (r:List Int) (φ:AV→Prop):dR 0 false (.al o (ints (v::r))) φ=φ (.bool false):=by simp [dR,isNil,ints]
theorem MA (φ:AV→Prop):dR 0 false .ag φ=φ (.bool true):=by simp [dR,isNil]
theorem H5 {esz bytes:Nat} {z:AV} (hz:ko esz (bU z)) {id o:Nat} {G:List aa} (bF:G[id]?=some (.cells [])) (ys:List AV) (hy:ys≠[]) (tu:∀ x∈ys,ko esz x) (hb:ys.length * bytes≤140737488355328) {base:Nat} (hG:base≤G.length) {K:AV→List aa→Prop}
 (hK:∀ v' G',RO z base v' ys G'→G'.take base=G.take base→G.length≤G'.length→K v' G'):b9 esz bytes z (.aZ id 0 0 0) (.al o ys) G K:=by
 obtain ⟨f1,f2,f3,f4⟩:=ko.flat tu
 have mg:∀ n m,aw n (cz z m)=true:=fun n m=>(ko.flat (kY hz m)).2.2.1 n
 have hl:0 < ys.length:=agk.2 hy
 unfold b9
 simp only [dK,bF]
 refine ⟨fun y h=>⟨(tu y h).len,(tu y h).one⟩,by simpa using hb,zy _,by simp,fun h=>absurd h (by omega),fun _ cap hc _=>⟨?_,?_⟩⟩
 ·simp only [afe,List.drop_zero,List.take_nil,List.map_nil,List.nil_append,f2,bw];exact ⟨f3 _,mg _ _⟩
 ·simp only [afe,List.drop_zero,List.take_nil,List.map_nil,List.nil_append,f2,abK]
  refine hK _ _ (.inr ⟨G.length,cap,hG,rfl,?_,by omega,hy⟩) ?_ (by simp)
  ·simp [aX]
  ·rw [abd hG]
theorem Zr (l:List Int) (H:List aa) (hb:l.length * 8≤140737488355328):aA Tryz.prog 118 [bu l] H fun r H'=>RO zI H.length r (ints l) H'∧H'.take H.length=H∧H.length≤H'.length:=by
 refine RQ.2.calls rfl ?_
 simp only [RQ,aH]
 cases l with
 | nil=>
   simp +contextual only [bu,MA,sZ,Nat.reduceAdd,↓reduceIte,reduceCtorEq]
   exact aT H.length (zy _) (by rw [aD,if_pos rfl];rfl) ⟨.inl ⟨rfl,by rw [aD,if_pos rfl]⟩,by simp,by simp⟩
 | cons v r=>
   simp +contextual only [bu,Mz,v9,qC,sZ,Nat.reduceEqDiff,Nat.reduceAdd,↓reduceIte,reduceCtorEq]
   refine ⟨rfl,H5 BV (by simp [flat]) (ints (v::r)) (Qp (by simp)) (pv _) (by rw [ap];exact hb) (base:=H.length) (by simp) fun v' G' hR hG hl=>?_⟩
   obtain ⟨o1,o2,o3,o4⟩:=hR.one
   simp +contextual only [o3,sZ,↓reduceIte,reduceCtorEq]
   have xf:H.length≤G'.length:=by simp at hl;omega
   refine aT G'.length xf (by rw [aD,if_pos rfl];exact hR.bc (zy _)) ?_
   rw [aD,if_pos rfl,aby]
   exact ⟨hR,by rw [hG];simp,xf⟩
theorem BW (l:List Int) (cap:Nat):aX zI (ints l) cap=.cells (ints l++cz zI (cap - l.length)):=by rw [aX,kI,ap]
theorem H6 {l:List Int} {cap i:Nat} (h:i < l.length) (φ:AV→Prop):cS (some (aX zI (ints l) cap)) none (i * 1) φ=φ (.int .i64 (l.getD i 0)):=by
 have e:(ints l++cz zI (cap - l.length)).getD (i * 1) .any=.int .i64 (l.getD i 0):=by
  rw [abP,th,zz (by rw [ap];exact h)]
  simp [ints,h]
 have hl:=ap l
 simp only [BW,cS,e,pj,eq_iff_iff,aaj,hl]
 constructor
 ·exact fun h=>h.2
 ·exact fun h2=>⟨by omega,h2⟩
theorem MB {l:List Int} {cap i:Nat} (h:i < l.length) (n:Int) (id:Nat) (H:List aa) (K:List aa→Prop) (hK:K (H.set id (aX zI (ints (l.set i n)) cap))):hZ (some (aX zI (ints l) cap)) 1 id (i * 1) (.int .i64 n) H K:=by
 have e:ints (l.set i n)=(ints l).set i (.int .i64 n):=by simp [ints,ad6]
 rw [e] at hK
 refine BK (esz:=1) (c:=0) (pv l) (by rw [ap];exact h) (by decide) (v:=.int .i64 n) (y:=.int .i64 n) rfl rfl rfl ?_ hK
 simp [ints,h,AV.cells,AV.ab]
structure Tu (l:List Int) (i:Nat) (m:List Int):Prop where
 len:m.length=l.length
 get:∀ j,j < l.length→m.getD j 0=if j < i∨l.length - 1 - j < i then l.getD (l.length - 1 - j) 0 else l.getD j 0
theorem Av {l m:List Int} (h:m.length=l.length) (hg:∀ j,j < l.length→m.getD j 0=l.getD j 0):m=l:=by
 apply aes h
 intro j h1 h2
 have:=hg j h2
 simpa [h1,h2] using this
theorem Tu.done {l m:List Int} {i:Nat} (h:Tu l i m) (hi:l.length≤2 * i + 1):m=l.reverse:=by
 refine Av (by simp [h.len]) fun j hj=>?_
 simp at hj
 rw [h.get j hj]
 have e:l.reverse.getD j 0=l.getD (l.length - 1 - j) 0:=by
  have h1:l.length - 1 - j < l.length:=by omega
  simp [List.getElem?_reverse hj]
 rw [e]
 split
 ·rfl
 ·rename_i hc
  have:l.length - 1 - j=j:=by omega
  rw [this]
theorem mR {l:List Int} {i j:Nat} {x:Int} (hi:i < l.length):(l.set i x).getD j 0=if j=i then x else l.getD j 0:=by
 simp only [th,ab4]
 by_cases h:i=j
 ·subst h;simp [hi]
 ·rw [if_neg h,if_neg (fun e=>h e.symm)]
theorem Tu.step {l m:List Int} {i k:Nat} (h:Tu l i m) (hk:l.length=i + k + 1) (aM:i < k):Tu l (i + 1) ((m.set i (m.getD k 0)).set k (m.getD i 0)):=by
 refine ⟨by simp [h.len],fun j hj=>?_⟩
 have hl:=h.len
 rw [mR (by simp;omega),mR (by omega)]
 by_cases h1:j=k
 ·subst h1
  rw [if_pos rfl,h.get i (by omega),if_neg (by omega),if_pos (by omega)]
  congr 1;omega
 ·rw [if_neg h1]
  by_cases h2:j=i
  ·subst h2
   rw [if_pos rfl,h.get k (by omega),if_neg (by omega),if_pos (by omega)]
   congr 1;omega
  ·rw [if_neg h2,h.get j hj]
   by_cases h3:j < i∨l.length - 1 - j < i
   ·rw [if_pos h3,if_pos (by omega)]
   ·rw [if_neg h3,if_neg (by omega)]
theorem Gz {H:List aa} {id:Nat} {o:aa} (h:H[id]?=some o):H.set id o=H:=by
 apply abT
 intro j
 rw [ab4]
 split
 ·rename_i e;subst e
  have:=(aa2.1 h).1
  rw [if_pos this,h]
 ·rfl
theorem Zs (l:List Int) (base:Nat) (v:AV) (H:List aa) (hR:RO zI base v (ints l) H) (hb:l.length * 8≤140737488355328):aA Tryz.prog 199 [v] H fun r H'=>r=.tuple []∧RO zI base v (ints l.reverse) H'∧H'.take base=H.take base∧H'.length=H.length:=by
 refine RU.2.calls rfl ?_
 simp only [RU,aH]
 obtain ⟨o1,o2,o3,o4⟩:=hR.one
 simp +contextual only [o3,hR.len,hR.aO,ap,sZ,Nat.reduceEqDiff,Nat.reduceAdd,↓reduceIte,reduceCtorEq]
 rcases hR with ⟨e,rfl⟩ | ⟨id,cap,bF,rfl,hg,bY,dP⟩
 ·have e:l=[]:=acC.1 e
  subst e
  refine aq 0 (fun _=>True) (fun _=>[(0,.ag),(2,.int .i64 0),(3,.int .i64 (-1))]) (fun _=>H) ⟨trivial,ay (by rfl) rfl⟩ fun i hi _=>?_
  simp +contextual only [sZ,Nat.reduceEqDiff,↓reduceIte,reduceCtorEq,Int.reduceLT]
  exact ⟨H.length,zy _,[],trivial,rfl,rfl,.inl ⟨rfl,rfl⟩,by simp,by simp⟩
 ·rw [ap] at bY ⊢
  have e1:IntKind.i64.wrap ((l.length:Int) - 1)=(l.length:Int) - 1 - (0:Nat):=by rw [cp _ (by omega)];omega
  rw [e1]
  refine aF l.length (fun i m=>Tu l i m) (fun i m=>[(0,.aZ id 0 l.length cap),(2,.int .i64 i),(3,.int .i64 ((l.length:Int) - 1 - i))]) (fun i m=>H.set id (aX zI (ints m) cap)) l ⟨⟨rfl,fun j hj=>by simp⟩,ay rfl ?_⟩ fun i m hi hI=>?_
  ·exact (Gz hg).symm
  have v7:=(aa2.1 hg).1
  have hm:=hI.len
  simp +contextual only [sZ,Nat.reduceEqDiff,↓reduceIte,reduceCtorEq]
  refine ⟨fun aM=>?_,fun fV=>?_⟩
  ·obtain ⟨k,hk⟩:∃ k,l.length=i + k + 1:=⟨l.length - i - 1,by omega⟩
   have e2:(l.length:Int) - 1 - i=(k:Nat):=by omega
   rw [e2] at aM ⊢
   have MC:k < m.length:=by omega
   have hi1:i < m.length:=by omega
   simp +contextual only [jb,Sx v7,H6 MC,H6 hi1,sZ,Nat.reduceEqDiff,↓reduceIte,reduceCtorEq]
   refine ⟨by omega,by omega,by omega,MB hi1 _ _ _ _ ?_⟩
   have uY:k < (m.set i (m.getD k 0)).length:=by simp;omega
   simp +contextual only [jb,Sx v7,afl,sZ,Nat.reduceEqDiff,↓reduceIte,reduceCtorEq]
   refine ⟨by omega,MB uY _ _ _ _ ?_⟩
   simp +contextual only [afl,sZ,Nat.reduceEqDiff,↓reduceIte,reduceCtorEq]
   have hw:IntKind.i64.wrap ((k:Int) - 1)=(l.length:Int) - 1 - ((i + 1:Nat):Int):=by rw [cp _ (by omega)];omega
   exact ⟨i + 1,_,⟨by omega,hI.step hk (by omega)⟩,by omega,ay (by rw [hw,aj i (by omega)]) rfl⟩
  ·have hd:=hI.done (by omega)
   subst hd
   refine ⟨H.length,zy _,[],trivial,rfl,rfl,.inr ⟨id,cap,bF,by simp [ap],?_,by simpa [ap] using bY,?_⟩,?_,by simp⟩
   ·rw [aax (by simp),Sx v7]
   ·intro e;apply dP;have:=acC.1 e;simp at this;rw [this];rfl
   ·rw [aax (l:=H.set _ _) (by simp),abz bF]
def bt (s:Int) (l:List Int):List Int:=if s=2 then l.reverse else l
theorem BX {id cap:Nat} {l:List Int} {H:List aa} (h:H[id]?=some (aX zI (ints l) cap)) (hl:l.length≤cap) {K:AV→List aa→Prop} (hK:K (.al 0 (ints l)) (H.set id .dead)):eK 1 (.aZ id 0 l.length cap) H K:=by
 have hc:∀ (l:List Int) (r:List AV),chunks 1 l.length (ints l++r)=ints l:=by
  intro l r
  induction l with
  | nil=>rfl
  | cons x q ih=>exact congrArg (AV.int .i64 x::·) ih
 have ho:(ints l++cz zI (cap - l.length)).all AV.one=true:=by
  rw [List.all_append,show (cz zI (cap - l.length)).all AV.one=true from (ko.flat (kY BV _)).2.2.2,acr]
  have:=(ko.flat (pv l)).2.2.2
  rwa [kI] at this
 rw [BW] at h
 simp only [eK,h,List.drop_zero,hc,ho]
 exact ⟨by omega,hl,by simp [ap],trivial,hK⟩
theorem J4 (l:List Int) (s:Int) (hb:l.length * 8≤140737488355328):Pure Tryz.prog 149 [bu l,.int .i64 s] (.al 0 (ints (bt s l))):=by
 refine fun H=>RS.2.calls rfl ?_
 simp only [RS,aH]
 obtain ⟨k1,k2,k3,k4,k5⟩:=aL l
 simp +contextual only [k2,sZ,Nat.reduceEqDiff,Nat.reduceAdd,↓reduceIte,reduceCtorEq]
 refine af (Zr l H hb) ?_
 rintro v G ⟨hR,hG,hl⟩
 obtain ⟨o1,o2,o3,o4⟩:=hR.one
 have fin:∀ (m:List Int) (G':List aa) (K:AV→List aa→Prop),RO zI H.length v (ints m) G'→G'.take H.length=H→(∀ x G'',(m=[]∧x=.ag∨x=.al 0 (ints m))→x.ab=x→G''.take H.length=H→K x G'')→jl 1 v G' K:=by
  intro m G' K zj fa hK
  rcases zj with ⟨e,rfl⟩ | ⟨id,cap,bF,rfl,hg,bY,dP⟩
  ·exact hK _ _ (.inl ⟨acC.1 e,rfl⟩) rfl fa
  ·rw [ap] at bY ⊢
   exact BX hg bY (hK _ _ (.inr rfl) rfl (by rw [abz bF];exact fa))
 have fin2:∀ (m:List Int) (x:AV) (G':List aa),bt s l=m→(m=[]∧x=.ag∨x=.al 0 (ints m))→G'.take H.length=H→bP H.length [.t 4] [(4,x)] G' fun r H'=>r=.al 0 (ints (bt s l))∧H'=H:=by
  intro m x G' hm hx fa
  rw [hm]
  rcases hx with ⟨rfl,rfl⟩ | rfl
  ·exact ⟨H.length,zy _,.al 0 [],.inr (.inr (.inr (.inl ⟨rfl,0,rfl⟩))),rfl,rfl,fa⟩
  ·exact ⟨H.length,zy _,_,le_refl _,by show AV.bc _ (.al 0 (ints m))=true;rw [bA];exact aJ _ _,rfl,fa⟩
 simp +contextual only [o3,sZ,Nat.reduceEqDiff,Nat.reduceAdd,↓reduceIte,reduceCtorEq]
 refine ⟨fun hs=>?_,fun hs=>?_⟩
 ·refine af (Zs l H.length v G hR hb) ?_
  rintro r G' ⟨rfl,zj,fa,_⟩
  simp +contextual only [sZ,↓reduceIte,reduceCtorEq]
  refine fin l.reverse G' _ zj (by rw [fa,hG]) fun x G'' hx hu UN=>?_
  simp +contextual only [hu,sZ,↓reduceIte,reduceCtorEq]
  exact fin2 l.reverse x G'' (by rw [bt,if_pos hs]) hx UN
 ·refine fin l G _ hR hG fun x G'' hx hu UN=>?_
  simp +contextual only [hu,sZ,↓reduceIte,reduceCtorEq]
  exact fin2 l x G'' (by rw [bt,if_neg hs]) hx UN
end Go.aI
end
