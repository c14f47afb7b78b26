/- Part 9 of 15 of the proof. -/
import Derived.Test.YtljchnfgjdjobaaGreatVah
set_option linter.unusedVariables false
set_option linter.unusedSimpArgs false
set_option linter.defProp false
set_option linter.unusedSectionVars false
section
namespace Go.fN
open Go.aL
def E (O:Od) (a b:T):Prop:=norm O a=norm O b
def R (O:Od) (a b:T):Prop:=Gt O.sp (norm O a) (norm O b)
theorem kmk (k n:Int) (l:List T):(T.mk k n l).k=k:=rfl
theorem nmk (k n:Int) (l:List T):(T.mk k n l).n=n:=rfl
theorem lmk (k n:Int) (l:List T):(T.mk k n l).l=l:=rfl
section
variable {O:Od}
theorem iQ {a:T} (h:a.k=2):(norm O a).k=2∧(norm O a).n=O.pl a.n∧(O.sp (O.pl a.n)=3→(norm O a).l=xJ (a.l.map (norm O)))∧(O.sp (O.pl a.n)≠3→(norm O a).l=a.l.map (norm O)):=by
 cases a with
 | mk k n l=>
   simp only [T.k] at h
   subst h
   simp only [norm,if_true,T.k,T.n,T.l,zG,true_and]
   exact ⟨fun h=>by rw [if_pos h],fun h=>by rw [if_neg h]⟩
theorem rB {a:T} (h:a.k≠2):norm O a=.mk 1 a.n []:=by
 cases a with
 | mk k n l=>simp only [kmk] at h;simp only [norm];rw [if_neg h];rfl
theorem sW {a:T}:(norm O a).k=2↔a.k=2:=by
 by_cases h:a.k=2
 ·simp [h,(iQ h).1]
 ·rw [rB h,kmk];simp [h]
theorem rC {a x:T} (h:a.k=2):x∈(norm O a).l↔∃ y∈a.l,norm O y=x:=by
 obtain ⟨_,_,h1,h2⟩:=iQ (O:=O) h
 by_cases hs:O.sp (O.pl a.n)=3
 ·rw [h1 hs,Qa,List.mem_map]
 ·rw [h2 hs,List.mem_map]
theorem Qe {G:T→T→Prop} {l m l' m':List T} (h1:l.Perm l') (h2:m.Perm m'):Mu G l m↔Mu G l' m':=by
 unfold Mu
 simp only [h1.count_eq,h2.count_eq,h1.mem_iff,h2.mem_iff]
theorem YR {a b:T}:E O a b↔(a.k=2∧b.k=2∧O.pl a.n=O.pl b.n∧(if O.sp (O.pl a.n)=3 then (a.l.map (norm O)).Perm (b.l.map (norm O)) else a.l.map (norm O)=b.l.map (norm O)))∨(a.k≠2∧b.k≠2∧a.n=b.n):=by
 by_cases ha:a.k=2
 ·by_cases hb:b.k=2
  ·obtain ⟨ka,na,pa,qa⟩:=iQ (O:=O) ha
   obtain ⟨kb,nb,pb,qb⟩:=iQ (O:=O) hb
   simp only [ha,hb,true_and,ne_eq,not_true_eq_false,false_and,or_false]
   unfold E
   constructor
   ·intro h
    have hn:O.pl a.n=O.pl b.n:=by rw [← na,← nb,h]
    refine ⟨hn,?_⟩
    have hl:(norm O a).l=(norm O b).l:=by rw [h]
    split
    ·rename_i hs
     rw [pa hs,pb (by rw [← hn];exact hs)] at hl
     exact Ho.1 hl
    ·rename_i hs
     rw [qa hs,qb (by rw [← hn];exact hs)] at hl
     exact hl
   ·rintro ⟨hn,hl⟩
    refine T.ext (by rw [ka,kb]) (by rw [na,nb,hn]) ?_
    split at hl
    ·rename_i hs
     rw [pa hs,pb (by rw [← hn];exact hs)]
     exact Ho.2 hl
    ·rename_i hs
     rw [qa hs,qb (by rw [← hn];exact hs)]
     exact hl
  ·simp only [ha,hb,ne_eq,not_true_eq_false,false_and,and_false,or_false,iff_false]
   intro h
   have:=sW (O:=O) (a:=a)
   unfold E at h
   rw [h,sW] at this
   exact hb (this.2 ha)
 ·by_cases hb:b.k=2
  ·simp only [ha,hb,ne_eq,not_true_eq_false,false_and,and_false,or_false,iff_false]
   intro h
   have:=sW (O:=O) (a:=b)
   unfold E at h
   rw [← h,sW] at this
   exact ha (this.2 hb)
  ·simp only [ha,hb,ne_eq,not_false_eq_true,false_and,true_and,false_or]
   unfold E
   rw [rB ha,rB hb]
   simp
theorem rD {a b:T}:R O a b↔a.k=2∧((∃ x∈a.l,E O x b∨R O x b)∨b.k=2∧(
 (O.pl b.n < O.pl a.n∧∀ y∈b.l,R O a y)∨
 (O.pl b.n=O.pl a.n∧O.sp (O.pl a.n)≠3∧(∀ y∈b.l,R O a y)∧Lx (Gt O.sp) (side (O.sp (O.pl a.n)) (a.l.map (norm O))) (side (O.sp (O.pl a.n)) (b.l.map (norm O))))∨
 (O.pl b.n=O.pl a.n∧O.sp (O.pl a.n)=3∧Mu (Gt O.sp) (a.l.map (norm O)) (b.l.map (norm O))))):=by
 unfold R
 rw [wX]
 unfold Fm
 rw [sW,sW]
 refine and_congr_right fun ha=>?_
 obtain ⟨ka,na,pa,qa⟩:=iQ (O:=O) ha
 refine or_congr ?_ (and_congr_right fun hb=>?_)
 ·constructor
  ·rintro ⟨x,hx,h⟩
   obtain ⟨y,hy,rfl⟩:=(rC ha).1 hx
   exact ⟨y,hy,h⟩
  ·rintro ⟨x,hx,h⟩
   exact ⟨_,(rC ha).2 ⟨x,hx,rfl⟩,h⟩
 ·obtain ⟨kb,nb,pb,qb⟩:=iQ (O:=O) hb
  have e:(∀ y∈(norm O b).l,Gt O.sp (norm O a) y)↔∀ y∈b.l,Gt O.sp (norm O a) (norm O y):=by
   constructor
   ·intro h y hy;exact h _ ((rC hb).2 ⟨y,hy,rfl⟩)
   ·intro h y hy;obtain ⟨z,hz,rfl⟩:=(rC hb).1 hy;exact h z hz
  rw [e,na,nb]
  refine or_congr Iff.rfl (or_congr ?_ ?_)
  ·refine and_congr_right fun hn=>and_congr_right fun hs=>?_
   rw [qa hs,qb (by rw [hn];exact hs)]
  ·refine and_congr_right fun hn=>and_congr_right fun hs=>?_
   exact Qe (by rw [pa hs];exact fY _) (by rw [pb (by rw [hn];exact hs)];exact fY _)
theorem RS {a b:T} (h:E O a b):¬ R O a b:=by unfold R;rw [show norm O a=norm O b from h];exact Bn _
theorem Hq {a b c:T} (h1:R O a b) (h2:R O b c):R O a c:=gt_trans h1 h2
theorem Mb {a b x:T} (ha:a.k=2) (hx:x∈a.l) (h:E O x b∨R O x b):R O a b:=rD.2 ⟨ha,.inl ⟨x,hx,h⟩⟩
def US (g:T→T) (f:Int→T):Prop:=∀ t:T,if t.k=2 then g t=.mk 2 t.n (t.l.map g) else g t=f t.n
theorem zH {g:T→T} {f:Int→T} (hg:US g f):∀ t,norm O (g t)=sb O.sp (fun n=>norm O (f n)) (norm O t):=by
 intro t
 induction h:wt t using Nat.strongRecOn generalizing t with
 | _ n ih=>
   have h1:=hg t
   split at h1
   ·rename_i hk
    rw [h1]
    have hm:(t.l.map g).map (norm O)=(t.l.map (norm O)).map (sb O.sp fun n=>norm O (f n)):=by
     rw [List.map_map,List.map_map]
     refine List.map_congr_left fun x hx=>?_
     exact ih _ (by have:=bP hx;omega) x rfl
    obtain ⟨ka,na,pa,qa⟩:=iQ (O:=O) hk
    obtain ⟨ka',na',pa',qa'⟩:=iQ (O:=O) (a:=.mk 2 t.n (t.l.map g)) rfl
    have e:norm O t=.mk 2 (O.pl t.n) (norm O t).l:=T.ext ka na rfl
    refine T.ext ?_ ?_ ?_
    ·rw [ka',(DL (sp:=O.sp) ka).1]
    ·rw [na',(DL (sp:=O.sp) ka).2.1,na];rfl
    ·rw [e]
     simp only [sb,if_true,lmk,Bp]
     simp only [nmk,lmk] at pa' qa'
     by_cases hs:O.sp (O.pl t.n)=3
     ·rw [pa' hs,if_pos hs,hm,pa hs]
      exact L3 ((fY _).symm.map _)
     ·rw [qa' hs,if_neg hs,hm,qa hs]
   ·rename_i hk
    rw [h1,rB hk]
    simp [sb]
theorem UT {g:T→T} {f:Int→T} (hg:US g f) {a b:T} (h:R O a b):R O (g a) (g b):=by
 unfold R
 rw [zH hg,zH hg]
 exact YQ _ h
theorem YT {a x y:T} {i:Nat} (ha:a.k=2) (hi:i < a.l.length) (h:R O x y):R O (.mk a.k a.n (a.l.set i x)) (.mk a.k a.n (a.l.set i y)):=by
 have e:∀ z:T,a.l.set i z=a.l.take i++z::a.l.drop (i + 1):=fun z=>List.set_eq_take_append_cons_drop.trans (by rw [if_pos hi])
 obtain ⟨k1,n1,p1,q1⟩:=iQ (O:=O) (a:=.mk a.k a.n (a.l.set i x)) ha
 obtain ⟨k2,n2,p2,q2⟩:=iQ (O:=O) (a:=.mk a.k a.n (a.l.set i y)) ha
 refine UR (p:=(a.l.take i).map (norm O)) (q:=(a.l.drop (i + 1)).map (norm O)) k1 k2 (by rw [n1,n2];rfl) h ?_
 rw [n1]
 simp only [nmk,lmk,e,List.map_append,List.map_cons] at p1 q1 p2 q2 ⊢
 split
 ·rename_i hs;rw [p1 hs,p2 hs];exact ⟨fY _,fY _⟩
 ·rename_i hs;rw [q1 hs,q2 hs];exact ⟨rfl,rfl⟩
end
inductive zJ (p:Int→Prop):T→Prop
 | mk (k n:Int) (l:List T) (h1:k=2→p n) (h2:∀ x∈l,zJ p x):zJ p (.mk k n l)
theorem zJ.op {p:Int→Prop} {a:T} (h:zJ p a) (hk:a.k=2):p a.n:=by cases h with | mk k n l h1 _=>exact h1 hk
theorem zJ.mem {p:Int→Prop} {a x:T} (h:zJ p a) (hx:x∈a.l):zJ p x:=by cases h with | mk k n l _ h2=>exact h2 x hx
end Go.fN
end
section
set_option maxRecDepth 100000
namespace Go.aL
open Go Go.Proofs Go.fN
abbrev Nd:=T×List Int
def bu:List Int→AV
 | []=>.ah
 | v::r=>.al 0 (ints (v::r))
def FX (p:Nd):AV:=.agg [.int .i64 p.1.k,.int .i64 p.1.n,.al 0 (bC p.1.l),bu p.2]
def eT (l:List Nd):List AV:=l.map FX
def zN:AV:=.agg [.int .i64 0,.int .i64 0,.ah,.ah]
theorem aH (l:List Int):(bu l).one=true∧(bu l).ab=bu l∧(∀ n,(bu l).aV n=true)∧(bu l).val=true∧(bu l).cells=[bu l]:=by
 cases l with
 | nil=>exact ⟨rfl,rfl,fun _=>rfl,rfl,rfl⟩
 | cons v r=>exact ⟨rfl,rfl,fun n=>by rw [bu,b9];exact bb n _,rfl,rfl⟩
theorem Qf (p:Nd):jr 4 (FX p):=by
 obtain ⟨t,ks⟩:=p
 cases ks with
 | nil=>exact ⟨rfl,rfl,by simp [FX,bu,AV.cells,dq,bH,cP,fM,b9,Ha],rfl⟩
 | cons v r=>exact ⟨rfl,rfl,by simp [FX,bu,AV.cells,dq,bH,cP,fM,b9,bb],rfl⟩
theorem Bq:jr 4 (bO zN):=⟨rfl,rfl,rfl,rfl⟩
theorem kq (l:List Nd):∀ x∈eT l,jr 4 x:=by
 intro x hx;obtain ⟨p,_,rfl⟩:=List.mem_map.1 hx;exact Qf p
def aU:List T→Nat→List Int
 | [],_=>[]
 | x::r,n=>(n:Int)::aU r (n + wt x)
mutual
def wZ:T→Nat→List Nd
 | .mk k n l,i=>(.mk k n l,aU l (i + 1))::da l (i + 1)
def da:List T→Nat→List Nd
 | [],_=>[]
 | x::r,i=>wZ x i++da r (i + wt x)
end
mutual
theorem rE:∀ (t:T) (i:Nat),(wZ t i).length=wt t
 | .mk k n l,i=>by rw [wZ,List.length_cons,gZ,wt];omega
theorem gZ:∀ (l:List T) (i:Nat),(da l i).length=ij l
 | [],_=>rfl
 | x::r,i=>by rw [da,List.length_append,rE,gZ,ij]
end
theorem o6 (t:T) (i:Nat):wZ t i=(t,aU t.l (i + 1))::da t.l (i + 1):=by cases t;rw [wZ];rfl
theorem DM (t:T):wt t=ij t.l + 1:=by cases t;rw [wt];exact Nat.add_comm _ _
theorem lM:∀ (l:List T) (x:T) (i:Nat),da (l++[x]) i=da l i++wZ x (i + ij l)
 | [],x,i=>by simp [da,ij]
 | y::r,x,i=>by rw [List.cons_append,da,da,lM r x,List.append_assoc,ij];congr 3;omega
theorem iX:∀ (l:List T) (x:T) (i:Nat),aU (l++[x]) i=aU l i++[((i + ij l:Nat):Int)]
 | [],x,i=>by simp [aU,ij]
 | y::r,x,i=>by rw [List.cons_append,aU,aU,iX r x,ij];simp;omega
theorem ot {l:List T} {i:Nat} (h:i < l.length):ij (l.take (i + 1))=ij (l.take i) + wt (l.getD i default):=by
 have e:∀ (a:List T) (x:T),ij (a++[x])=ij a + wt x:=by
  intro a x;induction a with
  | nil=>simp [ij]
  | cons y r ih=>rw [List.cons_append,ij,ij,ih];omega
 rw [List.take_succ_eq_append_getElem h,e]
 simp [h]
theorem dt:∀ (l:List T) (i:Nat),ij (l.take i)≤ij l
 | [],i=>by simp [ij]
 | x::r,0=>by simp [ij]
 | x::r,i + 1=>by rw [List.take_succ_cons,ij,ij];have:=dt r i;omega
theorem cI:∀ (l:List T) (i:Nat),(aU l i).length=l.length
 | [],_=>rfl
 | x::r,i=>by rw [aU,List.length_cons,cI,List.length_cons]
theorem iR:∀ l:List T,l.length≤ij l
 | []=>by simp
 | x::r=>by rw [List.length_cons,ij];have:=iR r;have:=fO x;omega
def mQ (t:T):AV:=.agg [.int .i64 t.k,.int .i64 t.n,.al 0 (bC t.l),.al 0 []]
theorem rF (t:T):jr 4 (mQ t):=⟨rfl,rfl,by simp [mQ,AV.cells,dq,bH,fM,b9,aj],rfl⟩
theorem bdN (t:T) (φ:AV→Prop):cA [.int .i64 0,.int .i64 0,.ah,.ah] [(0,3,t.av)] φ=φ (.agg [.int .i64 t.k,.int .i64 t.n,.al 0 (bC t.l),.ah]):=by
 cases t with
 | mk k n l=>
 simp only [cA,gO,T.av,eq_iff_iff]
 constructor
 ·rintro ⟨_,_,_,h⟩;exact h
 ·exact fun h=>⟨rfl,rfl,by decide,h⟩
theorem YU (t:T):aT (.agg [.int .i64 t.k,.int .i64 t.n,.al 0 (bC t.l),.ah])=mQ t:=rfl
theorem RO.aN {z:AV} {base:Nat} {v:AV} {xs:List AV} {G:List aa} (h:RO z base v xs G):aN 1 v=True:=by
 rcases h with ⟨_,rfl⟩ | ⟨id,cap,_,rfl,_⟩ <;> simp [Go.aL.aN]
theorem fo (l:List Int):(iI l).one=true∧(iI l).ab=bu l∧(iI l).val=true∧(iI l).cells=[iI l]:=by
 cases l with
 | nil=>exact ⟨rfl,rfl,rfl,rfl⟩
 | cons v r=>exact ⟨rfl,rfl,rfl,rfl⟩
def YV (base:Nat) (H:List aa) (xs:List AV) (r:AV) (H':List aa):Prop:=RO zN base r xs H'∧H'.take base=H.take base∧H.length≤H'.length
theorem rG (a b:List Nd):eT (a++b)=eT a++eT b:=by simp [eT]
theorem rH (a:List Nd):(eT a).length=a.length:=by simp [eT]
theorem ace:∀ (N:Nat) (t:T),wt t≤N→∀ (base:Nat) (v:AV) (xs:List AV) (H:List aa),RO zN base v xs H→(∀ x∈xs,jr 4 x)→base≤H.length→(xs.length + wt t) * 64≤140737488355328→
 aq Tryz.prog 132 [t.av,v] H (YV base H (xs++eT (wZ t xs.length))):=by
 intro N
 induction N with
 | zero=>intro t ht;have:=fO t;omega
 | succ N ih=>
 intro t ht base v xs H hR fP hbase hb
 have hw:=DM t
 have hlw:=iR t.l
 refine Hm.2.calls rfl ?_
 simp only [Hm,aF]
 obtain ⟨o1,o2,o3,o4⟩:=hR.one
 simp +contextual only [o3,hR.len,hR.aN,bdN,YU,sZ,Nat.reduceEqDiff,Nat.reduceAdd,↓reduceIte,reduceCtorEq]
 refine LZ Bq hR fP 0 [mQ t] (by simp) (by simp [rF]) (by simp;omega) hbase fun v1 G1 UU UW hj1 uA=>?_
 obtain ⟨o1',o2',o3',o4'⟩:=UU.one
 simp +contextual only [sZ]
 intro _
 have jh:∀ i,(xs++mQ t::eT (da (t.l.take i) (xs.length + 1))).length=xs.length + 1 + ij (t.l.take i):=by intro i;simp [rH,gZ];omega
 have jy:∀ i,∀ x∈xs++mQ t::eT (da (t.l.take i) (xs.length + 1)),jr 4 x:=by
  intro i x hx
  rcases List.mem_append.1 hx with hx | hx
  ·exact fP x hx
  ·rcases List.mem_cons.1 hx with rfl | hx
   ·exact rF t
   ·exact kq _ x hx
 refine aJ t.l.length (fun i (p:AV×List aa)=>RO zN base p.1 (xs++mQ t::eT (da (t.l.take i) (xs.length + 1))) p.2∧p.2.take base=H.take base∧H.length≤p.2.length)
  (fun i p=>[(1,p.1),(5,.int .i64 xs.length),(6,iI (aU (t.l.take i) (xs.length + 1))),(17,.al 0 (bC t.l)),(18,.int .i64 t.l.length),(19,.int .i64 i)])
  (fun i p=>p.2) (v1,G1) ⟨⟨UU,UW,uA⟩,aA _ _ _⟩ fun i p hi hI=>?_
 obtain ⟨v,G⟩:=p
 obtain ⟨hR,hG,hl⟩:=hI
 simp only at hR hG hl
 obtain ⟨o1,o2,o3,o4⟩:=hR.one
 have hle:=dt t.l i
 have GF:=cI (t.l.take i) (xs.length + 1)
 have UX:(t.l.take i).length≤t.l.length:=by simp;omega
 simp +contextual only [o3,hR.len,hR.aN,jh,sT,(fo _).2.1,jK,sZ,Nat.reduceEqDiff,Nat.reduceAdd,↓reduceIte,reduceCtorEq]
 refine ⟨fun aK=>⟨bi aK,by omega,?_⟩,fun gr=>?_⟩
 ·have aK:=bi aK
  have hwt:=ot aK
  have hnext:=dt t.l (i + 1)
  have e2:t.l.take (i + 1)=t.l.take i++[t.l.getD i default]:=by rw [List.take_succ_eq_append_getElem aK];simp [aK]
  refine af (ih (t.l.getD i default) (by have:=bP (cq aK);omega) base v _ G hR (jy i) (by omega) (by rw [jh];omega)) ?_
  rintro r G' ⟨pE,dN,vS⟩
  obtain ⟨o1',o2',o3',o4'⟩:=pE.one
  simp +contextual only [o3',sZ,Nat.reduceEqDiff,↓reduceIte]
  refine ⟨i + 1,(r,G'),⟨aK,?_,dN.trans hG,Nat.le_trans hl vS⟩,by omega,aC ?_ rfl⟩
  ·rw [jh] at pE
   rw [e2,lM,rG,← List.cons_append,← List.append_assoc]
   exact pE
  ·rw [e2,iX,au i (by omega)]
 ·have me:i=t.l.length:=by have:=cb gr;omega
  subst me
  rw [List.take_length] at hR
  have FY:=jh t.l.length
  have FZ:=jy t.l.length
  rw [List.take_length] at FY FZ
  have gI:(xs++mQ t::eT (da t.l (xs.length + 1))).set xs.length (FX (t,aU t.l (xs.length + 1)))=xs++eT (wZ t xs.length):=by
   rw [List.set_append_right _ _ (Nat.le_refl _),Nat.sub_self,List.set_cons_zero,o6];rfl
  have jQ:(xs++mQ t::eT (da t.l (xs.length + 1))).getD xs.length .any=mQ t:=by simp
  generalize xs++mQ t::eT (da t.l (xs.length + 1))=ys at hR FY FZ gI jQ
  rcases hR with ⟨rfl,_⟩ | ⟨id,cap,bp,rfl,hg,cj,_⟩
  ·simp at FY
   omega
  have uM:=(List.getElem?_eq_some_iff.1 hg).1
  obtain ⟨k1,k2,k3,k4,k5⟩:=aH (aU t.l (xs.length + 1))
  simp +contextual only [hg,lj,List.take_length,sZ,Nat.reduceEqDiff,↓reduceIte,reduceCtorEq]
  refine ⟨by omega,?_⟩
  refine Bm FZ (by omega) (by decide) (y:=FX (t,aU t.l (xs.length + 1))) k1 k4 (by rw [k2];exact k3 _) (by rw [jQ,k2];rfl) ?_
  simp +contextual only [sZ,Nat.reduceEqDiff,↓reduceIte,reduceCtorEq]
  rw [gI]
  refine aX (G.length) (by omega) (by rw [ay,if_pos rfl,gU];simpa using uM) ?_
  rw [ay,if_pos rfl,List.take_of_length_le (by simp)]
  refine ⟨.inr ⟨id,cap,bp,?_,?_,?_,?_⟩,?_,by simpa using hl⟩
  ·rw [← gI];simp
  ·rw [List.getElem?_set_self uM]
  ·rw [← gI];simpa using cj
  ·rw [o6];simp [eT]
  ·rw [List.take_set_of_le bp];exact hG
end Go.aL
end
section
set_option maxRecDepth 100000
namespace Go.aL
open Go Go.Proofs Go.fN
def ou (l:List Nd):AV:=if l=[] then .ah else .al 0 (eT l)
def eX (ps ss:List Int):AV:=.agg [.al 0 (ints ps),.al 0 (ints ss)]
def kr (ps ss:List Int) (l:List Nd) (e g:Nat):aa:=.cells [.al 0 (ints ps),.al 0 (ints ss),ou l,.map e,.map g]
theorem bdD (ps ss:List Int) (a b:Nat) (φ:AV→Prop):cA [.ah,.ah,.ah,.jd,.jd] [(0,2,.agg [.al 0 (ints ps),.al 0 (ints ss)]),(3,1,.map a),(4,1,.map b)] φ=φ (.agg [.al 0 (ints ps),.al 0 (ints ss),.ah,.map a,.map b]):=by
 simp only [cA,gO,eq_iff_iff]
 constructor
 ·rintro ⟨_,_,_,_,_,_,_,_,_,h⟩;exact h
 ·exact fun h=>⟨rfl,rfl,by simp,rfl,rfl,by simp [ag,AV.cells],rfl,rfl,by simp [ag,AV.cells],h⟩
theorem Qg (a b:AV) (H:List aa) (φ:AV→Prop):aQ (some 2) (.ai (.agg [a,b])) H φ=φ (.agg [a,b]):=by simp [aQ,AV.cells]
theorem DN (id:Nat) (H:List aa) (K:AV→List aa→Prop):fF 3004 (.ptr id 0) H K=Au 4 id 2 H (K (.ptr id 0)):=rfl
def RT (H:List aa) (ps ss:List Int) (ts:List T) (r:AV) (H':List aa):Prop:=
 r=.tuple [.ptr (H.length + 2) 0,bu (aU ts 0)]∧H'=H++[.map [],.map [],kr ps ss (da ts 0) H.length (H.length + 1)]
theorem jL (l:List T):(eT (da l 0)).length=ij l:=by rw [rH,gZ]
theorem DO {l:List Nd} (h:eT l=[]):l=[]:=List.map_eq_nil_iff.1 h
theorem Mc {C:List aa→Nat→List aa→Prop} {n0 a b m:Nat} {env:Env} {H H':List aa} {R:AV→List aa→Prop} {x y:AV} (hm:n0≤m) (hC:C H m H') (hx:(get env a).ab=x) (hy:(get env b).ab=y) (bx:x.aV m=true) (yE:y.aV m=true)
 (hR:R (.tuple [x,y]) H'):lE C n0 [.t a,.t b] env H R:=by
 subst hx;subst hy
 exact ⟨m,H',hm,hC,_,b8 _,by show aj m [(get env a).ab,(get env b).ab]=true;rw [bH,bH,cP,bx,yE];rfl,hR⟩
theorem F0 {n0 m:Nat} {G:List aa} (hm:m≤G.length) (hb:∀ (j:Nat) (o:aa),n0≤j→j < m→G[j]?=some o→o=.dead∨o.aV (j + 1)=true):kH n0 G m (G.take m):=by
 refine ⟨by simp,fun j o ho=>?_⟩
 rw [List.getElem?_take] at ho
 split at ho
 ·rename_i hj
  by_cases h0:n0≤j
  ·rcases hb j o h0 hj ho with h | h
   ·exact .inl h
   ·exact .inr ⟨ho,fun _=>h⟩
  ·exact .inr ⟨ho,fun h=>by omega⟩
 ·cases ho
theorem w8 (n:Nat) (l:List Nd):aj n (eT l)=true:=
 (a8 _ _).2 fun x hx=>by
   obtain ⟨⟨t,ks⟩,_,rfl⟩:=List.mem_map.1 hx
   cases ks with
   | nil=>simp [FX,bu,AV.aV,dq,aj]
   | cons v r=>simp [FX,bu,AV.aV,dq,bb,aj]
theorem zK (ps ss:List Int) (l:List Nd) (n:Nat):(kr ps ss l n (n + 1)).aV (n + 2 + 1)=true:=by
 have h:(ou l).aV (n + 2 + 1)=true:=by
  unfold ou
  split
  ·rfl
  ·rw [b9]
   exact w8 _ _
 simp only [kr,aa.aV,bH,cP,b9,bb,h,KI]
 simp;omega
theorem YW (ps ss:List Int) (ts:List T) (H:List aa) (hb:ij ts * 64≤140737488355328):aq Tryz.prog 75 [eX ps ss,.al 0 (bC ts)] H (RT H ps ss ts):=by
 refine YO.2.wF rfl ?_
 simp only [YO,aF,eX]
 have hlw:=iR ts
 simp +contextual only [bdD,Qg,sZ,Nat.reduceEqDiff,Nat.reduceAdd,↓reduceIte,reduceCtorEq]
 refine ⟨by simp;omega,fun _=>?_⟩
 have e0:∀ (l:List aa) (x:aa),(H++x::l)[H.length]?=some x:=by simp
 refine jF ts.length (fun i (p:AV×List aa)=>RO zN (H.length + 3) p.1 (eT (da (ts.take i) 0)) p.2∧H.length + 3≤p.2.length∧
  p.2.take (H.length + 3)=H++[.map [],.map [],.cells [.al 0 (ints ps),.al 0 (ints ss),p.1,.map H.length,.map (H.length + 1)]])
  (fun i p=>[(6,.ptr (H.length + 2) 0),(7,iI (aU (ts.take i) 0)),(15,.al 0 (bC ts)),(16,.int .i64 ts.length),(17,.int .i64 i)])
  (fun i p=>p.2) (.ah,_) ⟨⟨.inl ⟨rfl,rfl⟩,by simp,?_⟩,lI _ _ _⟩ fun i p hi hI=>?_
 ·rw [List.take_of_length_le (by simp)]
 obtain ⟨v,G⟩:=p
 obtain ⟨hR,hl,hG⟩:=hI
 simp only at hR hl hG
 obtain ⟨o1,o2,o3,o4⟩:=hR.one
 have gget:∀ j,j < H.length + 3→G[j]?=(H++[.map [],.map [],.cells [.al 0 (ints ps),.al 0 (ints ss),v,.map H.length,.map (H.length + 1)]])[j]?:=by
  intro j hj;rw [← hG,List.getElem?_take,if_pos hj]
 have g2:G[H.length + 2]?=some (.cells [.al 0 (ints ps),.al 0 (ints ss),v,.map H.length,.map (H.length + 1)]):=by rw [gget _ (by omega)];simp
 have hle:=dt ts i
 have GF:=cI (ts.take i) 0
 have UX:(ts.take i).length≤ts.length:=by simp;omega
 simp +contextual only [o3,g2,hR.len,hR.aN,jL,sT,(fo _).2.1,jK,sZ,Nat.reduceEqDiff,Nat.reduceAdd,Nat.reduceLT,↓reduceIte,reduceCtorEq]
 refine ⟨fun aK=>⟨bi aK,by omega,?_⟩,fun gr=>?_⟩
 ·have aK:=bi aK
  have hwt:=ot aK
  have hnext:=dt ts (i + 1)
  have e2:ts.take (i + 1)=ts.take i++[ts.getD i default]:=by rw [List.take_succ_eq_append_getElem aK];simp [aK]
  have hc:=ace (wt (ts.getD i default)) (ts.getD i default) (Nat.le_refl _) (H.length + 3) v _ G hR (kq _) hl (by rw [jL];omega)
  refine af hc ?_
  rintro r G' ⟨pE,dN,vS⟩
  obtain ⟨o1',o2',o3',o4'⟩:=pE.one
  have g2':G'[H.length + 2]?=some (.cells [.al 0 (ints ps),.al 0 (ints ss),v,.map H.length,.map (H.length + 1)]):=by
   have:(G'.take (H.length + 3))[H.length + 2]?=(G.take (H.length + 3))[H.length + 2]?:=by rw [dN]
   rw [List.getElem?_take,List.getElem?_take,if_pos (by omega),if_pos (by omega)] at this
   rw [this,g2]
  have dU:=pE.aV (Nat.le_refl _)
  simp +contextual only [kj,o1',o2',o3',o4',g2',dU,sZ,Nat.reduceEqDiff,Nat.reduceAdd,Nat.reduceLeDiff,↓reduceIte]
  refine ⟨by omega,i + 1,(r,_),⟨aK,?_,by simp;omega,?_⟩,by omega,rq ?_ rfl⟩
  ·have h1:=pE.set (j:=H.length + 2) (by omega) (.cells (ag [.al 0 (ints ps),.al 0 (ints ss),v,.map H.length,.map (H.length + 1)] 2 [r]))
   rw [jL] at h1
   rw [e2,lM,rG,Nat.zero_add]
   exact h1
  ·rw [List.take_set,dN,hG]
   simp [ag]
  ·rw [e2,iX,au i (by omega),Nat.zero_add]
 ·have me:i=ts.length:=by have:=cb gr;omega
  subst me
  rw [List.take_length] at hR
  have fin:∀ (G':List aa),G'.length=G.length→G'.take (H.length + 3)=H++[.map [],.map [],kr ps ss (da ts 0) H.length (H.length + 1)]→lE (kH H.length) H.length [.t 4,.t 5] [(4,.ptr (H.length + 2) 0),(5,bu (aU ts 0))] G' (RT H ps ss ts):=by
   intro G' vS dN
   refine Mc (m:=H.length + 3) (by omega) (F0 (by omega) fun j o h1 h2 ho=>.inr ?_) (x:=.ptr (H.length + 2) 0) (y:=bu (aU ts 0)) rfl ?_ ?_ ((aH _).2.2.1 _) ⟨rfl,dN⟩
   ·have h3:(G'.take (H.length + 3))[j]?=some o:=by rw [List.getElem?_take,if_pos h2];exact ho
    rw [dN,List.getElem?_append_right h1] at h3
    have:j=H.length∨j=H.length + 1∨j=H.length + 2:=by omega
    rcases this with rfl | rfl | rfl
    ·simp at h3;subst h3;rfl
    ·simp at h3;subst h3;rfl
    ·simp at h3;subst h3;exact zK ps ss _ _
   ·have h2:=(aH (aU ts 0)).2.1
    simp [ay,h2]
   ·rw [pY];simp
  rw [DN]
  unfold Au
  rw [g2]
  rcases hR with ⟨e1,rfl⟩ | ⟨id,cap,bp,rfl,hg,cj,dW⟩
  ·simp +contextual only [List.getElem?_cons_succ,List.getElem?_cons_zero,List.take_length,(fo _).2.1,(aH _).2.1,sZ,Nat.reduceEqDiff,↓reduceIte,reduceCtorEq]
   refine fin G rfl ?_
   rw [hG,kr,ou,if_pos (DO e1)]
  ·simp +contextual only [List.getElem?_cons_succ,List.getElem?_cons_zero,List.take_length,(fo _).2.1,(aH _).2.1,sZ,Nat.reduceEqDiff,↓reduceIte,reduceCtorEq]
   refine wW (by decide) Bq (kq _) (fun x hx=>?_) hg cj ⟨?_,?_,?_⟩
   ·obtain ⟨q,_,rfl⟩:=List.mem_map.1 hx;rfl
   ·rw [List.getElem?_set_ne (by omega)];exact g2
   ·rw [b9];exact w8 _ _
   ·refine fin _ (by simp) ?_
    rw [List.take_set,List.take_set,hG]
    have e1:∀ X:List aa,X.length≤id→X.set id .dead=X:=fun X h=>List.set_eq_of_length_le h
    rw [e1 _ (by simp;omega),kr,ou,if_neg (fun e=>dW (by rw [e];rfl))]
    simp
end Go.aL
end
section
set_option maxRecDepth 100000
namespace Go.aL
open Go Go.Proofs Go.fN
def zI:AV:=.int .i64 0
theorem Br:jr 1 (bO zI):=⟨rfl,rfl,rfl,rfl⟩
theorem ow (l:List Int):∀ x∈ints l,jr 1 x:=by
 intro x hx;obtain ⟨n,_,rfl⟩:=List.mem_map.1 hx;exact ⟨rfl,rfl,rfl,rfl⟩
theorem o7:∀ l:List Int,flat (ints l)=ints l
 | []=>rfl
 | x::r=>by
   have:=o7 r
   show AV.cells (.int .i64 x)++flat (ints r)=_
   rw [this];rfl
theorem Qh {l:List Int} (h:l≠[]):ints l≠[]:=by cases l with | nil=>exact absurd rfl h | cons v r=>simp [ints]
theorem Md (o:Nat) (v:Int) (r:List Int) (φ:AV→Prop):cZ 0 false (.al o (ints (v::r))) φ=φ (.bool false):=by simp [cZ,isNil,ints]
theorem Me (φ:AV→Prop):cZ 0 false .ah φ=φ (.bool true):=by simp [cZ,isNil]
theorem Hr {esz bytes:Nat} {z:AV} (hz:jr esz (bO z)) {id o:Nat} {G:List aa} (bp:G[id]?=some (.cells [])) (ys:List AV) (hy:ys≠[]) (qt:∀ x∈ys,jr esz x) (hb:ys.length * bytes≤140737488355328) {base:Nat} (hG:base≤G.length) {K:AV→List aa→Prop}
 (hK:∀ v' G',RO z base v' ys G'→G'.take base=G.take base→G.length≤G'.length→K v' G'):b7 esz bytes z (.bc id 0 0 0) (.al o ys) G K:=by
 obtain ⟨f1,f2,f3,f4⟩:=jr.flat qt
 have lh:∀ n m,aj n (dh z m)=true:=fun n m=>(jr.flat (ko hz m)).2.2.1 n
 have hl:0 < ys.length:=List.length_pos_iff.2 hy
 unfold b7
 simp only [dl,bp]
 refine ⟨fun y h=>⟨(qt y h).len,(qt y h).one⟩,by simpa using hb,Nat.le_refl _,by simp,fun h=>absurd h (by omega),fun _ cap hc _=>⟨?_,?_⟩⟩
 ·simp only [Nat.zero_mul,List.drop_zero,List.take_nil,List.map_nil,List.nil_append,f2,aY];exact ⟨f3 _,lh _ _⟩
 ·simp only [Nat.zero_mul,List.drop_zero,List.take_nil,List.map_nil,List.nil_append,f2,Nat.zero_add]
  refine hK _ _ (.inr ⟨G.length,cap,hG,rfl,?_,by omega,hy⟩) ?_ (by simp)
  ·simp [bt]
  ·rw [List.take_append_of_le_length hG]
theorem YX (l:List Int) (H:List aa) (hb:l.length * 8≤140737488355328):aq Tryz.prog 118 [bu l] H fun r H'=>RO zI H.length r (ints l) H'∧H'.take H.length=H∧H.length≤H'.length:=by
 refine RK.2.calls rfl ?_
 simp only [RK,aF]
 cases l with
 | nil=>
   simp +contextual only [bu,Me,sZ,Nat.reduceAdd,↓reduceIte,reduceCtorEq]
   exact aX H.length (Nat.le_refl _) (by rw [ay,if_pos rfl];rfl) ⟨.inl ⟨rfl,by rw [ay,if_pos rfl]⟩,by simp,by simp⟩
 | cons v r=>
   simp +contextual only [bu,Md,uY,tH,sZ,Nat.reduceEqDiff,Nat.reduceAdd,↓reduceIte,reduceCtorEq]
   refine ⟨rfl,Hr Br (by simp [flat]) (ints (v::r)) (Qh (by simp)) (ow _) (by rw [aw];exact hb) (base:=H.length) (by simp) fun v' G' hR hG hl=>?_⟩
   obtain ⟨o1,o2,o3,o4⟩:=hR.one
   simp +contextual only [o3,sZ,↓reduceIte,reduceCtorEq]
   have vS:H.length≤G'.length:=by simp at hl;omega
   refine aX G'.length vS (by rw [ay,if_pos rfl];exact hR.aV (Nat.le_refl _)) ?_
   rw [ay,if_pos rfl,List.take_length]
   exact ⟨hR,by rw [hG];simp,vS⟩
theorem Bs (l:List Int) (cap:Nat):bt zI (ints l) cap=.cells (ints l++dh zI (cap - l.length)):=by rw [bt,o7,aw]
theorem Ht {l:List Int} {cap i:Nat} (h:i < l.length) (φ:AV→Prop):dm (some (bt zI (ints l) cap)) none (i * 1) φ=φ (.int .i64 (l.getD i 0)):=by
 have e:(ints l++dh zI (cap - l.length)).getD (i * 1) .any=.int .i64 (l.getD i 0):=by
  rw [Nat.mul_one,List.getD_eq_getElem?_getD,List.getElem?_append_left (by rw [aw];exact h)]
  simp [ints,h]
 have hl:=aw l
 simp only [Bs,dm,e,oe,eq_iff_iff,List.length_append,hl]
 constructor
 ·exact fun h=>h.2
 ·exact fun h2=>⟨by omega,h2⟩
theorem Mf {l:List Int} {cap i:Nat} (h:i < l.length) (n:Int) (id:Nat) (H:List aa) (K:List aa→Prop) (hK:K (H.set id (bt zI (ints (l.set i n)) cap))):gB (some (bt zI (ints l) cap)) 1 id (i * 1) (.int .i64 n) H K:=by
 have e:ints (l.set i n)=(ints l).set i (.int .i64 n):=by simp [ints,List.map_set]
 rw [e] at hK
 refine Bm (esz:=1) (c:=0) (ow l) (by rw [aw];exact h) (by decide) (v:=.int .i64 n) (y:=.int .i64 n) rfl rfl rfl ?_ hK
 simp [ints,h,AV.cells,AV.ab]
structure Tu (l:List Int) (i:Nat) (m:List Int):Prop where
 len:m.length=l.length
 get:∀ j,j < l.length→m.getD j 0=if j < i∨l.length - 1 - j < i then l.getD (l.length - 1 - j) 0 else l.getD j 0
theorem zL {l m:List Int} (h:m.length=l.length) (hg:∀ j,j < l.length→m.getD j 0=l.getD j 0):m=l:=by
 apply List.ext_getElem h
 intro j h1 h2
 have:=hg j h2
 simpa [h1,h2] using this
theorem Tu.done {l m:List Int} {i:Nat} (h:Tu l i m) (hi:l.length≤2 * i + 1):m=l.reverse:=by
 refine zL (by simp [h.len]) fun j hj=>?_
 simp at hj
 rw [h.get j hj]
 have e:l.reverse.getD j 0=l.getD (l.length - 1 - j) 0:=by
  have h1:l.length - 1 - j < l.length:=by omega
  simp [List.getElem?_reverse hj]
 rw [e]
 split
 ·rfl
 ·rename_i hc
  have:l.length - 1 - j=j:=by omega
  rw [this]
theorem lN {l:List Int} {i j:Nat} {x:Int} (hi:i < l.length):(l.set i x).getD j 0=if j=i then x else l.getD j 0:=by
 simp only [List.getD_eq_getElem?_getD,List.getElem?_set]
 by_cases h:i=j
 ·subst h;simp [hi]
 ·rw [if_neg h,if_neg (fun e=>h e.symm)]
theorem Tu.step {l m:List Int} {i k:Nat} (h:Tu l i m) (hk:l.length=i + k + 1) (aK:i < k):Tu l (i + 1) ((m.set i (m.getD k 0)).set k (m.getD i 0)):=by
 refine ⟨by simp [h.len],fun j hj=>?_⟩
 have hl:=h.len
 rw [lN (by simp;omega),lN (by omega)]
 by_cases h1:j=k
 ·subst h1
  rw [if_pos rfl,h.get i (by omega),if_neg (by omega),if_pos (by omega)]
  congr 1;omega
 ·rw [if_neg h1]
  by_cases h2:j=i
  ·subst h2
   rw [if_pos rfl,h.get k (by omega),if_neg (by omega),if_pos (by omega)]
   congr 1;omega
  ·rw [if_neg h2,h.get j hj]
   by_cases h3:j < i∨l.length - 1 - j < i
   ·rw [if_pos h3,if_pos (by omega)]
   ·rw [if_neg h3,if_neg (by omega)]
theorem F3 {H:List aa} {id:Nat} {o:aa} (h:H[id]?=some o):H.set id o=H:=by
 apply List.ext_getElem?
 intro j
 rw [List.getElem?_set]
 split
 ·rename_i e;subst e
  have:=(List.getElem?_eq_some_iff.1 h).1
  rw [if_pos this,h]
 ·rfl
theorem YY (l:List Int) (base:Nat) (v:AV) (H:List aa) (hR:RO zI base v (ints l) H) (hb:l.length * 8≤140737488355328):aq Tryz.prog 199 [v] H fun r H'=>r=.tuple []∧RO zI base v (ints l.reverse) H'∧H'.take base=H.take base∧H'.length=H.length:=by
 refine RQ.2.calls rfl ?_
 simp only [RQ,aF]
 obtain ⟨o1,o2,o3,o4⟩:=hR.one
 simp +contextual only [o3,hR.len,hR.aN,aw,sZ,Nat.reduceEqDiff,Nat.reduceAdd,↓reduceIte,reduceCtorEq]
 rcases hR with ⟨e,rfl⟩ | ⟨id,cap,bp,rfl,hg,cj,dW⟩
 ·have e:l=[]:=List.map_eq_nil_iff.1 e
  subst e
  refine aD 0 (fun _=>True) (fun _=>[(0,.ah),(2,.int .i64 0),(3,.int .i64 (-1))]) (fun _=>H) ⟨trivial,aC (by rfl) rfl⟩ fun i hi _=>?_
  simp +contextual only [sZ,Nat.reduceEqDiff,↓reduceIte,reduceCtorEq,Int.reduceLT]
  exact ⟨H.length,Nat.le_refl _,[],trivial,rfl,rfl,.inl ⟨rfl,rfl⟩,by simp,by simp⟩
 ·rw [aw] at cj ⊢
  have e1:IntKind.i64.wrap ((l.length:Int) - 1)=(l.length:Int) - 1 - (0:Nat):=by rw [dL _ (by omega)];omega
  rw [e1]
  refine aJ l.length (fun i m=>Tu l i m) (fun i m=>[(0,.bc id 0 l.length cap),(2,.int .i64 i),(3,.int .i64 ((l.length:Int) - 1 - i))]) (fun i m=>H.set id (bt zI (ints m) cap)) l ⟨⟨rfl,fun j hj=>by simp⟩,aC rfl ?_⟩ fun i m hi hI=>?_
  ·exact (F3 hg).symm
  have uM:=(List.getElem?_eq_some_iff.1 hg).1
  have hm:=hI.len
  simp +contextual only [sZ,Nat.reduceEqDiff,↓reduceIte,reduceCtorEq]
  refine ⟨fun aK=>?_,fun gr=>?_⟩
  ·obtain ⟨k,hk⟩:∃ k,l.length=i + k + 1:=⟨l.length - i - 1,by omega⟩
   have e2:(l.length:Int) - 1 - i=(k:Nat):=by omega
   rw [e2] at aK ⊢
   have LR:k < m.length:=by omega
   have hi1:i < m.length:=by omega
   simp +contextual only [lj,List.getElem?_set_self uM,Ht LR,Ht hi1,sZ,Nat.reduceEqDiff,↓reduceIte,reduceCtorEq]
   refine ⟨by omega,by omega,by omega,Mf hi1 _ _ _ _ ?_⟩
   have JK:k < (m.set i (m.getD k 0)).length:=by simp;omega
   simp +contextual only [lj,List.getElem?_set_self uM,List.set_set,sZ,Nat.reduceEqDiff,↓reduceIte,reduceCtorEq]
   refine ⟨by omega,Mf JK _ _ _ _ ?_⟩
   simp +contextual only [List.set_set,sZ,Nat.reduceEqDiff,↓reduceIte,reduceCtorEq]
   have hw:IntKind.i64.wrap ((k:Int) - 1)=(l.length:Int) - 1 - ((i + 1:Nat):Int):=by rw [dL _ (by omega)];omega
   exact ⟨i + 1,_,⟨by omega,hI.step hk (by omega)⟩,by omega,aC (by rw [hw,au i (by omega)]) rfl⟩
  ·have hd:=hI.done (by omega)
   subst hd
   refine ⟨H.length,Nat.le_refl _,[],trivial,rfl,rfl,.inr ⟨id,cap,bp,by simp [aw],?_,by simpa [aw] using cj,?_⟩,?_,by simp⟩
   ·rw [List.take_of_length_le (by simp),List.getElem?_set_self uM]
   ·intro e;apply dW;have:=List.map_eq_nil_iff.1 e;simp at this;rw [this];rfl
   ·rw [List.take_of_length_le (l:=H.set _ _) (by simp),List.take_set_of_le bp]
def bG (s:Int) (l:List Int):List Int:=if s=2 then l.reverse else l
theorem Qi {id cap:Nat} {l:List Int} {H:List aa} (h:H[id]?=some (bt zI (ints l) cap)) (hl:l.length≤cap) {K:AV→List aa→Prop} (hK:K (.al 0 (ints l)) (H.set id .dead)):dn 1 (.bc id 0 l.length cap) H K:=by
 have hc:∀ (l:List Int) (r:List AV),chunks 1 l.length (ints l++r)=ints l:=by
  intro l r
  induction l with
  | nil=>rfl
  | cons x q ih=>exact congrArg (AV.int .i64 x::·) ih
 have ho:(ints l++dh zI (cap - l.length)).all AV.one=true:=by
  rw [List.all_append,show (dh zI (cap - l.length)).all AV.one=true from (jr.flat (ko Br _)).2.2.2,Bool.and_true]
  have:=(jr.flat (ow l)).2.2.2
  rwa [o7] at this
 rw [Bs] at h
 simp only [dn,h,List.drop_zero,hc,ho]
 exact ⟨by omega,hl,by simp [aw],trivial,hK⟩
theorem Jl (l:List Int) (s:Int) (hb:l.length * 8≤140737488355328):Pure Tryz.prog 149 [bu l,.int .i64 s] (.al 0 (ints (bG s l))):=by
 refine fun H=>RN.2.calls rfl ?_
 simp only [RN,aF]
 obtain ⟨k1,k2,k3,k4,k5⟩:=aH l
 simp +contextual only [k2,sZ,Nat.reduceEqDiff,Nat.reduceAdd,↓reduceIte,reduceCtorEq]
 refine af (YX l H hb) ?_
 rintro v G ⟨hR,hG,hl⟩
 obtain ⟨o1,o2,o3,o4⟩:=hR.one
 have fin:∀ (m:List Int) (G':List aa) (K:AV→List aa→Prop),RO zI H.length v (ints m) G'→G'.take H.length=H→(∀ x G'',(m=[]∧x=.ah∨x=.al 0 (ints m))→x.ab=x→G''.take H.length=H→K x G'')→fF 1 v G' K:=by
  intro m G' K pE dN hK
  rcases pE with ⟨e,rfl⟩ | ⟨id,cap,bp,rfl,hg,cj,dW⟩
  ·exact hK _ _ (.inl ⟨List.map_eq_nil_iff.1 e,rfl⟩) rfl dN
  ·rw [aw] at cj ⊢
   exact Qi hg cj (hK _ _ (.inr rfl) rfl (by rw [List.take_set_of_le bp];exact dN))
 have fin2:∀ (m:List Int) (x:AV) (G':List aa),bG s l=m→(m=[]∧x=.ah∨x=.al 0 (ints m))→G'.take H.length=H→bW H.length [.t 4] [(4,x)] G' fun r H'=>r=.al 0 (ints (bG s l))∧H'=H:=by
  intro m x G' hm hx dN
  rw [hm]
  rcases hx with ⟨rfl,rfl⟩ | rfl
  ·exact ⟨H.length,Nat.le_refl _,.al 0 [],.inr (.inr (.inr (.inl ⟨rfl,0,rfl⟩))),rfl,rfl,dN⟩
  ·exact ⟨H.length,Nat.le_refl _,_,le_refl _,by show AV.aV _ (.al 0 (ints m))=true;rw [b9];exact bb _ _,rfl,dN⟩
 simp +contextual only [o3,sZ,Nat.reduceEqDiff,Nat.reduceAdd,↓reduceIte,reduceCtorEq]
 refine ⟨fun hs=>?_,fun hs=>?_⟩
 ·refine af (YY l H.length v G hR hb) ?_
  rintro r G' ⟨rfl,pE,dN,_⟩
  simp +contextual only [sZ,↓reduceIte,reduceCtorEq]
  refine fin l.reverse G' _ pE (by rw [dN,hG]) fun x G'' hx hu UY=>?_
  simp +contextual only [hu,sZ,↓reduceIte,reduceCtorEq]
  exact fin2 l.reverse x G'' (by rw [bG,if_pos hs]) hx UY
 ·refine fin l G _ hR hG fun x G'' hx hu UY=>?_
  simp +contextual only [hu,sZ,↓reduceIte,reduceCtorEq]
  exact fin2 l x G'' (by rw [bG,if_neg hs]) hx UY
end Go.aL
end
section
set_option maxRecDepth 100000
namespace Go.aL
open Go Go.Proofs Go.fN
structure Cx where
 ps:List Int
 ss:List Int
 nd:List Nd
 d:Nat
 e:Nat
 g:Nat
def Cx.tm (c:Cx) (i:Int):T:=(c.nd.getD i.toNat default).1
def Cx.kd (c:Cx) (i:Int):List Int:=(c.nd.getD i.toNat default).2
def Cx.dV (c:Cx) (i:Int):Prop:=0≤i∧i < c.nd.length
def UZ (ps ss:List Int) (p:Int):Int:=ss.getD (ps.findIdx fun q=>decide (q=p)) 0
def ky (ps ss:List Int):Od:=⟨fun n=>ps.getD n.toNat 0,UZ ps ss⟩
def Cx.O (c:Cx):Od:=ky c.ps c.ss
structure Va (ps ss:List Int):Prop where
 len:ss.length=ps.length
 st:∀ i j,i < ps.length→j < ps.length→ps.getD i 0=ps.getD j 0→ss.getD i 0=ss.getD j 0
theorem Va.sp {ps ss:List Int} (h:Va ps ss) {i:Nat} (hi:i < ps.length):UZ ps ss (ps.getD i 0)=ss.getD i 0:=by
 unfold UZ
 have hx:ps.getD i 0∈ps:=by rw [List.getD_eq_getElem?_getD,List.getElem?_eq_getElem hi];exact List.getElem_mem hi
 have h1:ps.findIdx (fun q=>decide (q=ps.getD i 0)) < ps.length:=List.findIdx_lt_length_of_exists ⟨_,hx,by simp⟩
 have h2:=List.findIdx_getElem (xs:=ps) (p:=fun q=>decide (q=ps.getD i 0)) (w:=h1)
 refine h.st _ _ h1 hi ?_
 rw [List.getD_eq_getElem?_getD,List.getElem?_eq_getElem h1]
 exact of_decide_eq_true h2
structure Cx.Ok (c:Cx):Prop where
 va:Va c.ps c.ss
 nd:c.nd≠[]
 ne1:c.d≠c.e
 ne2:c.d≠c.g
 ne3:c.e≠c.g
 kl:∀ i,c.dV i→(c.kd i).length≤100000000
 kids:∀ i,c.dV i→(c.kd i).map c.tm=(c.tm i).l∧∀ k∈c.kd i,c.dV k
 op:∀ i,c.dV i→(c.tm i).k=2→0≤(c.tm i).n∧(c.tm i).n < c.ps.length
def mR (m:List ((Int×Int)×Bool)):List (AV×AV):=m.map fun p=>(.agg [.int .i64 p.1.1,.int .i64 p.1.2],.bool p.2)
def Rt (c:Cx) (P:T→T→Prop) (m:List ((Int×Int)×Bool)):Prop:=∀ p∈m,p.2=true↔P (c.tm p.1.1) (c.tm p.1.2)
structure Du (c:Cx) (H:List aa):Prop where
 d:H[c.d]?=some (.cells [.al 0 (ints c.ps),.al 0 (ints c.ss),.al 0 (eT c.nd),.map c.e,.map c.g])
 e:∃ m,H[c.e]?=some (.map (mR m))∧Rt c (E c.O) m
 g:∃ m,H[c.g]?=some (.map (mR m))∧Rt c (R c.O) m
structure Up (c:Cx) (H H':List aa):Prop where
 len:H'.length=H.length
 get:∀ j,j≠c.e→j≠c.g→H'[j]?=H[j]?
theorem Up.refl (c:Cx) (H:List aa):Up c H H:=⟨rfl,fun _ _ _=>rfl⟩
theorem Up.trans {c:Cx} {H H' H'':List aa} (h:Up c H H') (k:Up c H' H''):Up c H H'':=⟨k.len.trans h.len,fun j h1 h2=>(k.get j h1 h2).trans (h.get j h1 h2)⟩
theorem Du.lt {c:Cx} {H:List aa} (h:Du c H):c.d < H.length∧c.e < H.length∧c.g < H.length:=by
 obtain ⟨m,h1,_⟩:=h.e
 obtain ⟨m',h2,_⟩:=h.g
 exact ⟨(List.getElem?_eq_some_iff.1 h.d).1,(List.getElem?_eq_some_iff.1 h1).1,(List.getElem?_eq_some_iff.1 h2).1⟩
theorem Du.rp {c:Cx} {H:List aa} (h:Du c H) (X:List aa):Du c (H++X):=by
 obtain ⟨l1,l2,l3⟩:=h.lt
 exact ⟨by rw [List.getElem?_append_left l1];exact h.d,by rw [List.getElem?_append_left l2];exact h.e,by rw [List.getElem?_append_left l3];exact h.g⟩
theorem Du.take {c:Cx} {H:List aa} {n:Nat} (h:Du c H) (h1:c.d < n) (h2:c.e < n) (h3:c.g < n):Du c (H.take n):=by
 exact ⟨by rw [List.getElem?_take,if_pos h1];exact h.d,by rw [List.getElem?_take,if_pos h2];exact h.e,by rw [List.getElem?_take,if_pos h3];exact h.g⟩
theorem Du.set {c:Cx} {H:List aa} {j:Nat} {o:aa} (h:Du c H) (h1:j≠c.d) (h2:j≠c.e) (h3:j≠c.g):Du c (H.set j o):=by
 exact ⟨by rw [List.getElem?_set_ne h1];exact h.d,by rw [List.getElem?_set_ne h2];exact h.e,by rw [List.getElem?_set_ne h3];exact h.g⟩
theorem Up.take {c:Cx} {H X H':List aa} (h:Up c (H++X) H'):Up c H (H'.take H.length):=
 ⟨by have:=h.len;simp at this ⊢;omega,fun j h1 h2=>by
   rw [List.getElem?_take]
   split
   ·rename_i hj;rw [h.get j h1 h2,List.getElem?_append_left hj]
   ·rename_i hj;rw [List.getElem?_eq_none (by omega)]⟩
def iS (c:Cx) (Q:Prop) (H:List aa) (r:AV) (H':List aa):Prop:=∃ b:Bool,r=.bool b∧(b=true↔Q)∧Up c H H'∧Du c H'
theorem bV (l:List Int) (H:List aa) (φ:AV→Prop):aQ none (.ai (bu l)) H φ=φ (bu l):=by
 obtain ⟨k1,k2,_⟩:=aH l
 simp [aQ,k1,k2]
theorem fN0 (p:Nd) (φ:AV→Prop):ak 0 (some 3) (.ai (FX p)) φ=φ (.ai p.1.av):=by
 obtain ⟨⟨k,n,l⟩,ks⟩:=p
 simp [ak,FX,apart,AV.cells,T.av,T.k,T.n,T.l]
theorem Ev (p:Nd) (φ:AV→Prop):ak 3 none (.ai (FX p)) φ=φ (.ai (bu p.2)):=by
 obtain ⟨k1,_⟩:=aH p.2
 simp [ak,FX,apart,AV.cells,k1]
theorem mS (e o:Nat) (l:List Nd) (k:IntKind) (i:Int) (φ:AV→Prop):ax e (.al o (eT l)) (.int k i) φ=((0≤i∧i < l.length)∧φ (.ai (FX (l.getD i.toNat default)))):=by
 simp only [ax,rH,eq_iff_iff]
 constructor
 ·rintro ⟨h0,h,h2⟩;refine ⟨by omega,?_⟩;simpa [eT,h] using h2
 ·rintro ⟨⟨h0,h⟩,h2⟩;have h:i.toNat < l.length:=by omega
  refine ⟨h0,h,?_⟩;simpa [eT,h] using h2
theorem cJ (o:Nat) (l:List Nd):(∀ (own:Nat) (xs:List AV),AV.al o (eT l)=AV.al own xs→∀ z∈xs,z.cells.length=4)=True:=by
 simp only [eq_iff_iff,iff_true]
 intro own xs e z hz
 cases e
 exact (kq l z hz).len
theorem cK (e o:Nat) (l:List Int) (k:IntKind) (i:Int) (φ:AV→Prop):ax e (.al o (ints l)) (.int k i) φ=((0≤i∧i < l.length)∧φ (.ai (.int .i64 (l.getD i.toNat 0)))):=by
 simp only [ax,aw,eq_iff_iff]
 constructor
 ·rintro ⟨h0,h,h2⟩;refine ⟨by omega,?_⟩;simpa [ints,h] using h2
 ·rintro ⟨⟨h0,h⟩,h2⟩;have h:i.toNat < l.length:=by omega
  refine ⟨h0,h,?_⟩;simpa [ints,h] using h2
def qf (c:Cx) (i:Int):Int:=if (c.tm i).k=2 then c.O.pl (c.tm i).n else 0
def dG (c:Cx) (i:Int):Int:=if (c.tm i).k=2 then c.O.sp (c.O.pl (c.tm i).n) else 0
def sc (c:Cx) (i:Int):Bool:=decide ((c.tm i).k=2)
def Mg (c:Cx) (i:Int):AV:=.tuple [.int .i64 (qf c i),.int .i64 (dG c i),.bool (sc c i)]
theorem Hu (t:T) (φ:AV→Prop):ak 0 none (.ai t.av) φ=φ (.ai (.int .i64 t.k)):=by cases t;simp [ak,T.av,apart,AV.cells,AV.one,T.k]
theorem zM {Hs G:List aa} {n0 a b c:Nat} {u v w x y z:AV} {R:AV→List aa→Prop} (xK:b≠a∧c≠a∧c≠b) (hH:Hs.take n0=G) (hb:x.aV n0=true∧y.aV n0=true∧z.aV n0=true)
 (hx:u.ab=x) (hy:v.ab=y) (hz:w.ab=z) (hR:R (.tuple [x,y,z]) G):bW n0 [.t a,.t b,.t c] [(a,u),(b,v),(c,w)] Hs R:=by
 subst hH;subst hx;subst hy;subst hz
 refine ⟨n0,Nat.le_refl _,[u.ab,v.ab,w.ab],?_,by simp only [aj,hb.1,hb.2.1,hb.2.2,Bool.and_self],hR⟩
 simp only [ay,if_neg xK.1,if_neg xK.2.1,if_neg xK.2.2,if_true,List.map]
 exact b8 _
theorem qg {c:Cx} (hc:c.Ok) {i:Int} (hi:c.dV i) {H:List aa} (hD:Du c H):aq Tryz.prog 135 [.ptr c.d 0,.int .i64 i] H fun r H'=>r=Mg c i∧H'=H:=by
 refine Xu.2.calls rfl ?_
 simp only [Xu,aF]
 simp +contextual only [hD.d,mS,fN0,cJ,cK,sZ,Nat.reduceEqDiff,Nat.reduceAdd,Nat.reduceLT,↓reduceIte,reduceCtorEq]
 refine ⟨hi,fun hk=>?_,fun hk=>?_⟩
 ·exact zM (by decide) (List.take_length) ⟨rfl,rfl,rfl⟩ rfl rfl rfl ⟨by rw [Mg,qf,dG,sc,if_neg (show ¬(c.tm i).k=2 from hk),if_neg (show ¬(c.tm i).k=2 from hk),decide_eq_false (show ¬(c.tm i).k=2 from hk)];rfl,rfl⟩
 ·obtain ⟨o1,o2⟩:=hc.op i hi hk
  have hl:=hc.va.len
  refine ⟨⟨o1,o2⟩,⟨o1,by rw [hl];exact o2⟩,?_⟩
  refine zM (by decide) (List.take_length) ⟨rfl,rfl,rfl⟩ rfl rfl rfl ⟨?_,rfl⟩
  have e:=hc.va.sp (i:=(c.tm i).n.toNat) (by omega)
  rw [Mg,qf,dG,sc,if_pos (show (c.tm i).k=2 from hk),if_pos (show (c.tm i).k=2 from hk),decide_eq_true (show (c.tm i).k=2 from hk)]
  have e2:c.O.sp (c.O.pl (c.tm i).n)=c.ss.getD (c.tm i).n.toNat 0:=e
  rw [e2];rfl
def mT (i k:Int):AV:=.agg [.int .i64 i,.int .i64 k]
theorem sX (i k:Int):∀ (m:List ((Int×Int)×Bool)) (n:Nat),(∃ j b,m[j]?=some ((i,k),b)∧eh 2 (mT i k) (mR m) n=some (some (n + j,.bool b)))∨eh 2 (mT i k) (mR m) n=some none
 | [],n=>.inr rfl
 | ((a,b),v)::r,n=>by
   have ih:=sX i k r (n + 1)
   have e:c8 2 (mT i k) (.agg [.int .i64 a,.int .i64 b])=some (decide (i=a∧k=b)):=by simp [c8,mT]
   simp only [mR,List.map_cons,eh,e]
   by_cases h:i=a∧k=b
   ·obtain ⟨rfl,rfl⟩:=h
    exact .inl ⟨0,v,rfl,by simp⟩
   ·simp only [decide_eq_false h]
    rcases ih with ⟨j,x,h1,h2⟩ | h2
    ·exact .inl ⟨j + 1,x,h1,by rw [show n + (j + 1)=n + 1 + j by omega];exact h2⟩
    ·exact .inr h2
theorem lkM {i k:Int} {m:List ((Int×Int)×Bool)} {φ:AV→Prop} (h1:∀ b,((i,k),b)∈m→φ (.tuple [.bool b,.bool true])) (h2:φ (.tuple [.bool false,.bool false])):iN (some (.map (mR m))) 2 (.bool false) (mT i k) true φ:=by
 unfold iN
 rcases sX i k m 0 with ⟨j,b,h3,h4⟩ | h4
 ·simp only [h4];exact h1 b (List.mem_of_getElem? h3)
 ·simp only [h4];exact ⟨by simp [c8,mT],h2⟩
theorem Mh (m:List ((Int×Int)×Bool)) (j:Nat) (i k:Int) (b:Bool):(mR m).set j (mT i k,.bool b)=mR (m.set j ((i,k),b)):=by simp [mR,mT,List.map_set]
theorem msM {i k:Int} {b:Bool} {m:List ((Int×Int)×Bool)} {id:Nat} {H:List aa} {K:List aa→Prop} (h:∀ m',(∀ p∈m',p∈m∨p=((i,k),b))→K (H.set id (.map (mR m')))):iO (some (.map (mR m))) 2 id (mT i k) (.bool b) H K:=by
 unfold iO
 refine ⟨by simp [mT,og,bH,cP,fM],rfl,rfl,?_⟩
 have ec:aT (.bool b)=.bool b:=rfl
 rcases sX i k m 0 with ⟨j,x,h3,h4⟩ | h4
 ·simp only [h4,ec,Nat.zero_add,Mh]
  refine h _ fun p hp=>?_
  rcases List.mem_or_eq_of_mem_set hp with h | h
  ·exact .inl h
  ·exact .inr h
 ·simp only [h4,ec]
  refine ⟨by simp [c8,mT],?_⟩
  have e:mR m++[(mT i k,.bool b)]=mR (m++[((i,k),b)]):=by simp [mR,mT]
  rw [e]
  refine h _ fun p hp=>?_
  rcases List.mem_append.1 hp with h | h
  ·exact .inl h
  ·exact .inr (by simpa using h)
theorem bdK (i k:Int) (φ:AV→Prop):cA [.int .i64 0,.int .i64 0] [(0,1,.int .i64 i),(1,1,.int .i64 k)] φ=φ (mT i k):=by
 simp only [cA,gO,eq_iff_iff]
 constructor
 ·rintro ⟨_,_,_,_,_,_,h⟩;exact h
 ·exact fun h=>⟨rfl,rfl,by simp,rfl,rfl,by simp [ag,AV.cells],h⟩
theorem F4 (i k:Int):(mT i k).val=true∧(mT i k).cells.length=2∧(mT i k).cells.all AV.one=true:=⟨rfl,rfl,rfl⟩
theorem ldK (i k:Int) (H:List aa) (φ:AV→Prop):aQ (some 2) (.ai (mT i k)) H φ=φ (mT i k):=Qg _ _ _ _
def Mp (c:Cx) (w:Nat) (Q:T→T→Prop):Prop:=(w=c.e∧Q=E c.O)∨(w=c.g∧Q=R c.O)
theorem Mp.at {c:Cx} {w:Nat} {Q:T→T→Prop} (h:Mp c w Q) {H:List aa} (hD:Du c H):∃ m,H[w]?=some (.map (mR m))∧Rt c Q m:=by
 rcases h with ⟨rfl,rfl⟩ | ⟨rfl,rfl⟩
 ·exact hD.e
 ·exact hD.g
theorem Mp.set {c:Cx} (hc:c.Ok) {w:Nat} {Q:T→T→Prop} (h:Mp c w Q) {H:List aa} (hD:Du c H) {m:List ((Int×Int)×Bool)} (hm:Rt c Q m):Du c (H.set w (.map (mR m)))∧Up c H (H.set w (.map (mR m))):=by
 obtain ⟨l1,l2,l3⟩:=hD.lt
 obtain ⟨_,_,n1,n2,n3,_,_,_⟩:=hc
 rcases h with ⟨rfl,rfl⟩ | ⟨rfl,rfl⟩
 ·exact ⟨⟨by rw [List.getElem?_set_ne (fun e=>n1 e.symm)];exact hD.d,⟨m,by rw [List.getElem?_set_self l2],hm⟩,by rw [List.getElem?_set_ne n3];exact hD.g⟩,by simp,fun j h1 h2=>by rw [List.getElem?_set_ne (fun e=>h1 e.symm)]⟩
 ·exact ⟨⟨by rw [List.getElem?_set_ne (fun e=>n2 e.symm)];exact hD.d,by rw [List.getElem?_set_ne (fun e=>n3 e.symm)];exact hD.e,⟨m,by rw [List.getElem?_set_self l3],hm⟩⟩,by simp,fun j h1 h2=>by rw [List.getElem?_set_ne (fun e=>h2 e.symm)]⟩
theorem eG {c:Cx} {s:Nat} {b:Bool} {Q:Prop} {H H':List aa} {x:AV} (hx:x=.bool b) (hb:b=true↔Q) (hU:Up c H H') (hD:Du c H'):bW H.length [.t s] [(s,x)] H' (iS c Q H):=by
 subst hx
 refine aX H.length (Nat.le_refl _) (by rw [ay,if_pos rfl];rfl) ?_
 rw [ay,if_pos rfl,List.take_of_length_le (by rw [hU.len];exact Nat.le_refl _)]
 exact ⟨b,rfl,hb,hU,hD⟩
theorem YZ {c:Cx} (hc:c.Ok) {w:Nat} {Q:T→T→Prop} (hw:Mp c w Q) (i k:Int) (fn:Nat) (cL:List AV) {H:List aa} (hD:Du c H) (cj:cL.map AV.ab=cL)
 (hf:aq Tryz.prog fn cL H (iS c (Q (c.tm i) (c.tm k)) H)):aq Tryz.prog 133 [.map w,.int .i64 i,.int .i64 k,.fn (.func fn) [] cL] H (iS c (Q (c.tm i) (c.tm k)) H):=by
 refine Xs.2.calls rfl ?_
 simp only [Xs,aF]
 obtain ⟨m,hm,hr⟩:=hw.at hD
 have kf:=F4 i k
 simp +contextual only [bdK,ldK,kf.1,kf.2.1,kf.2.2,hm,sZ,Nat.reduceEqDiff,Nat.reduceAdd,↓reduceIte,reduceCtorEq]
 refine lkM (fun b hb=>?_) ?_
 ·have hq:=hr _ hb
  cases b with
  | true=>
    simp +contextual only [sZ,Nat.reduceEqDiff,Nat.reduceAdd,Nat.reduceLT,↓reduceIte,reduceCtorEq]
    exact eG rfl hq (Up.refl c H) hD
  | false=>
    simp +contextual only [sZ,Nat.reduceEqDiff,Nat.reduceAdd,Nat.reduceLT,↓reduceIte,reduceCtorEq]
    exact eG rfl hq (Up.refl c H) hD
 ·simp +contextual only [cj,sZ,Nat.reduceEqDiff,Nat.reduceAdd,Nat.reduceLT,↓reduceIte,reduceCtorEq]
  refine af hf ?_
  rintro r H' ⟨b,rfl,hb,hU,jH⟩
  obtain ⟨m',NN,hr'⟩:=hw.at jH
  simp +contextual only [ldK,NN,sZ,Nat.reduceEqDiff,↓reduceIte,reduceCtorEq]
  refine msM fun m2 h2=>?_
  have sn:Rt c Q m2:=by
   intro p hp
   rcases h2 p hp with h | rfl
   ·exact hr' p h
   ·exact hb
  obtain ⟨s1,s2⟩:=hw.set hc jH sn
  simp +contextual only [sZ,Nat.reduceEqDiff,↓reduceIte,reduceCtorEq]
  exact eG rfl hb (hU.trans s2) s1
def kM (c:Cx) (i k:Int):Prop:=∀ H,Du c H→aq Tryz.prog 79 [.ptr c.d 0,.int .i64 i,.int .i64 k] H (iS c (E c.O (c.tm i) (c.tm k)) H)
def iz (c:Cx) (i k:Int):Prop:=∀ H,Du c H→aq Tryz.prog 76 [.ptr c.d 0,.int .i64 i,.int .i64 k] H (iS c (R c.O (c.tm i) (c.tm k)) H)
def DP (c:Cx) (i k:Int):List AV:=[.ai (.ptr c.d 0),.ai (.int .i64 i),.ai (.int .i64 k)]
theorem g53 (a b c d e z:AV):[a,b,c,d,e].getD 3 z=d:=rfl
theorem g54 (a b c d e z:AV):[a,b,c,d,e].getD 4 z=e:=rfl
theorem c79 {c:Cx} (hc:c.Ok) {i k:Int} (h:∀ H,Du c H→aq Tryz.prog 138 (DP c i k) H (iS c (E c.O (c.tm i) (c.tm k)) H)):kM c i k:=by
 intro H hD
 refine k79.2.calls rfl ?_
 simp only [k79,aF]
 simp +contextual only [hD.d,g53,sZ,Nat.reduceEqDiff,Nat.reduceAdd,Nat.reduceLT,↓reduceIte,reduceCtorEq]
 refine af (YZ hc (.inl ⟨rfl,rfl⟩) i k 138 (DP c i k) hD rfl (h H hD)) ?_
 rintro r H' ⟨b,rfl,hb,hU,jH⟩
 simp +contextual only [sZ,↓reduceIte,reduceCtorEq]
 exact eG rfl hb hU jH
theorem c76 {c:Cx} (hc:c.Ok) {i k:Int} (h:∀ H,Du c H→aq Tryz.prog 134 (DP c i k) H (iS c (R c.O (c.tm i) (c.tm k)) H)):iz c i k:=by
 intro H hD
 refine k76.2.calls rfl ?_
 simp only [k76,aF]
 simp +contextual only [hD.d,g54,sZ,Nat.reduceEqDiff,Nat.reduceAdd,Nat.reduceLT,↓reduceIte,reduceCtorEq]
 refine af (YZ hc (.inr ⟨rfl,rfl⟩) i k 134 (DP c i k) hD rfl (h H hD)) ?_
 rintro r H' ⟨b,rfl,hb,hU,jH⟩
 simp +contextual only [sZ,↓reduceIte,reduceCtorEq]
 exact eG rfl hb hU jH
theorem dH (c:Cx) (i:Int):(Mg c i).ab=Mg c i:=rfl
theorem fG (c:Cx) (i:Int) (φ:AV→Prop):bF (Mg c i) 0 φ=φ (.int .i64 (qf c i)):=by simp [Mg,bF,oe]
theorem fH (c:Cx) (i:Int) (φ:AV→Prop):bF (Mg c i) 1 φ=φ (.int .i64 (dG c i)):=by simp [Mg,bF,oe]
theorem fI (c:Cx) (i:Int) (φ:AV→Prop):bF (Mg c i) 2 φ=φ (.bool (sc c i)):=by simp [Mg,bF,oU]
def uE (c:Cx) (i k:Int):Bool:=sc c i && (sc c k && decide (qf c i=qf c k))
theorem kN {c:Cx} {i k:Int}:uE c i k=true↔(c.tm i).k=2∧(c.tm k).k=2∧c.O.pl (c.tm i).n=c.O.pl (c.tm k).n:=by
 simp only [uE,sc,Bool.and_eq_true,decide_eq_true_eq]
 unfold qf
 constructor
 ·rintro ⟨h1,h2,h3⟩;rw [if_pos h1,if_pos h2] at h3;exact ⟨h1,h2,h3⟩
 ·rintro ⟨h1,h2,h3⟩;refine ⟨h1,h2,?_⟩;rw [if_pos h1,if_pos h2];exact h3
theorem F5 {c:Cx} (hc:c.Ok) {i k:Int} (hi:c.dV i) (hk:c.dV k) {H:List aa} (hD:Du c H):aq Tryz.prog 155 [.ptr c.d 0,.int .i64 i,.int .i64 k] H fun r H'=>r=.tuple [.int .i64 (dG c i),.bool (uE c i k)]∧H'=H:=by
 refine XG.2.calls rfl ?_
 simp only [XG,aF]
 simp +contextual only [sZ,Nat.reduceEqDiff,Nat.reduceAdd,↓reduceIte,reduceCtorEq]
 refine af (qg hc hi hD) ?_
 rintro r H1 ⟨rfl,rfl⟩
 simp +contextual only [dH,fG,fH,fI,sZ,Nat.reduceEqDiff,Nat.reduceAdd,↓reduceIte,reduceCtorEq]
 refine af (qg hc hk hD) ?_
 rintro r H1 ⟨rfl,rfl⟩
 simp +contextual only [dH,fG,fH,fI,sZ,Nat.reduceEqDiff,↓reduceIte,reduceCtorEq]
 have fin:∀ (s:Int) (b:Bool),s=dG c i→b=uE c i k→bW H1.length [.t 6,.t 7] [(6,.int .i64 s),(7,.bool b)] H1 fun r H'=>r=.tuple [.int .i64 (dG c i),.bool (uE c i k)]∧H'=H1:=by
  rintro s b rfl rfl
  have:=wH (H:=H1) (e:=[]) (s:=6) (s':=7) (v:=.int .i64 (dG c i)) (v':=.bool (uE c i k)) (by decide) rfl rfl rfl rfl
  rwa [List.append_nil] at this
 cases h1:sc c i with
 | false=>
   simp +contextual only [sZ,Nat.reduceEqDiff,↓reduceIte,reduceCtorEq]
   exact fin _ _ rfl (by rw [uE,h1];rfl)
 | true=>
   cases h2:sc c k with
   | false=>
     simp +contextual only [sZ,Nat.reduceEqDiff,↓reduceIte,reduceCtorEq]
     exact fin _ _ rfl (by rw [uE,h1,h2];rfl)
   | true=>
     simp +contextual only [sZ,Nat.reduceEqDiff,↓reduceIte,reduceCtorEq]
     exact fin _ _ rfl (by rw [uE,h1,h2];rfl)
end Go.aL
end
section
set_option maxRecDepth 100000
namespace Go.aL
open Go Go.Proofs Go.fN
def IL (v:AV) (l:List Int):Prop:=v=bu l∨v=.al 0 (ints l)
theorem IL.one {v:AV} {l:List Int} (h:IL v l):v.one=true∧v.ab=v∧v.val=true∧v.cells=[v]:=by
 rcases h with rfl | rfl
 ·obtain ⟨k1,k2,_,k4,k5⟩:=aH l;exact ⟨k1,k2,k4,k5⟩
 ·exact ⟨rfl,rfl,rfl,rfl⟩
theorem IL.len {v:AV} {l:List Int} (h:IL v l) (hs:l.length < 9223372036854775808) (H:List aa) (φ:AV→Prop):fx v H φ=φ (.int .i64 l.length):=by
 have hl:∀ l:List Int,l.length < 9223372036854775808→fx (.al 0 (ints l)) H φ=φ (.int .i64 l.length):=by
  intro l hs;simp [fx,aw,hs]
 rcases h with rfl | rfl
 ·cases l with
  | nil=>rfl
  | cons x r=>exact hl _ hs
 ·exact hl _ hs
theorem IL.w9 {v:AV} {l:List Int} (h:IL v l) (H:List aa) (φ:AV→Prop):iw v H φ=φ (.int .i64 l.length):=by
 rcases h with rfl | rfl
 ·cases l with
  | nil=>rfl
  | cons x r=>rw [bu,lG,aw]
 ·rw [lG,aw]
theorem IL.aN {v:AV} {l:List Int} (h:IL v l):aN 1 v=True:=by
 rcases h with rfl | rfl
 ·cases l <;> simp [bu,Go.aL.aN]
 ·simp [Go.aL.aN]
theorem IL.idx {v:AV} {l:List Int} (h:IL v l) (k:IntKind) (i:Int) (φ:AV→Prop):ax 1 v (.int k i) φ=((0≤i∧i < l.length)∧φ (.ai (.int .i64 (l.getD i.toNat 0)))):=by
 rcases h with rfl | rfl
 ·cases l with
  | nil=>simp [bu,ax];omega
  | cons x r=>exact cK 1 0 (x::r) k i φ
 ·exact cK 1 0 l k i φ
theorem IL.lens {v:AV} {l:List Int} (h:IL v l):(∀ (own:Nat) (xs:List AV),v=AV.al own xs→∀ z∈xs,z.cells.length=1)=True:=by
 rcases h with rfl | rfl
 ·cases l with
  | nil=>simp [bu]
  | cons x r=>exact dK 0 (x::r)
 ·exact dK 0 l
def zO (S:List aa→Prop):Prop:=∀ H H',S H→S H'→H'.length=H.length
def SB (S:List aa→Prop) (Q:Prop) (r:AV) (H':List aa):Prop:=∃ b:Bool,r=.bool b∧(b=true↔Q)∧S H'
def SI (S:List aa→Prop) (Q:Int→Prop) (l:List Int) (r:AV) (H':List aa):Prop:=
 S H'∧((r=.int .i64 (-1)∧∀ x∈l,¬ Q x)∨∃ n:Nat,r=.int .i64 n∧n < l.length∧Q (l.getD n 0)∧∀ j,j < n→¬ Q (l.getD j 0))
theorem Bt {S:List aa→Prop} (hl:zO S) {s:Nat} {b:Bool} {Q:Prop} {H H':List aa} {x:AV} (hx:x=.bool b) (hb:b=true↔Q) (hS:S H) (Y0:S H'):bW H.length [.t s] [(s,x)] H' (SB S Q):=by
 subst hx
 refine aX H.length (Nat.le_refl _) (by rw [ay,if_pos rfl];rfl) ?_
 rw [ay,if_pos rfl,List.take_of_length_le (by rw [hl H H' hS Y0];exact Nat.le_refl _)]
 exact ⟨b,rfl,hb,Y0⟩
theorem aP {l:List Int} {i:Nat} (h:i < l.length):l.getD i 0∈l:=by rw [List.getD_eq_getElem?_getD,List.getElem?_eq_getElem h];exact List.getElem_mem h
theorem Y1 {S:List aa→Prop} (hS:zO S) {Q:Int→Int→Prop} {a b:List Int} {va vb:AV} (ha:IL va a) (hb:IL vb b) (la:a.length≤1000000000) (lb:b.length≤1000000000) (g:Nat) (pre cL:List AV) (cj:cL.map AV.ab=cL) (lZ:pre.map AV.ab=pre)
 (hf:∀ x∈a,∀ y∈b,∀ H,S H→aq Tryz.prog g (pre++[.int .i64 x,.int .i64 y]++cL) H (SB S (Q x y))) {H:List aa} (hH:S H) :
 aq Tryz.prog 140 [va,vb,.fn (.func g) pre cL] H (SB S (a.length=b.length∧∀ j,j < a.length→Q (a.getD j 0) (b.getD j 0))):=by
 refine Xx.2.calls rfl ?_
 simp only [Xx,aF]
 obtain ⟨a1,a2,a3,a4⟩:=ha.one
 obtain ⟨b1,b2,b3,b4⟩:=hb.one
 simp +contextual only [a2,b2,ha.aN,hb.aN,ha.len (by omega),hb.len (by omega),sZ,Nat.reduceEqDiff,Nat.reduceAdd,↓reduceIte,reduceCtorEq]
 refine ⟨fun dW=>Bt hS rfl ⟨fun h=>by simp at h,fun h=>absurd (by omega) dW⟩ hH hH,fun heq=>?_⟩
 refine aJ a.length (fun i (G:List aa)=>S G∧∀ j,j < i→Q (a.getD j 0) (b.getD j 0))
  (fun i G=>[(1,vb),(2,.fn (.func g) pre cL),(15,va),(16,.int .i64 b.length),(17,.int .i64 i)]) (fun i G=>G) H ⟨⟨hH,fun j hj=>by omega⟩,aA _ _ _⟩ fun i G hi hI=>?_
 obtain ⟨hG,hq⟩:=hI
 simp +contextual only [b2,ha.lens,hb.lens,ha.idx,hb.idx,Int.toNat_natCast,cj,lZ,sZ,Nat.reduceEqDiff,Nat.reduceAdd,↓reduceIte,reduceCtorEq]
 refine ⟨fun aK=>⟨by omega,by omega,?_⟩,fun gr=>?_⟩
 ·refine af (hf _ (aP (by omega)) _ (aP (by omega)) G hG) ?_
  rintro r G' ⟨x,rfl,hx,dN⟩
  cases x with
  | true=>
    simp +contextual only [sZ,Nat.reduceEqDiff,↓reduceIte]
    refine ⟨i + 1,G',⟨by omega,dN,fun j hj=>?_⟩,by omega,aC (by rw [au i (by omega)]) rfl⟩
    by_cases h:j=i
    ·subst h;exact hx.1 rfl
    ·exact hq j (by omega)
  | false=>
    simp +contextual only [sZ,Nat.reduceEqDiff,↓reduceIte,reduceCtorEq]
    refine Bt hS rfl ⟨fun h=>by simp at h,fun h=>?_⟩ hH dN
    exact absurd (hx.2 (h.2 i (by omega))) (by simp)
 ·refine Bt hS rfl ⟨fun _=>⟨by omega,fun j hj=>hq j (by omega)⟩,fun _=>rfl⟩ hH hG
theorem Mi {S:List aa→Prop} (hS:zO S) {Q:Int→Prop} {a:List Int} {va:AV} (ha:IL va a) (la:a.length≤1000000000) (g:Nat) (pre cL:List AV) (cj:cL.map AV.ab=cL) (lZ:pre.map AV.ab=pre)
 (hf:∀ x∈a,∀ H,S H→aq Tryz.prog g (pre++[.int .i64 x]++cL) H (SB S (Q x))) {H:List aa} (hH:S H) :
 aq Tryz.prog 100 [va,.fn (.func g) pre cL] H (SI S Q a):=by
 refine Dn.2.calls rfl ?_
 simp only [Dn,aF]
 obtain ⟨a1,a2,a3,a4⟩:=ha.one
 simp +contextual only [a2,ha.aN,ha.len (by omega),sZ,Nat.reduceEqDiff,Nat.reduceAdd,↓reduceIte,reduceCtorEq]
 have fin:∀ (n:Int) (G:List aa),S G→((n=-1∧∀ x∈a,¬ Q x)∨∃ m:Nat,n=m∧m < a.length∧Q (a.getD m 0)∧∀ j,j < m→¬ Q (a.getD j 0))→bW H.length [.t 4] [(4,.int .i64 n)] G (SI S Q a):=by
  intro n G hG hn
  refine aX H.length (Nat.le_refl _) (by rw [ay,if_pos rfl];rfl) ?_
  rw [ay,if_pos rfl,List.take_of_length_le (by rw [hS H G hH hG];exact Nat.le_refl _)]
  refine ⟨hG,?_⟩
  rcases hn with ⟨rfl,h⟩ | ⟨m,rfl,h⟩
  ·exact .inl ⟨rfl,h⟩
  ·exact .inr ⟨m,rfl,h⟩
 refine aJ a.length (fun i (G:List aa)=>S G∧∀ j,j < i→¬ Q (a.getD j 0))
  (fun i G=>[(0,va),(1,.fn (.func g) pre cL),(7,.int .i64 a.length),(8,.int .i64 i)]) (fun i G=>G) H ⟨⟨hH,fun j hj=>by omega⟩,aA _ _ _⟩ fun i G hi hI=>?_
 obtain ⟨hG,hq⟩:=hI
 simp +contextual only [a2,ha.lens,ha.idx,Int.toNat_natCast,cj,lZ,sZ,Nat.reduceEqDiff,Nat.reduceAdd,↓reduceIte,reduceCtorEq]
 refine ⟨fun aK=>⟨by omega,?_⟩,fun gr=>?_⟩
 ·refine af (hf _ (aP (by omega)) G hG) ?_
  rintro r G' ⟨x,rfl,hx,dN⟩
  cases x with
  | false=>
    simp +contextual only [sZ,Nat.reduceEqDiff,↓reduceIte,reduceCtorEq]
    refine ⟨i + 1,G',⟨by omega,dN,fun j hj=>?_⟩,by omega,aC (by rw [au i (by omega)]) rfl⟩
    by_cases h:j=i
    ·subst h;exact fun h=>absurd (hx.2 h) (by simp)
    ·exact hq j (by omega)
  | true=>
    simp +contextual only [sZ,Nat.reduceEqDiff,↓reduceIte,reduceCtorEq]
    exact fin _ _ dN (.inr ⟨i,rfl,by omega,hx.1 rfl,hq⟩)
 ·refine fin _ _ hG (.inl ⟨rfl,fun x hx=>?_⟩)
  obtain ⟨j,hj,rfl⟩:=List.getElem_of_mem hx
  have:=hq j (by omega)
  simpa [hj] using this
theorem DQ {S:List aa→Prop} (hS:zO S) {Q:Int→Prop} {a:List Int} {va:AV} (ha:IL va a) (la:a.length≤1000000000) (g:Nat) (pre cL:List AV) (cj:cL.map AV.ab=cL) (lZ:pre.map AV.ab=pre)
 (hf:∀ x∈a,∀ H,S H→aq Tryz.prog g (pre++[.int .i64 x]++cL) H (SB S (Q x))) {H:List aa} (hH:S H) :
 aq Tryz.prog 102 [va,.fn (.func g) pre cL] H (SB S (∃ x∈a,Q x)):=by
 refine Dp.2.calls rfl ?_
 simp only [Dp,aF]
 obtain ⟨a1,a2,a3,a4⟩:=ha.one
 simp +contextual only [a2,sZ,Nat.reduceEqDiff,Nat.reduceAdd,↓reduceIte,reduceCtorEq]
 refine af (Mi hS ha la g pre cL cj lZ hf hH) ?_
 rintro r G ⟨hG,⟨rfl,h⟩ | ⟨n,rfl,h1,h2,_⟩⟩
 ·simp +contextual only [sZ,↓reduceIte,reduceCtorEq]
  exact Bt hS (b:=false) (by simp) ⟨fun h=>by simp at h,fun ⟨x,hx,h'⟩=>absurd h' (h x hx)⟩ hH hG
 ·simp +contextual only [sZ,↓reduceIte,reduceCtorEq]
  exact Bt hS (b:=true) (by simp) ⟨fun _=>⟨_,aP h1,h2⟩,fun _=>rfl⟩ hH hG
end Go.aL
end
section
set_option maxRecDepth 100000
namespace Go.aL
open Go Go.Proofs Go.fN
def SD (c:Cx) (H0 H:List aa):Prop:=Du c H∧Up c H0 H
theorem SD.Bu (c:Cx) (H0:List aa):zO (SD c H0):=fun H H' h h'=>by rw [h'.2.len,h.2.len]
theorem iS.sb {c:Cx} {Q:Prop} {H0 H H':List aa} {r:AV} (h:iS c Q H r H') (hS:SD c H0 H):SB (SD c H0) Q r H':=by
 obtain ⟨b,h1,h2,h3,h4⟩:=h;exact ⟨b,h1,h2,h4,hS.2.trans h3⟩
theorem aci {c:Cx} {i x:Int} (h:iz c i x) {H:List aa} (hD:Du c H):aq Tryz.prog 233 [.int .i64 x,.ai (.ptr c.d 0),.ai (.int .i64 i)] H (iS c (¬ R c.O (c.tm i) (c.tm x)) H):=by
 refine Yj.2.calls rfl ?_
 simp only [Yj,aF]
 simp +contextual only [sZ,Nat.reduceEqDiff,Nat.reduceAdd,↓reduceIte,reduceCtorEq]
 refine af (h H hD) ?_
 rintro r H' ⟨b,rfl,hb,hU,jH⟩
 simp +contextual only [sZ,↓reduceIte,reduceCtorEq]
 refine eG (b:=!b) rfl ?_ hU jH
 rw [← hb];cases b <;> simp
theorem U0 {c:Cx} {i:Int} {l:List Int} {v:AV} (hv:IL v l) (hl:l.length≤1000000000) (h:∀ x∈l,iz c i x) {H:List aa} (hD:Du c H):aq Tryz.prog 204 [.ptr c.d 0,.int .i64 i,v] H (iS c (∀ x∈l,R c.O (c.tm i) (c.tm x)) H):=by
 refine X3.2.calls rfl ?_
 simp only [X3,aF]
 obtain ⟨a1,a2,a3,a4⟩:=hv.one
 simp +contextual only [a2,sZ,Nat.reduceEqDiff,Nat.reduceAdd,↓reduceIte,reduceCtorEq]
 refine af (DQ (SD.Bu c H) hv hl 233 [] [.ai (.ptr c.d 0),.ai (.int .i64 i)] rfl rfl (Q:=fun x=>¬ R c.O (c.tm i) (c.tm x)) (fun x hx G hG=>(aci (h x hx) hG.1).mono fun r H' hr=>hr.sb hG) ⟨hD,Up.refl c H⟩) ?_
 rintro r G ⟨b,rfl,hb,hG⟩
 simp +contextual only [sZ,↓reduceIte,reduceCtorEq]
 refine eG (b:=!b) rfl ?_ hG.2 hG.1
 cases b with
 | true=>
   obtain ⟨x,hx,hr⟩:=hb.1 rfl
   exact ⟨fun h=>by simp at h,fun h=>absurd (h x hx) hr⟩
 | false=>
   refine ⟨fun _ x hx=>?_,fun _=>rfl⟩
   by_cases hr:R c.O (c.tm i) (c.tm x)
   ·exact hr
   ·exact absurd (hb.2 ⟨x,hx,hr⟩) (by simp)
theorem acj {c:Cx} {x k:Int} (h1:kM c x k) (h2:iz c x k) {H:List aa} (hD:Du c H):aq Tryz.prog 220 [.int .i64 x,.ai (.ptr c.d 0),.ai (.int .i64 k)] H (iS c (E c.O (c.tm x) (c.tm k)∨R c.O (c.tm x) (c.tm k)) H):=by
 refine Ye.2.calls rfl ?_
 simp only [Ye,aF]
 simp +contextual only [sZ,Nat.reduceEqDiff,Nat.reduceAdd,↓reduceIte,reduceCtorEq]
 refine af (h1 H hD) ?_
 rintro r H' ⟨b,rfl,hb,hU,jH⟩
 cases b with
 | true=>
   simp +contextual only [sZ,Nat.reduceEqDiff,↓reduceIte,reduceCtorEq]
   exact eG rfl ⟨fun _=>.inl (hb.1 rfl),fun _=>rfl⟩ hU jH
 | false=>
   simp +contextual only [sZ,Nat.reduceEqDiff,Nat.reduceAdd,↓reduceIte,reduceCtorEq]
   refine af (h2 H' jH) ?_
   rintro r H2 ⟨b,rfl,qv,RU,B5⟩
   simp +contextual only [sZ,Nat.reduceEqDiff,↓reduceIte,reduceCtorEq]
   refine eG rfl ⟨fun h=>.inr (qv.1 h),fun h=>?_⟩ (hU.trans RU) B5
   rcases h with h | h
   ·exact absurd (hb.2 h) (by simp)
   ·exact qv.2 h
theorem Y2 {c:Cx} (hc:c.Ok) {i k:Int} (hi:c.dV i) (h1:∀ x∈c.kd i,kM c x k) (h2:∀ x∈c.kd i,iz c x k) {H:List aa} (hD:Du c H):aq Tryz.prog 183 [.ptr c.d 0,.int .i64 i,.int .i64 k] H (iS c (∃ x∈c.kd i,E c.O (c.tm x) (c.tm k)∨R c.O (c.tm x) (c.tm k)) H):=by
 refine XU.2.calls rfl ?_
 simp only [XU,aF]
 have k2:∀ l,(bu l).ab=bu l:=fun l=>(aH l).2.1
 simp +contextual only [hD.d,mS,Ev,cJ,bV,k2,sZ,Nat.reduceEqDiff,Nat.reduceAdd,Nat.reduceLT,↓reduceIte,reduceCtorEq]
 refine ⟨hi,?_⟩
 refine af (DQ (SD.Bu c H) (.inl rfl:IL (bu (c.kd i)) (c.kd i)) (by have:=hc.kl i hi;omega) 220 [] [.ai (.ptr c.d 0),.ai (.int .i64 k)] rfl rfl (Q:=fun x=>E c.O (c.tm x) (c.tm k)∨R c.O (c.tm x) (c.tm k)) (fun x hx G hG=>(acj (h1 x hx) (h2 x hx) hG.1).mono fun r H' hr=>hr.sb hG) ⟨hD,Up.refl c H⟩) ?_
 rintro r G ⟨b,rfl,hb,hG⟩
 simp +contextual only [sZ,↓reduceIte,reduceCtorEq]
 exact eG rfl hb hG.2 hG.1
theorem Y3 {c:Cx} (hc:c.Ok) {i k:Int} (hi:c.dV i) (hk:c.dV k) (h:∀ x∈c.kd k,iz c i x) {H:List aa} (hD:Du c H):aq Tryz.prog 184 [.ptr c.d 0,.int .i64 i,.int .i64 k] H
 (iS c (sc c k=true∧qf c k < qf c i∧∀ x∈c.kd k,R c.O (c.tm i) (c.tm x)) H):=by
 refine XV.2.calls rfl ?_
 simp only [XV,aF]
 have k2:∀ l,(bu l).ab=bu l:=fun l=>(aH l).2.1
 simp +contextual only [sZ,Nat.reduceEqDiff,Nat.reduceAdd,↓reduceIte,reduceCtorEq]
 refine af (qg hc hi hD) ?_
 rintro r H1 ⟨rfl,rfl⟩
 simp +contextual only [dH,fG,fH,fI,sZ,Nat.reduceEqDiff,Nat.reduceAdd,↓reduceIte,reduceCtorEq]
 refine af (qg hc hk hD) ?_
 rintro r H1 ⟨rfl,rfl⟩
 simp +contextual only [dH,fG,fH,fI,sZ,Nat.reduceEqDiff,↓reduceIte,reduceCtorEq]
 cases hb:sc c k with
 | false=>
   simp +contextual only [sZ,Nat.reduceEqDiff,↓reduceIte,reduceCtorEq]
   exact eG rfl ⟨fun h=>by simp at h,fun h=>by simp at h⟩ (Up.refl c _) hD
 | true=>
   by_cases hp:qf c k < qf c i
   ·simp +contextual only [hp,hD.d,mS,Ev,cJ,bV,k2,sZ,Nat.reduceEqDiff,Nat.reduceAdd,Nat.reduceLT,↓reduceIte,reduceCtorEq]
    refine ⟨hk,af (U0 (.inl rfl:IL (bu (c.kd k)) (c.kd k)) (by have:=hc.kl k hk;omega) h hD) ?_⟩
    rintro r H2 ⟨b,rfl,qv,hU,jH⟩
    simp +contextual only [sZ,Nat.reduceEqDiff,↓reduceIte,reduceCtorEq]
    exact eG rfl ⟨fun h=>⟨rfl,hp,qv.1 h⟩,fun h=>qv.2 h.2.2⟩ hU jH
   ·simp +contextual only [hp,sZ,Nat.reduceEqDiff,↓reduceIte,reduceCtorEq]
    exact eG rfl ⟨fun h=>by simp at h,fun h=>absurd h.2.1 hp⟩ (Up.refl c _) hD
structure JQ (Q:Int→Int→Prop) (a b:List Int) (n:Nat):Prop where
 la:n≤a.length
 lb:n≤b.length
 eq:∀ j,j < n→Q (a.getD j 0) (b.getD j 0)
 no:n < a.length→n < b.length→¬ Q (a.getD n 0) (b.getD n 0)
theorem Y4 {c:Cx} {a b:List Int} {va vb:AV} (ha:IL va a) (hb:IL vb b) (la:a.length≤1000000000) (lb:b.length≤1000000000) (h:∀ x∈a,∀ y∈b,kM c x y) {H:List aa} (hD:Du c H) :
 aq Tryz.prog 150 [.ptr c.d 0,va,vb] H fun r H'=>∃ n:Nat,r=.int .i64 n∧JQ (fun x y=>E c.O (c.tm x) (c.tm y)) a b n∧Up c H H'∧Du c H':=by
 refine XB.2.calls rfl ?_
 simp only [XB,aF]
 obtain ⟨a1,a2,a3,a4⟩:=ha.one
 obtain ⟨b1,b2,b3,b4⟩:=hb.one
 simp +contextual only [sZ,Nat.reduceEqDiff,Nat.reduceAdd,↓reduceIte,reduceCtorEq]
 refine aJ a.length (fun i (G:List aa)=>SD c H G∧i≤b.length∧∀ j,j < i→E c.O (c.tm (a.getD j 0)) (c.tm (b.getD j 0)))
  (fun i G=>[(0,.ptr c.d 0),(1,va),(2,vb),(7,.int .i64 i)]) (fun i G=>G) H ⟨⟨⟨hD,Up.refl c H⟩,Nat.zero_le _,fun j hj=>by omega⟩,aA _ _ _⟩ fun i G hi hI=>?_
 obtain ⟨hG,hib,hq⟩:=hI
 have fin:∀ G',SD c H G'→JQ (fun x y=>E c.O (c.tm x) (c.tm y)) a b i→bW H.length [.t 6] [(6,.int .i64 (i:Int))] G' fun r H'=>∃ n:Nat,r=.int .i64 n∧JQ (fun x y=>E c.O (c.tm x) (c.tm y)) a b n∧Up c H H'∧Du c H':=by
  intro G' dN hp
  refine aX H.length (Nat.le_refl _) (by rw [ay,if_pos rfl];rfl) ?_
  rw [ay,if_pos rfl,List.take_of_length_le (by rw [dN.2.len];exact Nat.le_refl _)]
  exact ⟨i,rfl,hp,dN.2,dN.1⟩
 by_cases h1:(i:Int) < a.length
 ·by_cases h2:(i:Int) < b.length
  ·simp +contextual only [a2,b2,ha.aN,hb.aN,ha.w9,hb.w9,ha.lens,hb.lens,ha.idx,hb.idx,Int.toNat_natCast,h1,h2,decide_true,sZ,Nat.reduceEqDiff,Nat.reduceAdd,↓reduceIte,reduceCtorEq]
   refine ⟨by omega,by omega,?_⟩
   refine af (h _ (aP (by omega)) _ (aP (by omega)) G hG.1) ?_
   rintro r G' ⟨x,rfl,hx,hU,jH⟩
   have dN:SD c H G':=⟨jH,hG.2.trans hU⟩
   cases x with
   | true=>
     simp +contextual only [sZ,Nat.reduceEqDiff,↓reduceIte,reduceCtorEq]
     refine ⟨i + 1,G',⟨by omega,dN,by omega,fun j hj=>?_⟩,by omega,aC (by rw [au i (by omega)]) rfl⟩
     by_cases h:j=i
     ·subst h;exact hx.1 rfl
     ·exact hq j (by omega)
   | false=>
     simp +contextual only [sZ,Nat.reduceEqDiff,↓reduceIte,reduceCtorEq]
     exact fin G' dN ⟨hi,hib,hq,fun _ _ he=>absurd (hx.2 he) (by simp)⟩
  ·simp +contextual only [a2,b2,ha.aN,hb.aN,ha.w9,hb.w9,h1,h2,decide_true,decide_false,sZ,Nat.reduceEqDiff,↓reduceIte,reduceCtorEq]
   exact fin G hG ⟨hi,hib,hq,fun _ h'=>absurd h' (by omega)⟩
 ·simp +contextual only [a2,ha.aN,ha.w9,h1,decide_false,sZ,Nat.reduceEqDiff,↓reduceIte,reduceCtorEq]
  exact fin G hG ⟨hi,hib,hq,fun h' _=>absurd h' (by omega)⟩
def Bv (c:Cx) (i k:Int):Prop:=
 uE c i k=true∧dG c i≠3∧(∀ x∈c.kd k,R c.O (c.tm i) (c.tm x))∧
 ∃ n,JQ (fun x y=>E c.O (c.tm x) (c.tm y)) (bG (dG c i) (c.kd i)) (bG (dG c i) (c.kd k)) n∧n < (bG (dG c i) (c.kd i)).length∧
  (n=(bG (dG c i) (c.kd k)).length∨R c.O (c.tm ((bG (dG c i) (c.kd i)).getD n 0)) (c.tm ((bG (dG c i) (c.kd k)).getD n 0)))
theorem o8 {s x:Int} {l:List Int}:x∈bG s l↔x∈l:=by unfold bG;split <;> simp
theorem jM {s:Int} {l:List Int}:(bG s l).length=l.length:=by unfold bG;split <;> simp
theorem JQ.U1 {Q:Int→Int→Prop} {a b:List Int} {n m:Nat} (h:JQ Q a b n) (k:JQ Q a b m):n=m:=by
 rcases Nat.lt_trichotomy n m with h1 | h1 | h1
 ·exact absurd (k.eq n h1) (h.no (by have:=k.la;omega) (by have:=k.lb;omega))
 ·exact h1
 ·exact absurd (h.eq m h1) (k.no (by have:=h.la;omega) (by have:=h.lb;omega))
theorem Y5 {c:Cx} (hc:c.Ok) {i k:Int} (hi:c.dV i) (hk:c.dV k) (h1:∀ x∈c.kd k,iz c i x) (h2:∀ x∈c.kd i,∀ y∈c.kd k,kM c x y) (h3:∀ x∈c.kd i,∀ y∈c.kd k,iz c x y) {H:List aa} (hD:Du c H) :
 aq Tryz.prog 185 [.ptr c.d 0,.int .i64 i,.int .i64 k] H (iS c (Bv c i k) H):=by
 refine RP.2.calls rfl ?_
 simp only [RP,aF]
 have k2:∀ l,(bu l).ab=bu l:=fun l=>(aH l).2.1
 have l1:=hc.kl i hi
 have l2:=hc.kl k hk
 simp +contextual only [sZ,Nat.reduceEqDiff,Nat.reduceAdd,↓reduceIte,reduceCtorEq]
 refine af (F5 hc hi hk hD) ?_
 rintro r H1 ⟨rfl,rfl⟩
 simp +contextual only [sZ,Nat.reduceEqDiff,Nat.reduceAdd,Nat.reduceLT,↓reduceIte,reduceCtorEq]
 cases hl:uE c i k with
 | false=>
   simp +contextual only [Bool.not_false,sZ,Nat.reduceEqDiff,↓reduceIte,reduceCtorEq]
   exact eG rfl ⟨fun h=>by simp at h,fun h=>by have:=h.1;rw [hl] at this;simp at this⟩ (Up.refl c _) hD
 | true=>
   by_cases hs:dG c i=3
   ·simp +contextual only [Bool.not_true,hs,decide_true,sZ,Nat.reduceEqDiff,↓reduceIte,reduceCtorEq]
    exact eG rfl ⟨fun h=>by simp at h,fun h=>absurd hs h.2.1⟩ (Up.refl c _) hD
   ·simp +contextual only [Bool.not_true,hs,decide_false,hD.d,mS,Ev,cJ,bV,k2,sZ,Nat.reduceEqDiff,Nat.reduceAdd,Nat.reduceLT,↓reduceIte,reduceCtorEq]
    refine ⟨hk,af (U0 (.inl rfl:IL (bu (c.kd k)) (c.kd k)) (by omega) h1 hD) ?_⟩
    rintro r H2 ⟨b,rfl,qv,hU,B5⟩
    cases b with
    | false=>
      simp +contextual only [Bool.not_false,sZ,Nat.reduceEqDiff,↓reduceIte,reduceCtorEq]
      exact eG rfl ⟨fun h=>by simp at h,fun h=>absurd (qv.2 h.2.2.1) (by simp)⟩ hU B5
    | true=>
      have xK:=qv.1 rfl
      simp +contextual only [Bool.not_true,B5.d,mS,Ev,cJ,bV,k2,sZ,Nat.reduceEqDiff,Nat.reduceAdd,Nat.reduceLT,↓reduceIte,reduceCtorEq]
      refine ⟨hi,aE (Jl (c.kd i) (dG c i) (by omega)) ?_⟩
      simp +contextual only [B5.d,mS,Ev,cJ,bV,k2,sZ,Nat.reduceEqDiff,Nat.reduceAdd,Nat.reduceLT,↓reduceIte,reduceCtorEq]
      refine ⟨hk,aE (Jl (c.kd k) (dG c i) (by omega)) ?_⟩
      have la:(bG (dG c i) (c.kd i)).length≤1000000000:=by rw [jM];omega
      have lb:(bG (dG c i) (c.kd k)).length≤1000000000:=by rw [jM];omega
      have ia:IL (.al 0 (ints (bG (dG c i) (c.kd i)))) (bG (dG c i) (c.kd i)):=.inr rfl
      have ib:IL (.al 0 (ints (bG (dG c i) (c.kd k)))) (bG (dG c i) (c.kd k)):=.inr rfl
      simp +contextual only [sZ,Nat.reduceEqDiff,Nat.reduceAdd,↓reduceIte,reduceCtorEq]
      refine af (Y4 ia ib la lb (fun x hx y hy=>h2 x (o8.1 hx) y (o8.1 hy)) B5) ?_
      rintro r H3 ⟨n,rfl,hp,Y6,Mj⟩
      have U3:=hU.trans Y6
      have yes:∀ (Hx:List aa),Up c H1 Hx→Du c Hx→n < (bG (dG c i) (c.kd i)).length→(n=(bG (dG c i) (c.kd k)).length∨R c.O (c.tm ((bG (dG c i) (c.kd i)).getD n 0)) (c.tm ((bG (dG c i) (c.kd k)).getD n 0)))→
       bW H1.length [.t 6] [(6,.bool true)] Hx (iS c (Bv c i k) H1):=fun Hx u d hn hx=>eG rfl ⟨fun _=>⟨hl,hs,xK,n,hp,hn,hx⟩,fun _=>rfl⟩ u d
      have no:∀ (Hx:List aa),Up c H1 Hx→Du c Hx→¬ (n < (bG (dG c i) (c.kd i)).length∧(n=(bG (dG c i) (c.kd k)).length∨R c.O (c.tm ((bG (dG c i) (c.kd i)).getD n 0)) (c.tm ((bG (dG c i) (c.kd k)).getD n 0))))→
       bW H1.length [.t 6] [(6,.bool false)] Hx (iS c (Bv c i k) H1):=fun Hx u d hx=>eG rfl ⟨fun h=>by simp at h,fun ⟨_,_,_,m,hm,xH⟩=>absurd (hm.U1 hp ▸ xH) hx⟩ u d
      by_cases h4:(n:Int) < (bG (dG c i) (c.kd i)).length
      ·have d4:decide ((n:Int) < (bG (dG c i) (c.kd i)).length)=true:=decide_eq_true h4
       by_cases h5:(n:Int)=(bG (dG c i) (c.kd k)).length
       ·have d5:decide ((n:Int)=(bG (dG c i) (c.kd k)).length)=true:=decide_eq_true h5
        simp +contextual only [aw,d4,d5,sZ,Nat.reduceEqDiff,↓reduceIte,reduceCtorEq]
        exact yes H3 U3 Mj (by omega) (.inl (by omega))
       ·have hlb:=hp.lb
        simp +contextual only [aw,dK,cK,Int.toNat_natCast,h4,h5,decide_true,decide_false,sZ,Nat.reduceEqDiff,Nat.reduceAdd,↓reduceIte,reduceCtorEq]
        refine ⟨by omega,⟨by omega,by omega⟩,af (h3 _ (o8.1 (aP (by omega))) _ (o8.1 (aP (by omega))) H3 Mj) ?_⟩
        rintro r H4 ⟨b,rfl,hb,V4,V5⟩
        cases b with
        | true=>
          simp +contextual only [sZ,Nat.reduceEqDiff,↓reduceIte,reduceCtorEq]
          exact yes H4 (U3.trans V4) V5 (by omega) (.inr (hb.1 rfl))
        | false=>
          simp +contextual only [sZ,Nat.reduceEqDiff,↓reduceIte,reduceCtorEq]
          refine no H4 (U3.trans V4) V5 fun ⟨_,hx⟩=>?_
          rcases hx with hx | hx
          ·omega
          ·exact absurd (hb.2 hx) (by simp)
      ·simp +contextual only [aw,h4,decide_false,sZ,Nat.reduceEqDiff,↓reduceIte,reduceCtorEq]
       exact no H3 U3 Mj fun ⟨hx,_⟩=>by omega
end Go.aL
end
section
set_option maxRecDepth 100000
namespace Go.aL
open Go Go.Proofs Go.fN
theorem DR (n:Int) (h:0≤n∧n < 18446744073709551616):IntKind.u64.wrap n=n:=by
 have:IntKind.u64.bits=64:=rfl
 have:IntKind.u64.signed=false:=rfl
 simp only [IntKind.wrap, *]
 have e:n % 2 ^ 64=n:=Int.emod_eq_of_lt h.1 (by omega)
 rw [e]
 simp
theorem U2 {n:Nat} (h:n < 4294967296) (φ:AV→Prop):dg .and (.int .u64 (n:Int)) (.int .u64 4294967295) φ=φ (.int .u64 (n:Int)):=by
 have e:(BitVec.ofInt IntKind.u64.bits (n:Int) &&& BitVec.ofInt IntKind.u64.bits 4294967295).toNat=n:=by
  show (BitVec.ofInt 64 (n:Int) &&& BitVec.ofInt 64 4294967295).toNat=n
  rw [BitVec.toNat_and]
  have e1:(BitVec.ofInt 64 (n:Int)).toNat=n:=by rw [BitVec.toNat_ofInt];omega
  have e2:(BitVec.ofInt 64 4294967295).toNat=2 ^ 32 - 1:=rfl
  rw [e1,e2,Nat.and_two_pow_sub_one_eq_mod,Nat.mod_eq_of_lt h]
 simp only [dg,e,true_and]
 rw [DR _ (by omega)]
theorem U4 {n:Nat} (h:n < 4294967296) (φ:AV→Prop):dZ .shr (.int .u64 (n:Int)) (.int .u64 32) φ=φ (.int .u64 0):=by
 have e:Int.fdiv (n:Int) (2 ^ min (32:Int).toNat IntKind.u64.bits)=0:=by
  show Int.fdiv (n:Int) (2 ^ 32)=0
  rw [Int.fdiv_eq_ediv_of_nonneg _ (by decide)]
  omega
 simp only [dZ,e]
 simp
theorem acm {n:Nat} (h:n < 4294967296):Pure Tryz.prog 213 [.int .u64 1,.int .u64 (n:Int)] (.tuple [.int .u64 0,.int .u64 (n:Int)]):=by
 refine fun H=>X7.2.calls rfl ?_
 simp only [X7,aF]
 have a1:∀ φ:AV→Prop,dg .and (.int .u64 1) (.int .u64 4294967295) φ=φ (.int .u64 1):=fun φ=>U2 (n:=1) (by decide) φ
 have s1:∀ φ:AV→Prop,dZ .shr (.int .u64 1) (.int .u64 32) φ=φ (.int .u64 0):=fun φ=>U4 (n:=1) (by decide) φ
 have a0:∀ φ:AV→Prop,dg .and (.int .u64 0) (.int .u64 4294967295) φ=φ (.int .u64 0):=fun φ=>U2 (n:=0) (by decide) φ
 have s0:∀ φ:AV→Prop,dZ .shr (.int .u64 0) (.int .u64 32) φ=φ (.int .u64 0):=fun φ=>U4 (n:=0) (by decide) φ
 have w1:IntKind.u64.wrap (1 * (n:Int))=n:=by rw [Int.one_mul];exact DR _ (by omega)
 have w0:IntKind.u64.wrap 0=0:=DR _ (by omega)
 simp +contextual only [a1,s1,a0,s0,U2 h,U4 h,w1,w0,Int.zero_mul,Int.mul_zero,Int.add_zero,sZ,Nat.reduceEqDiff,Nat.reduceAdd,↓reduceIte,reduceCtorEq]
 have:=wH (H:=H) (e:=[]) (s:=4) (s':=5) (v:=.int .u64 0) (v':=.int .u64 (n:Int)) (by decide) rfl rfl rfl rfl
 rwa [List.append_nil] at this
theorem acn {n:Nat} (h:n < 4294967296):Pure Tryz.prog 174 [.int .u64 1,.int .u64 (n:Int)] (.tuple [.int .u64 0,.int .u64 (n:Int)]):=by
 refine fun H=>XM.2.calls rfl ?_
 simp only [XM,aF]
 simp +contextual only [sZ,Nat.reduceEqDiff,Nat.reduceAdd,↓reduceIte,reduceCtorEq]
 refine ae (acm h) ?_
 simp +contextual only [sZ,Nat.reduceEqDiff,Nat.reduceAdd,Nat.reduceLT,↓reduceIte,reduceCtorEq]
 have:=wH (H:=H) (e:=[]) (s:=4) (s':=5) (v:=.int .u64 0) (v':=.int .u64 (n:Int)) (by decide) rfl rfl rfl rfl
 rwa [List.append_nil] at this
def cW (l:List Int):aa:=.cells (ints l)
def dT (i n:Nat) (x:Int):List Int:=List.replicate i x++List.replicate (n - i) 0
theorem mkI (n:Nat) (H:List aa) (K:AV→List aa→Prop) (h:n≤1000000000):gv 1 8 (.int .i64 0) (.int .i64 (n:Int)) H K=K (.bc H.length 0 n n) (H++[cW (dT 0 n 0)]):=by
 have e:flat (List.replicate n (bO (.int .i64 0)))=ints (dT 0 n 0):=by
  rw [← o7];simp [dT,ints,bO]
 simp only [gv,Int.toNat_natCast,e,bb,cW,true_and,eq_iff_iff]
 constructor
 ·rintro ⟨_,_,h⟩;exact h
 ·exact fun k=>⟨by omega,by omega,k⟩
theorem lO (l:List Int) (k:Nat):(ints l).take k=ints (l.take k):=by simp [ints,List.map_take]
theorem sY (l:List Int) (k:Nat):(ints l).drop k=ints (l.drop k):=by simp [ints,List.map_drop]
theorem lP (l m:List Int):ints l++ints m=ints (l++m):=by simp [ints]
theorem vf (l:List Int):(ints l).map AV.ab=ints l:=by simp [ints,AV.ab]
theorem lQ (l:List Int):(ints l).all AV.one=true:=by simp [ints,AV.one]
theorem xa (x:Int) {i m n:Nat} (h:i + m≤n):ag (ints (dT i n x)) i (ints (List.replicate m x))=ints (dT (i + m) n x):=by
 unfold ag
 rw [lO,aw,sY,lP,lP,List.length_replicate]
 congr 1
 unfold dT
 rw [List.take_append_of_le_length (by simp),List.take_of_length_le (by simp),List.drop_append,List.drop_of_length_le (by simp),List.nil_append,List.length_replicate,List.drop_replicate,← List.append_assoc,List.replicate_append_replicate]
 congr 2;omega
theorem Y7 (x:Int) {id n:Nat} {H:List aa} (hg:H[id]?=some (cW (dT 0 n 0))) (K:AV→List aa→Prop) (hK:K (.int .i64 (min 1 n:Nat)) (H.set id (cW (dT (min 1 n) n x)))):jX 1 (.bc id 0 n n) (.al 0 (ints [x])) H K:=by
 have e0:dT 0 n 0=dT 0 n x:=by simp [dT]
 rw [e0] at hg
 have ec:xW 1 (.al 0 (ints [x])) H=some (1,ints [x]):=rfl
 have et:(ints [x]).take (min 1 n * 1)=ints (List.replicate (min 1 n) x):=by
  rcases Nat.eq_zero_or_pos n with rfl | h
  ·rfl
  ·rw [show min 1 n=1 by omega];rfl
 have:=xa x (i:=0) (m:=min 1 n) (n:=n) (by omega)
 rw [Nat.zero_add] at this
 simp only [jX,ec,hg,cW,et,vf,lQ,bb,this,aw]
 exact ⟨trivial,by simp [dT];omega,trivial,hK⟩
theorem Y8 (x:Int) {id i n:Nat} (h0:0 < i) (h1:i < n) {H:List aa} (hg:H[id]?=some (cW (dT i n x))) (K:AV→List aa→Prop) (hK:K (.int .i64 (min i (n - i):Nat)) (H.set id (cW (dT (i + min i (n - i)) n x)))):jX 1 (.bc id i (n - i) (n - i)) (.bc id 0 i n) H K:=by
 have hl:(dT i n x).length=n:=by simp [dT];omega
 have ec:xW 1 (.bc id 0 i n) H=some (i,ints (dT i n x)):=by
  simp only [xW,hg,cW,aw,hl,List.drop_zero]
  rw [if_pos (by omega)]
 have et:(ints (dT i n x)).take (min i (n - i) * 1)=ints (List.replicate (min i (n - i)) x):=by
  rw [Nat.mul_one,lO]
  congr 1
  unfold dT
  rw [List.take_append_of_le_length (by simp;omega),List.take_replicate]
  congr 1;omega
 have:=xa x (i:=i) (m:=min i (n - i)) (n:=n) (by omega)
 simp only [jX,ec,hg,cW,et,vf,lQ,bb,this,aw,hl]
 exact ⟨trivial,by omega,trivial,hK⟩
theorem slA {id i n:Nat} (h:i < n) (φ:AV→Prop):bm 1 (.bc id 0 n n) (some (.int .i64 (i:Int))) none none φ=φ (.bc id i (n - i) (n - i)):=by
 simp only [bm,gQ,dQ,Int.toNat_natCast,eq_iff_iff]
 rw [if_neg (by omega)]
 constructor
 ·intro h;simpa using h.2.2.2
 ·intro k;exact ⟨by omega,by omega,Nat.le_refl _,by simpa using k⟩
theorem slB {id i n:Nat} (h:i < n) (φ:AV→Prop):bm 1 (.bc id 0 n n) none (some (.int .i64 (i:Int))) none φ=φ (.bc id 0 i n):=by
 simp only [bm,gQ,dQ,Int.toNat_natCast,eq_iff_iff]
 rw [if_neg (by omega)]
 constructor
 ·intro h;simpa using h.2.2.2
 ·intro k;exact ⟨by omega,by omega,by omega,by simpa using k⟩
theorem U5 (o:Nat) (x:Int) (n:Nat) (hn:n≤1000000000) (H:List aa):aq Tryz.prog 113 [.al o (ints [x]),.int .i64 (n:Int)] H fun r H'=>r=.bc H.length 0 n n∧H'=H++[cW (List.replicate n x)]:=by
 refine Xf.2.calls rfl ?_
 simp only [Xf,aF]
 have w1:IntKind.u64.wrap 1=1:=DR _ (by omega)
 have w2:IntKind.u64.wrap (n:Int)=n:=DR _ (by omega)
 have w3:IntKind.i64.wrap (n:Int)=n:=dL _ (by omega)
 have e1:(ints [x]).length=1:=rfl
 have nn:decide ((n:Int) < 0)=false:=decide_eq_false (by omega)
 have ng:decide ((9223372036854775807:Int) < n)=false:=decide_eq_false (by omega)
 have z0:decide ((0:Int) < 0)=false:=rfl
 have ci:∀ (k k':IntKind) (n:Int) (φ:AV→Prop),cF k (.int k' n) φ=φ (.int k (k.wrap n)):=fun _ _ _ _=>rfl
 simp +contextual only [e1,w2,ci,nn,sZ,Nat.reduceEqDiff,Nat.reduceAdd,Nat.reduceLT,↓reduceIte,reduceCtorEq]
 refine ae (acn (n:=n) (by omega)) ?_
 simp +contextual only [w3,ci,ng,mkI n _ _ hn,sZ,Nat.reduceEqDiff,Nat.reduceAdd,Nat.reduceLT,↓reduceIte,reduceCtorEq,Int.reduceLT]
 have g0:(H++[cW (dT 0 n 0)])[H.length]?=some (cW (dT 0 n 0)):=by simp
 refine Y7 x g0 _ ?_
 simp +contextual only [sZ,Nat.reduceEqDiff,↓reduceIte,reduceCtorEq]
 have es:∀ i j,(H++[cW (dT i n x)]).set H.length (cW (dT j n x))=H++[cW (dT j n x)]:=by intro i j;simp
 refine KW Nat (fun i=>i≤n∧(0 < n→0 < i)) (fun i=>[(7,.bc H.length 0 n n),(8,.int .i64 i)]) (fun i=>H++[cW (dT i n x)]) (fun i=>n - i) (min 1 n) ⟨by omega,by omega⟩ (aC rfl ?_) ?_
 ·simp
 ·intro i hI
  have gi:(H++[cW (dT i n x)])[H.length]?=some (cW (dT i n x)):=by simp
  by_cases aK:(i:Int) < n
  ·have Ke:i < n:=by omega
   simp +contextual only [aK,decide_true,Option.map_some,Option.map_none,slA Ke,slB Ke,sZ,Nat.reduceEqDiff,↓reduceIte]
   refine Y8 x (by omega) Ke gi _ ?_
   simp +contextual only [es,sZ,Nat.reduceEqDiff,↓reduceIte]
   refine ⟨i + min i (n - i),⟨by omega,by omega⟩,by omega,aC ?_ rfl⟩
   rw [dL _ (by omega)]
   rw [Int.natCast_add]
  ·have e:i=n:=by omega
   subst e
   simp +contextual only [aK,decide_false,sZ,Nat.reduceEqDiff,↓reduceIte,reduceCtorEq]
   have e3:dT i i x=List.replicate i x:=by simp [dT]
   rw [e3]
   refine aX (H.length + 1) (by omega) (by rw [ay,if_pos rfl,gU];simp) ?_
   rw [ay,if_pos rfl,List.take_of_length_le (by simp)]
   exact ⟨rfl,rfl⟩
end Go.aL
end
section
set_option maxRecDepth 100000
namespace Go.aL
open Go Go.Proofs Go.fN
def pF (l:List Bool):List AV:=l.map .bool
def s5 (l:List Bool):aa:=.cells (pF l)
theorem s6 (l:List Bool):(pF l).length=l.length:=by simp [pF]
def below (n:Nat) (p:Nat→Bool):List Int:=((List.range n).filter p).map Int.ofNat
theorem xb (n:Nat) (p:Nat→Bool):below (n + 1) p=if p n=true then below n p++[(n:Int)] else below n p:=by
 unfold below
 rw [List.range_succ,List.filter_append,List.map_append]
 by_cases h:p n=true
 ·simp [h]
 ·simp [h]
theorem jN (n:Nat) (p:Nat→Bool):(below n p).length≤n:=by
 unfold below
 rw [List.length_map]
 have:=List.length_filter_le p (List.range n)
 simpa using this
theorem gH {n:Nat} {p:Nat→Bool} {x:Int}:x∈below n p↔∃ j:Nat,x=j∧j < n∧p j=true:=by
 unfold below
 simp only [List.mem_map,List.mem_filter,List.mem_range]
 constructor
 ·rintro ⟨j,h,rfl⟩;exact ⟨j,rfl,h⟩
 ·rintro ⟨j,rfl,h⟩;exact ⟨j,h,rfl⟩
structure Pr (Q:Int→Int→Prop) (a b:List Int) (k:Nat) (us:List Bool) (to:List Int):Prop where
 lu:us.length=a.length
 lt:to.length=b.length
 rest:∀ j,k≤j→j < b.length→to.getD j 0=-1
 t1:∀ j,j < k→to.getD j 0=-1∨∃ i:Nat,to.getD j 0=i∧i < a.length∧us.getD i false=true∧Q (a.getD i 0) (b.getD j 0)
 inj:∀ j j',j < k→j' < k→to.getD j 0=to.getD j' 0→to.getD j 0≠-1→j=j'
 uu:∀ i,i < a.length→us.getD i false=true→∃ j,j < k∧to.getD j 0=i
 free:∀ j,j < k→to.getD j 0=-1→∀ i,i < a.length→us.getD i false=false→¬ Q (a.getD i 0) (b.getD j 0)
theorem Jm {l:List Bool} {i j:Nat} {x:Bool} (hi:i < l.length):(l.set i x).getD j false=if j=i then x else l.getD j false:=by
 simp only [List.getD_eq_getElem?_getD,List.getElem?_set]
 by_cases h:i=j
 ·subst h;simp [hi]
 ·rw [if_neg h,if_neg (fun e=>h e.symm)]
theorem Pr.start {Q:Int→Int→Prop} {a b:List Int}:Pr Q a b 0 (List.replicate a.length false) (List.replicate b.length (-1)):=
 ⟨by simp,by simp,fun j _ hj=>by simp [hj],fun j h=>by omega,fun j j' h=>by omega,fun i hi h=>by simp [hi] at h,fun j h=>by omega⟩
theorem Pr.pair {Q:Int→Int→Prop} {a b:List Int} {k i:Nat} {us:List Bool} {to:List Int} (h:Pr Q a b k us to) (hk:k < b.length) (hi:i < a.length) (hu:us.getD i false=false) (hq:Q (a.getD i 0) (b.getD k 0)) :
 Pr Q a b (k + 1) (us.set i true) (to.set k i):=by
 have hl:=h.lt
 have nE:=h.lu
 have gt:∀ j,(to.set k (i:Int)).getD j 0=if j=k then (i:Int) else to.getD j 0:=fun j=>lN (by omega)
 have gu:∀ j,(us.set i true).getD j false=if j=i then true else us.getD j false:=fun j=>Jm (by omega)
 refine ⟨by simp [nE],by simp [hl],fun j h1 h2=>?_,fun j hj=>?_,fun j j' hj vg he hn=>?_,fun i' me HT=>?_,fun j hj hn i' me HT=>?_⟩
 ·rw [gt,if_neg (by omega)];exact h.rest j (by omega) h2
 ·rw [gt]
  by_cases e:j=k
  ·subst e;rw [if_pos rfl];exact .inr ⟨i,rfl,hi,by rw [gu,if_pos rfl],hq⟩
  ·rw [if_neg e]
   rcases h.t1 j (by omega) with h1 | ⟨i',h1,h2,h3,h4⟩
   ·exact .inl h1
   ·exact .inr ⟨i',h1,h2,by rw [gu];split;rfl;exact h3,h4⟩
 ·rw [gt] at he hn
  rw [gt] at he
  by_cases e:j=k
  ·by_cases e':j'=k
   ·omega
   ·rw [if_pos e,if_neg e'] at he
    rcases h.t1 j' (by omega) with h1 | ⟨i',h1,h2,h3,h4⟩
    ·omega
    ·have:i'=i:=by omega
     subst this;rw [hu] at h3;cases h3
  ·rw [if_neg e] at he hn
   by_cases e':j'=k
   ·rw [if_pos e'] at he
    rcases h.t1 j (by omega) with h1 | ⟨i',h1,h2,h3,h4⟩
    ·omega
    ·have:i'=i:=by omega
     subst this;rw [hu] at h3;cases h3
   ·rw [if_neg e'] at he
    exact h.inj j j' (by omega) (by omega) he hn
 ·rw [gu] at HT
  by_cases e:i'=i
  ·subst e;exact ⟨k,by omega,by rw [gt,if_pos rfl]⟩
  ·rw [if_neg e] at HT
   obtain ⟨j,h1,h2⟩:=h.uu i' me HT
   exact ⟨j,by omega,by rw [gt,if_neg (by omega)];exact h2⟩
 ·rw [gt] at hn
  rw [gu] at HT
  by_cases e:j=k
  ·rw [if_pos e] at hn;omega
  ·rw [if_neg e] at hn
   by_cases e':i'=i
   ·rw [if_pos e'] at HT;cases HT
   ·rw [if_neg e'] at HT
    exact h.free j (by omega) hn i' me HT
theorem Pr.eO {Q:Int→Int→Prop} {a b:List Int} {k:Nat} {us:List Bool} {to:List Int} (h:Pr Q a b k us to) (hk:k < b.length) (hq:∀ i,i < a.length→us.getD i false=false→¬ Q (a.getD i 0) (b.getD k 0)):Pr Q a b (k + 1) us to:=by
 have hr:=h.rest k (Nat.le_refl _) hk
 refine ⟨h.lu,h.lt,fun j h1 h2=>h.rest j (by omega) h2,fun j hj=>?_,fun j j' hj vg he hn=>?_,fun i hi hu=>?_,fun j hj hn i hi hu=>?_⟩
 ·by_cases e:j=k
  ·subst e;exact .inl hr
  ·exact h.t1 j (by omega)
 ·have h1:j≠k:=fun e=>by subst e;exact hn hr
  have h2:j'≠k:=fun e=>by subst e;exact hn (he.trans hr)
  exact h.inj j j' (by omega) (by omega) he hn
 ·obtain ⟨j,h1,h2⟩:=h.uu i hi hu;exact ⟨j,by omega,h2⟩
 ·by_cases e:j=k
  ·subst e;exact hq i hi hu
  ·exact h.free j (by omega) hn i hi hu
def Y9 (c:Cx) (a b:List Int) (H:List aa) (r:AV) (H':List aa):Prop:=
 ∃ us to,Pr (fun x y=>E c.O (c.tm x) (c.tm y)) a b b.length us to∧r=.tuple [bu (below a.length fun i=>!us.getD i false),bu (below b.length fun j=>decide (to.getD j 0 < 0)),.al 0 (ints to)]∧Up c H H'∧Du c H'
theorem mkB (n:Nat) (H:List aa) (K:AV→List aa→Prop) (h:n≤1000000000):gv 1 1 (.bool false) (.int .i64 (n:Int)) H K=K (.bc H.length 0 n n) (H++[s5 (List.replicate n false)]):=by
 have e:flat (List.replicate n (bO (.bool false)))=pF (List.replicate n false):=by
  induction n with
  | zero=>rfl
  | succ n ih=>rw [List.replicate_succ,List.replicate_succ];exact congrArg (AV.bool false::·) (ih (by omega))
 have eb:∀ m,aj m (pF (List.replicate n false))=true:=fun m=>(a8 _ _).2 fun x hx=>by
  obtain ⟨y,_,rfl⟩:=List.mem_map.1 hx;rfl
 simp only [gv,Int.toNat_natCast,e,eb,s5,true_and,eq_iff_iff]
 constructor
 ·rintro ⟨_,_,h⟩;exact h
 ·exact fun k=>⟨by omega,by omega,k⟩
theorem DS {n:Nat} {p q:Nat→Bool} (h:∀ j,j < n→p j=q j):below n p=below n q:=by
 unfold below
 congr 1
 apply List.filter_congr
 intro j hj
 exact h j (List.mem_range.1 hj)
structure PS (c:Cx) (H:List aa) (us:List Bool) (to:List Int) (G:List aa):Prop where
 du:Du c G
 up:Up c (H++[s5 us,cW to]) G
theorem PS.u {c:Cx} {H:List aa} {us:List Bool} {to:List Int} {G:List aa} (hD:Du c H) (h:PS c H us to G):G[H.length]?=some (s5 us):=by
 obtain ⟨l1,l2,l3⟩:=hD.lt
 rw [h.up.get _ (by omega) (by omega)];simp
theorem PS.t {c:Cx} {H:List aa} {us:List Bool} {to:List Int} {G:List aa} (hD:Du c H) (h:PS c H us to G):G[H.length + 1]?=some (cW to):=by
 obtain ⟨l1,l2,l3⟩:=hD.lt
 rw [h.up.get _ (by omega) (by omega)];simp
theorem PS.call {c:Cx} {H:List aa} {us:List Bool} {to:List Int} {G G':List aa} (h:PS c H us to G) (hU:Up c G G') (hD:Du c G'):PS c H us to G':=⟨hD,h.up.trans hU⟩
theorem PS.len {c:Cx} {H:List aa} {us:List Bool} {to:List Int} {G:List aa} (h:PS c H us to G):G.length=H.length + 2:=by have:=h.up.len;simpa using this
theorem PS.aco {c:Cx} {H:List aa} {us us':List Bool} {to:List Int} {G:List aa} (hD:Du c H) (h:PS c H us to G):PS c H us' to (G.set H.length (s5 us')):=by
 obtain ⟨l1,l2,l3⟩:=hD.lt
 have hl:=h.len
 refine ⟨h.du.set (by omega) (by omega) (by omega),by simp [hl],fun j h1 h2=>?_⟩
 rw [List.getElem?_set]
 by_cases e:H.length=j
 ·subst e;rw [if_pos rfl,if_pos (by omega)];simp
 ·rw [if_neg e,h.up.get j h1 h2]
  by_cases e2:j < H.length
  ·rw [List.getElem?_append_left e2,List.getElem?_append_left e2]
  ·rw [List.getElem?_append_right (by omega),List.getElem?_append_right (by omega)]
   obtain ⟨m,rfl⟩:∃ m,j=H.length + (m + 1):=⟨j - H.length - 1,by omega⟩
   simp
theorem PS.acp {c:Cx} {H:List aa} {us:List Bool} {to to':List Int} {G:List aa} (hD:Du c H) (h:PS c H us to G):PS c H us to' (G.set (H.length + 1) (cW to')):=by
 obtain ⟨l1,l2,l3⟩:=hD.lt
 have hl:=h.len
 refine ⟨h.du.set (by omega) (by omega) (by omega),by simp [hl],fun j h1 h2=>?_⟩
 rw [List.getElem?_set]
 by_cases e:H.length + 1=j
 ·subst e;rw [if_pos rfl,if_pos (by omega)];simp
 ·rw [if_neg e,h.up.get j h1 h2]
  by_cases e2:j < H.length
  ·rw [List.getElem?_append_left e2,List.getElem?_append_left e2]
  ·rw [List.getElem?_append_right (by omega),List.getElem?_append_right (by omega)]
   obtain ⟨m,rfl⟩:∃ m,j=H.length + m:=⟨j - H.length,by omega⟩
   rcases m with _ | m
   ·simp
   ·rcases m with _ | m
    ·omega
    ·simp
theorem ldB {us:List Bool} {i:Nat} (h:i < us.length) (φ:AV→Prop):dm (some (s5 us)) none (i * 1) φ=φ (.bool (us.getD i false)):=by
 have e:(pF us).getD (i * 1) .any=.bool (us.getD i false):=by
  rw [Nat.mul_one];simp [pF,h]
 simp only [s5,dm,e,oU,s6,eq_iff_iff]
 constructor
 ·exact fun h=>h.2
 ·exact fun h2=>⟨by omega,h2⟩
theorem Bw {l:List Int} {i:Nat} (h:i < l.length) (φ:AV→Prop):dm (some (cW l)) none (i * 1) φ=φ (.int .i64 (l.getD i 0)):=by
 have e:(ints l).getD (i * 1) .any=.int .i64 (l.getD i 0):=by
  rw [Nat.mul_one];simp [ints,h]
 simp only [cW,dm,e,oe,aw,eq_iff_iff]
 constructor
 ·exact fun h=>h.2
 ·exact fun h2=>⟨by omega,h2⟩
theorem stB {us:List Bool} {i:Nat} (h:i < us.length) (x:Bool) (id:Nat) (H:List aa) (K:List aa→Prop):gB (some (s5 us)) 1 id (i * 1) (.bool x) H K=K (H.set id (s5 (us.set i x))):=by
 have e:ag (pF us) (i * 1) [AV.bool x]=pF (us.set i x):=by
  rw [Nat.mul_one,oo _ _ _ (by rw [s6];exact h)];simp [pF,List.map_set]
 have e2:(AV.bool x).cells.map AV.ab=[.bool x]:=rfl
 simp only [s5,gB,e2,e,s6,eq_iff_iff]
 constructor
 ·exact fun h=>h.2.2.2.2.2
 ·exact fun h2=>⟨rfl,rfl,by omega,rfl,rfl,h2⟩
theorem Mk {l:List Int} {i:Nat} (h:i < l.length) (x:Int) (id:Nat) (H:List aa) (K:List aa→Prop):gB (some (cW l)) 1 id (i * 1) (.int .i64 x) H K=K (H.set id (cW (l.set i x))):=by
 have e:ag (ints l) (i * 1) [AV.int .i64 x]=ints (l.set i x):=by
  rw [Nat.mul_one,oo _ _ _ (by rw [aw];exact h)];simp [ints,List.map_set]
 have e2:(AV.int .i64 x).cells.map AV.ab=[.int .i64 x]:=rfl
 simp only [cW,gB,e2,e,aw,eq_iff_iff]
 constructor
 ·exact fun h=>h.2.2.2.2.2
 ·exact fun h2=>⟨rfl,rfl,by omega,rfl,rfl,h2⟩
theorem DU {id:Nat} {l:List Int} {H:List aa} (h:H[id]?=some (cW l)) {K:AV→List aa→Prop} (hK:K (.al 0 (ints l)) (H.set id .dead)):dn 1 (.bc id 0 l.length l.length) H K:=by
 have hc:∀ (l:List Int),chunks 1 l.length (ints l)=ints l:=by
  intro l
  induction l with
  | nil=>rfl
  | cons x q ih=>exact congrArg (AV.int .i64 x::·) ih
 simp only [dn,h,cW,List.drop_zero,hc,lQ]
 exact ⟨by omega,Nat.le_refl _,by simp [aw],trivial,hK⟩
theorem Ml {id n:Nat} {l:List Int} {H:List aa} (h:H[id]?=some (cW l)) (hn:l.length=n) {K:AV→List aa→Prop} (hK:K (.al 0 (ints l)) (H.set id .dead)):fF 1 (.bc id 0 n n) H K:=by
 subst hn;exact DU h hK
theorem U6 {c:Cx} {a b:List Int} {va vb:AV} (ha:IL va a) (hb:IL vb b) (la:a.length≤1000000000) (lb:b.length≤1000000000) (h:∀ x∈a,∀ y∈b,kM c x y) {H:List aa} (hD:Du c H) :
 aq Tryz.prog 139 [.ptr c.d 0,va,vb] H (Y9 c a b H):=by
 refine RM.2.calls rfl ?_
 simp only [RM,aF]
 obtain ⟨a1,a2,a3,a4⟩:=ha.one
 obtain ⟨b1,b2,b3,b4⟩:=hb.one
 simp +contextual only [a2,b2,ha.aN,hb.aN,ha.len (by omega),hb.len (by omega),mkB _ _ _ la,sZ,Nat.reduceEqDiff,Nat.reduceAdd,↓reduceIte,reduceCtorEq]
 refine af (U5 0 (-1) b.length lb _) ?_
 rintro r G0 ⟨rfl,rfl⟩
 have el:(H++[s5 (List.replicate a.length false)]).length=H.length + 1:=by simp
 rw [el]
 simp +contextual only [b2,hb.aN,hb.len (by omega),sZ,Nat.reduceEqDiff,↓reduceIte,reduceCtorEq]
 have ps0:PS c H (List.replicate a.length false) (List.replicate b.length (-1)) (H++[s5 (List.replicate a.length false),cW (List.replicate b.length (-1))]):=⟨hD.rp _,Up.refl c _⟩
 generalize H++[s5 (List.replicate a.length false),cW (List.replicate b.length (-1))]=G0 at ps0 ⊢
 refine aJ b.length (fun k (p:List aa×List Bool×List Int)=>PS c H p.2.1 p.2.2 p.1∧Pr (fun x y=>E c.O (c.tm x) (c.tm y)) a b k p.2.1 p.2.2)
  (fun k p=>[(0,.ptr c.d 0),(1,va),(9,.bc H.length 0 a.length a.length),(10,.bc (H.length + 1) 0 b.length b.length),(11,.ah),(12,iI (below k fun j=>decide (p.2.2.getD j 0 < 0))),(26,vb),(27,.int .i64 b.length),(28,.int .i64 k)])
  (fun k p=>p.1) (G0,List.replicate a.length false,List.replicate b.length (-1)) ⟨⟨ps0,Pr.start⟩,aA _ _ _⟩ fun k p hk hI=>?_
 obtain ⟨G,us,to⟩:=p
 obtain ⟨pO,Bx⟩:=hI
 simp only at pO Bx
 simp +contextual only [a2,ha.aN,hb.lens,hb.idx,Int.toNat_natCast,ha.len (by omega),sZ,Nat.reduceEqDiff,↓reduceIte,reduceCtorEq]
 refine ⟨fun aK=>⟨by omega,?_⟩,fun gr=>?_⟩
 ·have aK:=bi aK
  refine lH (Q1:=fun x e G'=>x=.exit 2∧∃ us' to',PS c H us' to' G'∧Pr (fun x y=>E c.O (c.tm x) (c.tm y)) a b (k + 1) us' to'∧(∀ j,j < k→to'.getD j 0=to.getD j 0)∧
   get e 0=.ptr c.d 0∧get e 1=va∧get e 9=.bc H.length 0 a.length a.length∧get e 10=.bc (H.length + 1) 0 b.length b.length∧get e 11=.ah∧get e 12=iI (below k fun j=>decide (to.getD j 0 < 0))∧get e 13=.int .i64 (k:Int)∧get e 26=vb∧get e 27=.int .i64 (b.length:Int)∧get e 28=.int .i64 (k:Int)) ?_ ?_
  ·refine aJ a.length (fun i (G':List aa)=>PS c H us to G'∧∀ i',i' < i→us.getD i' false=false→¬ E c.O (c.tm (a.getD i' 0)) (c.tm (b.getD k 0)))
    (fun i G'=>[(0,.ptr c.d 0),(1,va),(9,.bc H.length 0 a.length a.length),(10,.bc (H.length + 1) 0 b.length b.length),(11,.ah),(12,iI (below k fun j=>decide (to.getD j 0 < 0))),(13,.int .i64 (k:Int)),(14,.int .i64 (b.getD k 0)),(26,vb),(27,.int .i64 b.length),(28,.int .i64 k),(33,va),(34,.int .i64 a.length),(35,.int .i64 i)])
    (fun i G'=>G') G ⟨⟨pO,fun i' me=>by omega⟩,aA _ _ _⟩ fun i G' hi hI=>?_
   obtain ⟨By,jW⟩:=hI
   have hlu:=Bx.lu
   have nt:=Bx.lt
   have gu:=By.u hD
   by_cases NF:(i:Int) < a.length
   ·have Za:i < a.length:=by omega
    have V6:i < us.length:=by omega
    cases hu:us.getD i false with
    | true=>
      simp +contextual only [NF,decide_true,ha.lens,ha.idx,Int.toNat_natCast,lj,gu,ldB V6,hu,Bool.not_true,sZ,Nat.reduceEqDiff,↓reduceIte,reduceCtorEq]
      refine ⟨by omega,by omega,⟨i + 1,G',⟨by omega,By,fun i' me h0=>?_⟩,by omega,aC (by rw [au i (by omega)]) rfl⟩⟩
      by_cases e:i'=i
      ·subst e;rw [hu] at h0;cases h0
      ·exact jW i' (by omega) h0
    | false=>
      simp +contextual only [NF,decide_true,ha.lens,ha.idx,Int.toNat_natCast,lj,gu,ldB V6,hu,Bool.not_false,sZ,Nat.reduceEqDiff,Nat.reduceAdd,↓reduceIte,reduceCtorEq]
      refine ⟨by omega,by omega,?_⟩
      refine af (h _ (aP Za) _ (aP aK) G' By.du) ?_
      rintro r G2 ⟨x,rfl,hx,hU,B5⟩
      have ps2:=By.call hU B5
      cases x with
      | false=>
        simp +contextual only [sZ,Nat.reduceEqDiff,↓reduceIte,reduceCtorEq]
        refine ⟨i + 1,G2,⟨by omega,ps2,fun i' me h0=>?_⟩,by omega,aC (by rw [au i (by omega)]) rfl⟩
        by_cases e:i'=i
        ·subst e;exact fun hh=>absurd (hx.2 hh) (by simp)
        ·exact jW i' (by omega) h0
      | true=>
        have gu2:=ps2.u hD
        have ps3:=ps2.aco (us':=us.set i true) hD
        have gt3:=ps3.t hD
        have H9:k < to.length:=by omega
        simp +contextual only [lj,gu2,gt3,stB V6,Mk H9,sZ,Nat.reduceEqDiff,↓reduceIte,reduceCtorEq]
        refine ⟨by omega,by omega,us.set i true,to.set k i,ps3.acp hD,Bx.pair aK Za hu (hx.1 rfl),fun j hj=>?_⟩
        rw [lN H9,if_neg (by omega)]
   ·simp +contextual only [NF,decide_false,sZ,Nat.reduceEqDiff,↓reduceIte,reduceCtorEq]
    exact ⟨us,to,By,Bx.eO aK fun i' me h0=>jW i' (by omega) h0,fun _ _=>rfl⟩
  ·rintro x e G' ⟨rfl,us',to',By,Qj,hsame,e0,e1,e9,e10,e11,e12,e13,e26,e27,e28⟩
   have hlu:=Qj.lu
   have nt:=Qj.lt
   have gt:=By.t hD
   have H9:k < to'.length:=by omega
   have ebl:(below k fun j=>decide (to'.getD j 0 < 0))=below k fun j=>decide (to.getD j 0 < 0):=DS fun j hj=>by rw [hsame j hj]
   have ebs:=xb k fun j=>decide (to'.getD j 0 < 0)
   have ebn:=jN k fun j=>decide (to.getD j 0 < 0)
   by_cases xU:to'.getD k 0 < 0
   ·rw [if_pos (by simpa using xU),ebl] at ebs
    simp +contextual only [e0,e1,e9,e10,e11,e12,e13,e26,e27,e28,lj,gt,Bw H9,xU,decide_true,(fo _).2.1,sT,jK,sZ,Nat.reduceEqDiff,Nat.reduceAdd,↓reduceIte,reduceCtorEq]
    refine ⟨by omega,by omega,k + 1,(G',us',to'),⟨aK,By,Qj⟩,by omega,aC (by rw [au k (by omega),ebs]) rfl⟩
   ·rw [if_neg (by simpa using xU),ebl] at ebs
    simp +contextual only [e0,e1,e9,e10,e11,e12,e13,e26,e27,e28,lj,gt,Bw H9,xU,decide_false,sZ,Nat.reduceEqDiff,↓reduceIte,reduceCtorEq]
    refine ⟨by omega,k + 1,(G',us',to'),⟨aK,By,Qj⟩,by omega,aC (by rw [au k (by omega),ebs]) rfl⟩
 ·have hkk:k=b.length:=by omega
  subst hkk
  have hlu:=Bx.lu
  have nt:=Bx.lt
  have gu:=pO.u hD
  have gt:=pO.t hD
  refine aD a.length (fun i=>True) (fun i=>[(10,.bc (H.length + 1) 0 b.length b.length),(11,iI (below i fun j=>!us.getD j false)),(12,iI (below b.length fun j=>decide (to.getD j 0 < 0))),(69,.bc H.length 0 a.length a.length),(70,.int .i64 a.length),(71,.int .i64 i)])
   (fun i=>G) ⟨trivial,aA _ _ _⟩ fun i hi _=>?_
  have ebs:=xb i fun j=>!us.getD j false
  have ebn:=jN i fun j=>!us.getD j false
  by_cases NF:(i:Int) < a.length
  ·have V6:i < us.length:=by omega
   cases hu:us.getD i false with
   | true=>
     rw [hu,if_neg (by simp)] at ebs
     simp +contextual only [NF,decide_true,lj,gu,ldB V6,hu,Bool.not_true,sZ,Nat.reduceEqDiff,↓reduceIte,reduceCtorEq]
     refine ⟨by omega,i + 1,by omega,by omega,aC (by rw [au i (by omega),ebs]) rfl⟩
   | false=>
     rw [hu,if_pos (by simp)] at ebs
     simp +contextual only [NF,decide_true,lj,gu,ldB V6,hu,Bool.not_false,(fo _).2.1,sT,jK,sZ,Nat.reduceEqDiff,Nat.reduceAdd,↓reduceIte,reduceCtorEq]
     refine ⟨by omega,by omega,i + 1,by omega,by omega,aC (by rw [au i (by omega),ebs]) rfl⟩
  ·have hii:i=a.length:=by omega
   subst hii
   simp +contextual only [NF,decide_false,(fo _).2.1,sZ,Nat.reduceEqDiff,↓reduceIte]
   refine Ml gt nt ?_
   simp +contextual only [(aH _).2.1,sZ,Nat.reduceEqDiff,↓reduceIte,reduceCtorEq]
   obtain ⟨l1,l2,l3⟩:=hD.lt
   refine zM (by decide) rfl ⟨(aH _).2.2.1 _,(aH _).2.2.1 _,?_⟩ (aH _).2.1 (aH _).2.1 rfl ⟨us,to,Bx,rfl,?_,?_⟩
   ·rw [wz,b9];exact bb _ _
   ·rw [List.take_set_of_le (by omega)];exact pO.up.take
   ·rw [List.take_set_of_le (by omega)];exact pO.du.take l1 l2 l3
end Go.aL
end
