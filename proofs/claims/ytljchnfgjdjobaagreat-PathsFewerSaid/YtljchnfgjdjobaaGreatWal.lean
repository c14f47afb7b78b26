/- Part 12 of 18 of the proof. -/
import Derived.Test.YtljchnfgjdjobaaGreatWak
import Derived.Test.YtljchnfgjdjobaaGreatWag
import Derived.KernelRfl
set_option linter.unusedVariables false
set_option linter.unusedSimpArgs false
set_option linter.defProp false
set_option linter.unusedSectionVars false
section
set_option maxRecDepth 100000
namespace Go.aH
open Go Go.Proofs Go.fm
def nV (l:List Nd):AV:=if l=[] then .ah else .ap 0 (eL l)
def gn (ps ss:List Int):AV:=.agg [.ap 0 (ints ps),.ap 0 (ints ss)]
def jV (ps ss:List Int) (l:List Nd) (e g:Nat):aa:=.cells [.ap 0 (ints ps),.ap 0 (ints ss),nV l,.map e,.map g]
theorem bdD (ps ss:List Int) (a b:Nat) (φ:AV→Prop):cu [.ah,.ah,.ah,.iS,.iS] [(0,2,.agg [.ap 0 (ints ps),.ap 0 (ints ss)]),(3,1,.map a),(4,1,.map b)] φ=φ (.agg [.ap 0 (ints ps),.ap 0 (ints ss),.ah,.map a,.map b]):=by
 simp only [cu,gI,eq_iff_iff]
 constructor
 ·rintro ⟨_,_,_,_,_,_,_,_,_,h⟩;exact h
 ·exact fun h=>⟨rfl,rfl,by simp,rfl,rfl,by simp [ag,AV.cells],rfl,rfl,by simp [ag,AV.cells],h⟩
theorem Ow (a b:AV) (H:List aa) (φ:AV→Prop):aR (some 2) (.ai (.agg [a,b])) H φ=φ (.agg [a,b]):=by simp [aR,AV.cells]
theorem CH (id:Nat) (H:List aa) (K:AV→List aa→Prop):eR 3004 (.ptr id 0) H K=zn 4 id 2 H (K (.ptr id 0)):=rfl
def P2 (H:List aa) (ps ss:List Int) (ts:List T) (r:AV) (H':List aa):Prop:=
 r=.tuple [.ptr (H.length + 2) 0,bm (aT ts 0)]∧H'=H++[.map [],.map [],jV ps ss (da ts 0) H.length (H.length + 1)]
theorem ju (l:List T):(eL (da l 0)).length=gW l:=by rw [qQ,gQ]
theorem CJ {l:List Nd} (h:eL l=[]):l=[]:=List.map_eq_nil_iff.1 h
theorem Kt {C:List aa→Nat→List aa→Prop} {n0 a b m:Nat} {env:Env} {H H':List aa} {R:AV→List aa→Prop} {x y:AV} (hm:n0≤m) (hC:C H m H') (hx:(get env a).ab=x) (hy:(get env b).ab=y) (bx:x.aZ m=true) (xH:y.aZ m=true)
 (hR:R (.tuple [x,y]) H'):kZ C n0 [.t a,.t b] env H R:=by
 subst hx;subst hy
 exact ⟨m,H',hm,hC,_,cp _,by show aj m [(get env a).ab,(get env b).ab]=true;rw [bG,bG,cZ,bx,xH];rfl,hR⟩
theorem EO {n0 m:Nat} {G:List aa} (hm:m≤G.length) (hb:∀ (j:Nat) (o:aa),n0≤j→j < m→G[j]?=some o→o=.dead∨o.aZ (j + 1)=true):mQ n0 G m (G.take m):=by
 refine ⟨by simp,fun j o ho=>?_⟩
 rw [List.getElem?_take] at ho
 split at ho
 ·rename_i hj
  by_cases h0:n0≤j
  ·rcases hb j o h0 hj ho with h | h
   ·exact .inl h
   ·exact .inr ⟨ho,fun _=>h⟩
  ·exact .inr ⟨ho,fun h=>by omega⟩
 ·cases ho
theorem v7 (n:Nat) (l:List Nd):aj n (eL l)=true:=
 (ba _ _).2 fun x hx=>by
   obtain ⟨⟨t,ks⟩,_,rfl⟩:=List.mem_map.1 hx
   cases ks with
   | nil=>simp [EL,bm,AV.aZ,dI,aj]
   | cons v r=>simp [EL,bm,AV.aZ,dI,aY,aj]
theorem yC (ps ss:List Int) (l:List Nd) (n:Nat):(jV ps ss l n (n + 1)).aZ (n + 2 + 1)=true:=by
 have h:(nV l).aZ (n + 2 + 1)=true:=by
  unfold nV
  split
  ·rfl
  ·rw [b8]
   exact v7 _ _
 simp only [jV,aa.aZ,bG,cZ,b8,aY,h,JC]
 simp;omega
theorem Wm (ps ss:List Int) (ts:List T) (H:List aa) (hb:gW ts * 64≤140737488355328):aq Tryz.prog 75 [gn ps ss,.ap 0 (bW ts)] H (P2 H ps ss ts):=by
 refine V2.2.Eh rfl ?_
 simp only [V2,aJ,gn]
 have Yj:=iE ts
 simp +contextual only [bdD,Ow,sZ,Nat.reduceEqDiff,Nat.reduceAdd,↓reduceIte,reduceCtorEq]
 refine ⟨by simp;omega,fun _=>?_⟩
 have e0:∀ (l:List aa) (x:aa),(H++x::l)[H.length]?=some x:=by simp
 refine mn ts.length (fun i (p:AV×List aa)=>RO zN (H.length + 3) p.1 (eL (da (ts.take i) 0)) p.2∧H.length + 3≤p.2.length∧
  p.2.take (H.length + 3)=H++[.map [],.map [],.cells [.ap 0 (ints ps),.ap 0 (ints ss),p.1,.map H.length,.map (H.length + 1)]])
  (fun i p=>[(6,.ptr (H.length + 2) 0),(7,jS (aT (ts.take i) 0)),(15,.ap 0 (bW ts)),(16,.int .i64 ts.length),(17,.int .i64 i)])
  (fun i p=>p.2) (.ah,_) ⟨⟨.inl ⟨rfl,rfl⟩,by simp,?_⟩,oD _ _ _⟩ fun i p hi hI=>?_
 ·rw [List.take_of_length_le (by simp)]
 obtain ⟨v,G⟩:=p
 obtain ⟨hR,hl,hG⟩:=hI
 simp only at hR hl hG
 obtain ⟨o1,o2,o3,o4⟩:=hR.one
 have gget:∀ j,j < H.length + 3→G[j]?=(H++[.map [],.map [],.cells [.ap 0 (ints ps),.ap 0 (ints ss),v,.map H.length,.map (H.length + 1)]])[j]?:=by
  intro j hj;rw [← hG,List.getElem?_take,if_pos hj]
 have g2:G[H.length + 2]?=some (.cells [.ap 0 (ints ps),.ap 0 (ints ss),v,.map H.length,.map (H.length + 1)]):=by rw [gget _ (by omega)];simp
 have hle:=dl ts i
 have Bw:=cE (ts.take i) 0
 have SU:(ts.take i).length≤ts.length:=by simp;omega
 simp +contextual only [o3,g2,hR.len,hR.aL,ju,sj,(fg _).2.1,jt,sZ,Nat.reduceEqDiff,Nat.reduceAdd,Nat.reduceLT,↓reduceIte,reduceCtorEq]
 refine ⟨fun aX=>⟨bS aX,by omega,?_⟩,fun jh=>?_⟩
 ·have aX:=bS aX
  have ZH:=nU aX
  have hnext:=dl ts (i + 1)
  have e2:ts.take (i + 1)=ts.take i++[ts.getD i default]:=by rw [List.take_succ_eq_append_getElem aX];simp [aX]
  have hc:=ZG (wt (ts.getD i default)) (ts.getD i default) (Nat.le_refl _) (H.length + 3) v _ G hR (jU _) hl (by rw [ju];omega)
  refine af hc ?_
  rintro r G' ⟨xp,ey,xb⟩
  obtain ⟨o1',o2',o3',o4'⟩:=xp.one
  have g2':G'[H.length + 2]?=some (.cells [.ap 0 (ints ps),.ap 0 (ints ss),v,.map H.length,.map (H.length + 1)]):=by
   have:(G'.take (H.length + 3))[H.length + 2]?=(G.take (H.length + 3))[H.length + 2]?:=by rw [ey]
   rw [List.getElem?_take,List.getElem?_take,if_pos (by omega),if_pos (by omega)] at this
   rw [this,g2]
  have eh:=xp.aZ (Nat.le_refl _)
  simp +contextual only [rY,o1',o2',o3',o4',g2',eh,sZ,Nat.reduceEqDiff,Nat.reduceAdd,Nat.reduceLeDiff,↓reduceIte]
  refine ⟨by omega,i + 1,(r,_),⟨aX,?_,by simp;omega,?_⟩,by omega,Ag ?_ rfl⟩
  ·have h1:=xp.set (j:=H.length + 2) (by omega) (.cells (ag [.ap 0 (ints ps),.ap 0 (ints ss),v,.map H.length,.map (H.length + 1)] 2 [r]))
   rw [ju] at h1
   rw [e2,lh,qP,Nat.zero_add]
   exact h1
  ·rw [List.take_set,ey,hG]
   simp [ag]
  ·rw [e2,iM,ax i (by omega),Nat.zero_add]
 ·have mY:i=ts.length:=by have:=dd jh;omega
  subst mY
  rw [List.take_length] at hR
  have fin:∀ (G':List aa),G'.length=G.length→G'.take (H.length + 3)=H++[.map [],.map [],jV ps ss (da ts 0) H.length (H.length + 1)]→kZ (mQ H.length) H.length [.t 4,.t 5] [(4,.ptr (H.length + 2) 0),(5,bm (aT ts 0))] G' (P2 H ps ss ts):=by
   intro G' xb ey
   refine Kt (m:=H.length + 3) (by omega) (EO (by omega) fun j o h1 h2 ho=>.inr ?_) (x:=.ptr (H.length + 2) 0) (y:=bm (aT ts 0)) rfl ?_ ?_ ((aC _).2.2.1 _) ⟨rfl,ey⟩
   ·have h3:(G'.take (H.length + 3))[j]?=some o:=by rw [List.getElem?_take,if_pos h2];exact ho
    rw [ey,List.getElem?_append_right h1] at h3
    have:j=H.length∨j=H.length + 1∨j=H.length + 2:=by omega
    rcases this with rfl | rfl | rfl
    ·simp at h3;subst h3;rfl
    ·simp at h3;subst h3;rfl
    ·simp at h3;subst h3;exact yC ps ss _ _
   ·have h2:=(aC (aT ts 0)).2.1
    simp [au,h2]
   ·rw [rV];simp
  rw [CH]
  unfold zn
  rw [g2]
  rcases hR with ⟨e1,rfl⟩ | ⟨id,cap,bk,rfl,hg,b9,eM⟩
  ·simp +contextual only [List.getElem?_cons_succ,List.getElem?_cons_zero,List.take_length,(fg _).2.1,(aC _).2.1,sZ,Nat.reduceEqDiff,↓reduceIte,reduceCtorEq]
   refine fin G rfl ?_
   rw [hG,jV,nV,if_pos (CJ e1)]
  ·simp +contextual only [List.getElem?_cons_succ,List.getElem?_cons_zero,List.take_length,(fg _).2.1,(aC _).2.1,sZ,Nat.reduceEqDiff,↓reduceIte,reduceCtorEq]
   refine qH (by decide) Ap (jU _) (fun x hx=>?_) hg b9 ⟨?_,?_,?_⟩
   ·obtain ⟨q,_,rfl⟩:=List.mem_map.1 hx;rfl
   ·rw [List.getElem?_set_ne (by omega)];exact g2
   ·rw [b8];exact v7 _ _
   ·refine fin _ (by simp) ?_
    rw [List.take_set,List.take_set,hG]
    have e1:∀ X:List aa,X.length≤id→X.set id .dead=X:=fun X h=>List.set_eq_of_length_le h
    rw [e1 _ (by simp;omega),jV,nV,if_neg (fun e=>eM (by rw [e];rfl))]
    simp
end Go.aH
end
section
set_option maxRecDepth 100000
namespace Go.aH
open Go Go.Proofs Go.fm
def zI:AV:=.int .i64 0
theorem Aq:iz 1 (bL zI):=⟨rfl,rfl,rfl,rfl⟩
theorem nW (l:List Int):∀ x∈ints l,iz 1 x:=by
 intro x hx;obtain ⟨n,_,rfl⟩:=List.mem_map.1 hx;exact ⟨rfl,rfl,rfl,rfl⟩
theorem oH:∀ l:List Int,flat (ints l)=ints l
 | []=>rfl
 | x::r=>by
   have:=oH r
   show AV.cells (.int .i64 x)++flat (ints r)=_
   rw [this];rfl
theorem Ox {l:List Int} (h:l≠[]):ints l≠[]:=by cases l with | nil=>exact absurd rfl h | cons v r=>simp [ints]
theorem Ku (o:Nat) (v:Int) (r:List Int) (φ:AV→Prop):dj 0 false (.ap o (ints (v::r))) φ=φ (.bool false):=by simp [dj,isNil,ints]
theorem Kv (φ:AV→Prop):dj 0 false .ah φ=φ (.bool true):=by simp [dj,isNil]
theorem Ar {esz bytes:Nat} {z:AV} (hz:iz esz (bL z)) {id o:Nat} {G:List aa} (bk:G[id]?=some (.cells [])) (ys:List AV) (hy:ys≠[]) (pQ:∀ x∈ys,iz esz x) (hb:ys.length * bytes≤140737488355328) {base:Nat} (hG:base≤G.length) {K:AV→List aa→Prop}
 (hK:∀ v' G',RO z base v' ys G'→G'.take base=G.take base→G.length≤G'.length→K v' G'):cD esz bytes z (.a8 id 0 0 0) (.ap o ys) G K:=by
 obtain ⟨f1,f2,f3,f4⟩:=iz.flat pQ
 have kN:∀ n m,aj n (ch z m)=true:=fun n m=>(iz.flat (jR hz m)).2.2.1 n
 have hl:0 < ys.length:=List.length_pos_iff.2 hy
 unfold cD
 simp only [dw,bk]
 refine ⟨fun y h=>⟨(pQ y h).len,(pQ y h).one⟩,by simpa using hb,Nat.le_refl _,by simp,fun h=>absurd h (by omega),fun _ cap hc _=>⟨?_,?_⟩⟩
 ·simp only [Nat.zero_mul,List.drop_zero,List.take_nil,List.map_nil,List.nil_append,f2,bu];exact ⟨f3 _,kN _ _⟩
 ·simp only [Nat.zero_mul,List.drop_zero,List.take_nil,List.map_nil,List.nil_append,f2,Nat.zero_add]
  refine hK _ _ (.inr ⟨G.length,cap,hG,rfl,?_,by omega,hy⟩) ?_ (by simp)
  ·simp [bc]
  ·rw [List.take_append_of_le_length hG]
theorem Wn (l:List Int) (H:List aa) (hb:l.length * 8≤140737488355328):aq Tryz.prog 118 [bm l] H fun r H'=>RO zI H.length r (ints l) H'∧H'.take H.length=H∧H.length≤H'.length:=by
 refine PR.2.calls rfl ?_
 simp only [PR,aJ]
 cases l with
 | nil=>
   simp +contextual only [bm,Kv,sZ,Nat.reduceAdd,↓reduceIte,reduceCtorEq]
   exact aO H.length (Nat.le_refl _) (by rw [au,if_pos rfl];rfl) ⟨.inl ⟨rfl,by rw [au,if_pos rfl]⟩,by simp,by simp⟩
 | cons v r=>
   simp +contextual only [bm,Ku,qF,pW,sZ,Nat.reduceEqDiff,Nat.reduceAdd,↓reduceIte,reduceCtorEq]
   refine ⟨rfl,Ar Aq (by simp [flat]) (ints (v::r)) (Ox (by simp)) (nW _) (by rw [aw];exact hb) (base:=H.length) (by simp) fun v' G' hR hG hl=>?_⟩
   obtain ⟨o1,o2,o3,o4⟩:=hR.one
   simp +contextual only [o3,sZ,↓reduceIte,reduceCtorEq]
   have xb:H.length≤G'.length:=by simp at hl;omega
   refine aO G'.length xb (by rw [au,if_pos rfl];exact hR.aZ (Nat.le_refl _)) ?_
   rw [au,if_pos rfl,List.take_length]
   exact ⟨hR,by rw [hG];simp,xb⟩
theorem As (l:List Int) (cap:Nat):bc zI (ints l) cap=.cells (ints l++ch zI (cap - l.length)):=by rw [bc,oH,aw]
theorem F7 {l:List Int} {cap i:Nat} (h:i < l.length) (φ:AV→Prop):c8 (some (bc zI (ints l) cap)) none (i * 1) φ=φ (.int .i64 (l.getD i 0)):=by
 have e:(ints l++ch zI (cap - l.length)).getD (i * 1) .any=.int .i64 (l.getD i 0):=by
  rw [Nat.mul_one,List.getD_eq_getElem?_getD,List.getElem?_append_left (by rw [aw];exact h)]
  simp [ints,h]
 have hl:=aw l
 simp only [As,c8,e,nP,eq_iff_iff,List.length_append,hl]
 constructor
 ·exact fun h=>h.2
 ·exact fun h2=>⟨by omega,h2⟩
theorem Kw {l:List Int} {cap i:Nat} (h:i < l.length) (n:Int) (id:Nat) (H:List aa) (K:List aa→Prop) (hK:K (H.set id (bc zI (ints (l.set i n)) cap))):iw (some (bc zI (ints l) cap)) 1 id (i * 1) (.int .i64 n) H K:=by
 have e:ints (l.set i n)=(ints l).set i (.int .i64 n):=by simp [ints,List.map_set]
 rw [e] at hK
 refine Ah (esz:=1) (c:=0) (nW l) (by rw [aw];exact h) (by decide) (v:=.int .i64 n) (y:=.int .i64 n) rfl rfl rfl ?_ hK
 simp [ints,h,AV.cells,AV.ab]
structure Tu (l:List Int) (i:Nat) (m:List Int):Prop where
 len:m.length=l.length
 get:∀ j,j < l.length→m.getD j 0=if j < i∨l.length - 1 - j < i then l.getD (l.length - 1 - j) 0 else l.getD j 0
theorem yD {l m:List Int} (h:m.length=l.length) (hg:∀ j,j < l.length→m.getD j 0=l.getD j 0):m=l:=by
 apply List.ext_getElem h
 intro j h1 h2
 have:=hg j h2
 simpa [h1,h2] using this
theorem Tu.done {l m:List Int} {i:Nat} (h:Tu l i m) (hi:l.length≤2 * i + 1):m=l.reverse:=by
 refine yD (by simp [h.len]) fun j hj=>?_
 simp at hj
 rw [h.get j hj]
 have e:l.reverse.getD j 0=l.getD (l.length - 1 - j) 0:=by
  have h1:l.length - 1 - j < l.length:=by omega
  simp [List.getElem?_reverse hj]
 rw [e]
 split
 ·rfl
 ·rename_i hc
  have:l.length - 1 - j=j:=by omega
  rw [this]
theorem lj {l:List Int} {i j:Nat} {x:Int} (hi:i < l.length):(l.set i x).getD j 0=if j=i then x else l.getD j 0:=by
 simp only [List.getD_eq_getElem?_getD,List.getElem?_set]
 by_cases h:i=j
 ·subst h;simp [hi]
 ·rw [if_neg h,if_neg (fun e=>h e.symm)]
theorem Tu.step {l m:List Int} {i k:Nat} (h:Tu l i m) (hk:l.length=i + k + 1) (aX:i < k):Tu l (i + 1) ((m.set i (m.getD k 0)).set k (m.getD i 0)):=by
 refine ⟨by simp [h.len],fun j hj=>?_⟩
 have hl:=h.len
 rw [lj (by simp;omega),lj (by omega)]
 by_cases h1:j=k
 ·subst h1
  rw [if_pos rfl,h.get i (by omega),if_neg (by omega),if_pos (by omega)]
  congr 1;omega
 ·rw [if_neg h1]
  by_cases h2:j=i
  ·subst h2
   rw [if_pos rfl,h.get k (by omega),if_neg (by omega),if_pos (by omega)]
   congr 1;omega
  ·rw [if_neg h2,h.get j hj]
   by_cases h3:j < i∨l.length - 1 - j < i
   ·rw [if_pos h3,if_pos (by omega)]
   ·rw [if_neg h3,if_neg (by omega)]
theorem EP {H:List aa} {id:Nat} {o:aa} (h:H[id]?=some o):H.set id o=H:=by
 apply List.ext_getElem?
 intro j
 rw [List.getElem?_set]
 split
 ·rename_i e;subst e
  have:=(List.getElem?_eq_some_iff.1 h).1
  rw [if_pos this,h]
 ·rfl
theorem Wo (l:List Int) (base:Nat) (v:AV) (H:List aa) (hR:RO zI base v (ints l) H) (hb:l.length * 8≤140737488355328):aq Tryz.prog 199 [v] H fun r H'=>r=.tuple []∧RO zI base v (ints l.reverse) H'∧H'.take base=H.take base∧H'.length=H.length:=by
 refine PW.2.calls rfl ?_
 simp only [PW,aJ]
 obtain ⟨o1,o2,o3,o4⟩:=hR.one
 simp +contextual only [o3,hR.len,hR.aL,aw,sZ,Nat.reduceEqDiff,Nat.reduceAdd,↓reduceIte,reduceCtorEq]
 rcases hR with ⟨e,rfl⟩ | ⟨id,cap,bk,rfl,hg,b9,eM⟩
 ·have e:l=[]:=List.map_eq_nil_iff.1 e
  subst e
  refine aP 0 (fun _=>True) (fun _=>[(0,.ah),(2,.int .i64 0),(3,.int .i64 (-1))]) (fun _=>H) ⟨trivial,aI (by rfl) rfl⟩ fun i hi _=>?_
  simp +contextual only [sZ,Nat.reduceEqDiff,↓reduceIte,reduceCtorEq,Int.reduceLT]
  exact ⟨H.length,Nat.le_refl _,[],trivial,rfl,rfl,.inl ⟨rfl,rfl⟩,by simp,by simp⟩
 ·rw [aw] at b9 ⊢
  have e1:IntKind.i64.wrap ((l.length:Int) - 1)=(l.length:Int) - 1 - (0:Nat):=by rw [eu _ (by omega)];omega
  rw [e1]
  refine aE l.length (fun i m=>Tu l i m) (fun i m=>[(0,.a8 id 0 l.length cap),(2,.int .i64 i),(3,.int .i64 ((l.length:Int) - 1 - i))]) (fun i m=>H.set id (bc zI (ints m) cap)) l ⟨⟨rfl,fun j hj=>by simp⟩,aI rfl ?_⟩ fun i m hi hI=>?_
  ·exact (EP hg).symm
  have xT:=(List.getElem?_eq_some_iff.1 hg).1
  have hm:=hI.len
  simp +contextual only [sZ,Nat.reduceEqDiff,↓reduceIte,reduceCtorEq]
  refine ⟨fun aX=>?_,fun jh=>?_⟩
  ·obtain ⟨k,hk⟩:∃ k,l.length=i + k + 1:=⟨l.length - i - 1,by omega⟩
   have e2:(l.length:Int) - 1 - i=(k:Nat):=by omega
   rw [e2] at aX ⊢
   have Kx:k < m.length:=by omega
   have X4:i < m.length:=by omega
   simp +contextual only [kO,List.getElem?_set_self xT,F7 Kx,F7 X4,sZ,Nat.reduceEqDiff,↓reduceIte,reduceCtorEq]
   refine ⟨by omega,by omega,by omega,Kw X4 _ _ _ _ ?_⟩
   have Iv:k < (m.set i (m.getD k 0)).length:=by simp;omega
   simp +contextual only [kO,List.getElem?_set_self xT,List.set_set,sZ,Nat.reduceEqDiff,↓reduceIte,reduceCtorEq]
   refine ⟨by omega,Kw Iv _ _ _ _ ?_⟩
   simp +contextual only [List.set_set,sZ,Nat.reduceEqDiff,↓reduceIte,reduceCtorEq]
   have hw:IntKind.i64.wrap ((k:Int) - 1)=(l.length:Int) - 1 - ((i + 1:Nat):Int):=by rw [eu _ (by omega)];omega
   exact ⟨i + 1,_,⟨by omega,hI.step hk (by omega)⟩,by omega,aI (by rw [hw,ax i (by omega)]) rfl⟩
  ·have hd:=hI.done (by omega)
   subst hd
   refine ⟨H.length,Nat.le_refl _,[],trivial,rfl,rfl,.inr ⟨id,cap,bk,by simp [aw],?_,by simpa [aw] using b9,?_⟩,?_,by simp⟩
   ·rw [List.take_of_length_le (by simp),List.getElem?_set_self xT]
   ·intro e;apply eM;have:=List.map_eq_nil_iff.1 e;simp at this;rw [this];rfl
   ·rw [List.take_of_length_le (l:=H.set _ _) (by simp),List.take_set_of_le bk]
def bC (s:Int) (l:List Int):List Int:=if s=2 then l.reverse else l
theorem Oy {id cap:Nat} {l:List Int} {H:List aa} (h:H[id]?=some (bc zI (ints l) cap)) (hl:l.length≤cap) {K:AV→List aa→Prop} (hK:K (.ap 0 (ints l)) (H.set id .dead)):dC 1 (.a8 id 0 l.length cap) H K:=by
 have hc:∀ (l:List Int) (r:List AV),chunks 1 l.length (ints l++r)=ints l:=by
  intro l r
  induction l with
  | nil=>rfl
  | cons x q ih=>exact congrArg (AV.int .i64 x::·) ih
 have ho:(ints l++ch zI (cap - l.length)).all AV.one=true:=by
  rw [List.all_append,show (ch zI (cap - l.length)).all AV.one=true from (iz.flat (jR Aq _)).2.2.2,Bool.and_true]
  have:=(iz.flat (nW l)).2.2.2
  rwa [oH] at this
 rw [As] at h
 simp only [dC,h,List.drop_zero,hc,ho]
 exact ⟨by omega,hl,by simp [aw],trivial,hK⟩
theorem HX (l:List Int) (s:Int) (hb:l.length * 8≤140737488355328):Pure Tryz.prog 149 [bm l,.int .i64 s] (.ap 0 (ints (bC s l))):=by
 refine fun H=>PU.2.calls rfl ?_
 simp only [PU,aJ]
 obtain ⟨k1,k2,k3,k4,k5⟩:=aC l
 simp +contextual only [k2,sZ,Nat.reduceEqDiff,Nat.reduceAdd,↓reduceIte,reduceCtorEq]
 refine af (Wn l H hb) ?_
 rintro v G ⟨hR,hG,hl⟩
 obtain ⟨o1,o2,o3,o4⟩:=hR.one
 have fin:∀ (m:List Int) (G':List aa) (K:AV→List aa→Prop),RO zI H.length v (ints m) G'→G'.take H.length=H→(∀ x G'',(m=[]∧x=.ah∨x=.ap 0 (ints m))→x.ab=x→G''.take H.length=H→K x G'')→eR 1 v G' K:=by
  intro m G' K xp ey hK
  rcases xp with ⟨e,rfl⟩ | ⟨id,cap,bk,rfl,hg,b9,eM⟩
  ·exact hK _ _ (.inl ⟨List.map_eq_nil_iff.1 e,rfl⟩) rfl ey
  ·rw [aw] at b9 ⊢
   exact Oy hg b9 (hK _ _ (.inr rfl) rfl (by rw [List.take_set_of_le bk];exact ey))
 have fin2:∀ (m:List Int) (x:AV) (G':List aa),bC s l=m→(m=[]∧x=.ah∨x=.ap 0 (ints m))→G'.take H.length=H→bR H.length [.t 4] [(4,x)] G' fun r H'=>r=.ap 0 (ints (bC s l))∧H'=H:=by
  intro m x G' hm hx ey
  rw [hm]
  rcases hx with ⟨rfl,rfl⟩ | rfl
  ·exact ⟨H.length,Nat.le_refl _,.ap 0 [],.inr (.inr (.inr (.inl ⟨rfl,0,rfl⟩))),rfl,rfl,ey⟩
  ·exact ⟨H.length,Nat.le_refl _,_,le_refl _,by show AV.aZ _ (.ap 0 (ints m))=true;rw [b8];exact aY _ _,rfl,ey⟩
 simp +contextual only [o3,sZ,Nat.reduceEqDiff,Nat.reduceAdd,↓reduceIte,reduceCtorEq]
 refine ⟨fun hs=>?_,fun hs=>?_⟩
 ·refine af (Wo l H.length v G hR hb) ?_
  rintro r G' ⟨rfl,xp,ey,_⟩
  simp +contextual only [sZ,↓reduceIte,reduceCtorEq]
  refine fin l.reverse G' _ xp (by rw [ey,hG]) fun x G'' hx hu SV=>?_
  simp +contextual only [hu,sZ,↓reduceIte,reduceCtorEq]
  exact fin2 l.reverse x G'' (by rw [bC,if_pos hs]) hx SV
 ·refine fin l G _ hR hG fun x G'' hx hu SV=>?_
  simp +contextual only [hu,sZ,↓reduceIte,reduceCtorEq]
  exact fin2 l x G'' (by rw [bC,if_neg hs]) hx SV
end Go.aH
end
section
set_option maxRecDepth 100000
namespace Go.aH
open Go Go.Proofs Go.fm
structure Cx where
 ps:List Int
 ss:List Int
 nd:List Nd
 d:Nat
 e:Nat
 g:Nat
def Cx.tm (c:Cx) (i:Int):T:=(c.nd.getD i.toNat default).1
def Cx.kd (c:Cx) (i:Int):List Int:=(c.nd.getD i.toNat default).2
def Cx.dP (c:Cx) (i:Int):Prop:=0≤i∧i < c.nd.length
def SW (ps ss:List Int) (p:Int):Int:=ss.getD (ps.findIdx fun q=>decide (q=p)) 0
def lm (ps ss:List Int):Od:=⟨fun n=>ps.getD n.toNat 0,SW ps ss⟩
def Cx.O (c:Cx):Od:=lm c.ps c.ss
structure Va (ps ss:List Int):Prop where
 len:ss.length=ps.length
 st:∀ i j,i < ps.length→j < ps.length→ps.getD i 0=ps.getD j 0→ss.getD i 0=ss.getD j 0
theorem Va.sp {ps ss:List Int} (h:Va ps ss) {i:Nat} (hi:i < ps.length):SW ps ss (ps.getD i 0)=ss.getD i 0:=by
 unfold SW
 have hx:ps.getD i 0∈ps:=by rw [List.getD_eq_getElem?_getD,List.getElem?_eq_getElem hi];exact List.getElem_mem hi
 have h1:ps.findIdx (fun q=>decide (q=ps.getD i 0)) < ps.length:=List.findIdx_lt_length_of_exists ⟨_,hx,by simp⟩
 have h2:=List.findIdx_getElem (xs:=ps) (p:=fun q=>decide (q=ps.getD i 0)) (w:=h1)
 refine h.st _ _ h1 hi ?_
 rw [List.getD_eq_getElem?_getD,List.getElem?_eq_getElem h1]
 exact of_decide_eq_true h2
structure Cx.Ok (c:Cx):Prop where
 va:Va c.ps c.ss
 nd:c.nd≠[]
 ne1:c.d≠c.e
 ne2:c.d≠c.g
 ne3:c.e≠c.g
 kl:∀ i,c.dP i→(c.kd i).length≤100000000
 kids:∀ i,c.dP i→(c.kd i).map c.tm=(c.tm i).l∧∀ k∈c.kd i,c.dP k
 op:∀ i,c.dP i→(c.tm i).k=2→0≤(c.tm i).n∧(c.tm i).n < c.ps.length
def mD (m:List ((Int×Int)×Bool)):List (AV×AV):=m.map fun p=>(.agg [.int .i64 p.1.1,.int .i64 p.1.2],.bool p.2)
def Rt (c:Cx) (P:T→T→Prop) (m:List ((Int×Int)×Bool)):Prop:=∀ p∈m,p.2=true↔P (c.tm p.1.1) (c.tm p.1.2)
structure Du (c:Cx) (H:List aa):Prop where
 d:H[c.d]?=some (.cells [.ap 0 (ints c.ps),.ap 0 (ints c.ss),.ap 0 (eL c.nd),.map c.e,.map c.g])
 e:∃ m,H[c.e]?=some (.map (mD m))∧Rt c (E c.O) m
 g:∃ m,H[c.g]?=some (.map (mD m))∧Rt c (R c.O) m
structure Up (c:Cx) (H H':List aa):Prop where
 len:H'.length=H.length
 get:∀ j,j≠c.e→j≠c.g→H'[j]?=H[j]?
theorem Up.refl (c:Cx) (H:List aa):Up c H H:=⟨rfl,fun _ _ _=>rfl⟩
theorem Up.trans {c:Cx} {H H' H'':List aa} (h:Up c H H') (k:Up c H' H''):Up c H H'':=⟨k.len.trans h.len,fun j h1 h2=>(k.get j h1 h2).trans (h.get j h1 h2)⟩
theorem Du.lt {c:Cx} {H:List aa} (h:Du c H):c.d < H.length∧c.e < H.length∧c.g < H.length:=by
 obtain ⟨m,h1,_⟩:=h.e
 obtain ⟨m',h2,_⟩:=h.g
 exact ⟨(List.getElem?_eq_some_iff.1 h.d).1,(List.getElem?_eq_some_iff.1 h1).1,(List.getElem?_eq_some_iff.1 h2).1⟩
theorem Du.sn {c:Cx} {H:List aa} (h:Du c H) (X:List aa):Du c (H++X):=by
 obtain ⟨l1,l2,l3⟩:=h.lt
 exact ⟨by rw [List.getElem?_append_left l1];exact h.d,by rw [List.getElem?_append_left l2];exact h.e,by rw [List.getElem?_append_left l3];exact h.g⟩
theorem Du.take {c:Cx} {H:List aa} {n:Nat} (h:Du c H) (h1:c.d < n) (h2:c.e < n) (h3:c.g < n):Du c (H.take n):=by
 exact ⟨by rw [List.getElem?_take,if_pos h1];exact h.d,by rw [List.getElem?_take,if_pos h2];exact h.e,by rw [List.getElem?_take,if_pos h3];exact h.g⟩
theorem Du.set {c:Cx} {H:List aa} {j:Nat} {o:aa} (h:Du c H) (h1:j≠c.d) (h2:j≠c.e) (h3:j≠c.g):Du c (H.set j o):=by
 exact ⟨by rw [List.getElem?_set_ne h1];exact h.d,by rw [List.getElem?_set_ne h2];exact h.e,by rw [List.getElem?_set_ne h3];exact h.g⟩
theorem Up.take {c:Cx} {H X H':List aa} (h:Up c (H++X) H'):Up c H (H'.take H.length):=
 ⟨by have:=h.len;simp at this ⊢;omega,fun j h1 h2=>by
   rw [List.getElem?_take]
   split
   ·rename_i hj;rw [h.get j h1 h2,List.getElem?_append_left hj]
   ·rename_i hj;rw [List.getElem?_eq_none (by omega)]⟩
def iF (c:Cx) (Q:Prop) (H:List aa) (r:AV) (H':List aa):Prop:=∃ b:Bool,r=.bool b∧(b=true↔Q)∧Up c H H'∧Du c H'
theorem bT (l:List Int) (H:List aa) (φ:AV→Prop):aR none (.ai (bm l)) H φ=φ (bm l):=by
 obtain ⟨k1,k2,_⟩:=aC l
 simp [aR,k1,k2]
theorem ZI (p:Nd) (φ:AV→Prop):ak 0 (some 3) (.ai (EL p)) φ=φ (.ai p.1.av):=by
 obtain ⟨⟨k,n,l⟩,ks⟩:=p
 simp [ak,EL,apart,AV.cells,T.av,T.k,T.n,T.l]
theorem Dv (p:Nd) (φ:AV→Prop):ak 3 none (.ai (EL p)) φ=φ (.ai (bm p.2)):=by
 obtain ⟨k1,_⟩:=aC p.2
 simp [ak,EL,apart,AV.cells,k1]
theorem mE (e o:Nat) (l:List Nd) (k:IntKind) (i:Int) (φ:AV→Prop):ay e (.ap o (eL l)) (.int k i) φ=((0≤i∧i < l.length)∧φ (.ai (EL (l.getD i.toNat default)))):=by
 simp only [ay,qQ,eq_iff_iff]
 constructor
 ·rintro ⟨h0,h,h2⟩;refine ⟨by omega,?_⟩;simpa [eL,h] using h2
 ·rintro ⟨⟨h0,h⟩,h2⟩;have h:i.toNat < l.length:=by omega
  refine ⟨h0,h,?_⟩;simpa [eL,h] using h2
theorem cF (o:Nat) (l:List Nd):(∀ (own:Nat) (xs:List AV),AV.ap o (eL l)=AV.ap own xs→∀ z∈xs,z.cells.length=4)=True:=by
 simp only [eq_iff_iff,iff_true]
 intro own xs e z hz
 cases e
 exact (jU l z hz).len
theorem cG (e o:Nat) (l:List Int) (k:IntKind) (i:Int) (φ:AV→Prop):ay e (.ap o (ints l)) (.int k i) φ=((0≤i∧i < l.length)∧φ (.ai (.int .i64 (l.getD i.toNat 0)))):=by
 simp only [ay,aw,eq_iff_iff]
 constructor
 ·rintro ⟨h0,h,h2⟩;refine ⟨by omega,?_⟩;simpa [ints,h] using h2
 ·rintro ⟨⟨h0,h⟩,h2⟩;have h:i.toNat < l.length:=by omega
  refine ⟨h0,h,?_⟩;simpa [ints,h] using h2
def pH (c:Cx) (i:Int):Int:=if (c.tm i).k=2 then c.O.pl (c.tm i).n else 0
def dD (c:Cx) (i:Int):Int:=if (c.tm i).k=2 then c.O.sp (c.O.pl (c.tm i).n) else 0
def rq (c:Cx) (i:Int):Bool:=decide ((c.tm i).k=2)
def Ky (c:Cx) (i:Int):AV:=.tuple [.int .i64 (pH c i),.int .i64 (dD c i),.bool (rq c i)]
theorem F8 (t:T) (φ:AV→Prop):ak 0 none (.ai t.av) φ=φ (.ai (.int .i64 t.k)):=by cases t;simp [ak,T.av,apart,AV.cells,AV.one,T.k]
theorem yE {Hs G:List aa} {n0 a b c:Nat} {u v w x y z:AV} {R:AV→List aa→Prop} (CD:b≠a∧c≠a∧c≠b) (hH:Hs.take n0=G) (hb:x.aZ n0=true∧y.aZ n0=true∧z.aZ n0=true)
 (hx:u.ab=x) (hy:v.ab=y) (hz:w.ab=z) (hR:R (.tuple [x,y,z]) G):bR n0 [.t a,.t b,.t c] [(a,u),(b,v),(c,w)] Hs R:=by
 subst hH;subst hx;subst hy;subst hz
 refine ⟨n0,Nat.le_refl _,[u.ab,v.ab,w.ab],?_,by simp only [aj,hb.1,hb.2.1,hb.2.2,Bool.and_self],hR⟩
 simp only [au,if_neg CD.1,if_neg CD.2.1,if_neg CD.2.2,if_true,List.map]
 exact cp _
theorem pI {c:Cx} (hc:c.Ok) {i:Int} (hi:c.dP i) {H:List aa} (hD:Du c H):aq Tryz.prog 135 [.ptr c.d 0,.int .i64 i] H fun r H'=>r=Ky c i∧H'=H:=by
 refine UX.2.calls rfl ?_
 simp only [UX,aJ]
 simp +contextual only [hD.d,mE,ZI,cF,cG,sZ,Nat.reduceEqDiff,Nat.reduceAdd,Nat.reduceLT,↓reduceIte,reduceCtorEq]
 refine ⟨hi,fun hk=>?_,fun hk=>?_⟩
 ·exact yE (by decide) (List.take_length) ⟨rfl,rfl,rfl⟩ rfl rfl rfl ⟨by rw [Ky,pH,dD,rq,if_neg (show ¬(c.tm i).k=2 from hk),if_neg (show ¬(c.tm i).k=2 from hk),decide_eq_false (show ¬(c.tm i).k=2 from hk)];rfl,rfl⟩
 ·obtain ⟨o1,o2⟩:=hc.op i hi hk
  have hl:=hc.va.len
  refine ⟨⟨o1,o2⟩,⟨o1,by rw [hl];exact o2⟩,?_⟩
  refine yE (by decide) (List.take_length) ⟨rfl,rfl,rfl⟩ rfl rfl rfl ⟨?_,rfl⟩
  have e:=hc.va.sp (i:=(c.tm i).n.toNat) (by omega)
  rw [Ky,pH,dD,rq,if_pos (show (c.tm i).k=2 from hk),if_pos (show (c.tm i).k=2 from hk),decide_eq_true (show (c.tm i).k=2 from hk)]
  have e2:c.O.sp (c.O.pl (c.tm i).n)=c.ss.getD (c.tm i).n.toNat 0:=e
  rw [e2];rfl
def mF (i k:Int):AV:=.agg [.int .i64 i,.int .i64 k]
theorem so (i k:Int):∀ (m:List ((Int×Int)×Bool)) (n:Nat),(∃ j b,m[j]?=some ((i,k),b)∧di 2 (mF i k) (mD m) n=some (some (n + j,.bool b)))∨di 2 (mF i k) (mD m) n=some none
 | [],n=>.inr rfl
 | ((a,b),v)::r,n=>by
   have ih:=so i k r (n + 1)
   have e:cC 2 (mF i k) (.agg [.int .i64 a,.int .i64 b])=some (decide (i=a∧k=b)):=by simp [cC,mF]
   simp only [mD,List.map_cons,di,e]
   by_cases h:i=a∧k=b
   ·obtain ⟨rfl,rfl⟩:=h
    exact .inl ⟨0,v,rfl,by simp⟩
   ·simp only [decide_eq_false h]
    rcases ih with ⟨j,x,h1,h2⟩ | h2
    ·exact .inl ⟨j + 1,x,h1,by rw [show n + (j + 1)=n + 1 + j by omega];exact h2⟩
    ·exact .inr h2
theorem lkM {i k:Int} {m:List ((Int×Int)×Bool)} {φ:AV→Prop} (h1:∀ b,((i,k),b)∈m→φ (.tuple [.bool b,.bool true])) (h2:φ (.tuple [.bool false,.bool false])):fP (some (.map (mD m))) 2 (.bool false) (mF i k) true φ:=by
 unfold fP
 rcases so i k m 0 with ⟨j,b,h3,h4⟩ | h4
 ·simp only [h4];exact h1 b (List.mem_of_getElem? h3)
 ·simp only [h4];exact ⟨by simp [cC,mF],h2⟩
theorem Kz (m:List ((Int×Int)×Bool)) (j:Nat) (i k:Int) (b:Bool):(mD m).set j (mF i k,.bool b)=mD (m.set j ((i,k),b)):=by simp [mD,mF,List.map_set]
theorem msM {i k:Int} {b:Bool} {m:List ((Int×Int)×Bool)} {id:Nat} {H:List aa} {K:List aa→Prop} (h:∀ m',(∀ p∈m',p∈m∨p=((i,k),b))→K (H.set id (.map (mD m')))):eT (some (.map (mD m))) 2 id (mF i k) (.bool b) H K:=by
 unfold eT
 refine ⟨by simp [mF,vI,bG,cZ,gb],rfl,rfl,?_⟩
 have ec:aM (.bool b)=.bool b:=rfl
 rcases so i k m 0 with ⟨j,x,h3,h4⟩ | h4
 ·simp only [h4,ec,Nat.zero_add,Kz]
  refine h _ fun p hp=>?_
  rcases List.mem_or_eq_of_mem_set hp with h | h
  ·exact .inl h
  ·exact .inr h
 ·simp only [h4,ec]
  refine ⟨by simp [cC,mF],?_⟩
  have e:mD m++[(mF i k,.bool b)]=mD (m++[((i,k),b)]):=by simp [mD,mF]
  rw [e]
  refine h _ fun p hp=>?_
  rcases List.mem_append.1 hp with h | h
  ·exact .inl h
  ·exact .inr (by simpa using h)
theorem bdK (i k:Int) (φ:AV→Prop):cu [.int .i64 0,.int .i64 0] [(0,1,.int .i64 i),(1,1,.int .i64 k)] φ=φ (mF i k):=by
 simp only [cu,gI,eq_iff_iff]
 constructor
 ·rintro ⟨_,_,_,_,_,_,h⟩;exact h
 ·exact fun h=>⟨rfl,rfl,by simp,rfl,rfl,by simp [ag,AV.cells],h⟩
theorem EQ (i k:Int):(mF i k).val=true∧(mF i k).cells.length=2∧(mF i k).cells.all AV.one=true:=⟨rfl,rfl,rfl⟩
theorem ldK (i k:Int) (H:List aa) (φ:AV→Prop):aR (some 2) (.ai (mF i k)) H φ=φ (mF i k):=Ow _ _ _ _
def Mp (c:Cx) (w:Nat) (Q:T→T→Prop):Prop:=(w=c.e∧Q=E c.O)∨(w=c.g∧Q=R c.O)
theorem Mp.at {c:Cx} {w:Nat} {Q:T→T→Prop} (h:Mp c w Q) {H:List aa} (hD:Du c H):∃ m,H[w]?=some (.map (mD m))∧Rt c Q m:=by
 rcases h with ⟨rfl,rfl⟩ | ⟨rfl,rfl⟩
 ·exact hD.e
 ·exact hD.g
theorem Mp.set {c:Cx} (hc:c.Ok) {w:Nat} {Q:T→T→Prop} (h:Mp c w Q) {H:List aa} (hD:Du c H) {m:List ((Int×Int)×Bool)} (hm:Rt c Q m):Du c (H.set w (.map (mD m)))∧Up c H (H.set w (.map (mD m))):=by
 obtain ⟨l1,l2,l3⟩:=hD.lt
 obtain ⟨_,_,n1,n2,n3,_,_,_⟩:=hc
 rcases h with ⟨rfl,rfl⟩ | ⟨rfl,rfl⟩
 ·exact ⟨⟨by rw [List.getElem?_set_ne (fun e=>n1 e.symm)];exact hD.d,⟨m,by rw [List.getElem?_set_self l2],hm⟩,by rw [List.getElem?_set_ne n3];exact hD.g⟩,by simp,fun j h1 h2=>by rw [List.getElem?_set_ne (fun e=>h1 e.symm)]⟩
 ·exact ⟨⟨by rw [List.getElem?_set_ne (fun e=>n2 e.symm)];exact hD.d,by rw [List.getElem?_set_ne (fun e=>n3 e.symm)];exact hD.e,⟨m,by rw [List.getElem?_set_self l3],hm⟩⟩,by simp,fun j h1 h2=>by rw [List.getElem?_set_ne (fun e=>h2 e.symm)]⟩
theorem eB {c:Cx} {s:Nat} {b:Bool} {Q:Prop} {H H':List aa} {x:AV} (hx:x=.bool b) (hb:b=true↔Q) (hU:Up c H H') (hD:Du c H'):bR H.length [.t s] [(s,x)] H' (iF c Q H):=by
 subst hx
 refine aO H.length (Nat.le_refl _) (by rw [au,if_pos rfl];rfl) ?_
 rw [au,if_pos rfl,List.take_of_length_le (by rw [hU.len];exact Nat.le_refl _)]
 exact ⟨b,rfl,hb,hU,hD⟩
theorem Wp {c:Cx} (hc:c.Ok) {w:Nat} {Q:T→T→Prop} (hw:Mp c w Q) (i k:Int) (fn:Nat) (cH:List AV) {H:List aa} (hD:Du c H) (b9:cH.map AV.ab=cH)
 (hf:aq Tryz.prog fn cH H (iF c (Q (c.tm i) (c.tm k)) H)):aq Tryz.prog 133 [.map w,.int .i64 i,.int .i64 k,.fn (.func fn) [] cH] H (iF c (Q (c.tm i) (c.tm k)) H):=by
 refine UU.2.calls rfl ?_
 simp only [UU,aJ]
 obtain ⟨m,hm,hr⟩:=hw.at hD
 have kf:=EQ i k
 simp +contextual only [bdK,ldK,kf.1,kf.2.1,kf.2.2,hm,sZ,Nat.reduceEqDiff,Nat.reduceAdd,↓reduceIte,reduceCtorEq]
 refine lkM (fun b hb=>?_) ?_
 ·have hq:=hr _ hb
  cases b with
  | true=>
    simp +contextual only [sZ,Nat.reduceEqDiff,Nat.reduceAdd,Nat.reduceLT,↓reduceIte,reduceCtorEq]
    exact eB rfl hq (Up.refl c H) hD
  | false=>
    simp +contextual only [sZ,Nat.reduceEqDiff,Nat.reduceAdd,Nat.reduceLT,↓reduceIte,reduceCtorEq]
    exact eB rfl hq (Up.refl c H) hD
 ·simp +contextual only [b9,sZ,Nat.reduceEqDiff,Nat.reduceAdd,Nat.reduceLT,↓reduceIte,reduceCtorEq]
  refine af hf ?_
  rintro r H' ⟨b,rfl,hb,hU,jn⟩
  obtain ⟨m',L3,YZ⟩:=hw.at jn
  simp +contextual only [ldK,L3,sZ,Nat.reduceEqDiff,↓reduceIte,reduceCtorEq]
  refine msM fun m2 h2=>?_
  have rE:Rt c Q m2:=by
   intro p hp
   rcases h2 p hp with h | rfl
   ·exact YZ p h
   ·exact hb
  obtain ⟨s1,s2⟩:=hw.set hc jn rE
  simp +contextual only [sZ,Nat.reduceEqDiff,↓reduceIte,reduceCtorEq]
  exact eB rfl hb (hU.trans s2) s1
def kx (c:Cx) (i k:Int):Prop:=∀ H,Du c H→aq Tryz.prog 79 [.ptr c.d 0,.int .i64 i,.int .i64 k] H (iF c (E c.O (c.tm i) (c.tm k)) H)
def hJ (c:Cx) (i k:Int):Prop:=∀ H,Du c H→aq Tryz.prog 76 [.ptr c.d 0,.int .i64 i,.int .i64 k] H (iF c (R c.O (c.tm i) (c.tm k)) H)
def CK (c:Cx) (i k:Int):List AV:=[.ai (.ptr c.d 0),.ai (.int .i64 i),.ai (.int .i64 k)]
theorem g53 (a b c d e z:AV):[a,b,c,d,e].getD 3 z=d:=rfl
theorem g54 (a b c d e z:AV):[a,b,c,d,e].getD 4 z=e:=rfl
theorem c79 {c:Cx} (hc:c.Ok) {i k:Int} (h:∀ H,Du c H→aq Tryz.prog 138 (CK c i k) H (iF c (E c.O (c.tm i) (c.tm k)) H)):kx c i k:=by
 intro H hD
 refine k79.2.calls rfl ?_
 simp only [k79,aJ]
 simp +contextual only [hD.d,g53,sZ,Nat.reduceEqDiff,Nat.reduceAdd,Nat.reduceLT,↓reduceIte,reduceCtorEq]
 refine af (Wp hc (.inl ⟨rfl,rfl⟩) i k 138 (CK c i k) hD rfl (h H hD)) ?_
 rintro r H' ⟨b,rfl,hb,hU,jn⟩
 simp +contextual only [sZ,↓reduceIte,reduceCtorEq]
 exact eB rfl hb hU jn
theorem c76 {c:Cx} (hc:c.Ok) {i k:Int} (h:∀ H,Du c H→aq Tryz.prog 134 (CK c i k) H (iF c (R c.O (c.tm i) (c.tm k)) H)):hJ c i k:=by
 intro H hD
 refine k76.2.calls rfl ?_
 simp only [k76,aJ]
 simp +contextual only [hD.d,g54,sZ,Nat.reduceEqDiff,Nat.reduceAdd,Nat.reduceLT,↓reduceIte,reduceCtorEq]
 refine af (Wp hc (.inr ⟨rfl,rfl⟩) i k 134 (CK c i k) hD rfl (h H hD)) ?_
 rintro r H' ⟨b,rfl,hb,hU,jn⟩
 simp +contextual only [sZ,↓reduceIte,reduceCtorEq]
 exact eB rfl hb hU jn
theorem dE (c:Cx) (i:Int):(Ky c i).ab=Ky c i:=rfl
theorem fA (c:Cx) (i:Int) (φ:AV→Prop):bB (Ky c i) 0 φ=φ (.int .i64 (pH c i)):=by simp [Ky,bB,nP]
theorem fB (c:Cx) (i:Int) (φ:AV→Prop):bB (Ky c i) 1 φ=φ (.int .i64 (dD c i)):=by simp [Ky,bB,nP]
theorem fC (c:Cx) (i:Int) (φ:AV→Prop):bB (Ky c i) 2 φ=φ (.bool (rq c i)):=by simp [Ky,bB,oA]
def tW (c:Cx) (i k:Int):Bool:=rq c i && (rq c k && decide (pH c i=pH c k))
theorem ky {c:Cx} {i k:Int}:tW c i k=true↔(c.tm i).k=2∧(c.tm k).k=2∧c.O.pl (c.tm i).n=c.O.pl (c.tm k).n:=by
 simp only [tW,rq,Bool.and_eq_true,decide_eq_true_eq]
 unfold pH
 constructor
 ·rintro ⟨h1,h2,h3⟩;rw [if_pos h1,if_pos h2] at h3;exact ⟨h1,h2,h3⟩
 ·rintro ⟨h1,h2,h3⟩;refine ⟨h1,h2,?_⟩;rw [if_pos h1,if_pos h2];exact h3
theorem ER {c:Cx} (hc:c.Ok) {i k:Int} (hi:c.dP i) (hk:c.dP k) {H:List aa} (hD:Du c H):aq Tryz.prog 155 [.ptr c.d 0,.int .i64 i,.int .i64 k] H fun r H'=>r=.tuple [.int .i64 (dD c i),.bool (tW c i k)]∧H'=H:=by
 refine U9.2.calls rfl ?_
 simp only [U9,aJ]
 simp +contextual only [sZ,Nat.reduceEqDiff,Nat.reduceAdd,↓reduceIte,reduceCtorEq]
 refine af (pI hc hi hD) ?_
 rintro r H1 ⟨rfl,rfl⟩
 simp +contextual only [dE,fA,fB,fC,sZ,Nat.reduceEqDiff,Nat.reduceAdd,↓reduceIte,reduceCtorEq]
 refine af (pI hc hk hD) ?_
 rintro r H1 ⟨rfl,rfl⟩
 simp +contextual only [dE,fA,fB,fC,sZ,Nat.reduceEqDiff,↓reduceIte,reduceCtorEq]
 have fin:∀ (s:Int) (b:Bool),s=dD c i→b=tW c i k→bR H1.length [.t 6,.t 7] [(6,.int .i64 s),(7,.bool b)] H1 fun r H'=>r=.tuple [.int .i64 (dD c i),.bool (tW c i k)]∧H'=H1:=by
  rintro s b rfl rfl
  have:=vP (H:=H1) (e:=[]) (s:=6) (s':=7) (v:=.int .i64 (dD c i)) (v':=.bool (tW c i k)) (by decide) rfl rfl rfl rfl
  rwa [List.append_nil] at this
 cases h1:rq c i with
 | false=>
   simp +contextual only [sZ,Nat.reduceEqDiff,↓reduceIte,reduceCtorEq]
   exact fin _ _ rfl (by rw [tW,h1];rfl)
 | true=>
   cases h2:rq c k with
   | false=>
     simp +contextual only [sZ,Nat.reduceEqDiff,↓reduceIte,reduceCtorEq]
     exact fin _ _ rfl (by rw [tW,h1,h2];rfl)
   | true=>
     simp +contextual only [sZ,Nat.reduceEqDiff,↓reduceIte,reduceCtorEq]
     exact fin _ _ rfl (by rw [tW,h1,h2];rfl)
end Go.aH
end
section
set_option maxRecDepth 100000
namespace Go.aH
open Go Go.Proofs Go.fm
def IL (v:AV) (l:List Int):Prop:=v=bm l∨v=.ap 0 (ints l)
theorem IL.one {v:AV} {l:List Int} (h:IL v l):v.one=true∧v.ab=v∧v.val=true∧v.cells=[v]:=by
 rcases h with rfl | rfl
 ·obtain ⟨k1,k2,_,k4,k5⟩:=aC l;exact ⟨k1,k2,k4,k5⟩
 ·exact ⟨rfl,rfl,rfl,rfl⟩
theorem IL.len {v:AV} {l:List Int} (h:IL v l) (hs:l.length < 9223372036854775808) (H:List aa) (φ:AV→Prop):fq v H φ=φ (.int .i64 l.length):=by
 have hl:∀ l:List Int,l.length < 9223372036854775808→fq (.ap 0 (ints l)) H φ=φ (.int .i64 l.length):=by
  intro l hs;simp [fq,aw,hs]
 rcases h with rfl | rfl
 ·cases l with
  | nil=>rfl
  | cons x r=>exact hl _ hs
 ·exact hl _ hs
theorem IL.v8 {v:AV} {l:List Int} (h:IL v l) (H:List aa) (φ:AV→Prop):g9 v H φ=φ (.int .i64 l.length):=by
 rcases h with rfl | rfl
 ·cases l with
  | nil=>rfl
  | cons x r=>rw [bm,k8,aw]
 ·rw [k8,aw]
theorem IL.aL {v:AV} {l:List Int} (h:IL v l):aL 1 v=True:=by
 rcases h with rfl | rfl
 ·cases l <;> simp [bm,Go.aH.aL]
 ·simp [Go.aH.aL]
theorem IL.idx {v:AV} {l:List Int} (h:IL v l) (k:IntKind) (i:Int) (φ:AV→Prop):ay 1 v (.int k i) φ=((0≤i∧i < l.length)∧φ (.ai (.int .i64 (l.getD i.toNat 0)))):=by
 rcases h with rfl | rfl
 ·cases l with
  | nil=>simp [bm,ay];omega
  | cons x r=>exact cG 1 0 (x::r) k i φ
 ·exact cG 1 0 l k i φ
theorem IL.lens {v:AV} {l:List Int} (h:IL v l):(∀ (own:Nat) (xs:List AV),v=AV.ap own xs→∀ z∈xs,z.cells.length=1)=True:=by
 rcases h with rfl | rfl
 ·cases l with
  | nil=>simp [bm]
  | cons x r=>exact dH 0 (x::r)
 ·exact dH 0 l
def yF (S:List aa→Prop):Prop:=∀ H H',S H→S H'→H'.length=H.length
def SB (S:List aa→Prop) (Q:Prop) (r:AV) (H':List aa):Prop:=∃ b:Bool,r=.bool b∧(b=true↔Q)∧S H'
def SI (S:List aa→Prop) (Q:Int→Prop) (l:List Int) (r:AV) (H':List aa):Prop:=
 S H'∧((r=.int .i64 (-1)∧∀ x∈l,¬ Q x)∨∃ n:Nat,r=.int .i64 n∧n < l.length∧Q (l.getD n 0)∧∀ j,j < n→¬ Q (l.getD j 0))
theorem At {S:List aa→Prop} (hl:yF S) {s:Nat} {b:Bool} {Q:Prop} {H H':List aa} {x:AV} (hx:x=.bool b) (hb:b=true↔Q) (hS:S H) (Wq:S H'):bR H.length [.t s] [(s,x)] H' (SB S Q):=by
 subst hx
 refine aO H.length (Nat.le_refl _) (by rw [au,if_pos rfl];rfl) ?_
 rw [au,if_pos rfl,List.take_of_length_le (by rw [hl H H' hS Wq];exact Nat.le_refl _)]
 exact ⟨b,rfl,hb,Wq⟩
theorem aN {l:List Int} {i:Nat} (h:i < l.length):l.getD i 0∈l:=by rw [List.getD_eq_getElem?_getD,List.getElem?_eq_getElem h];exact List.getElem_mem h
theorem Wr {S:List aa→Prop} (hS:yF S) {Q:Int→Int→Prop} {a b:List Int} {va vb:AV} (ha:IL va a) (hb:IL vb b) (la:a.length≤1000000000) (lb:b.length≤1000000000) (g:Nat) (pre cH:List AV) (b9:cH.map AV.ab=cH) (lK:pre.map AV.ab=pre)
 (hf:∀ x∈a,∀ y∈b,∀ H,S H→aq Tryz.prog g (pre++[.int .i64 x,.int .i64 y]++cH) H (SB S (Q x y))) {H:List aa} (hH:S H) :
 aq Tryz.prog 140 [va,vb,.fn (.func g) pre cH] H (SB S (a.length=b.length∧∀ j,j < a.length→Q (a.getD j 0) (b.getD j 0))):=by
 refine U0.2.calls rfl ?_
 simp only [U0,aJ]
 obtain ⟨a1,a2,a3,a4⟩:=ha.one
 obtain ⟨b1,b2,b3,b4⟩:=hb.one
 simp +contextual only [a2,b2,ha.aL,hb.aL,ha.len (by omega),hb.len (by omega),sZ,Nat.reduceEqDiff,Nat.reduceAdd,↓reduceIte,reduceCtorEq]
 refine ⟨fun eM=>At hS rfl ⟨fun h=>by simp at h,fun h=>absurd (by omega) eM⟩ hH hH,fun ZJ=>?_⟩
 refine aE a.length (fun i (G:List aa)=>S G∧∀ j,j < i→Q (a.getD j 0) (b.getD j 0))
  (fun i G=>[(1,vb),(2,.fn (.func g) pre cH),(15,va),(16,.int .i64 b.length),(17,.int .i64 i)]) (fun i G=>G) H ⟨⟨hH,fun j hj=>by omega⟩,aA _ _ _⟩ fun i G hi hI=>?_
 obtain ⟨hG,hq⟩:=hI
 simp +contextual only [b2,ha.lens,hb.lens,ha.idx,hb.idx,Int.toNat_natCast,b9,lK,sZ,Nat.reduceEqDiff,Nat.reduceAdd,↓reduceIte,reduceCtorEq]
 refine ⟨fun aX=>⟨by omega,by omega,?_⟩,fun jh=>?_⟩
 ·refine af (hf _ (aN (by omega)) _ (aN (by omega)) G hG) ?_
  rintro r G' ⟨x,rfl,hx,ey⟩
  cases x with
  | true=>
    simp +contextual only [sZ,Nat.reduceEqDiff,↓reduceIte]
    refine ⟨i + 1,G',⟨by omega,ey,fun j hj=>?_⟩,by omega,aI (by rw [ax i (by omega)]) rfl⟩
    by_cases h:j=i
    ·subst h;exact hx.1 rfl
    ·exact hq j (by omega)
  | false=>
    simp +contextual only [sZ,Nat.reduceEqDiff,↓reduceIte,reduceCtorEq]
    refine At hS rfl ⟨fun h=>by simp at h,fun h=>?_⟩ hH ey
    exact absurd (hx.2 (h.2 i (by omega))) (by simp)
 ·refine At hS rfl ⟨fun _=>⟨by omega,fun j hj=>hq j (by omega)⟩,fun _=>rfl⟩ hH hG
theorem KA {S:List aa→Prop} (hS:yF S) {Q:Int→Prop} {a:List Int} {va:AV} (ha:IL va a) (la:a.length≤1000000000) (g:Nat) (pre cH:List AV) (b9:cH.map AV.ab=cH) (lK:pre.map AV.ab=pre)
 (hf:∀ x∈a,∀ H,S H→aq Tryz.prog g (pre++[.int .i64 x]++cH) H (SB S (Q x))) {H:List aa} (hH:S H) :
 aq Tryz.prog 100 [va,.fn (.func g) pre cH] H (SI S Q a):=by
 refine BT.2.calls rfl ?_
 simp only [BT,aJ]
 obtain ⟨a1,a2,a3,a4⟩:=ha.one
 simp +contextual only [a2,ha.aL,ha.len (by omega),sZ,Nat.reduceEqDiff,Nat.reduceAdd,↓reduceIte,reduceCtorEq]
 have fin:∀ (n:Int) (G:List aa),S G→((n=-1∧∀ x∈a,¬ Q x)∨∃ m:Nat,n=m∧m < a.length∧Q (a.getD m 0)∧∀ j,j < m→¬ Q (a.getD j 0))→bR H.length [.t 4] [(4,.int .i64 n)] G (SI S Q a):=by
  intro n G hG hn
  refine aO H.length (Nat.le_refl _) (by rw [au,if_pos rfl];rfl) ?_
  rw [au,if_pos rfl,List.take_of_length_le (by rw [hS H G hH hG];exact Nat.le_refl _)]
  refine ⟨hG,?_⟩
  rcases hn with ⟨rfl,h⟩ | ⟨m,rfl,h⟩
  ·exact .inl ⟨rfl,h⟩
  ·exact .inr ⟨m,rfl,h⟩
 refine aE a.length (fun i (G:List aa)=>S G∧∀ j,j < i→¬ Q (a.getD j 0))
  (fun i G=>[(0,va),(1,.fn (.func g) pre cH),(7,.int .i64 a.length),(8,.int .i64 i)]) (fun i G=>G) H ⟨⟨hH,fun j hj=>by omega⟩,aA _ _ _⟩ fun i G hi hI=>?_
 obtain ⟨hG,hq⟩:=hI
 simp +contextual only [a2,ha.lens,ha.idx,Int.toNat_natCast,b9,lK,sZ,Nat.reduceEqDiff,Nat.reduceAdd,↓reduceIte,reduceCtorEq]
 refine ⟨fun aX=>⟨by omega,?_⟩,fun jh=>?_⟩
 ·refine af (hf _ (aN (by omega)) G hG) ?_
  rintro r G' ⟨x,rfl,hx,ey⟩
  cases x with
  | false=>
    simp +contextual only [sZ,Nat.reduceEqDiff,↓reduceIte,reduceCtorEq]
    refine ⟨i + 1,G',⟨by omega,ey,fun j hj=>?_⟩,by omega,aI (by rw [ax i (by omega)]) rfl⟩
    by_cases h:j=i
    ·subst h;exact fun h=>absurd (hx.2 h) (by simp)
    ·exact hq j (by omega)
  | true=>
    simp +contextual only [sZ,Nat.reduceEqDiff,↓reduceIte,reduceCtorEq]
    exact fin _ _ ey (.inr ⟨i,rfl,by omega,hx.1 rfl,hq⟩)
 ·refine fin _ _ hG (.inl ⟨rfl,fun x hx=>?_⟩)
  obtain ⟨j,hj,rfl⟩:=List.getElem_of_mem hx
  have:=hq j (by omega)
  simpa [hj] using this
theorem CL {S:List aa→Prop} (hS:yF S) {Q:Int→Prop} {a:List Int} {va:AV} (ha:IL va a) (la:a.length≤1000000000) (g:Nat) (pre cH:List AV) (b9:cH.map AV.ab=cH) (lK:pre.map AV.ab=pre)
 (hf:∀ x∈a,∀ H,S H→aq Tryz.prog g (pre++[.int .i64 x]++cH) H (SB S (Q x))) {H:List aa} (hH:S H) :
 aq Tryz.prog 102 [va,.fn (.func g) pre cH] H (SB S (∃ x∈a,Q x)):=by
 refine BU.2.calls rfl ?_
 simp only [BU,aJ]
 obtain ⟨a1,a2,a3,a4⟩:=ha.one
 simp +contextual only [a2,sZ,Nat.reduceEqDiff,Nat.reduceAdd,↓reduceIte,reduceCtorEq]
 refine af (KA hS ha la g pre cH b9 lK hf hH) ?_
 rintro r G ⟨hG,⟨rfl,h⟩ | ⟨n,rfl,h1,h2,_⟩⟩
 ·simp +contextual only [sZ,↓reduceIte,reduceCtorEq]
  exact At hS (b:=false) (by simp) ⟨fun h=>by simp at h,fun ⟨x,hx,h'⟩=>absurd h' (h x hx)⟩ hH hG
 ·simp +contextual only [sZ,↓reduceIte,reduceCtorEq]
  exact At hS (b:=true) (by simp) ⟨fun _=>⟨_,aN h1,h2⟩,fun _=>rfl⟩ hH hG
end Go.aH
end
section
set_option maxRecDepth 100000
namespace Go.aH
open Go Go.Proofs Go.fm
def SD (c:Cx) (H0 H:List aa):Prop:=Du c H∧Up c H0 H
theorem SD.Au (c:Cx) (H0:List aa):yF (SD c H0):=fun H H' h h'=>by rw [h'.2.len,h.2.len]
theorem iF.sb {c:Cx} {Q:Prop} {H0 H H':List aa} {r:AV} (h:iF c Q H r H') (hS:SD c H0 H):SB (SD c H0) Q r H':=by
 obtain ⟨b,h1,h2,h3,h4⟩:=h;exact ⟨b,h1,h2,h4,hS.2.trans h3⟩
theorem ZK {c:Cx} {i x:Int} (h:hJ c i x) {H:List aa} (hD:Du c H):aq Tryz.prog 233 [.int .i64 x,.ai (.ptr c.d 0),.ai (.int .i64 i)] H (iF c (¬ R c.O (c.tm i) (c.tm x)) H):=by
 refine Vy.2.calls rfl ?_
 simp only [Vy,aJ]
 simp +contextual only [sZ,Nat.reduceEqDiff,Nat.reduceAdd,↓reduceIte,reduceCtorEq]
 refine af (h H hD) ?_
 rintro r H' ⟨b,rfl,hb,hU,jn⟩
 simp +contextual only [sZ,↓reduceIte,reduceCtorEq]
 refine eB (b:=!b) rfl ?_ hU jn
 rw [← hb];cases b <;> simp
theorem SX {c:Cx} {i:Int} {l:List Int} {v:AV} (hv:IL v l) (hl:l.length≤1000000000) (h:∀ x∈l,hJ c i x) {H:List aa} (hD:Du c H):aq Tryz.prog 204 [.ptr c.d 0,.int .i64 i,v] H (iF c (∀ x∈l,R c.O (c.tm i) (c.tm x)) H):=by
 refine Vn.2.calls rfl ?_
 simp only [Vn,aJ]
 obtain ⟨a1,a2,a3,a4⟩:=hv.one
 simp +contextual only [a2,sZ,Nat.reduceEqDiff,Nat.reduceAdd,↓reduceIte,reduceCtorEq]
 refine af (CL (SD.Au c H) hv hl 233 [] [.ai (.ptr c.d 0),.ai (.int .i64 i)] rfl rfl (Q:=fun x=>¬ R c.O (c.tm i) (c.tm x)) (fun x hx G hG=>(ZK (h x hx) hG.1).mono fun r H' hr=>hr.sb hG) ⟨hD,Up.refl c H⟩) ?_
 rintro r G ⟨b,rfl,hb,hG⟩
 simp +contextual only [sZ,↓reduceIte,reduceCtorEq]
 refine eB (b:=!b) rfl ?_ hG.2 hG.1
 cases b with
 | true=>
   obtain ⟨x,hx,hr⟩:=hb.1 rfl
   exact ⟨fun h=>by simp at h,fun h=>absurd (h x hx) hr⟩
 | false=>
   refine ⟨fun _ x hx=>?_,fun _=>rfl⟩
   by_cases hr:R c.O (c.tm i) (c.tm x)
   ·exact hr
   ·exact absurd (hb.2 ⟨x,hx,hr⟩) (by simp)
theorem ZL {c:Cx} {x k:Int} (h1:kx c x k) (h2:hJ c x k) {H:List aa} (hD:Du c H):aq Tryz.prog 220 [.int .i64 x,.ai (.ptr c.d 0),.ai (.int .i64 k)] H (iF c (E c.O (c.tm x) (c.tm k)∨R c.O (c.tm x) (c.tm k)) H):=by
 refine Vu.2.calls rfl ?_
 simp only [Vu,aJ]
 simp +contextual only [sZ,Nat.reduceEqDiff,Nat.reduceAdd,↓reduceIte,reduceCtorEq]
 refine af (h1 H hD) ?_
 rintro r H' ⟨b,rfl,hb,hU,jn⟩
 cases b with
 | true=>
   simp +contextual only [sZ,Nat.reduceEqDiff,↓reduceIte,reduceCtorEq]
   exact eB rfl ⟨fun _=>.inl (hb.1 rfl),fun _=>rfl⟩ hU jn
 | false=>
   simp +contextual only [sZ,Nat.reduceEqDiff,Nat.reduceAdd,↓reduceIte,reduceCtorEq]
   refine af (h2 H' jn) ?_
   rintro r H2 ⟨b,rfl,pR,P3,A6⟩
   simp +contextual only [sZ,Nat.reduceEqDiff,↓reduceIte,reduceCtorEq]
   refine eB rfl ⟨fun h=>.inr (pR.1 h),fun h=>?_⟩ (hU.trans P3) A6
   rcases h with h | h
   ·exact absurd (hb.2 h) (by simp)
   ·exact pR.2 h
theorem Ws {c:Cx} (hc:c.Ok) {i k:Int} (hi:c.dP i) (h1:∀ x∈c.kd i,kx c x k) (h2:∀ x∈c.kd i,hJ c x k) {H:List aa} (hD:Du c H):aq Tryz.prog 183 [.ptr c.d 0,.int .i64 i,.int .i64 k] H (iF c (∃ x∈c.kd i,E c.O (c.tm x) (c.tm k)∨R c.O (c.tm x) (c.tm k)) H):=by
 refine Vj.2.calls rfl ?_
 simp only [Vj,aJ]
 have k2:∀ l,(bm l).ab=bm l:=fun l=>(aC l).2.1
 simp +contextual only [hD.d,mE,Dv,cF,bT,k2,sZ,Nat.reduceEqDiff,Nat.reduceAdd,Nat.reduceLT,↓reduceIte,reduceCtorEq]
 refine ⟨hi,?_⟩
 refine af (CL (SD.Au c H) (.inl rfl:IL (bm (c.kd i)) (c.kd i)) (by have:=hc.kl i hi;omega) 220 [] [.ai (.ptr c.d 0),.ai (.int .i64 k)] rfl rfl (Q:=fun x=>E c.O (c.tm x) (c.tm k)∨R c.O (c.tm x) (c.tm k)) (fun x hx G hG=>(ZL (h1 x hx) (h2 x hx) hG.1).mono fun r H' hr=>hr.sb hG) ⟨hD,Up.refl c H⟩) ?_
 rintro r G ⟨b,rfl,hb,hG⟩
 simp +contextual only [sZ,↓reduceIte,reduceCtorEq]
 exact eB rfl hb hG.2 hG.1
theorem Wt {c:Cx} (hc:c.Ok) {i k:Int} (hi:c.dP i) (hk:c.dP k) (h:∀ x∈c.kd k,hJ c i x) {H:List aa} (hD:Du c H):aq Tryz.prog 184 [.ptr c.d 0,.int .i64 i,.int .i64 k] H
 (iF c (rq c k=true∧pH c k < pH c i∧∀ x∈c.kd k,R c.O (c.tm i) (c.tm x)) H):=by
 refine Vk.2.calls rfl ?_
 simp only [Vk,aJ]
 have k2:∀ l,(bm l).ab=bm l:=fun l=>(aC l).2.1
 simp +contextual only [sZ,Nat.reduceEqDiff,Nat.reduceAdd,↓reduceIte,reduceCtorEq]
 refine af (pI hc hi hD) ?_
 rintro r H1 ⟨rfl,rfl⟩
 simp +contextual only [dE,fA,fB,fC,sZ,Nat.reduceEqDiff,Nat.reduceAdd,↓reduceIte,reduceCtorEq]
 refine af (pI hc hk hD) ?_
 rintro r H1 ⟨rfl,rfl⟩
 simp +contextual only [dE,fA,fB,fC,sZ,Nat.reduceEqDiff,↓reduceIte,reduceCtorEq]
 cases hb:rq c k with
 | false=>
   simp +contextual only [sZ,Nat.reduceEqDiff,↓reduceIte,reduceCtorEq]
   exact eB rfl ⟨fun h=>by simp at h,fun h=>by simp at h⟩ (Up.refl c _) hD
 | true=>
   by_cases hp:pH c k < pH c i
   ·simp +contextual only [hp,hD.d,mE,Dv,cF,bT,k2,sZ,Nat.reduceEqDiff,Nat.reduceAdd,Nat.reduceLT,↓reduceIte,reduceCtorEq]
    refine ⟨hk,af (SX (.inl rfl:IL (bm (c.kd k)) (c.kd k)) (by have:=hc.kl k hk;omega) h hD) ?_⟩
    rintro r H2 ⟨b,rfl,pR,hU,jn⟩
    simp +contextual only [sZ,Nat.reduceEqDiff,↓reduceIte,reduceCtorEq]
    exact eB rfl ⟨fun h=>⟨rfl,hp,pR.1 h⟩,fun h=>pR.2 h.2.2⟩ hU jn
   ·simp +contextual only [hp,sZ,Nat.reduceEqDiff,↓reduceIte,reduceCtorEq]
    exact eB rfl ⟨fun h=>by simp at h,fun h=>absurd h.2.1 hp⟩ (Up.refl c _) hD
structure IC (Q:Int→Int→Prop) (a b:List Int) (n:Nat):Prop where
 la:n≤a.length
 lb:n≤b.length
 eq:∀ j,j < n→Q (a.getD j 0) (b.getD j 0)
 no:n < a.length→n < b.length→¬ Q (a.getD n 0) (b.getD n 0)
theorem Wu {c:Cx} {a b:List Int} {va vb:AV} (ha:IL va a) (hb:IL vb b) (la:a.length≤1000000000) (lb:b.length≤1000000000) (h:∀ x∈a,∀ y∈b,kx c x y) {H:List aa} (hD:Du c H) :
 aq Tryz.prog 150 [.ptr c.d 0,va,vb] H fun r H'=>∃ n:Nat,r=.int .i64 n∧IC (fun x y=>E c.O (c.tm x) (c.tm y)) a b n∧Up c H H'∧Du c H':=by
 refine U4.2.calls rfl ?_
 simp only [U4,aJ]
 obtain ⟨a1,a2,a3,a4⟩:=ha.one
 obtain ⟨b1,b2,b3,b4⟩:=hb.one
 simp +contextual only [sZ,Nat.reduceEqDiff,Nat.reduceAdd,↓reduceIte,reduceCtorEq]
 refine aE a.length (fun i (G:List aa)=>SD c H G∧i≤b.length∧∀ j,j < i→E c.O (c.tm (a.getD j 0)) (c.tm (b.getD j 0)))
  (fun i G=>[(0,.ptr c.d 0),(1,va),(2,vb),(7,.int .i64 i)]) (fun i G=>G) H ⟨⟨⟨hD,Up.refl c H⟩,Nat.zero_le _,fun j hj=>by omega⟩,aA _ _ _⟩ fun i G hi hI=>?_
 obtain ⟨hG,ZM,hq⟩:=hI
 have fin:∀ G',SD c H G'→IC (fun x y=>E c.O (c.tm x) (c.tm y)) a b i→bR H.length [.t 6] [(6,.int .i64 (i:Int))] G' fun r H'=>∃ n:Nat,r=.int .i64 n∧IC (fun x y=>E c.O (c.tm x) (c.tm y)) a b n∧Up c H H'∧Du c H':=by
  intro G' ey hp
  refine aO H.length (Nat.le_refl _) (by rw [au,if_pos rfl];rfl) ?_
  rw [au,if_pos rfl,List.take_of_length_le (by rw [ey.2.len];exact Nat.le_refl _)]
  exact ⟨i,rfl,hp,ey.2,ey.1⟩
 by_cases h1:(i:Int) < a.length
 ·by_cases h2:(i:Int) < b.length
  ·simp +contextual only [a2,b2,ha.aL,hb.aL,ha.v8,hb.v8,ha.lens,hb.lens,ha.idx,hb.idx,Int.toNat_natCast,h1,h2,decide_true,sZ,Nat.reduceEqDiff,Nat.reduceAdd,↓reduceIte,reduceCtorEq]
   refine ⟨by omega,by omega,?_⟩
   refine af (h _ (aN (by omega)) _ (aN (by omega)) G hG.1) ?_
   rintro r G' ⟨x,rfl,hx,hU,jn⟩
   have ey:SD c H G':=⟨jn,hG.2.trans hU⟩
   cases x with
   | true=>
     simp +contextual only [sZ,Nat.reduceEqDiff,↓reduceIte,reduceCtorEq]
     refine ⟨i + 1,G',⟨by omega,ey,by omega,fun j hj=>?_⟩,by omega,aI (by rw [ax i (by omega)]) rfl⟩
     by_cases h:j=i
     ·subst h;exact hx.1 rfl
     ·exact hq j (by omega)
   | false=>
     simp +contextual only [sZ,Nat.reduceEqDiff,↓reduceIte,reduceCtorEq]
     exact fin G' ey ⟨hi,ZM,hq,fun _ _ he=>absurd (hx.2 he) (by simp)⟩
  ·simp +contextual only [a2,b2,ha.aL,hb.aL,ha.v8,hb.v8,h1,h2,decide_true,decide_false,sZ,Nat.reduceEqDiff,↓reduceIte,reduceCtorEq]
   exact fin G hG ⟨hi,ZM,hq,fun _ h'=>absurd h' (by omega)⟩
 ·simp +contextual only [a2,ha.aL,ha.v8,h1,decide_false,sZ,Nat.reduceEqDiff,↓reduceIte,reduceCtorEq]
  exact fin G hG ⟨hi,ZM,hq,fun h' _=>absurd h' (by omega)⟩
def Av (c:Cx) (i k:Int):Prop:=
 tW c i k=true∧dD c i≠3∧(∀ x∈c.kd k,R c.O (c.tm i) (c.tm x))∧
 ∃ n,IC (fun x y=>E c.O (c.tm x) (c.tm y)) (bC (dD c i) (c.kd i)) (bC (dD c i) (c.kd k)) n∧n < (bC (dD c i) (c.kd i)).length∧
  (n=(bC (dD c i) (c.kd k)).length∨R c.O (c.tm ((bC (dD c i) (c.kd i)).getD n 0)) (c.tm ((bC (dD c i) (c.kd k)).getD n 0)))
theorem oI {s x:Int} {l:List Int}:x∈bC s l↔x∈l:=by unfold bC;split <;> simp
theorem jv {s:Int} {l:List Int}:(bC s l).length=l.length:=by unfold bC;split <;> simp
theorem IC.SY {Q:Int→Int→Prop} {a b:List Int} {n m:Nat} (h:IC Q a b n) (k:IC Q a b m):n=m:=by
 rcases Nat.lt_trichotomy n m with h1 | h1 | h1
 ·exact absurd (k.eq n h1) (h.no (by have:=k.la;omega) (by have:=k.lb;omega))
 ·exact h1
 ·exact absurd (h.eq m h1) (k.no (by have:=h.la;omega) (by have:=h.lb;omega))
theorem Wv {c:Cx} (hc:c.Ok) {i k:Int} (hi:c.dP i) (hk:c.dP k) (h1:∀ x∈c.kd k,hJ c i x) (h2:∀ x∈c.kd i,∀ y∈c.kd k,kx c x y) (h3:∀ x∈c.kd i,∀ y∈c.kd k,hJ c x y) {H:List aa} (hD:Du c H) :
 aq Tryz.prog 185 [.ptr c.d 0,.int .i64 i,.int .i64 k] H (iF c (Av c i k) H):=by
 refine PV.2.calls rfl ?_
 simp only [PV,aJ]
 have k2:∀ l,(bm l).ab=bm l:=fun l=>(aC l).2.1
 have l1:=hc.kl i hi
 have l2:=hc.kl k hk
 simp +contextual only [sZ,Nat.reduceEqDiff,Nat.reduceAdd,↓reduceIte,reduceCtorEq]
 refine af (ER hc hi hk hD) ?_
 rintro r H1 ⟨rfl,rfl⟩
 simp +contextual only [sZ,Nat.reduceEqDiff,Nat.reduceAdd,Nat.reduceLT,↓reduceIte,reduceCtorEq]
 cases hl:tW c i k with
 | false=>
   simp +contextual only [Bool.not_false,sZ,Nat.reduceEqDiff,↓reduceIte,reduceCtorEq]
   exact eB rfl ⟨fun h=>by simp at h,fun h=>by have:=h.1;rw [hl] at this;simp at this⟩ (Up.refl c _) hD
 | true=>
   by_cases hs:dD c i=3
   ·simp +contextual only [Bool.not_true,hs,decide_true,sZ,Nat.reduceEqDiff,↓reduceIte,reduceCtorEq]
    exact eB rfl ⟨fun h=>by simp at h,fun h=>absurd hs h.2.1⟩ (Up.refl c _) hD
   ·simp +contextual only [Bool.not_true,hs,decide_false,hD.d,mE,Dv,cF,bT,k2,sZ,Nat.reduceEqDiff,Nat.reduceAdd,Nat.reduceLT,↓reduceIte,reduceCtorEq]
    refine ⟨hk,af (SX (.inl rfl:IL (bm (c.kd k)) (c.kd k)) (by omega) h1 hD) ?_⟩
    rintro r H2 ⟨b,rfl,pR,hU,A6⟩
    cases b with
    | false=>
      simp +contextual only [Bool.not_false,sZ,Nat.reduceEqDiff,↓reduceIte,reduceCtorEq]
      exact eB rfl ⟨fun h=>by simp at h,fun h=>absurd (pR.2 h.2.2.1) (by simp)⟩ hU A6
    | true=>
      have CD:=pR.1 rfl
      simp +contextual only [Bool.not_true,A6.d,mE,Dv,cF,bT,k2,sZ,Nat.reduceEqDiff,Nat.reduceAdd,Nat.reduceLT,↓reduceIte,reduceCtorEq]
      refine ⟨hi,aF (HX (c.kd i) (dD c i) (by omega)) ?_⟩
      simp +contextual only [A6.d,mE,Dv,cF,bT,k2,sZ,Nat.reduceEqDiff,Nat.reduceAdd,Nat.reduceLT,↓reduceIte,reduceCtorEq]
      refine ⟨hk,aF (HX (c.kd k) (dD c i) (by omega)) ?_⟩
      have la:(bC (dD c i) (c.kd i)).length≤1000000000:=by rw [jv];omega
      have lb:(bC (dD c i) (c.kd k)).length≤1000000000:=by rw [jv];omega
      have ia:IL (.ap 0 (ints (bC (dD c i) (c.kd i)))) (bC (dD c i) (c.kd i)):=.inr rfl
      have ib:IL (.ap 0 (ints (bC (dD c i) (c.kd k)))) (bC (dD c i) (c.kd k)):=.inr rfl
      simp +contextual only [sZ,Nat.reduceEqDiff,Nat.reduceAdd,↓reduceIte,reduceCtorEq]
      refine af (Wu ia ib la lb (fun x hx y hy=>h2 x (oI.1 hx) y (oI.1 hy)) A6) ?_
      rintro r H3 ⟨n,rfl,hp,Ww,KB⟩
      have U3:=hU.trans Ww
      have yes:∀ (Hx:List aa),Up c H1 Hx→Du c Hx→n < (bC (dD c i) (c.kd i)).length→(n=(bC (dD c i) (c.kd k)).length∨R c.O (c.tm ((bC (dD c i) (c.kd i)).getD n 0)) (c.tm ((bC (dD c i) (c.kd k)).getD n 0)))→
       bR H1.length [.t 6] [(6,.bool true)] Hx (iF c (Av c i k) H1):=fun Hx u d hn hx=>eB rfl ⟨fun _=>⟨hl,hs,CD,n,hp,hn,hx⟩,fun _=>rfl⟩ u d
      have no:∀ (Hx:List aa),Up c H1 Hx→Du c Hx→¬ (n < (bC (dD c i) (c.kd i)).length∧(n=(bC (dD c i) (c.kd k)).length∨R c.O (c.tm ((bC (dD c i) (c.kd i)).getD n 0)) (c.tm ((bC (dD c i) (c.kd k)).getD n 0))))→
       bR H1.length [.t 6] [(6,.bool false)] Hx (iF c (Av c i k) H1):=fun Hx u d hx=>eB rfl ⟨fun h=>by simp at h,fun ⟨_,_,_,m,hm,wO⟩=>absurd (hm.SY hp ▸ wO) hx⟩ u d
      by_cases h4:(n:Int) < (bC (dD c i) (c.kd i)).length
      ·have d4:decide ((n:Int) < (bC (dD c i) (c.kd i)).length)=true:=decide_eq_true h4
       by_cases h5:(n:Int)=(bC (dD c i) (c.kd k)).length
       ·have d5:decide ((n:Int)=(bC (dD c i) (c.kd k)).length)=true:=decide_eq_true h5
        simp +contextual only [aw,d4,d5,sZ,Nat.reduceEqDiff,↓reduceIte,reduceCtorEq]
        exact yes H3 U3 KB (by omega) (.inl (by omega))
       ·have hlb:=hp.lb
        simp +contextual only [aw,dH,cG,Int.toNat_natCast,h4,h5,decide_true,decide_false,sZ,Nat.reduceEqDiff,Nat.reduceAdd,↓reduceIte,reduceCtorEq]
        refine ⟨by omega,⟨by omega,by omega⟩,af (h3 _ (oI.1 (aN (by omega))) _ (oI.1 (aN (by omega))) H3 KB) ?_⟩
        rintro r H4 ⟨b,rfl,hb,T3,T4⟩
        cases b with
        | true=>
          simp +contextual only [sZ,Nat.reduceEqDiff,↓reduceIte,reduceCtorEq]
          exact yes H4 (U3.trans T3) T4 (by omega) (.inr (hb.1 rfl))
        | false=>
          simp +contextual only [sZ,Nat.reduceEqDiff,↓reduceIte,reduceCtorEq]
          refine no H4 (U3.trans T3) T4 fun ⟨_,hx⟩=>?_
          rcases hx with hx | hx
          ·omega
          ·exact absurd (hb.2 hx) (by simp)
      ·simp +contextual only [aw,h4,decide_false,sZ,Nat.reduceEqDiff,↓reduceIte,reduceCtorEq]
       exact no H3 U3 KB fun ⟨hx,_⟩=>by omega
end Go.aH
end
section
set_option maxRecDepth 100000
namespace Go.aH
open Go Go.Proofs Go.fm
theorem CM (n:Int) (h:0≤n∧n < 18446744073709551616):IntKind.u64.wrap n=n:=by
 have:IntKind.u64.bits=64:=rfl
 have:IntKind.u64.signed=false:=rfl
 simp only [IntKind.wrap, *]
 have e:n % 2 ^ 64=n:=Int.emod_eq_of_lt h.1 (by omega)
 rw [e]
 simp
theorem SZ {n:Nat} (h:n < 4294967296) (φ:AV→Prop):de .and (.int .u64 (n:Int)) (.int .u64 4294967295) φ=φ (.int .u64 (n:Int)):=by
 have e:(BitVec.ofInt IntKind.u64.bits (n:Int) &&& BitVec.ofInt IntKind.u64.bits 4294967295).toNat=n:=by
  show (BitVec.ofInt 64 (n:Int) &&& BitVec.ofInt 64 4294967295).toNat=n
  rw [BitVec.toNat_and]
  have e1:(BitVec.ofInt 64 (n:Int)).toNat=n:=by rw [BitVec.toNat_ofInt];omega
  have e2:(BitVec.ofInt 64 4294967295).toNat=2 ^ 32 - 1:=rfl
  rw [e1,e2,Nat.and_two_pow_sub_one_eq_mod,Nat.mod_eq_of_lt h]
 simp only [de,e,true_and]
 rw [CM _ (by omega)]
theorem S0 {n:Nat} (h:n < 4294967296) (φ:AV→Prop):dS .shr (.int .u64 (n:Int)) (.int .u64 32) φ=φ (.int .u64 0):=by
 have e:Int.fdiv (n:Int) (2 ^ min (32:Int).toNat IntKind.u64.bits)=0:=by
  show Int.fdiv (n:Int) (2 ^ 32)=0
  rw [Int.fdiv_eq_ediv_of_nonneg _ (by decide)]
  omega
 simp only [dS,e]
 simp
theorem ZN {n:Nat} (h:n < 4294967296):Pure Tryz.prog 213 [.int .u64 1,.int .u64 (n:Int)] (.tuple [.int .u64 0,.int .u64 (n:Int)]):=by
 refine fun H=>Vr.2.calls rfl ?_
 simp only [Vr,aJ]
 have a1:∀ φ:AV→Prop,de .and (.int .u64 1) (.int .u64 4294967295) φ=φ (.int .u64 1):=fun φ=>SZ (n:=1) (by decide) φ
 have s1:∀ φ:AV→Prop,dS .shr (.int .u64 1) (.int .u64 32) φ=φ (.int .u64 0):=fun φ=>S0 (n:=1) (by decide) φ
 have a0:∀ φ:AV→Prop,de .and (.int .u64 0) (.int .u64 4294967295) φ=φ (.int .u64 0):=fun φ=>SZ (n:=0) (by decide) φ
 have s0:∀ φ:AV→Prop,dS .shr (.int .u64 0) (.int .u64 32) φ=φ (.int .u64 0):=fun φ=>S0 (n:=0) (by decide) φ
 have w1:IntKind.u64.wrap (1 * (n:Int))=n:=by rw [Int.one_mul];exact CM _ (by omega)
 have w0:IntKind.u64.wrap 0=0:=CM _ (by omega)
 simp +contextual only [a1,s1,a0,s0,SZ h,S0 h,w1,w0,Int.zero_mul,Int.mul_zero,Int.add_zero,sZ,Nat.reduceEqDiff,Nat.reduceAdd,↓reduceIte,reduceCtorEq]
 have:=vP (H:=H) (e:=[]) (s:=4) (s':=5) (v:=.int .u64 0) (v':=.int .u64 (n:Int)) (by decide) rfl rfl rfl rfl
 rwa [List.append_nil] at this
theorem ZO {n:Nat} (h:n < 4294967296):Pure Tryz.prog 174 [.int .u64 1,.int .u64 (n:Int)] (.tuple [.int .u64 0,.int .u64 (n:Int)]):=by
 refine fun H=>Vg.2.calls rfl ?_
 simp only [Vg,aJ]
 simp +contextual only [sZ,Nat.reduceEqDiff,Nat.reduceAdd,↓reduceIte,reduceCtorEq]
 refine ae (ZN h) ?_
 simp +contextual only [sZ,Nat.reduceEqDiff,Nat.reduceAdd,Nat.reduceLT,↓reduceIte,reduceCtorEq]
 have:=vP (H:=H) (e:=[]) (s:=4) (s':=5) (v:=.int .u64 0) (v':=.int .u64 (n:Int)) (by decide) rfl rfl rfl rfl
 rwa [List.append_nil] at this
def cV (l:List Int):aa:=.cells (ints l)
def dO (i n:Nat) (x:Int):List Int:=List.replicate i x++List.replicate (n - i) 0
theorem mkI (n:Nat) (H:List aa) (K:AV→List aa→Prop) (h:n≤1000000000):fX 1 8 (.int .i64 0) (.int .i64 (n:Int)) H K=K (.a8 H.length 0 n n) (H++[cV (dO 0 n 0)]):=by
 have e:flat (List.replicate n (bL (.int .i64 0)))=ints (dO 0 n 0):=by
  rw [← oH];simp [dO,ints,bL]
 simp only [fX,Int.toNat_natCast,e,aY,cV,true_and,eq_iff_iff]
 constructor
 ·rintro ⟨_,_,h⟩;exact h
 ·exact fun k=>⟨by omega,by omega,k⟩
theorem ln (l:List Int) (k:Nat):(ints l).take k=ints (l.take k):=by simp [ints,List.map_take]
theorem sq (l:List Int) (k:Nat):(ints l).drop k=ints (l.drop k):=by simp [ints,List.map_drop]
theorem lq (l m:List Int):ints l++ints m=ints (l++m):=by simp [ints]
theorem uo (l:List Int):(ints l).map AV.ab=ints l:=by simp [ints,AV.ab]
theorem lr (l:List Int):(ints l).all AV.one=true:=by simp [ints,AV.one]
theorem v9 (x:Int) {i m n:Nat} (h:i + m≤n):ag (ints (dO i n x)) i (ints (List.replicate m x))=ints (dO (i + m) n x):=by
 unfold ag
 rw [ln,aw,sq,lq,lq,List.length_replicate]
 congr 1
 unfold dO
 rw [List.take_append_of_le_length (by simp),List.take_of_length_le (by simp),List.drop_append,List.drop_of_length_le (by simp),List.nil_append,List.length_replicate,List.drop_replicate,← List.append_assoc,List.replicate_append_replicate]
 congr 2;omega
theorem Wx (x:Int) {id n:Nat} {H:List aa} (hg:H[id]?=some (cV (dO 0 n 0))) (K:AV→List aa→Prop) (hK:K (.int .i64 (min 1 n:Nat)) (H.set id (cV (dO (min 1 n) n x)))):jF 1 (.a8 id 0 n n) (.ap 0 (ints [x])) H K:=by
 have e0:dO 0 n 0=dO 0 n x:=by simp [dO]
 rw [e0] at hg
 have ec:uQ 1 (.ap 0 (ints [x])) H=some (1,ints [x]):=rfl
 have et:(ints [x]).take (min 1 n * 1)=ints (List.replicate (min 1 n) x):=by
  rcases Nat.eq_zero_or_pos n with rfl | h
  ·rfl
  ·rw [show min 1 n=1 by omega];rfl
 have:=v9 x (i:=0) (m:=min 1 n) (n:=n) (by omega)
 rw [Nat.zero_add] at this
 simp only [jF,ec,hg,cV,et,uo,lr,aY,this,aw]
 exact ⟨trivial,by simp [dO];omega,trivial,hK⟩
theorem Wy (x:Int) {id i n:Nat} (h0:0 < i) (h1:i < n) {H:List aa} (hg:H[id]?=some (cV (dO i n x))) (K:AV→List aa→Prop) (hK:K (.int .i64 (min i (n - i):Nat)) (H.set id (cV (dO (i + min i (n - i)) n x)))):jF 1 (.a8 id i (n - i) (n - i)) (.a8 id 0 i n) H K:=by
 have hl:(dO i n x).length=n:=by simp [dO];omega
 have ec:uQ 1 (.a8 id 0 i n) H=some (i,ints (dO i n x)):=by
  simp only [uQ,hg,cV,aw,hl,List.drop_zero]
  rw [if_pos (by omega)]
 have et:(ints (dO i n x)).take (min i (n - i) * 1)=ints (List.replicate (min i (n - i)) x):=by
  rw [Nat.mul_one,ln]
  congr 1
  unfold dO
  rw [List.take_append_of_le_length (by simp;omega),List.take_replicate]
  congr 1;omega
 have:=v9 x (i:=i) (m:=min i (n - i)) (n:=n) (by omega)
 simp only [jF,ec,hg,cV,et,uo,lr,aY,this,aw,hl]
 exact ⟨trivial,by omega,trivial,hK⟩
theorem slA {id i n:Nat} (h:i < n) (φ:AV→Prop):aV 1 (.a8 id 0 n n) (some (.int .i64 (i:Int))) none none φ=φ (.a8 id i (n - i) (n - i)):=by
 simp only [aV,eO,dx,Int.toNat_natCast,eq_iff_iff]
 rw [if_neg (by omega)]
 constructor
 ·intro h;simpa using h.2.2.2
 ·intro k;exact ⟨by omega,by omega,Nat.le_refl _,by simpa using k⟩
theorem slB {id i n:Nat} (h:i < n) (φ:AV→Prop):aV 1 (.a8 id 0 n n) none (some (.int .i64 (i:Int))) none φ=φ (.a8 id 0 i n):=by
 simp only [aV,eO,dx,Int.toNat_natCast,eq_iff_iff]
 rw [if_neg (by omega)]
 constructor
 ·intro h;simpa using h.2.2.2
 ·intro k;exact ⟨by omega,by omega,by omega,by simpa using k⟩
theorem S1 (o:Nat) (x:Int) (n:Nat) (hn:n≤1000000000) (H:List aa):aq Tryz.prog 113 [.ap o (ints [x]),.int .i64 (n:Int)] H fun r H'=>r=.a8 H.length 0 n n∧H'=H++[cV (List.replicate n x)]:=by
 refine UP.2.calls rfl ?_
 simp only [UP,aJ]
 have w1:IntKind.u64.wrap 1=1:=CM _ (by omega)
 have w2:IntKind.u64.wrap (n:Int)=n:=CM _ (by omega)
 have w3:IntKind.i64.wrap (n:Int)=n:=eu _ (by omega)
 have e1:(ints [x]).length=1:=rfl
 have nn:decide ((n:Int) < 0)=false:=decide_eq_false (by omega)
 have ng:decide ((9223372036854775807:Int) < n)=false:=decide_eq_false (by omega)
 have z0:decide ((0:Int) < 0)=false:=rfl
 have ci:∀ (k k':IntKind) (n:Int) (φ:AV→Prop),cA k (.int k' n) φ=φ (.int k (k.wrap n)):=fun _ _ _ _=>rfl
 simp +contextual only [e1,w2,ci,nn,sZ,Nat.reduceEqDiff,Nat.reduceAdd,Nat.reduceLT,↓reduceIte,reduceCtorEq]
 refine ae (ZO (n:=n) (by omega)) ?_
 simp +contextual only [w3,ci,ng,mkI n _ _ hn,sZ,Nat.reduceEqDiff,Nat.reduceAdd,Nat.reduceLT,↓reduceIte,reduceCtorEq,Int.reduceLT]
 have g0:(H++[cV (dO 0 n 0)])[H.length]?=some (cV (dO 0 n 0)):=by simp
 refine Wx x g0 _ ?_
 simp +contextual only [sZ,Nat.reduceEqDiff,↓reduceIte,reduceCtorEq]
 have es:∀ i j,(H++[cV (dO i n x)]).set H.length (cV (dO j n x))=H++[cV (dO j n x)]:=by intro i j;simp
 refine JO Nat (fun i=>i≤n∧(0 < n→0 < i)) (fun i=>[(7,.a8 H.length 0 n n),(8,.int .i64 i)]) (fun i=>H++[cV (dO i n x)]) (fun i=>n - i) (min 1 n) ⟨by omega,by omega⟩ (aI rfl ?_) ?_
 ·simp
 ·intro i hI
  have gi:(H++[cV (dO i n x)])[H.length]?=some (cV (dO i n x)):=by simp
  by_cases aX:(i:Int) < n
  ·have Ds:i < n:=by omega
   simp +contextual only [aX,decide_true,Option.map_some,Option.map_none,slA Ds,slB Ds,sZ,Nat.reduceEqDiff,↓reduceIte]
   refine Wy x (by omega) Ds gi _ ?_
   simp +contextual only [es,sZ,Nat.reduceEqDiff,↓reduceIte]
   refine ⟨i + min i (n - i),⟨by omega,by omega⟩,by omega,aI ?_ rfl⟩
   rw [eu _ (by omega)]
   rw [Int.natCast_add]
  ·have e:i=n:=by omega
   subst e
   simp +contextual only [aX,decide_false,sZ,Nat.reduceEqDiff,↓reduceIte,reduceCtorEq]
   have e3:dO i i x=List.replicate i x:=by simp [dO]
   rw [e3]
   refine aO (H.length + 1) (by omega) (by rw [au,if_pos rfl,jP];simp) ?_
   rw [au,if_pos rfl,List.take_of_length_le (by simp)]
   exact ⟨rfl,rfl⟩
end Go.aH
end
section
set_option maxRecDepth 100000
namespace Go.aH
open Go Go.Proofs Go.fm
def pd (l:List Bool):List AV:=l.map .bool
def sr (l:List Bool):aa:=.cells (pd l)
theorem sv (l:List Bool):(pd l).length=l.length:=by simp [pd]
def below (n:Nat) (p:Nat→Bool):List Int:=((List.range n).filter p).map Int.ofNat
theorem wa (n:Nat) (p:Nat→Bool):below (n + 1) p=if p n=true then below n p++[(n:Int)] else below n p:=by
 unfold below
 rw [List.range_succ,List.filter_append,List.map_append]
 by_cases h:p n=true
 ·simp [h]
 ·simp [h]
theorem jw (n:Nat) (p:Nat→Bool):(below n p).length≤n:=by
 unfold below
 rw [List.length_map]
 have:=List.length_filter_le p (List.range n)
 simpa using this
theorem gr {n:Nat} {p:Nat→Bool} {x:Int}:x∈below n p↔∃ j:Nat,x=j∧j < n∧p j=true:=by
 unfold below
 simp only [List.mem_map,List.mem_filter,List.mem_range]
 constructor
 ·rintro ⟨j,h,rfl⟩;exact ⟨j,rfl,h⟩
 ·rintro ⟨j,rfl,h⟩;exact ⟨j,h,rfl⟩
structure Pr (Q:Int→Int→Prop) (a b:List Int) (k:Nat) (us:List Bool) (to:List Int):Prop where
 lu:us.length=a.length
 lt:to.length=b.length
 rest:∀ j,k≤j→j < b.length→to.getD j 0=-1
 t1:∀ j,j < k→to.getD j 0=-1∨∃ i:Nat,to.getD j 0=i∧i < a.length∧us.getD i false=true∧Q (a.getD i 0) (b.getD j 0)
 inj:∀ j j',j < k→j' < k→to.getD j 0=to.getD j' 0→to.getD j 0≠-1→j=j'
 uu:∀ i,i < a.length→us.getD i false=true→∃ j,j < k∧to.getD j 0=i
 free:∀ j,j < k→to.getD j 0=-1→∀ i,i < a.length→us.getD i false=false→¬ Q (a.getD i 0) (b.getD j 0)
theorem HY {l:List Bool} {i j:Nat} {x:Bool} (hi:i < l.length):(l.set i x).getD j false=if j=i then x else l.getD j false:=by
 simp only [List.getD_eq_getElem?_getD,List.getElem?_set]
 by_cases h:i=j
 ·subst h;simp [hi]
 ·rw [if_neg h,if_neg (fun e=>h e.symm)]
theorem Pr.start {Q:Int→Int→Prop} {a b:List Int}:Pr Q a b 0 (List.replicate a.length false) (List.replicate b.length (-1)):=
 ⟨by simp,by simp,fun j _ hj=>by simp [hj],fun j h=>by omega,fun j j' h=>by omega,fun i hi h=>by simp [hi] at h,fun j h=>by omega⟩
theorem Pr.pair {Q:Int→Int→Prop} {a b:List Int} {k i:Nat} {us:List Bool} {to:List Int} (h:Pr Q a b k us to) (hk:k < b.length) (hi:i < a.length) (hu:us.getD i false=false) (hq:Q (a.getD i 0) (b.getD k 0)) :
 Pr Q a b (k + 1) (us.set i true) (to.set k i):=by
 have hl:=h.lt
 have rn:=h.lu
 have gt:∀ j,(to.set k (i:Int)).getD j 0=if j=k then (i:Int) else to.getD j 0:=fun j=>lj (by omega)
 have gu:∀ j,(us.set i true).getD j false=if j=i then true else us.getD j false:=fun j=>HY (by omega)
 refine ⟨by simp [rn],by simp [hl],fun j h1 h2=>?_,fun j hj=>?_,fun j j' hj uq he hn=>?_,fun i' mY Gz=>?_,fun j hj hn i' mY Gz=>?_⟩
 ·rw [gt,if_neg (by omega)];exact h.rest j (by omega) h2
 ·rw [gt]
  by_cases e:j=k
  ·subst e;rw [if_pos rfl];exact .inr ⟨i,rfl,hi,by rw [gu,if_pos rfl],hq⟩
  ·rw [if_neg e]
   rcases h.t1 j (by omega) with h1 | ⟨i',h1,h2,h3,h4⟩
   ·exact .inl h1
   ·exact .inr ⟨i',h1,h2,by rw [gu];split;rfl;exact h3,h4⟩
 ·rw [gt] at he hn
  rw [gt] at he
  by_cases e:j=k
  ·by_cases e':j'=k
   ·omega
   ·rw [if_pos e,if_neg e'] at he
    rcases h.t1 j' (by omega) with h1 | ⟨i',h1,h2,h3,h4⟩
    ·omega
    ·have:i'=i:=by omega
     subst this;rw [hu] at h3;cases h3
  ·rw [if_neg e] at he hn
   by_cases e':j'=k
   ·rw [if_pos e'] at he
    rcases h.t1 j (by omega) with h1 | ⟨i',h1,h2,h3,h4⟩
    ·omega
    ·have:i'=i:=by omega
     subst this;rw [hu] at h3;cases h3
   ·rw [if_neg e'] at he
    exact h.inj j j' (by omega) (by omega) he hn
 ·rw [gu] at Gz
  by_cases e:i'=i
  ·subst e;exact ⟨k,by omega,by rw [gt,if_pos rfl]⟩
  ·rw [if_neg e] at Gz
   obtain ⟨j,h1,h2⟩:=h.uu i' mY Gz
   exact ⟨j,by omega,by rw [gt,if_neg (by omega)];exact h2⟩
 ·rw [gt] at hn
  rw [gu] at Gz
  by_cases e:j=k
  ·rw [if_pos e] at hn;omega
  ·rw [if_neg e] at hn
   by_cases e':i'=i
   ·rw [if_pos e'] at Gz;cases Gz
   ·rw [if_neg e'] at Gz
    exact h.free j (by omega) hn i' mY Gz
theorem Pr.eI {Q:Int→Int→Prop} {a b:List Int} {k:Nat} {us:List Bool} {to:List Int} (h:Pr Q a b k us to) (hk:k < b.length) (hq:∀ i,i < a.length→us.getD i false=false→¬ Q (a.getD i 0) (b.getD k 0)):Pr Q a b (k + 1) us to:=by
 have hr:=h.rest k (Nat.le_refl _) hk
 refine ⟨h.lu,h.lt,fun j h1 h2=>h.rest j (by omega) h2,fun j hj=>?_,fun j j' hj uq he hn=>?_,fun i hi hu=>?_,fun j hj hn i hi hu=>?_⟩
 ·by_cases e:j=k
  ·subst e;exact .inl hr
  ·exact h.t1 j (by omega)
 ·have h1:j≠k:=fun e=>by subst e;exact hn hr
  have h2:j'≠k:=fun e=>by subst e;exact hn (he.trans hr)
  exact h.inj j j' (by omega) (by omega) he hn
 ·obtain ⟨j,h1,h2⟩:=h.uu i hi hu;exact ⟨j,by omega,h2⟩
 ·by_cases e:j=k
  ·subst e;exact hq i hi hu
  ·exact h.free j (by omega) hn i hi hu
def Wz (c:Cx) (a b:List Int) (H:List aa) (r:AV) (H':List aa):Prop:=
 ∃ us to,Pr (fun x y=>E c.O (c.tm x) (c.tm y)) a b b.length us to∧r=.tuple [bm (below a.length fun i=>!us.getD i false),bm (below b.length fun j=>decide (to.getD j 0 < 0)),.ap 0 (ints to)]∧Up c H H'∧Du c H'
theorem mkB (n:Nat) (H:List aa) (K:AV→List aa→Prop) (h:n≤1000000000):fX 1 1 (.bool false) (.int .i64 (n:Int)) H K=K (.a8 H.length 0 n n) (H++[sr (List.replicate n false)]):=by
 have e:flat (List.replicate n (bL (.bool false)))=pd (List.replicate n false):=by
  induction n with
  | zero=>rfl
  | succ n ih=>rw [List.replicate_succ,List.replicate_succ];exact congrArg (AV.bool false::·) (ih (by omega))
 have eb:∀ m,aj m (pd (List.replicate n false))=true:=fun m=>(ba _ _).2 fun x hx=>by
  obtain ⟨y,_,rfl⟩:=List.mem_map.1 hx;rfl
 simp only [fX,Int.toNat_natCast,e,eb,sr,true_and,eq_iff_iff]
 constructor
 ·rintro ⟨_,_,h⟩;exact h
 ·exact fun k=>⟨by omega,by omega,k⟩
theorem CN {n:Nat} {p q:Nat→Bool} (h:∀ j,j < n→p j=q j):below n p=below n q:=by
 unfold below
 congr 1
 apply List.filter_congr
 intro j hj
 exact h j (List.mem_range.1 hj)
structure PS (c:Cx) (H:List aa) (us:List Bool) (to:List Int) (G:List aa):Prop where
 du:Du c G
 up:Up c (H++[sr us,cV to]) G
theorem PS.u {c:Cx} {H:List aa} {us:List Bool} {to:List Int} {G:List aa} (hD:Du c H) (h:PS c H us to G):G[H.length]?=some (sr us):=by
 obtain ⟨l1,l2,l3⟩:=hD.lt
 rw [h.up.get _ (by omega) (by omega)];simp
theorem PS.t {c:Cx} {H:List aa} {us:List Bool} {to:List Int} {G:List aa} (hD:Du c H) (h:PS c H us to G):G[H.length + 1]?=some (cV to):=by
 obtain ⟨l1,l2,l3⟩:=hD.lt
 rw [h.up.get _ (by omega) (by omega)];simp
theorem PS.call {c:Cx} {H:List aa} {us:List Bool} {to:List Int} {G G':List aa} (h:PS c H us to G) (hU:Up c G G') (hD:Du c G'):PS c H us to G':=⟨hD,h.up.trans hU⟩
theorem PS.len {c:Cx} {H:List aa} {us:List Bool} {to:List Int} {G:List aa} (h:PS c H us to G):G.length=H.length + 2:=by have:=h.up.len;simpa using this
theorem PS.ZP {c:Cx} {H:List aa} {us us':List Bool} {to:List Int} {G:List aa} (hD:Du c H) (h:PS c H us to G):PS c H us' to (G.set H.length (sr us')):=by
 obtain ⟨l1,l2,l3⟩:=hD.lt
 have hl:=h.len
 refine ⟨h.du.set (by omega) (by omega) (by omega),by simp [hl],fun j h1 h2=>?_⟩
 rw [List.getElem?_set]
 by_cases e:H.length=j
 ·subst e;rw [if_pos rfl,if_pos (by omega)];simp
 ·rw [if_neg e,h.up.get j h1 h2]
  by_cases e2:j < H.length
  ·rw [List.getElem?_append_left e2,List.getElem?_append_left e2]
  ·rw [List.getElem?_append_right (by omega),List.getElem?_append_right (by omega)]
   obtain ⟨m,rfl⟩:∃ m,j=H.length + (m + 1):=⟨j - H.length - 1,by omega⟩
   simp
theorem PS.ZQ {c:Cx} {H:List aa} {us:List Bool} {to to':List Int} {G:List aa} (hD:Du c H) (h:PS c H us to G):PS c H us to' (G.set (H.length + 1) (cV to')):=by
 obtain ⟨l1,l2,l3⟩:=hD.lt
 have hl:=h.len
 refine ⟨h.du.set (by omega) (by omega) (by omega),by simp [hl],fun j h1 h2=>?_⟩
 rw [List.getElem?_set]
 by_cases e:H.length + 1=j
 ·subst e;rw [if_pos rfl,if_pos (by omega)];simp
 ·rw [if_neg e,h.up.get j h1 h2]
  by_cases e2:j < H.length
  ·rw [List.getElem?_append_left e2,List.getElem?_append_left e2]
  ·rw [List.getElem?_append_right (by omega),List.getElem?_append_right (by omega)]
   obtain ⟨m,rfl⟩:∃ m,j=H.length + m:=⟨j - H.length,by omega⟩
   rcases m with _ | m
   ·simp
   ·rcases m with _ | m
    ·omega
    ·simp
theorem Yk {us:List Bool} {i:Nat} (h:i < us.length) (φ:AV→Prop):c8 (some (sr us)) none (i * 1) φ=φ (.bool (us.getD i false)):=by
 have e:(pd us).getD (i * 1) .any=.bool (us.getD i false):=by
  rw [Nat.mul_one];simp [pd,h]
 simp only [sr,c8,e,oA,sv,eq_iff_iff]
 constructor
 ·exact fun h=>h.2
 ·exact fun h2=>⟨by omega,h2⟩
theorem Aw {l:List Int} {i:Nat} (h:i < l.length) (φ:AV→Prop):c8 (some (cV l)) none (i * 1) φ=φ (.int .i64 (l.getD i 0)):=by
 have e:(ints l).getD (i * 1) .any=.int .i64 (l.getD i 0):=by
  rw [Nat.mul_one];simp [ints,h]
 simp only [cV,c8,e,nP,aw,eq_iff_iff]
 constructor
 ·exact fun h=>h.2
 ·exact fun h2=>⟨by omega,h2⟩
theorem stB {us:List Bool} {i:Nat} (h:i < us.length) (x:Bool) (id:Nat) (H:List aa) (K:List aa→Prop):iw (some (sr us)) 1 id (i * 1) (.bool x) H K=K (H.set id (sr (us.set i x))):=by
 have e:ag (pd us) (i * 1) [AV.bool x]=pd (us.set i x):=by
  rw [Nat.mul_one,nS _ _ _ (by rw [sv];exact h)];simp [pd,List.map_set]
 have e2:(AV.bool x).cells.map AV.ab=[.bool x]:=rfl
 simp only [sr,iw,e2,e,sv,eq_iff_iff]
 constructor
 ·exact fun h=>h.2.2.2.2.2
 ·exact fun h2=>⟨rfl,rfl,by omega,rfl,rfl,h2⟩
theorem KC {l:List Int} {i:Nat} (h:i < l.length) (x:Int) (id:Nat) (H:List aa) (K:List aa→Prop):iw (some (cV l)) 1 id (i * 1) (.int .i64 x) H K=K (H.set id (cV (l.set i x))):=by
 have e:ag (ints l) (i * 1) [AV.int .i64 x]=ints (l.set i x):=by
  rw [Nat.mul_one,nS _ _ _ (by rw [aw];exact h)];simp [ints,List.map_set]
 have e2:(AV.int .i64 x).cells.map AV.ab=[.int .i64 x]:=rfl
 simp only [cV,iw,e2,e,aw,eq_iff_iff]
 constructor
 ·exact fun h=>h.2.2.2.2.2
 ·exact fun h2=>⟨rfl,rfl,by omega,rfl,rfl,h2⟩
theorem CO {id:Nat} {l:List Int} {H:List aa} (h:H[id]?=some (cV l)) {K:AV→List aa→Prop} (hK:K (.ap 0 (ints l)) (H.set id .dead)):dC 1 (.a8 id 0 l.length l.length) H K:=by
 have hc:∀ (l:List Int),chunks 1 l.length (ints l)=ints l:=by
  intro l
  induction l with
  | nil=>rfl
  | cons x q ih=>exact congrArg (AV.int .i64 x::·) ih
 simp only [dC,h,cV,List.drop_zero,hc,lr]
 exact ⟨by omega,Nat.le_refl _,by simp [aw],trivial,hK⟩
theorem KD {id n:Nat} {l:List Int} {H:List aa} (h:H[id]?=some (cV l)) (hn:l.length=n) {K:AV→List aa→Prop} (hK:K (.ap 0 (ints l)) (H.set id .dead)):eR 1 (.a8 id 0 n n) H K:=by
 subst hn;exact CO h hK
theorem S2 {c:Cx} {a b:List Int} {va vb:AV} (ha:IL va a) (hb:IL vb b) (la:a.length≤1000000000) (lb:b.length≤1000000000) (h:∀ x∈a,∀ y∈b,kx c x y) {H:List aa} (hD:Du c H) :
 aq Tryz.prog 139 [.ptr c.d 0,va,vb] H (Wz c a b H):=by
 refine PT.2.calls rfl ?_
 simp only [PT,aJ]
 obtain ⟨a1,a2,a3,a4⟩:=ha.one
 obtain ⟨b1,b2,b3,b4⟩:=hb.one
 simp +contextual only [a2,b2,ha.aL,hb.aL,ha.len (by omega),hb.len (by omega),mkB _ _ _ la,sZ,Nat.reduceEqDiff,Nat.reduceAdd,↓reduceIte,reduceCtorEq]
 refine af (S1 0 (-1) b.length lb _) ?_
 rintro r G0 ⟨rfl,rfl⟩
 have el:(H++[sr (List.replicate a.length false)]).length=H.length + 1:=by simp
 rw [el]
 simp +contextual only [b2,hb.aL,hb.len (by omega),sZ,Nat.reduceEqDiff,↓reduceIte,reduceCtorEq]
 have ps0:PS c H (List.replicate a.length false) (List.replicate b.length (-1)) (H++[sr (List.replicate a.length false),cV (List.replicate b.length (-1))]):=⟨hD.sn _,Up.refl c _⟩
 generalize H++[sr (List.replicate a.length false),cV (List.replicate b.length (-1))]=G0 at ps0 ⊢
 refine aE b.length (fun k (p:List aa×List Bool×List Int)=>PS c H p.2.1 p.2.2 p.1∧Pr (fun x y=>E c.O (c.tm x) (c.tm y)) a b k p.2.1 p.2.2)
  (fun k p=>[(0,.ptr c.d 0),(1,va),(9,.a8 H.length 0 a.length a.length),(10,.a8 (H.length + 1) 0 b.length b.length),(11,.ah),(12,jS (below k fun j=>decide (p.2.2.getD j 0 < 0))),(26,vb),(27,.int .i64 b.length),(28,.int .i64 k)])
  (fun k p=>p.1) (G0,List.replicate a.length false,List.replicate b.length (-1)) ⟨⟨ps0,Pr.start⟩,aA _ _ _⟩ fun k p hk hI=>?_
 obtain ⟨G,us,to⟩:=p
 obtain ⟨oV,Ax⟩:=hI
 simp only at oV Ax
 simp +contextual only [a2,ha.aL,hb.lens,hb.idx,Int.toNat_natCast,ha.len (by omega),sZ,Nat.reduceEqDiff,↓reduceIte,reduceCtorEq]
 refine ⟨fun aX=>⟨by omega,?_⟩,fun jh=>?_⟩
 ·have aX:=bS aX
  refine k9 (Q1:=fun x e G'=>x=.exit 2∧∃ us' to',PS c H us' to' G'∧Pr (fun x y=>E c.O (c.tm x) (c.tm y)) a b (k + 1) us' to'∧(∀ j,j < k→to'.getD j 0=to.getD j 0)∧
   get e 0=.ptr c.d 0∧get e 1=va∧get e 9=.a8 H.length 0 a.length a.length∧get e 10=.a8 (H.length + 1) 0 b.length b.length∧get e 11=.ah∧get e 12=jS (below k fun j=>decide (to.getD j 0 < 0))∧get e 13=.int .i64 (k:Int)∧get e 26=vb∧get e 27=.int .i64 (b.length:Int)∧get e 28=.int .i64 (k:Int)) ?_ ?_
  ·refine aE a.length (fun i (G':List aa)=>PS c H us to G'∧∀ i',i' < i→us.getD i' false=false→¬ E c.O (c.tm (a.getD i' 0)) (c.tm (b.getD k 0)))
    (fun i G'=>[(0,.ptr c.d 0),(1,va),(9,.a8 H.length 0 a.length a.length),(10,.a8 (H.length + 1) 0 b.length b.length),(11,.ah),(12,jS (below k fun j=>decide (to.getD j 0 < 0))),(13,.int .i64 (k:Int)),(14,.int .i64 (b.getD k 0)),(26,vb),(27,.int .i64 b.length),(28,.int .i64 k),(33,va),(34,.int .i64 a.length),(35,.int .i64 i)])
    (fun i G'=>G') G ⟨⟨oV,fun i' mY=>by omega⟩,aA _ _ _⟩ fun i G' hi hI=>?_
   obtain ⟨Ay,j3⟩:=hI
   have hlu:=Ax.lu
   have m8:=Ax.lt
   have gu:=Ay.u hD
   by_cases LS:(i:Int) < a.length
   ·have WA:i < a.length:=by omega
    have T5:i < us.length:=by omega
    cases hu:us.getD i false with
    | true=>
      simp +contextual only [LS,decide_true,ha.lens,ha.idx,Int.toNat_natCast,kO,gu,Yk T5,hu,Bool.not_true,sZ,Nat.reduceEqDiff,↓reduceIte,reduceCtorEq]
      refine ⟨by omega,by omega,⟨i + 1,G',⟨by omega,Ay,fun i' mY h0=>?_⟩,by omega,aI (by rw [ax i (by omega)]) rfl⟩⟩
      by_cases e:i'=i
      ·subst e;rw [hu] at h0;cases h0
      ·exact j3 i' (by omega) h0
    | false=>
      simp +contextual only [LS,decide_true,ha.lens,ha.idx,Int.toNat_natCast,kO,gu,Yk T5,hu,Bool.not_false,sZ,Nat.reduceEqDiff,Nat.reduceAdd,↓reduceIte,reduceCtorEq]
      refine ⟨by omega,by omega,?_⟩
      refine af (h _ (aN WA) _ (aN aX) G' Ay.du) ?_
      rintro r G2 ⟨x,rfl,hx,hU,A6⟩
      have ps2:=Ay.call hU A6
      cases x with
      | false=>
        simp +contextual only [sZ,Nat.reduceEqDiff,↓reduceIte,reduceCtorEq]
        refine ⟨i + 1,G2,⟨by omega,ps2,fun i' mY h0=>?_⟩,by omega,aI (by rw [ax i (by omega)]) rfl⟩
        by_cases e:i'=i
        ·subst e;exact fun hh=>absurd (hx.2 hh) (by simp)
        ·exact j3 i' (by omega) h0
      | true=>
        have gu2:=ps2.u hD
        have ps3:=ps2.ZP (us':=us.set i true) hD
        have gt3:=ps3.t hD
        have GM:k < to.length:=by omega
        simp +contextual only [kO,gu2,gt3,stB T5,KC GM,sZ,Nat.reduceEqDiff,↓reduceIte,reduceCtorEq]
        refine ⟨by omega,by omega,us.set i true,to.set k i,ps3.ZQ hD,Ax.pair aX WA hu (hx.1 rfl),fun j hj=>?_⟩
        rw [lj GM,if_neg (by omega)]
   ·simp +contextual only [LS,decide_false,sZ,Nat.reduceEqDiff,↓reduceIte,reduceCtorEq]
    exact ⟨us,to,Ay,Ax.eI aX fun i' mY h0=>j3 i' (by omega) h0,fun _ _=>rfl⟩
  ·rintro x e G' ⟨rfl,us',to',Ay,Oz,hsame,e0,e1,e9,e10,e11,e12,e13,e26,e27,e28⟩
   have hlu:=Oz.lu
   have m8:=Oz.lt
   have gt:=Ay.t hD
   have GM:k < to'.length:=by omega
   have ebl:(below k fun j=>decide (to'.getD j 0 < 0))=below k fun j=>decide (to.getD j 0 < 0):=CN fun j hj=>by rw [hsame j hj]
   have ebs:=wa k fun j=>decide (to'.getD j 0 < 0)
   have ebn:=jw k fun j=>decide (to.getD j 0 < 0)
   by_cases wZ:to'.getD k 0 < 0
   ·rw [if_pos (by simpa using wZ),ebl] at ebs
    simp +contextual only [e0,e1,e9,e10,e11,e12,e13,e26,e27,e28,kO,gt,Aw GM,wZ,decide_true,(fg _).2.1,sj,jt,sZ,Nat.reduceEqDiff,Nat.reduceAdd,↓reduceIte,reduceCtorEq]
    refine ⟨by omega,by omega,k + 1,(G',us',to'),⟨aX,Ay,Oz⟩,by omega,aI (by rw [ax k (by omega),ebs]) rfl⟩
   ·rw [if_neg (by simpa using wZ),ebl] at ebs
    simp +contextual only [e0,e1,e9,e10,e11,e12,e13,e26,e27,e28,kO,gt,Aw GM,wZ,decide_false,sZ,Nat.reduceEqDiff,↓reduceIte,reduceCtorEq]
    refine ⟨by omega,k + 1,(G',us',to'),⟨aX,Ay,Oz⟩,by omega,aI (by rw [ax k (by omega),ebs]) rfl⟩
 ·have hkk:k=b.length:=by omega
  subst hkk
  have hlu:=Ax.lu
  have m8:=Ax.lt
  have gu:=oV.u hD
  have gt:=oV.t hD
  refine aP a.length (fun i=>True) (fun i=>[(10,.a8 (H.length + 1) 0 b.length b.length),(11,jS (below i fun j=>!us.getD j false)),(12,jS (below b.length fun j=>decide (to.getD j 0 < 0))),(69,.a8 H.length 0 a.length a.length),(70,.int .i64 a.length),(71,.int .i64 i)])
   (fun i=>G) ⟨trivial,aA _ _ _⟩ fun i hi _=>?_
  have ebs:=wa i fun j=>!us.getD j false
  have ebn:=jw i fun j=>!us.getD j false
  by_cases LS:(i:Int) < a.length
  ·have T5:i < us.length:=by omega
   cases hu:us.getD i false with
   | true=>
     rw [hu,if_neg (by simp)] at ebs
     simp +contextual only [LS,decide_true,kO,gu,Yk T5,hu,Bool.not_true,sZ,Nat.reduceEqDiff,↓reduceIte,reduceCtorEq]
     refine ⟨by omega,i + 1,by omega,by omega,aI (by rw [ax i (by omega),ebs]) rfl⟩
   | false=>
     rw [hu,if_pos (by simp)] at ebs
     simp +contextual only [LS,decide_true,kO,gu,Yk T5,hu,Bool.not_false,(fg _).2.1,sj,jt,sZ,Nat.reduceEqDiff,Nat.reduceAdd,↓reduceIte,reduceCtorEq]
     refine ⟨by omega,by omega,i + 1,by omega,by omega,aI (by rw [ax i (by omega),ebs]) rfl⟩
  ·have ZR:i=a.length:=by omega
   subst ZR
   simp +contextual only [LS,decide_false,(fg _).2.1,sZ,Nat.reduceEqDiff,↓reduceIte]
   refine KD gt m8 ?_
   simp +contextual only [(aC _).2.1,sZ,Nat.reduceEqDiff,↓reduceIte,reduceCtorEq]
   obtain ⟨l1,l2,l3⟩:=hD.lt
   refine yE (by decide) rfl ⟨(aC _).2.2.1 _,(aC _).2.2.1 _,?_⟩ (aC _).2.1 (aC _).2.1 rfl ⟨us,to,Ax,rfl,?_,?_⟩
   ·rw [vH,b8];exact aY _ _
   ·rw [List.take_set_of_le (by omega)];exact oV.up.take
   ·rw [List.take_set_of_le (by omega)];exact oV.du.take l1 l2 l3
end Go.aH
end
section
namespace Go.aH
open Go Go.Proofs Go.fm
theorem HZ {β:Type} (f:Int→β) (a:List Int):a.map f=(List.range a.length).map fun i=>f (a.getD i 0):=by
 apply List.ext_getElem
 ·simp
 ·intro i h1 h2
  have:i < a.length:=by simpa using h1
  simp [this]
theorem CP {β:Type} (f:Int→β) (a:List Int) (p:Nat→Bool):(a.map f).Perm (((List.range a.length).filter p).map (fun i=>f (a.getD i 0))++((List.range a.length).filter fun i=>!p i).map fun i=>f (a.getD i 0)):=by
 rw [HZ,← List.map_append]
 exact (List.filter_append_perm p (List.range a.length)).symm.map _
theorem qR (n:Nat) (p:Nat→Bool):((List.range n).filter p).Nodup:=List.Pairwise.filter p List.nodup_range
def tF (f:Int→T) (a:List Int) (us:List Bool):List T:=((List.range a.length).filter fun i=>!us.getD i false).map fun i=>f (a.getD i 0)
def CQ (f:Int→T) (b to:List Int):List T:=((List.range b.length).filter fun j=>decide (to.getD j 0 < 0)).map fun j=>f (b.getD j 0)
theorem Pr.parts {f:Int→T} {a b:List Int} {us:List Bool} {to:List Int} (h:Pr (fun x y=>f x=f y) a b b.length us to) :
 ∃ C,(a.map f).Perm (tF f a us++C)∧(b.map f).Perm (CQ f b to++C)∧SP (tF f a us) (CQ f b to):=by
 refine ⟨((List.range b.length).filter fun j=>!decide (to.getD j 0 < 0)).map fun j=>f (b.getD j 0),?_,CP f b _,?_⟩
 ·have h1:=CP f a (fun i=>!us.getD i false)
  refine h1.trans (List.Perm.append_left _ ?_)
  have hp:(((List.range b.length).filter fun j=>!decide (to.getD j 0 < 0)).map fun j=>(to.getD j 0).toNat).Perm ((List.range a.length).filter fun i=>!!us.getD i false):=by
   rw [List.perm_ext_iff_of_nodup]
   ·intro i
    simp only [List.mem_map,List.mem_filter,List.mem_range,Bool.not_eq_true',decide_eq_false_iff_not,Bool.not_not]
    constructor
    ·rintro ⟨j,⟨hj,hn⟩,rfl⟩
     rcases h.t1 j hj with h2 | ⟨i,h2,h3,h4,_⟩
     ·omega
     ·rw [h2];exact ⟨by simpa using h3,by simpa using h4⟩
    ·rintro ⟨hi,hu⟩
     obtain ⟨j,h2,h3⟩:=h.uu i hi hu
     exact ⟨j,⟨h2,by omega⟩,by omega⟩
   ·rw [List.Nodup,List.pairwise_map]
    refine List.Pairwise.imp_of_mem ?_ (qR _ _)
    intro j j' hj uq eM he
    simp only [List.mem_filter,List.mem_range,Bool.not_eq_true',decide_eq_false_iff_not] at hj uq
    exact eM (h.inj j j' hj.1 uq.1 (by omega) (by omega))
   ·exact qR _ _
  refine (hp.map fun i=>f (a.getD i 0)).symm.trans ?_
  rw [List.map_map]
  refine List.Perm.of_eq (List.map_congr_left fun j hj=>?_)
  simp only [List.mem_filter,List.mem_range,Bool.not_eq_true',decide_eq_false_iff_not] at hj
  rcases h.t1 j hj.1 with h2 | ⟨i,h2,h3,h4,h5⟩
  ·omega
  ·show f (a.getD (to.getD j 0).toNat 0)=f (b.getD j 0)
   rw [h2];exact h5
 ·intro z hz Dw
  simp only [tF,CQ,List.mem_map,List.mem_filter,List.mem_range,decide_eq_true_eq,Bool.not_eq_true'] at hz Dw
  obtain ⟨i,⟨hi,hu⟩,rfl⟩:=hz
  obtain ⟨j,⟨hj,hn⟩,he⟩:=Dw
  refine h.free j hj ?_ i hi hu he.symm
  rcases h.t1 j hj with h2 | ⟨i',h2,_⟩
  ·exact h2
  ·omega
theorem sw {f:Int→T} {a:List Int} {us:List Bool}:tF f a us=[]↔below a.length (fun i=>!us.getD i false)=[]:=by
 simp [tF,below]
theorem Pr.mu {f:Int→T} {G:T→T→Prop} {a b:List Int} {us:List Bool} {to:List Int} (h:Pr (fun x y=>f x=f y) a b b.length us to) :
 Mu G (a.map f) (b.map f)↔below a.length (fun i=>!us.getD i false)≠[]∧∀ y∈below b.length (fun j=>decide (to.getD j 0 < 0)),∃ x∈below a.length (fun i=>!us.getD i false),G (f (a.getD x.toNat 0)) (f (b.getD y.toNat 0)):=by
 obtain ⟨C,h1,h2,h3⟩:=h.parts
 rw [SQ h1 h2 h3,Ne,sw]
 refine and_congr Iff.rfl ⟨fun hh y hy=>?_,fun hh y hy=>?_⟩
 ·obtain ⟨j,rfl,hj,hn⟩:=gr.1 hy
  obtain ⟨x,hx,hg⟩:=hh (f (b.getD j 0)) (by simp only [CQ,List.mem_map,List.mem_filter,List.mem_range];exact ⟨j,⟨hj,hn⟩,rfl⟩)
  simp only [tF,List.mem_map,List.mem_filter,List.mem_range] at hx
  obtain ⟨i,⟨hi,hu⟩,rfl⟩:=hx
  exact ⟨i,gr.2 ⟨i,rfl,hi,hu⟩,hg⟩
 ·simp only [CQ,List.mem_map,List.mem_filter,List.mem_range] at hy
  obtain ⟨j,⟨hj,hn⟩,rfl⟩:=hy
  obtain ⟨x,hx,hg⟩:=hh j (gr.2 ⟨j,rfl,hj,hn⟩)
  obtain ⟨i,rfl,hi,hu⟩:=gr.1 hx
  refine ⟨f (a.getD i 0),?_,hg⟩
  simp only [tF,List.mem_map,List.mem_filter,List.mem_range]
  exact ⟨i,⟨hi,hu⟩,rfl⟩
theorem Pr.perm {f:Int→T} {a b:List Int} {us:List Bool} {to:List Int} (h:Pr (fun x y=>f x=f y) a b b.length us to) (hl:a.length=b.length) :
 (a.map f).Perm (b.map f)↔below a.length (fun i=>!us.getD i false)=[]:=by
 obtain ⟨C,h1,h2,h3⟩:=h.parts
 rw [xo h1 h2 h3,sw (f:=f)]
 constructor
 ·exact fun h=>h.1
 ·intro h0
  refine ⟨h0,?_⟩
  have e1:=h1.length_eq
  have e2:=h2.length_eq
  have e3:(tF f a us).length=0:=by rw [(sw (f:=f)).2 h0];rfl
  simp only [List.length_append,List.length_map] at e1 e2
  exact List.length_eq_zero_iff.1 (by omega)
end Go.aH
end
section
set_option maxRecDepth 100000
set_option maxHeartbeats 0
namespace Go.aH
open Go Go.Proofs
noncomputable def P4:=aJ Tryz.call186 Tryz.func186 Tryz.ntmps186 [(0,0,1),(5,3,2000),(5,8,1000),(6,6,2000)] [(0,[1,2,3]),(1,[1,2,3,7,8]),(2,[1,2,3,26]),(3,[6]),(4,[3,9,10]),(5,[3,9,10,11,12]),(6,[6])] [(4,(.take 0 true (.take 1 true (.take 2 true (.take 3 true (.take 4 true (.take 5 true (.take 6 true (.take 7 true (.take 8 false (.take 9 false (.take 10 false (.take 12 false (.br 11 (.take 13 false (.take 14 false (.take 15 false (.br 16 (.br 17 (.br 18 (.br 19 .done .nil) .nil) .nil) (.br 17 (.br 16 (.br 18 (.br 19 .done .nil) .nil) .nil) .nil))))) (.br 16 (.br 11 (.take 13 false (.take 14 false (.take 15 false (.br 17 (.br 18 (.br 19 .done .nil) .nil) .nil)))) (.br 17 (.br 11 (.take 13 false (.take 14 false (.take 15 false (.br 18 (.br 19 .done .nil) .nil)))) (.br 18 (.take 11 true (.take 13 true (.take 14 true (.take 15 true (.br 19 .done .nil))))) .nil)) .nil)) (.br 17 (.br 11 (.take 13 false (.take 14 false (.take 15 false (.br 16 (.br 18 (.br 19 .done .nil) .nil) .nil)))) (.br 16 (.br 11 (.take 13 false (.take 14 false (.take 15 false (.br 18 (.br 19 .done .nil) .nil)))) (.br 18 (.take 11 true (.take 13 true (.take 14 true (.take 15 true (.br 19 .done .nil))))) .nil)) .nil)) .nil))))))))))))))))]
end Go.aH
end
