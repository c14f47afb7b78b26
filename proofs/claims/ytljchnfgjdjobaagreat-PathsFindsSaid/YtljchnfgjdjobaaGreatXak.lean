/- Part 11 of 20 of the proof. -/
import Derived.Test.YtljchnfgjdjobaaGreatXaj
import Derived.Test.YtljchnfgjdjobaaGreatXai
import Derived.KernelRfl
set_option linter.unusedVariables false
set_option linter.unusedSimpArgs false
set_option linter.defProp false
set_option linter.unusedSectionVars false
section
set_option maxRecDepth 100000
namespace Go.aI
open Go Go.Proofs Go.dD
structure Cx where
 ps:List Int
 ss:List Int
 nd:List Nd
 d:Nat
 e:Nat
 g:Nat
def Cx.tm (c:Cx) (i:Int):T:=(c.nd.getD i.toNat default).1
def Cx.kd (c:Cx) (i:Int):List Int:=(c.nd.getD i.toNat default).2
def Cx.eJ (c:Cx) (i:Int):Prop:=0≤i∧i < c.nd.length
def UO (ps ss:List Int) (p:Int):Int:=ss.getD (ps.findIdx fun q=>decide (q=p)) 0
def iq (ps ss:List Int):Od:=⟨fun n=>ps.getD n.toNat 0,UO ps ss⟩
def Cx.O (c:Cx):Od:=iq c.ps c.ss
structure Va (ps ss:List Int):Prop where
 len:ss.length=ps.length
 st:∀ i j,i < ps.length→j < ps.length→ps.getD i 0=ps.getD j 0→ss.getD i 0=ss.getD j 0
theorem Va.sp {ps ss:List Int} (h:Va ps ss) {i:Nat} (hi:i < ps.length):UO ps ss (ps.getD i 0)=ss.getD i 0:=by
 unfold UO
 have hx:ps.getD i 0∈ps:=by rw [th,Hj hi];exact acA hi
 have h1:ps.findIdx (fun q=>decide (q=ps.getD i 0)) < ps.length:=aet ⟨_,hx,by simp⟩
 have h2:=afR (xs:=ps) (p:=fun q=>decide (q=ps.getD i 0)) (w:=h1)
 refine h.st _ _ h1 hi ?_
 rw [th,Hj h1]
 exact of_decide_eq_true h2
structure Cx.Ok (c:Cx):Prop where
 va:Va c.ps c.ss
 nd:c.nd≠[]
 ne1:c.d≠c.e
 ne2:c.d≠c.g
 ne3:c.e≠c.g
 kl:∀ i,c.eJ i→(c.kd i).length≤100000000
 kids:∀ i,c.eJ i→(c.kd i).map c.tm=(c.tm i).l∧∀ k∈c.kd i,c.eJ k
 op:∀ i,c.eJ i→(c.tm i).k=2→0≤(c.tm i).n∧(c.tm i).n < c.ps.length
def n7 (m:List ((Int×Int)×Bool)):List (AV×AV):=m.map fun p=>(.agg [.int .i64 p.1.1,.int .i64 p.1.2],.bool p.2)
def Rt (c:Cx) (P:T→T→Prop) (m:List ((Int×Int)×Bool)):Prop:=∀ p∈m,p.2=true↔P (c.tm p.1.1) (c.tm p.1.2)
structure Du (c:Cx) (H:List aa):Prop where
 d:H[c.d]?=some (.cells [.al 0 (ints c.ps),.al 0 (ints c.ss),.al 0 (fw c.nd),.map c.e,.map c.g])
 e:∃ m,H[c.e]?=some (.map (n7 m))∧Rt c (E c.O) m
 g:∃ m,H[c.g]?=some (.map (n7 m))∧Rt c (R c.O) m
structure Up (c:Cx) (H H':List aa):Prop where
 len:H'.length=H.length
 get:∀ j,j≠c.e→j≠c.g→H'[j]?=H[j]?
theorem Up.refl (c:Cx) (H:List aa):Up c H H:=⟨rfl,fun _ _ _=>rfl⟩
theorem Up.trans {c:Cx} {H H' H'':List aa} (h:Up c H H') (k:Up c H' H''):Up c H H'':=⟨k.len.trans h.len,fun j h1 h2=>(k.get j h1 h2).trans (h.get j h1 h2)⟩
theorem Du.lt {c:Cx} {H:List aa} (h:Du c H):c.d < H.length∧c.e < H.length∧c.g < H.length:=by
 obtain ⟨m,h1,_⟩:=h.e
 obtain ⟨m',h2,_⟩:=h.g
 exact ⟨(aa2.1 h.d).1,(aa2.1 h1).1,(aa2.1 h2).1⟩
theorem Du.ui {c:Cx} {H:List aa} (h:Du c H) (X:List aa):Du c (H++X):=by
 obtain ⟨l1,l2,l3⟩:=h.lt
 exact ⟨by rw [zz l1];exact h.d,by rw [zz l2];exact h.e,by rw [zz l3];exact h.g⟩
theorem Du.take {c:Cx} {H:List aa} {n:Nat} (h:Du c H) (h1:c.d < n) (h2:c.e < n) (h3:c.g < n):Du c (H.take n):=by
 exact ⟨by rw [aaG,if_pos h1];exact h.d,by rw [aaG,if_pos h2];exact h.e,by rw [aaG,if_pos h3];exact h.g⟩
theorem Du.set {c:Cx} {H:List aa} {j:Nat} {o:aa} (h:Du c H) (h1:j≠c.d) (h2:j≠c.e) (h3:j≠c.g):Du c (H.set j o):=by
 exact ⟨by rw [zA h1];exact h.d,by rw [zA h2];exact h.e,by rw [zA h3];exact h.g⟩
theorem Up.take {c:Cx} {H X H':List aa} (h:Up c (H++X) H'):Up c H (H'.take H.length):=
 ⟨by have:=h.len;simp at this ⊢;omega,fun j h1 h2=>by
   rw [aaG]
   split
   ·rename_i hj;rw [h.get j h1 h2,zz hj]
   ·rename_i hj;rw [abL (by omega)]⟩
def jJ (c:Cx) (Q:Prop) (H:List aa) (r:AV) (H':List aa):Prop:=∃ b:Bool,r=.bool b∧(b=true↔Q)∧Up c H H'∧Du c H'
theorem b7 (l:List Int) (H:List aa) (φ:AV→Prop):a8 none (.ah (bu l)) H φ=φ (bu l):=by
 obtain ⟨k1,k2,_⟩:=aL l
 simp [a8,k1,k2]
theorem fN0 (p:Nd) (φ:AV→Prop):au 0 (some 3) (.ah (Gw p)) φ=φ (.ah p.1.av):=by
 obtain ⟨⟨k,n,l⟩,ks⟩:=p
 simp [au,Gw,apart,AV.cells,T.av,T.k,T.n,T.l]
theorem E9 (p:Nd) (φ:AV→Prop):au 3 none (.ah (Gw p)) φ=φ (.ah (bu p.2)):=by
 obtain ⟨k1,_⟩:=aL p.2
 simp [au,Gw,apart,AV.cells,k1]
theorem n8 (e o:Nat) (l:List Nd) (k:IntKind) (i:Int) (φ:AV→Prop):aG e (.al o (fw l)) (.int k i) φ=((0≤i∧i < l.length)∧φ (.ah (Gw (l.getD i.toNat default)))):=by
 simp only [aG,sP,eq_iff_iff]
 constructor
 ·rintro ⟨h0,h,h2⟩;refine ⟨by omega,?_⟩;simpa [fw,h] using h2
 ·rintro ⟨⟨h0,h⟩,h2⟩;have h:i.toNat < l.length:=by omega
  refine ⟨h0,h,?_⟩;simpa [fw,h] using h2
theorem cK (o:Nat) (l:List Nd):(∀ (own:Nat) (xs:List AV),AV.al o (fw l)=AV.al own xs→∀ z∈xs,z.cells.length=4)=True:=by
 simp only [eq_iff_iff,iff_true]
 intro own xs e z hz
 cases e
 exact (k8 l z hz).len
theorem aN (e o:Nat) (l:List Int) (k:IntKind) (i:Int) (φ:AV→Prop):aG e (.al o (ints l)) (.int k i) φ=((0≤i∧i < l.length)∧φ (.ah (.int .i64 (l.getD i.toNat 0)))):=by
 simp only [aG,ap,eq_iff_iff]
 constructor
 ·rintro ⟨h0,h,h2⟩;refine ⟨by omega,?_⟩;simpa [ints,h] using h2
 ·rintro ⟨⟨h0,h⟩,h2⟩;have h:i.toNat < l.length:=by omega
  refine ⟨h0,h,?_⟩;simpa [ints,h] using h2
def rp (c:Cx) (i:Int):Int:=if (c.tm i).k=2 then c.O.pl (c.tm i).n else 0
def dU (c:Cx) (i:Int):Int:=if (c.tm i).k=2 then c.O.sp (c.O.pl (c.tm i).n) else 0
def tw (c:Cx) (i:Int):Bool:=decide ((c.tm i).k=2)
def MD (c:Cx) (i:Int):AV:=.tuple [.int .i64 (rp c i),.int .i64 (dU c i),.bool (tw c i)]
theorem H7 (t:T) (φ:AV→Prop):au 0 none (.ah t.av) φ=φ (.ah (.int .i64 t.k)):=by cases t;simp [au,T.av,apart,AV.cells,AV.one,T.k]
theorem Aw {Hs G:List aa} {n0 a b c:Nat} {u v w x y z:AV} {R:AV→List aa→Prop} (tv:b≠a∧c≠a∧c≠b) (hH:Hs.take n0=G) (hb:x.bc n0=true∧y.bc n0=true∧z.bc n0=true)
 (hx:u.ab=x) (hy:v.ab=y) (hz:w.ab=z) (hR:R (.tuple [x,y,z]) G):bP n0 [.t a,.t b,.t c] [(a,u),(b,v),(c,w)] Hs R:=by
 subst hH;subst hx;subst hy;subst hz
 refine ⟨n0,zy _,[u.ab,v.ab,w.ab],?_,by simp only [aw,hb.1,hb.2.1,hb.2.2,acj],hR⟩
 simp only [aD,if_neg tv.1,if_neg tv.2.1,if_neg tv.2.2,if_true,List.map]
 exact da _
theorem rq {c:Cx} (hc:c.Ok) {i:Int} (hi:c.eJ i) {H:List aa} (hD:Du c H):aA Tryz.prog 135 [.ptr c.d 0,.int .i64 i] H fun r H'=>r=MD c i∧H'=H:=by
 refine XD.2.calls rfl ?_
 simp only [XD,aH]
 simp +contextual only [hD.d,n8,fN0,cK,aN,sZ,Nat.reduceEqDiff,Nat.reduceAdd,Nat.reduceLT,↓reduceIte,reduceCtorEq]
 refine ⟨hi,fun hk=>?_,fun hk=>?_⟩
 ·exact Aw (by decide) (aby) ⟨rfl,rfl,rfl⟩ rfl rfl rfl ⟨by rw [MD,rp,dU,tw,if_neg (show ¬(c.tm i).k=2 from hk),if_neg (show ¬(c.tm i).k=2 from hk),decide_eq_false (show ¬(c.tm i).k=2 from hk)];rfl,rfl⟩
 ·obtain ⟨o1,o2⟩:=hc.op i hi hk
  have hl:=hc.va.len
  refine ⟨⟨o1,o2⟩,⟨o1,by rw [hl];exact o2⟩,?_⟩
  refine Aw (by decide) (aby) ⟨rfl,rfl,rfl⟩ rfl rfl rfl ⟨?_,rfl⟩
  have e:=hc.va.sp (i:=(c.tm i).n.toNat) (by omega)
  rw [MD,rp,dU,tw,if_pos (show (c.tm i).k=2 from hk),if_pos (show (c.tm i).k=2 from hk),decide_eq_true (show (c.tm i).k=2 from hk)]
  have e2:c.O.sp (c.O.pl (c.tm i).n)=c.ss.getD (c.tm i).n.toNat 0:=e
  rw [e2];rfl
def n9 (i k:Int):AV:=.agg [.int .i64 i,.int .i64 k]
theorem uj (i k:Int):∀ (m:List ((Int×Int)×Bool)) (n:Nat),(∃ j b,m[j]?=some ((i,k),b)∧dL 2 (n9 i k) (n7 m) n=some (some (n + j,.bool b)))∨dL 2 (n9 i k) (n7 m) n=some none
 | [],n=>.inr rfl
 | ((a,b),v)::r,n=>by
   have ih:=uj i k r (n + 1)
   have e:de 2 (n9 i k) (.agg [.int .i64 a,.int .i64 b])=some (decide (i=a∧k=b)):=by simp [de,n9]
   simp only [n7,List.map_cons,dL,e]
   by_cases h:i=a∧k=b
   ·obtain ⟨rfl,rfl⟩:=h
    exact .inl ⟨0,v,rfl,by simp⟩
   ·simp only [decide_eq_false h]
    rcases ih with ⟨j,x,h1,h2⟩ | h2
    ·exact .inl ⟨j + 1,x,h1,by rw [show n + (j + 1)=n + 1 + j by omega];exact h2⟩
    ·exact .inr h2
theorem lkM {i k:Int} {m:List ((Int×Int)×Bool)} {φ:AV→Prop} (h1:∀ b,((i,k),b)∈m→φ (.tuple [.bool b,.bool true])) (h2:φ (.tuple [.bool false,.bool false])):gM (some (.map (n7 m))) 2 (.bool false) (n9 i k) true φ:=by
 unfold gM
 rcases uj i k m 0 with ⟨j,b,h3,h4⟩ | h4
 ·simp only [h4];exact h1 b (abB h3)
 ·simp only [h4];exact ⟨by simp [de,n9],h2⟩
theorem ME (m:List ((Int×Int)×Bool)) (j:Nat) (i k:Int) (b:Bool):(n7 m).set j (n9 i k,.bool b)=n7 (m.set j ((i,k),b)):=by simp [n7,n9,ad6]
theorem msM {i k:Int} {b:Bool} {m:List ((Int×Int)×Bool)} {id:Nat} {H:List aa} {K:List aa→Prop} (h:∀ m',(∀ p∈m',p∈m∨p=((i,k),b))→K (H.set id (.map (n7 m')))):fy (some (.map (n7 m))) 2 id (n9 i k) (.bool b) H K:=by
 unfold fy
 refine ⟨by simp [n9,xq,bL,cV,ja],rfl,rfl,?_⟩
 have ec:a9 (.bool b)=.bool b:=rfl
 rcases uj i k m 0 with ⟨j,x,h3,h4⟩ | h4
 ·simp only [h4,ec,abK,ME]
  refine h _ fun p hp=>?_
  rcases ab6 hp with h | h
  ·exact .inl h
  ·exact .inr h
 ·simp only [h4,ec]
  refine ⟨by simp [de,n9],?_⟩
  have e:n7 m++[(n9 i k,.bool b)]=n7 (m++[((i,k),b)]):=by simp [n7,n9]
  rw [e]
  refine h _ fun p hp=>?_
  rcases abF.1 hp with h | h
  ·exact .inl h
  ·exact .inr (by simpa using h)
theorem bdK (i k:Int) (φ:AV→Prop):cr [.int .i64 0,.int .i64 0] [(0,1,.int .i64 i),(1,1,.int .i64 k)] φ=φ (n9 i k):=by
 simp only [cr,gb,eq_iff_iff]
 constructor
 ·rintro ⟨_,_,_,_,_,_,h⟩;exact h
 ·exact fun h=>⟨rfl,rfl,by simp,rfl,rfl,by simp [ai,AV.cells],h⟩
theorem GA (i k:Int):(n9 i k).val=true∧(n9 i k).cells.length=2∧(n9 i k).cells.all AV.one=true:=⟨rfl,rfl,rfl⟩
theorem ldK (i k:Int) (H:List aa) (φ:AV→Prop):a8 (some 2) (.ah (n9 i k)) H φ=φ (n9 i k):=Qo _ _ _ _
def Mp (c:Cx) (w:Nat) (Q:T→T→Prop):Prop:=(w=c.e∧Q=E c.O)∨(w=c.g∧Q=R c.O)
theorem Mp.at {c:Cx} {w:Nat} {Q:T→T→Prop} (h:Mp c w Q) {H:List aa} (hD:Du c H):∃ m,H[w]?=some (.map (n7 m))∧Rt c Q m:=by
 rcases h with ⟨rfl,rfl⟩ | ⟨rfl,rfl⟩
 ·exact hD.e
 ·exact hD.g
theorem Mp.set {c:Cx} (hc:c.Ok) {w:Nat} {Q:T→T→Prop} (h:Mp c w Q) {H:List aa} (hD:Du c H) {m:List ((Int×Int)×Bool)} (hm:Rt c Q m):Du c (H.set w (.map (n7 m)))∧Up c H (H.set w (.map (n7 m))):=by
 obtain ⟨l1,l2,l3⟩:=hD.lt
 obtain ⟨_,_,n1,n2,n3,_,_,_⟩:=hc
 rcases h with ⟨rfl,rfl⟩ | ⟨rfl,rfl⟩
 ·exact ⟨⟨by rw [zA (fun e=>n1 e.symm)];exact hD.d,⟨m,by rw [Sx l2],hm⟩,by rw [zA n3];exact hD.g⟩,by simp,fun j h1 h2=>by rw [zA (fun e=>h1 e.symm)]⟩
 ·exact ⟨⟨by rw [zA (fun e=>n2 e.symm)];exact hD.d,by rw [zA (fun e=>n3 e.symm)];exact hD.e,⟨m,by rw [Sx l3],hm⟩⟩,by simp,fun j h1 h2=>by rw [zA (fun e=>h2 e.symm)]⟩
theorem fc {c:Cx} {s:Nat} {b:Bool} {Q:Prop} {H H':List aa} {x:AV} (hx:x=.bool b) (hb:b=true↔Q) (hU:Up c H H') (hD:Du c H'):bP H.length [.t s] [(s,x)] H' (jJ c Q H):=by
 subst hx
 refine aT H.length (zy _) (by rw [aD,if_pos rfl];rfl) ?_
 rw [aD,if_pos rfl,aax (by rw [hU.len];exact zy _)]
 exact ⟨b,rfl,hb,hU,hD⟩
theorem Zt {c:Cx} (hc:c.Ok) {w:Nat} {Q:T→T→Prop} (hw:Mp c w Q) (i k:Int) (fn:Nat) (cP:List AV) {H:List aa} (hD:Du c H) (bY:cP.map AV.ab=cP)
 (hf:aA Tryz.prog fn cP H (jJ c (Q (c.tm i) (c.tm k)) H)):aA Tryz.prog 133 [.map w,.int .i64 i,.int .i64 k,.fn (.func fn) [] cP] H (jJ c (Q (c.tm i) (c.tm k)) H):=by
 refine XB.2.calls rfl ?_
 simp only [XB,aH]
 obtain ⟨m,hm,hr⟩:=hw.at hD
 have kf:=GA i k
 simp +contextual only [bdK,ldK,kf.1,kf.2.1,kf.2.2,hm,sZ,Nat.reduceEqDiff,Nat.reduceAdd,↓reduceIte,reduceCtorEq]
 refine lkM (fun b hb=>?_) ?_
 ·have hq:=hr _ hb
  cases b with
  | true=>
    simp +contextual only [sZ,Nat.reduceEqDiff,Nat.reduceAdd,Nat.reduceLT,↓reduceIte,reduceCtorEq]
    exact fc rfl hq (Up.refl c H) hD
  | false=>
    simp +contextual only [sZ,Nat.reduceEqDiff,Nat.reduceAdd,Nat.reduceLT,↓reduceIte,reduceCtorEq]
    exact fc rfl hq (Up.refl c H) hD
 ·simp +contextual only [bY,sZ,Nat.reduceEqDiff,Nat.reduceAdd,Nat.reduceLT,↓reduceIte,reduceCtorEq]
  refine af hf ?_
  rintro r H' ⟨b,rfl,hb,hU,kA⟩
  obtain ⟨m',Ou,hr'⟩:=hw.at kA
  simp +contextual only [ldK,Ou,sZ,Nat.reduceEqDiff,↓reduceIte,reduceCtorEq]
  refine msM fun m2 h2=>?_
  have tJ:Rt c Q m2:=by
   intro p hp
   rcases h2 p hp with h | rfl
   ·exact hr' p h
   ·exact hb
  obtain ⟨s1,s2⟩:=hw.set hc kA tJ
  simp +contextual only [sZ,Nat.reduceEqDiff,↓reduceIte,reduceCtorEq]
  exact fc rfl hb (hU.trans s2) s1
def lN (c:Cx) (i k:Int):Prop:=∀ H,Du c H→aA Tryz.prog 79 [.ptr c.d 0,.int .i64 i,.int .i64 k] H (jJ c (E c.O (c.tm i) (c.tm k)) H)
def jo (c:Cx) (i k:Int):Prop:=∀ H,Du c H→aA Tryz.prog 76 [.ptr c.d 0,.int .i64 i,.int .i64 k] H (jJ c (R c.O (c.tm i) (c.tm k)) H)
def Ea (c:Cx) (i k:Int):List AV:=[.ah (.ptr c.d 0),.ah (.int .i64 i),.ah (.int .i64 k)]
theorem g53 (a b c d e z:AV):[a,b,c,d,e].getD 3 z=d:=rfl
theorem g54 (a b c d e z:AV):[a,b,c,d,e].getD 4 z=e:=rfl
theorem c79 {c:Cx} (hc:c.Ok) {i k:Int} (h:∀ H,Du c H→aA Tryz.prog 138 (Ea c i k) H (jJ c (E c.O (c.tm i) (c.tm k)) H)):lN c i k:=by
 intro H hD
 refine k79.2.calls rfl ?_
 simp only [k79,aH]
 simp +contextual only [hD.d,g53,sZ,Nat.reduceEqDiff,Nat.reduceAdd,Nat.reduceLT,↓reduceIte,reduceCtorEq]
 refine af (Zt hc (.inl ⟨rfl,rfl⟩) i k 138 (Ea c i k) hD rfl (h H hD)) ?_
 rintro r H' ⟨b,rfl,hb,hU,kA⟩
 simp +contextual only [sZ,↓reduceIte,reduceCtorEq]
 exact fc rfl hb hU kA
theorem c76 {c:Cx} (hc:c.Ok) {i k:Int} (h:∀ H,Du c H→aA Tryz.prog 134 (Ea c i k) H (jJ c (R c.O (c.tm i) (c.tm k)) H)):jo c i k:=by
 intro H hD
 refine k76.2.calls rfl ?_
 simp only [k76,aH]
 simp +contextual only [hD.d,g54,sZ,Nat.reduceEqDiff,Nat.reduceAdd,Nat.reduceLT,↓reduceIte,reduceCtorEq]
 refine af (Zt hc (.inr ⟨rfl,rfl⟩) i k 134 (Ea c i k) hD rfl (h H hD)) ?_
 rintro r H' ⟨b,rfl,hb,hU,kA⟩
 simp +contextual only [sZ,↓reduceIte,reduceCtorEq]
 exact fc rfl hb hU kA
theorem dV (c:Cx) (i:Int):(MD c i).ab=MD c i:=rfl
theorem gg (c:Cx) (i:Int) (φ:AV→Prop):bM (MD c i) 0 φ=φ (.int .i64 (rp c i)):=by simp [MD,bM,pj]
theorem gh (c:Cx) (i:Int) (φ:AV→Prop):bM (MD c i) 1 φ=φ (.int .i64 (dU c i)):=by simp [MD,bM,pj]
theorem gk (c:Cx) (i:Int) (φ:AV→Prop):bM (MD c i) 2 φ=φ (.bool (tw c i)):=by simp [MD,bM,pS]
def vQ (c:Cx) (i k:Int):Bool:=tw c i && (tw c k && decide (rp c i=rp c k))
theorem lO {c:Cx} {i k:Int}:vQ c i k=true↔(c.tm i).k=2∧(c.tm k).k=2∧c.O.pl (c.tm i).n=c.O.pl (c.tm k).n:=by
 simp only [vQ,tw,zC,decide_eq_true_eq]
 unfold rp
 constructor
 ·rintro ⟨h1,h2,h3⟩;rw [if_pos h1,if_pos h2] at h3;exact ⟨h1,h2,h3⟩
 ·rintro ⟨h1,h2,h3⟩;refine ⟨h1,h2,?_⟩;rw [if_pos h1,if_pos h2];exact h3
theorem GB {c:Cx} (hc:c.Ok) {i k:Int} (hi:c.eJ i) (hk:c.eJ k) {H:List aa} (hD:Du c H):aA Tryz.prog 155 [.ptr c.d 0,.int .i64 i,.int .i64 k] H fun r H'=>r=.tuple [.int .i64 (dU c i),.bool (vQ c i k)]∧H'=H:=by
 refine XT.2.calls rfl ?_
 simp only [XT,aH]
 simp +contextual only [sZ,Nat.reduceEqDiff,Nat.reduceAdd,↓reduceIte,reduceCtorEq]
 refine af (rq hc hi hD) ?_
 rintro r H1 ⟨rfl,rfl⟩
 simp +contextual only [dV,gg,gh,gk,sZ,Nat.reduceEqDiff,Nat.reduceAdd,↓reduceIte,reduceCtorEq]
 refine af (rq hc hk hD) ?_
 rintro r H1 ⟨rfl,rfl⟩
 simp +contextual only [dV,gg,gh,gk,sZ,Nat.reduceEqDiff,↓reduceIte,reduceCtorEq]
 have fin:∀ (s:Int) (b:Bool),s=dU c i→b=vQ c i k→bP H1.length [.t 6,.t 7] [(6,.int .i64 s),(7,.bool b)] H1 fun r H'=>r=.tuple [.int .i64 (dU c i),.bool (vQ c i k)]∧H'=H1:=by
  rintro s b rfl rfl
  have:=xB (H:=H1) (e:=[]) (s:=6) (s':=7) (v:=.int .i64 (dU c i)) (v':=.bool (vQ c i k)) (by decide) rfl rfl rfl rfl
  rwa [abJ] at this
 cases h1:tw c i with
 | false=>
   simp +contextual only [sZ,Nat.reduceEqDiff,↓reduceIte,reduceCtorEq]
   exact fin _ _ rfl (by rw [vQ,h1];rfl)
 | true=>
   cases h2:tw c k with
   | false=>
     simp +contextual only [sZ,Nat.reduceEqDiff,↓reduceIte,reduceCtorEq]
     exact fin _ _ rfl (by rw [vQ,h1,h2];rfl)
   | true=>
     simp +contextual only [sZ,Nat.reduceEqDiff,↓reduceIte,reduceCtorEq]
     exact fin _ _ rfl (by rw [vQ,h1,h2];rfl)
end Go.aI
end
section
set_option maxRecDepth 100000
namespace Go.aI
open Go Go.Proofs Go.dD
def IL (v:AV) (l:List Int):Prop:=v=bu l∨v=.al 0 (ints l)
theorem IL.one {v:AV} {l:List Int} (h:IL v l):v.one=true∧v.ab=v∧v.val=true∧v.cells=[v]:=by
 rcases h with rfl | rfl
 ·obtain ⟨k1,k2,_,k4,k5⟩:=aL l;exact ⟨k1,k2,k4,k5⟩
 ·exact ⟨rfl,rfl,rfl,rfl⟩
theorem IL.len {v:AV} {l:List Int} (h:IL v l) (hs:l.length < 9223372036854775808) (H:List aa) (φ:AV→Prop):fR v H φ=φ (.int .i64 l.length):=by
 have hl:∀ l:List Int,l.length < 9223372036854775808→fR (.al 0 (ints l)) H φ=φ (.int .i64 l.length):=by
  intro l hs;simp [fR,ap,hs]
 rcases h with rfl | rfl
 ·cases l with
  | nil=>rfl
  | cons x r=>exact hl _ hs
 ·exact hl _ hs
theorem IL.xR {v:AV} {l:List Int} (h:IL v l) (H:List aa) (φ:AV→Prop):jn v H φ=φ (.int .i64 l.length):=by
 rcases h with rfl | rfl
 ·cases l with
  | nil=>rfl
  | cons x r=>rw [bu,mL,ap]
 ·rw [mL,ap]
theorem IL.aO {v:AV} {l:List Int} (h:IL v l):aO 1 v=True:=by
 rcases h with rfl | rfl
 ·cases l <;> simp [bu,Go.aI.aO]
 ·simp [Go.aI.aO]
theorem IL.idx {v:AV} {l:List Int} (h:IL v l) (k:IntKind) (i:Int) (φ:AV→Prop):aG 1 v (.int k i) φ=((0≤i∧i < l.length)∧φ (.ah (.int .i64 (l.getD i.toNat 0)))):=by
 rcases h with rfl | rfl
 ·cases l with
  | nil=>simp [bu,aG];omega
  | cons x r=>exact aN 1 0 (x::r) k i φ
 ·exact aN 1 0 l k i φ
theorem IL.lens {v:AV} {l:List Int} (h:IL v l):(∀ (own:Nat) (xs:List AV),v=AV.al own xs→∀ z∈xs,z.cells.length=1)=True:=by
 rcases h with rfl | rfl
 ·cases l with
  | nil=>simp [bu]
  | cons x r=>exact dY 0 (x::r)
 ·exact dY 0 l
def Ax (S:List aa→Prop):Prop:=∀ H H',S H→S H'→H'.length=H.length
def SB (S:List aa→Prop) (Q:Prop) (r:AV) (H':List aa):Prop:=∃ b:Bool,r=.bool b∧(b=true↔Q)∧S H'
def SI (S:List aa→Prop) (Q:Int→Prop) (l:List Int) (r:AV) (H':List aa):Prop:=
 S H'∧((r=.int .i64 (-1)∧∀ x∈l,¬ Q x)∨∃ n:Nat,r=.int .i64 n∧n < l.length∧Q (l.getD n 0)∧∀ j,j < n→¬ Q (l.getD j 0))
theorem BY {S:List aa→Prop} (hl:Ax S) {s:Nat} {b:Bool} {Q:Prop} {H H':List aa} {x:AV} (hx:x=.bool b) (hb:b=true↔Q) (hS:S H) (Zu:S H'):bP H.length [.t s] [(s,x)] H' (SB S Q):=by
 subst hx
 refine aT H.length (zy _) (by rw [aD,if_pos rfl];rfl) ?_
 rw [aD,if_pos rfl,aax (by rw [hl H H' hS Zu];exact zy _)]
 exact ⟨b,rfl,hb,Zu⟩
theorem aV {l:List Int} {i:Nat} (h:i < l.length):l.getD i 0∈l:=by rw [th,Hj h];exact acA h
theorem Zv {S:List aa→Prop} (hS:Ax S) {Q:Int→Int→Prop} {a b:List Int} {va vb:AV} (ha:IL va a) (hb:IL vb b) (la:a.length≤1000000000) (lb:b.length≤1000000000) (g:Nat) (pre cP:List AV) (bY:cP.map AV.ab=cP) (ns:pre.map AV.ab=pre)
 (hf:∀ x∈a,∀ y∈b,∀ H,S H→aA Tryz.prog g (pre++[.int .i64 x,.int .i64 y]++cP) H (SB S (Q x y))) {H:List aa} (hH:S H) :
 aA Tryz.prog 140 [va,vb,.fn (.func g) pre cP] H (SB S (a.length=b.length∧∀ j,j < a.length→Q (a.getD j 0) (b.getD j 0))):=by
 refine XG.2.calls rfl ?_
 simp only [XG,aH]
 obtain ⟨a1,a2,a3,a4⟩:=ha.one
 obtain ⟨b1,b2,b3,b4⟩:=hb.one
 simp +contextual only [a2,b2,ha.aO,hb.aO,ha.len (by omega),hb.len (by omega),sZ,Nat.reduceEqDiff,Nat.reduceAdd,↓reduceIte,reduceCtorEq]
 refine ⟨fun dP=>BY hS rfl ⟨fun h=>by simp at h,fun h=>absurd (by omega) dP⟩ hH hH,fun heq=>?_⟩
 refine aF a.length (fun i (G:List aa)=>S G∧∀ j,j < i→Q (a.getD j 0) (b.getD j 0))
  (fun i G=>[(1,vb),(2,.fn (.func g) pre cP),(15,va),(16,.int .i64 b.length),(17,.int .i64 i)]) (fun i G=>G) H ⟨⟨hH,fun j hj=>by omega⟩,ax _ _ _⟩ fun i G hi hI=>?_
 obtain ⟨hG,hq⟩:=hI
 simp +contextual only [b2,ha.lens,hb.lens,ha.idx,hb.idx,zB,bY,ns,sZ,Nat.reduceEqDiff,Nat.reduceAdd,↓reduceIte,reduceCtorEq]
 refine ⟨fun aM=>⟨by omega,by omega,?_⟩,fun fV=>?_⟩
 ·refine af (hf _ (aV (by omega)) _ (aV (by omega)) G hG) ?_
  rintro r G' ⟨x,rfl,hx,fa⟩
  cases x with
  | true=>
    simp +contextual only [sZ,Nat.reduceEqDiff,↓reduceIte]
    refine ⟨i + 1,G',⟨by omega,fa,fun j hj=>?_⟩,by omega,ay (by rw [aj i (by omega)]) rfl⟩
    by_cases h:j=i
    ·subst h;exact hx.1 rfl
    ·exact hq j (by omega)
  | false=>
    simp +contextual only [sZ,Nat.reduceEqDiff,↓reduceIte,reduceCtorEq]
    refine BY hS rfl ⟨fun h=>by simp at h,fun h=>?_⟩ hH fa
    exact absurd (hx.2 (h.2 i (by omega))) (by simp)
 ·refine BY hS rfl ⟨fun _=>⟨by omega,fun j hj=>hq j (by omega)⟩,fun _=>rfl⟩ hH hG
theorem MF {S:List aa→Prop} (hS:Ax S) {Q:Int→Prop} {a:List Int} {va:AV} (ha:IL va a) (la:a.length≤1000000000) (g:Nat) (pre cP:List AV) (bY:cP.map AV.ab=cP) (ns:pre.map AV.ab=pre)
 (hf:∀ x∈a,∀ H,S H→aA Tryz.prog g (pre++[.int .i64 x]++cP) H (SB S (Q x))) {H:List aa} (hH:S H) :
 aA Tryz.prog 100 [va,.fn (.func g) pre cP] H (SI S Q a):=by
 refine JV.2.calls rfl ?_
 simp only [JV,aH]
 obtain ⟨a1,a2,a3,a4⟩:=ha.one
 simp +contextual only [a2,ha.aO,ha.len (by omega),sZ,Nat.reduceEqDiff,Nat.reduceAdd,↓reduceIte,reduceCtorEq]
 have fin:∀ (n:Int) (G:List aa),S G→((n=-1∧∀ x∈a,¬ Q x)∨∃ m:Nat,n=m∧m < a.length∧Q (a.getD m 0)∧∀ j,j < m→¬ Q (a.getD j 0))→bP H.length [.t 4] [(4,.int .i64 n)] G (SI S Q a):=by
  intro n G hG hn
  refine aT H.length (zy _) (by rw [aD,if_pos rfl];rfl) ?_
  rw [aD,if_pos rfl,aax (by rw [hS H G hH hG];exact zy _)]
  refine ⟨hG,?_⟩
  rcases hn with ⟨rfl,h⟩ | ⟨m,rfl,h⟩
  ·exact .inl ⟨rfl,h⟩
  ·exact .inr ⟨m,rfl,h⟩
 refine aF a.length (fun i (G:List aa)=>S G∧∀ j,j < i→¬ Q (a.getD j 0))
  (fun i G=>[(0,va),(1,.fn (.func g) pre cP),(7,.int .i64 a.length),(8,.int .i64 i)]) (fun i G=>G) H ⟨⟨hH,fun j hj=>by omega⟩,ax _ _ _⟩ fun i G hi hI=>?_
 obtain ⟨hG,hq⟩:=hI
 simp +contextual only [a2,ha.lens,ha.idx,zB,bY,ns,sZ,Nat.reduceEqDiff,Nat.reduceAdd,↓reduceIte,reduceCtorEq]
 refine ⟨fun aM=>⟨by omega,?_⟩,fun fV=>?_⟩
 ·refine af (hf _ (aV (by omega)) G hG) ?_
  rintro r G' ⟨x,rfl,hx,fa⟩
  cases x with
  | false=>
    simp +contextual only [sZ,Nat.reduceEqDiff,↓reduceIte,reduceCtorEq]
    refine ⟨i + 1,G',⟨by omega,fa,fun j hj=>?_⟩,by omega,ay (by rw [aj i (by omega)]) rfl⟩
    by_cases h:j=i
    ·subst h;exact fun h=>absurd (hx.2 h) (by simp)
    ·exact hq j (by omega)
  | true=>
    simp +contextual only [sZ,Nat.reduceEqDiff,↓reduceIte,reduceCtorEq]
    exact fin _ _ fa (.inr ⟨i,rfl,by omega,hx.1 rfl,hq⟩)
 ·refine fin _ _ hG (.inl ⟨rfl,fun x hx=>?_⟩)
  obtain ⟨j,hj,rfl⟩:=acg hx
  have:=hq j (by omega)
  simpa [hj] using this
theorem Eb {S:List aa→Prop} (hS:Ax S) {Q:Int→Prop} {a:List Int} {va:AV} (ha:IL va a) (la:a.length≤1000000000) (g:Nat) (pre cP:List AV) (bY:cP.map AV.ab=cP) (ns:pre.map AV.ab=pre)
 (hf:∀ x∈a,∀ H,S H→aA Tryz.prog g (pre++[.int .i64 x]++cP) H (SB S (Q x))) {H:List aa} (hH:S H) :
 aA Tryz.prog 102 [va,.fn (.func g) pre cP] H (SB S (∃ x∈a,Q x)):=by
 refine JW.2.calls rfl ?_
 simp only [JW,aH]
 obtain ⟨a1,a2,a3,a4⟩:=ha.one
 simp +contextual only [a2,sZ,Nat.reduceEqDiff,Nat.reduceAdd,↓reduceIte,reduceCtorEq]
 refine af (MF hS ha la g pre cP bY ns hf hH) ?_
 rintro r G ⟨hG,⟨rfl,h⟩ | ⟨n,rfl,h1,h2,_⟩⟩
 ·simp +contextual only [sZ,↓reduceIte,reduceCtorEq]
  exact BY hS (b:=false) (by simp) ⟨fun h=>by simp at h,fun ⟨x,hx,h'⟩=>absurd h' (h x hx)⟩ hH hG
 ·simp +contextual only [sZ,↓reduceIte,reduceCtorEq]
  exact BY hS (b:=true) (by simp) ⟨fun _=>⟨_,aV h1,h2⟩,fun _=>rfl⟩ hH hG
end Go.aI
end
section
set_option maxRecDepth 100000
namespace Go.aI
open Go Go.Proofs Go.dD
def SD (c:Cx) (H0 H:List aa):Prop:=Du c H∧Up c H0 H
theorem SD.BZ (c:Cx) (H0:List aa):Ax (SD c H0):=fun H H' h h'=>by rw [h'.2.len,h.2.len]
theorem jJ.sb {c:Cx} {Q:Prop} {H0 H H':List aa} {r:AV} (h:jJ c Q H r H') (hS:SD c H0 H):SB (SD c H0) Q r H':=by
 obtain ⟨b,h1,h2,h3,h4⟩:=h;exact ⟨b,h1,h2,h4,hS.2.trans h3⟩
theorem adn {c:Cx} {i x:Int} (h:jo c i x) {H:List aa} (hD:Du c H):aA Tryz.prog 233 [.int .i64 x,.ah (.ptr c.d 0),.ah (.int .i64 i)] H (jJ c (¬ R c.O (c.tm i) (c.tm x)) H):=by
 refine YU.2.calls rfl ?_
 simp only [YU,aH]
 simp +contextual only [sZ,Nat.reduceEqDiff,Nat.reduceAdd,↓reduceIte,reduceCtorEq]
 refine af (h H hD) ?_
 rintro r H' ⟨b,rfl,hb,hU,kA⟩
 simp +contextual only [sZ,↓reduceIte,reduceCtorEq]
 refine fc (b:=!b) rfl ?_ hU kA
 rw [← hb];cases b <;> simp
theorem UP {c:Cx} {i:Int} {l:List Int} {v:AV} (hv:IL v l) (hl:l.length≤1000000000) (h:∀ x∈l,jo c i x) {H:List aa} (hD:Du c H):aA Tryz.prog 204 [.ptr c.d 0,.int .i64 i,v] H (jJ c (∀ x∈l,R c.O (c.tm i) (c.tm x)) H):=by
 refine Yu.2.calls rfl ?_
 simp only [Yu,aH]
 obtain ⟨a1,a2,a3,a4⟩:=hv.one
 simp +contextual only [a2,sZ,Nat.reduceEqDiff,Nat.reduceAdd,↓reduceIte,reduceCtorEq]
 refine af (Eb (SD.BZ c H) hv hl 233 [] [.ah (.ptr c.d 0),.ah (.int .i64 i)] rfl rfl (Q:=fun x=>¬ R c.O (c.tm i) (c.tm x)) (fun x hx G hG=>(adn (h x hx) hG.1).mono fun r H' hr=>hr.sb hG) ⟨hD,Up.refl c H⟩) ?_
 rintro r G ⟨b,rfl,hb,hG⟩
 simp +contextual only [sZ,↓reduceIte,reduceCtorEq]
 refine fc (b:=!b) rfl ?_ hG.2 hG.1
 cases b with
 | true=>
   obtain ⟨x,hx,hr⟩:=hb.1 rfl
   exact ⟨fun h=>by simp at h,fun h=>absurd (h x hx) hr⟩
 | false=>
   refine ⟨fun _ x hx=>?_,fun _=>rfl⟩
   by_cases hr:R c.O (c.tm i) (c.tm x)
   ·exact hr
   ·exact absurd (hb.2 ⟨x,hx,hr⟩) (by simp)
theorem ado {c:Cx} {x k:Int} (h1:lN c x k) (h2:jo c x k) {H:List aa} (hD:Du c H):aA Tryz.prog 220 [.int .i64 x,.ah (.ptr c.d 0),.ah (.int .i64 k)] H (jJ c (E c.O (c.tm x) (c.tm k)∨R c.O (c.tm x) (c.tm k)) H):=by
 refine YI.2.calls rfl ?_
 simp only [YI,aH]
 simp +contextual only [sZ,Nat.reduceEqDiff,Nat.reduceAdd,↓reduceIte,reduceCtorEq]
 refine af (h1 H hD) ?_
 rintro r H' ⟨b,rfl,hb,hU,kA⟩
 cases b with
 | true=>
   simp +contextual only [sZ,Nat.reduceEqDiff,↓reduceIte,reduceCtorEq]
   exact fc rfl ⟨fun _=>.inl (hb.1 rfl),fun _=>rfl⟩ hU kA
 | false=>
   simp +contextual only [sZ,Nat.reduceEqDiff,Nat.reduceAdd,↓reduceIte,reduceCtorEq]
   refine af (h2 H' kA) ?_
   rintro r H2 ⟨b,rfl,qz,R2,CD⟩
   simp +contextual only [sZ,Nat.reduceEqDiff,↓reduceIte,reduceCtorEq]
   refine fc rfl ⟨fun h=>.inr (qz.1 h),fun h=>?_⟩ (hU.trans R2) CD
   rcases h with h | h
   ·exact absurd (hb.2 h) (by simp)
   ·exact qz.2 h
theorem Zw {c:Cx} (hc:c.Ok) {i k:Int} (hi:c.eJ i) (h1:∀ x∈c.kd i,lN c x k) (h2:∀ x∈c.kd i,jo c x k) {H:List aa} (hD:Du c H):aA Tryz.prog 183 [.ptr c.d 0,.int .i64 i,.int .i64 k] H (jJ c (∃ x∈c.kd i,E c.O (c.tm x) (c.tm k)∨R c.O (c.tm x) (c.tm k)) H):=by
 refine Ye.2.calls rfl ?_
 simp only [Ye,aH]
 have k2:∀ l,(bu l).ab=bu l:=fun l=>(aL l).2.1
 simp +contextual only [hD.d,n8,E9,cK,b7,k2,sZ,Nat.reduceEqDiff,Nat.reduceAdd,Nat.reduceLT,↓reduceIte,reduceCtorEq]
 refine ⟨hi,?_⟩
 refine af (Eb (SD.BZ c H) (.inl rfl:IL (bu (c.kd i)) (c.kd i)) (by have:=hc.kl i hi;omega) 220 [] [.ah (.ptr c.d 0),.ah (.int .i64 k)] rfl rfl (Q:=fun x=>E c.O (c.tm x) (c.tm k)∨R c.O (c.tm x) (c.tm k)) (fun x hx G hG=>(ado (h1 x hx) (h2 x hx) hG.1).mono fun r H' hr=>hr.sb hG) ⟨hD,Up.refl c H⟩) ?_
 rintro r G ⟨b,rfl,hb,hG⟩
 simp +contextual only [sZ,↓reduceIte,reduceCtorEq]
 exact fc rfl hb hG.2 hG.1
theorem Zx {c:Cx} (hc:c.Ok) {i k:Int} (hi:c.eJ i) (hk:c.eJ k) (h:∀ x∈c.kd k,jo c i x) {H:List aa} (hD:Du c H):aA Tryz.prog 184 [.ptr c.d 0,.int .i64 i,.int .i64 k] H
 (jJ c (tw c k=true∧rp c k < rp c i∧∀ x∈c.kd k,R c.O (c.tm i) (c.tm x)) H):=by
 refine Yf.2.calls rfl ?_
 simp only [Yf,aH]
 have k2:∀ l,(bu l).ab=bu l:=fun l=>(aL l).2.1
 simp +contextual only [sZ,Nat.reduceEqDiff,Nat.reduceAdd,↓reduceIte,reduceCtorEq]
 refine af (rq hc hi hD) ?_
 rintro r H1 ⟨rfl,rfl⟩
 simp +contextual only [dV,gg,gh,gk,sZ,Nat.reduceEqDiff,Nat.reduceAdd,↓reduceIte,reduceCtorEq]
 refine af (rq hc hk hD) ?_
 rintro r H1 ⟨rfl,rfl⟩
 simp +contextual only [dV,gg,gh,gk,sZ,Nat.reduceEqDiff,↓reduceIte,reduceCtorEq]
 cases hb:tw c k with
 | false=>
   simp +contextual only [sZ,Nat.reduceEqDiff,↓reduceIte,reduceCtorEq]
   exact fc rfl ⟨fun h=>by simp at h,fun h=>by simp at h⟩ (Up.refl c _) hD
 | true=>
   by_cases hp:rp c k < rp c i
   ·simp +contextual only [hp,hD.d,n8,E9,cK,b7,k2,sZ,Nat.reduceEqDiff,Nat.reduceAdd,Nat.reduceLT,↓reduceIte,reduceCtorEq]
    refine ⟨hk,af (UP (.inl rfl:IL (bu (c.kd k)) (c.kd k)) (by have:=hc.kl k hk;omega) h hD) ?_⟩
    rintro r H2 ⟨b,rfl,qz,hU,kA⟩
    simp +contextual only [sZ,Nat.reduceEqDiff,↓reduceIte,reduceCtorEq]
    exact fc rfl ⟨fun h=>⟨rfl,hp,qz.1 h⟩,fun h=>qz.2 h.2.2⟩ hU kA
   ·simp +contextual only [hp,sZ,Nat.reduceEqDiff,↓reduceIte,reduceCtorEq]
    exact fc rfl ⟨fun h=>by simp at h,fun h=>absurd h.2.1 hp⟩ (Up.refl c _) hD
structure KA (Q:Int→Int→Prop) (a b:List Int) (n:Nat):Prop where
 la:n≤a.length
 lb:n≤b.length
 eq:∀ j,j < n→Q (a.getD j 0) (b.getD j 0)
 no:n < a.length→n < b.length→¬ Q (a.getD n 0) (b.getD n 0)
theorem Zy {c:Cx} {a b:List Int} {va vb:AV} (ha:IL va a) (hb:IL vb b) (la:a.length≤1000000000) (lb:b.length≤1000000000) (h:∀ x∈a,∀ y∈b,lN c x y) {H:List aa} (hD:Du c H) :
 aA Tryz.prog 150 [.ptr c.d 0,va,vb] H fun r H'=>∃ n:Nat,r=.int .i64 n∧KA (fun x y=>E c.O (c.tm x) (c.tm y)) a b n∧Up c H H'∧Du c H':=by
 refine XO.2.calls rfl ?_
 simp only [XO,aH]
 obtain ⟨a1,a2,a3,a4⟩:=ha.one
 obtain ⟨b1,b2,b3,b4⟩:=hb.one
 simp +contextual only [sZ,Nat.reduceEqDiff,Nat.reduceAdd,↓reduceIte,reduceCtorEq]
 refine aF a.length (fun i (G:List aa)=>SD c H G∧i≤b.length∧∀ j,j < i→E c.O (c.tm (a.getD j 0)) (c.tm (b.getD j 0)))
  (fun i G=>[(0,.ptr c.d 0),(1,va),(2,vb),(7,.int .i64 i)]) (fun i G=>G) H ⟨⟨⟨hD,Up.refl c H⟩,ac6 _,fun j hj=>by omega⟩,ax _ _ _⟩ fun i G hi hI=>?_
 obtain ⟨hG,hib,hq⟩:=hI
 have fin:∀ G',SD c H G'→KA (fun x y=>E c.O (c.tm x) (c.tm y)) a b i→bP H.length [.t 6] [(6,.int .i64 (i:Int))] G' fun r H'=>∃ n:Nat,r=.int .i64 n∧KA (fun x y=>E c.O (c.tm x) (c.tm y)) a b n∧Up c H H'∧Du c H':=by
  intro G' fa hp
  refine aT H.length (zy _) (by rw [aD,if_pos rfl];rfl) ?_
  rw [aD,if_pos rfl,aax (by rw [fa.2.len];exact zy _)]
  exact ⟨i,rfl,hp,fa.2,fa.1⟩
 by_cases h1:(i:Int) < a.length
 ·by_cases h2:(i:Int) < b.length
  ·simp +contextual only [a2,b2,ha.aO,hb.aO,ha.xR,hb.xR,ha.lens,hb.lens,ha.idx,hb.idx,zB,h1,h2,decide_true,sZ,Nat.reduceEqDiff,Nat.reduceAdd,↓reduceIte,reduceCtorEq]
   refine ⟨by omega,by omega,?_⟩
   refine af (h _ (aV (by omega)) _ (aV (by omega)) G hG.1) ?_
   rintro r G' ⟨x,rfl,hx,hU,kA⟩
   have fa:SD c H G':=⟨kA,hG.2.trans hU⟩
   cases x with
   | true=>
     simp +contextual only [sZ,Nat.reduceEqDiff,↓reduceIte,reduceCtorEq]
     refine ⟨i + 1,G',⟨by omega,fa,by omega,fun j hj=>?_⟩,by omega,ay (by rw [aj i (by omega)]) rfl⟩
     by_cases h:j=i
     ·subst h;exact hx.1 rfl
     ·exact hq j (by omega)
   | false=>
     simp +contextual only [sZ,Nat.reduceEqDiff,↓reduceIte,reduceCtorEq]
     exact fin G' fa ⟨hi,hib,hq,fun _ _ he=>absurd (hx.2 he) (by simp)⟩
  ·simp +contextual only [a2,b2,ha.aO,hb.aO,ha.xR,hb.xR,h1,h2,decide_true,decide_false,sZ,Nat.reduceEqDiff,↓reduceIte,reduceCtorEq]
   exact fin G hG ⟨hi,hib,hq,fun _ h'=>absurd h' (by omega)⟩
 ·simp +contextual only [a2,ha.aO,ha.xR,h1,decide_false,sZ,Nat.reduceEqDiff,↓reduceIte,reduceCtorEq]
  exact fin G hG ⟨hi,hib,hq,fun h' _=>absurd h' (by omega)⟩
def B0 (c:Cx) (i k:Int):Prop:=
 vQ c i k=true∧dU c i≠3∧(∀ x∈c.kd k,R c.O (c.tm i) (c.tm x))∧
 ∃ n,KA (fun x y=>E c.O (c.tm x) (c.tm y)) (bt (dU c i) (c.kd i)) (bt (dU c i) (c.kd k)) n∧n < (bt (dU c i) (c.kd i)).length∧
  (n=(bt (dU c i) (c.kd k)).length∨R c.O (c.tm ((bt (dU c i) (c.kd i)).getD n 0)) (c.tm ((bt (dU c i) (c.kd k)).getD n 0)))
theorem kJ {s x:Int} {l:List Int}:x∈bt s l↔x∈l:=by unfold bt;split <;> simp
theorem iF {s:Int} {l:List Int}:(bt s l).length=l.length:=by unfold bt;split <;> simp
theorem KA.UQ {Q:Int→Int→Prop} {a b:List Int} {n m:Nat} (h:KA Q a b n) (k:KA Q a b m):n=m:=by
 rcases af5 n m with h1 | h1 | h1
 ·exact absurd (k.eq n h1) (h.no (by have:=k.la;omega) (by have:=k.lb;omega))
 ·exact h1
 ·exact absurd (h.eq m h1) (k.no (by have:=h.la;omega) (by have:=h.lb;omega))
theorem Zz {c:Cx} (hc:c.Ok) {i k:Int} (hi:c.eJ i) (hk:c.eJ k) (h1:∀ x∈c.kd k,jo c i x) (h2:∀ x∈c.kd i,∀ y∈c.kd k,lN c x y) (h3:∀ x∈c.kd i,∀ y∈c.kd k,jo c x y) {H:List aa} (hD:Du c H) :
 aA Tryz.prog 185 [.ptr c.d 0,.int .i64 i,.int .i64 k] H (jJ c (B0 c i k) H):=by
 refine RT.2.calls rfl ?_
 simp only [RT,aH]
 have k2:∀ l,(bu l).ab=bu l:=fun l=>(aL l).2.1
 have l1:=hc.kl i hi
 have l2:=hc.kl k hk
 simp +contextual only [sZ,Nat.reduceEqDiff,Nat.reduceAdd,↓reduceIte,reduceCtorEq]
 refine af (GB hc hi hk hD) ?_
 rintro r H1 ⟨rfl,rfl⟩
 simp +contextual only [sZ,Nat.reduceEqDiff,Nat.reduceAdd,Nat.reduceLT,↓reduceIte,reduceCtorEq]
 cases hl:vQ c i k with
 | false=>
   simp +contextual only [Bool.not_false,sZ,Nat.reduceEqDiff,↓reduceIte,reduceCtorEq]
   exact fc rfl ⟨fun h=>by simp at h,fun h=>by have:=h.1;rw [hl] at this;simp at this⟩ (Up.refl c _) hD
 | true=>
   by_cases hs:dU c i=3
   ·simp +contextual only [Bool.not_true,hs,decide_true,sZ,Nat.reduceEqDiff,↓reduceIte,reduceCtorEq]
    exact fc rfl ⟨fun h=>by simp at h,fun h=>absurd hs h.2.1⟩ (Up.refl c _) hD
   ·simp +contextual only [Bool.not_true,hs,decide_false,hD.d,n8,E9,cK,b7,k2,sZ,Nat.reduceEqDiff,Nat.reduceAdd,Nat.reduceLT,↓reduceIte,reduceCtorEq]
    refine ⟨hk,af (UP (.inl rfl:IL (bu (c.kd k)) (c.kd k)) (by omega) h1 hD) ?_⟩
    rintro r H2 ⟨b,rfl,qz,hU,CD⟩
    cases b with
    | false=>
      simp +contextual only [Bool.not_false,sZ,Nat.reduceEqDiff,↓reduceIte,reduceCtorEq]
      exact fc rfl ⟨fun h=>by simp at h,fun h=>absurd (qz.2 h.2.2.1) (by simp)⟩ hU CD
    | true=>
      have tv:=qz.1 rfl
      simp +contextual only [Bool.not_true,CD.d,n8,E9,cK,b7,k2,sZ,Nat.reduceEqDiff,Nat.reduceAdd,Nat.reduceLT,↓reduceIte,reduceCtorEq]
      refine ⟨hi,aB (J4 (c.kd i) (dU c i) (by omega)) ?_⟩
      simp +contextual only [CD.d,n8,E9,cK,b7,k2,sZ,Nat.reduceEqDiff,Nat.reduceAdd,Nat.reduceLT,↓reduceIte,reduceCtorEq]
      refine ⟨hk,aB (J4 (c.kd k) (dU c i) (by omega)) ?_⟩
      have la:(bt (dU c i) (c.kd i)).length≤1000000000:=by rw [iF];omega
      have lb:(bt (dU c i) (c.kd k)).length≤1000000000:=by rw [iF];omega
      have ia:IL (.al 0 (ints (bt (dU c i) (c.kd i)))) (bt (dU c i) (c.kd i)):=.inr rfl
      have ib:IL (.al 0 (ints (bt (dU c i) (c.kd k)))) (bt (dU c i) (c.kd k)):=.inr rfl
      simp +contextual only [sZ,Nat.reduceEqDiff,Nat.reduceAdd,↓reduceIte,reduceCtorEq]
      refine af (Zy ia ib la lb (fun x hx y hy=>h2 x (kJ.1 hx) y (kJ.1 hy)) CD) ?_
      rintro r H3 ⟨n,rfl,hp,ZA,MG⟩
      have U3:=hU.trans ZA
      have yes:∀ (Hx:List aa),Up c H1 Hx→Du c Hx→n < (bt (dU c i) (c.kd i)).length→(n=(bt (dU c i) (c.kd k)).length∨R c.O (c.tm ((bt (dU c i) (c.kd i)).getD n 0)) (c.tm ((bt (dU c i) (c.kd k)).getD n 0)))→
       bP H1.length [.t 6] [(6,.bool true)] Hx (jJ c (B0 c i k) H1):=fun Hx u d hn hx=>fc rfl ⟨fun _=>⟨hl,hs,tv,n,hp,hn,hx⟩,fun _=>rfl⟩ u d
      have no:∀ (Hx:List aa),Up c H1 Hx→Du c Hx→¬ (n < (bt (dU c i) (c.kd i)).length∧(n=(bt (dU c i) (c.kd k)).length∨R c.O (c.tm ((bt (dU c i) (c.kd i)).getD n 0)) (c.tm ((bt (dU c i) (c.kd k)).getD n 0))))→
       bP H1.length [.t 6] [(6,.bool false)] Hx (jJ c (B0 c i k) H1):=fun Hx u d hx=>fc rfl ⟨fun h=>by simp at h,fun ⟨_,_,_,m,hm,rN⟩=>absurd (hm.UQ hp ▸ rN) hx⟩ u d
      by_cases h4:(n:Int) < (bt (dU c i) (c.kd i)).length
      ·have d4:decide ((n:Int) < (bt (dU c i) (c.kd i)).length)=true:=decide_eq_true h4
       by_cases h5:(n:Int)=(bt (dU c i) (c.kd k)).length
       ·have d5:decide ((n:Int)=(bt (dU c i) (c.kd k)).length)=true:=decide_eq_true h5
        simp +contextual only [ap,d4,d5,sZ,Nat.reduceEqDiff,↓reduceIte,reduceCtorEq]
        exact yes H3 U3 MG (by omega) (.inl (by omega))
       ·have Oj:=hp.lb
        simp +contextual only [ap,dY,aN,zB,h4,h5,decide_true,decide_false,sZ,Nat.reduceEqDiff,Nat.reduceAdd,↓reduceIte,reduceCtorEq]
        refine ⟨by omega,⟨by omega,by omega⟩,af (h3 _ (kJ.1 (aV (by omega))) _ (kJ.1 (aV (by omega))) H3 MG) ?_⟩
        rintro r H4 ⟨b,rfl,hb,V9,Wa⟩
        cases b with
        | true=>
          simp +contextual only [sZ,Nat.reduceEqDiff,↓reduceIte,reduceCtorEq]
          exact yes H4 (U3.trans V9) Wa (by omega) (.inr (hb.1 rfl))
        | false=>
          simp +contextual only [sZ,Nat.reduceEqDiff,↓reduceIte,reduceCtorEq]
          refine no H4 (U3.trans V9) Wa fun ⟨_,hx⟩=>?_
          rcases hx with hx | hx
          ·omega
          ·exact absurd (hb.2 hx) (by simp)
      ·simp +contextual only [ap,h4,decide_false,sZ,Nat.reduceEqDiff,↓reduceIte,reduceCtorEq]
       exact no H3 U3 MG fun ⟨hx,_⟩=>by omega
end Go.aI
end
section
set_option maxRecDepth 100000
namespace Go.aI
open Go Go.Proofs Go.dD
theorem Ec (n:Int) (h:0≤n∧n < 18446744073709551616):IntKind.u64.wrap n=n:=by
 have:IntKind.u64.bits=64:=rfl
 have:IntKind.u64.signed=false:=rfl
 simp only [IntKind.wrap, *]
 have e:n % 2 ^ 64=n:=agp h.1 (by omega)
 rw [e]
 simp
theorem UR {n:Nat} (h:n < 4294967296) (φ:AV→Prop):dw .and (.int .u64 (n:Int)) (.int .u64 4294967295) φ=φ (.int .u64 (n:Int)):=by
 have e:(BitVec.ofInt IntKind.u64.bits (n:Int) &&& BitVec.ofInt IntKind.u64.bits 4294967295).toNat=n:=by
  show (BitVec.ofInt 64 (n:Int) &&& BitVec.ofInt 64 4294967295).toNat=n
  rw [BitVec.toNat_and]
  have e1:(BitVec.ofInt 64 (n:Int)).toNat=n:=by rw [BitVec.toNat_ofInt];omega
  have e2:(BitVec.ofInt 64 4294967295).toNat=2 ^ 32 - 1:=rfl
  rw [e1,e2,Nat.and_two_pow_sub_one_eq_mod,Nat.mod_eq_of_lt h]
 simp only [dw,e,true_and]
 rw [Ec _ (by omega)]
theorem US {n:Nat} (h:n < 4294967296) (φ:AV→Prop):eX .shr (.int .u64 (n:Int)) (.int .u64 32) φ=φ (.int .u64 0):=by
 have e:Int.fdiv (n:Int) (2 ^ min (32:Int).toNat IntKind.u64.bits)=0:=by
  show Int.fdiv (n:Int) (2 ^ 32)=0
  rw [Int.fdiv_eq_ediv_of_nonneg _ (by decide)]
  omega
 simp only [eX,e]
 simp
theorem adq {n:Nat} (h:n < 4294967296):Pure Tryz.prog 213 [.int .u64 1,.int .u64 (n:Int)] (.tuple [.int .u64 0,.int .u64 (n:Int)]):=by
 refine fun H=>YB.2.calls rfl ?_
 simp only [YB,aH]
 have a1:∀ φ:AV→Prop,dw .and (.int .u64 1) (.int .u64 4294967295) φ=φ (.int .u64 1):=fun φ=>UR (n:=1) (by decide) φ
 have s1:∀ φ:AV→Prop,eX .shr (.int .u64 1) (.int .u64 32) φ=φ (.int .u64 0):=fun φ=>US (n:=1) (by decide) φ
 have a0:∀ φ:AV→Prop,dw .and (.int .u64 0) (.int .u64 4294967295) φ=φ (.int .u64 0):=fun φ=>UR (n:=0) (by decide) φ
 have s0:∀ φ:AV→Prop,eX .shr (.int .u64 0) (.int .u64 32) φ=φ (.int .u64 0):=fun φ=>US (n:=0) (by decide) φ
 have w1:IntKind.u64.wrap (1 * (n:Int))=n:=by rw [Int.one_mul];exact Ec _ (by omega)
 have w0:IntKind.u64.wrap 0=0:=Ec _ (by omega)
 simp +contextual only [a1,s1,a0,s0,UR h,US h,w1,w0,Int.zero_mul,Int.mul_zero,Int.add_zero,sZ,Nat.reduceEqDiff,Nat.reduceAdd,↓reduceIte,reduceCtorEq]
 have:=xB (H:=H) (e:=[]) (s:=4) (s':=5) (v:=.int .u64 0) (v':=.int .u64 (n:Int)) (by decide) rfl rfl rfl rfl
 rwa [abJ] at this
theorem adr {n:Nat} (h:n < 4294967296):Pure Tryz.prog 174 [.int .u64 1,.int .u64 (n:Int)] (.tuple [.int .u64 0,.int .u64 (n:Int)]):=by
 refine fun H=>X7.2.calls rfl ?_
 simp only [X7,aH]
 simp +contextual only [sZ,Nat.reduceEqDiff,Nat.reduceAdd,↓reduceIte,reduceCtorEq]
 refine ae (adq h) ?_
 simp +contextual only [sZ,Nat.reduceEqDiff,Nat.reduceAdd,Nat.reduceLT,↓reduceIte,reduceCtorEq]
 have:=xB (H:=H) (e:=[]) (s:=4) (s':=5) (v:=.int .u64 0) (v':=.int .u64 (n:Int)) (by decide) rfl rfl rfl rfl
 rwa [abJ] at this
def dh (l:List Int):aa:=.cells (ints l)
def eF (i n:Nat) (x:Int):List Int:=List.replicate i x++List.replicate (n - i) 0
theorem mkI (n:Nat) (H:List aa) (K:AV→List aa→Prop) (h:n≤1000000000):gY 1 8 (.int .i64 0) (.int .i64 (n:Int)) H K=K (.aZ H.length 0 n n) (H++[dh (eF 0 n 0)]):=by
 have e:flat (List.replicate n (bU (.int .i64 0)))=ints (eF 0 n 0):=by
  rw [← kI];simp [eF,ints,bU]
 simp only [gY,zB,e,aJ,dh,true_and,eq_iff_iff]
 constructor
 ·rintro ⟨_,_,h⟩;exact h
 ·exact fun k=>⟨by omega,by omega,k⟩
theorem mS (l:List Int) (k:Nat):(ints l).take k=ints (l.take k):=by simp [ints,List.map_take]
theorem uk (l:List Int) (k:Nat):(ints l).drop k=ints (l.drop k):=by simp [ints,List.map_drop]
theorem mT (l m:List Int):ints l++ints m=ints (l++m):=by simp [ints]
theorem we (l:List Int):(ints l).map AV.ab=ints l:=by simp [ints,AV.ab]
theorem mU (l:List Int):(ints l).all AV.one=true:=by simp [ints,AV.one]
theorem xS (x:Int) {i m n:Nat} (h:i + m≤n):ai (ints (eF i n x)) i (ints (List.replicate m x))=ints (eF (i + m) n x):=by
 unfold ai
 rw [mS,ap,uk,mT,mT,ach]
 congr 1
 unfold eF
 rw [abd (by simp),aax (by simp),aek,aap (by simp),List.nil_append,ach,List.drop_replicate,← abe,agc]
 congr 2;omega
theorem ZB (x:Int) {id n:Nat} {H:List aa} (hg:H[id]?=some (dh (eF 0 n 0))) (K:AV→List aa→Prop) (hK:K (.int .i64 (min 1 n:Nat)) (H.set id (dh (eF (min 1 n) n x)))):mC 1 (.aZ id 0 n n) (.al 0 (ints [x])) H K:=by
 have e0:eF 0 n 0=eF 0 n x:=by simp [eF]
 rw [e0] at hg
 have ec:yT 1 (.al 0 (ints [x])) H=some (1,ints [x]):=rfl
 have et:(ints [x]).take (min 1 n * 1)=ints (List.replicate (min 1 n) x):=by
  rcases Nat.eq_zero_or_pos n with rfl | h
  ·rfl
  ·rw [show min 1 n=1 by omega];rfl
 have:=xS x (i:=0) (m:=min 1 n) (n:=n) (by omega)
 rw [abK] at this
 simp only [mC,ec,hg,dh,et,we,mU,aJ,this,ap]
 exact ⟨trivial,by simp [eF];omega,trivial,hK⟩
theorem ZC (x:Int) {id i n:Nat} (h0:0 < i) (h1:i < n) {H:List aa} (hg:H[id]?=some (dh (eF i n x))) (K:AV→List aa→Prop) (hK:K (.int .i64 (min i (n - i):Nat)) (H.set id (dh (eF (i + min i (n - i)) n x)))):mC 1 (.aZ id i (n - i) (n - i)) (.aZ id 0 i n) H K:=by
 have hl:(eF i n x).length=n:=by simp [eF];omega
 have ec:yT 1 (.aZ id 0 i n) H=some (i,ints (eF i n x)):=by
  simp only [yT,hg,dh,ap,hl,List.drop_zero]
  rw [if_pos (by omega)]
 have et:(ints (eF i n x)).take (min i (n - i) * 1)=ints (List.replicate (min i (n - i)) x):=by
  rw [abP,mS]
  congr 1
  unfold eF
  rw [abd (by simp;omega),List.take_replicate]
  congr 1;omega
 have:=xS x (i:=i) (m:=min i (n - i)) (n:=n) (by omega)
 simp only [mC,ec,hg,dh,et,we,mU,aJ,this,ap,hl]
 exact ⟨trivial,by omega,trivial,hK⟩
theorem slA {id i n:Nat} (h:i < n) (φ:AV→Prop):bH 1 (.aZ id 0 n n) (some (.int .i64 (i:Int))) none none φ=φ (.aZ id i (n - i) (n - i)):=by
 simp only [bH,jF,eS,zB,eq_iff_iff]
 rw [if_neg (by omega)]
 constructor
 ·intro h;simpa using h.2.2.2
 ·intro k;exact ⟨by omega,by omega,zy _,by simpa using k⟩
theorem slB {id i n:Nat} (h:i < n) (φ:AV→Prop):bH 1 (.aZ id 0 n n) none (some (.int .i64 (i:Int))) none φ=φ (.aZ id 0 i n):=by
 simp only [bH,jF,eS,zB,eq_iff_iff]
 rw [if_neg (by omega)]
 constructor
 ·intro h;simpa using h.2.2.2
 ·intro k;exact ⟨by omega,by omega,by omega,by simpa using k⟩
theorem UT (o:Nat) (x:Int) (n:Nat) (hn:n≤1000000000) (H:List aa):aA Tryz.prog 113 [.al o (ints [x]),.int .i64 (n:Int)] H fun r H'=>r=.aZ H.length 0 n n∧H'=H++[dh (List.replicate n x)]:=by
 refine Xr.2.calls rfl ?_
 simp only [Xr,aH]
 have w1:IntKind.u64.wrap 1=1:=Ec _ (by omega)
 have w2:IntKind.u64.wrap (n:Int)=n:=Ec _ (by omega)
 have w3:IntKind.i64.wrap (n:Int)=n:=cp _ (by omega)
 have e1:(ints [x]).length=1:=rfl
 have nn:decide ((n:Int) < 0)=false:=decide_eq_false (by omega)
 have ng:decide ((9223372036854775807:Int) < n)=false:=decide_eq_false (by omega)
 have z0:decide ((0:Int) < 0)=false:=rfl
 have ci:∀ (k k':IntKind) (n:Int) (φ:AV→Prop),dj k (.int k' n) φ=φ (.int k (k.wrap n)):=fun _ _ _ _=>rfl
 simp +contextual only [e1,w2,ci,nn,sZ,Nat.reduceEqDiff,Nat.reduceAdd,Nat.reduceLT,↓reduceIte,reduceCtorEq]
 refine ae (adr (n:=n) (by omega)) ?_
 simp +contextual only [w3,ci,ng,mkI n _ _ hn,sZ,Nat.reduceEqDiff,Nat.reduceAdd,Nat.reduceLT,↓reduceIte,reduceCtorEq,Int.reduceLT]
 have g0:(H++[dh (eF 0 n 0)])[H.length]?=some (dh (eF 0 n 0)):=by simp
 refine ZB x g0 _ ?_
 simp +contextual only [sZ,Nat.reduceEqDiff,↓reduceIte,reduceCtorEq]
 have es:∀ i j,(H++[dh (eF i n x)]).set H.length (dh (eF j n x))=H++[dh (eF j n x)]:=by intro i j;simp
 refine xy Nat (fun i=>i≤n∧(0 < n→0 < i)) (fun i=>[(7,.aZ H.length 0 n n),(8,.int .i64 i)]) (fun i=>H++[dh (eF i n x)]) (fun i=>n - i) (min 1 n) ⟨by omega,by omega⟩ (ay rfl ?_) ?_
 ·simp
 ·intro i hI
  have gi:(H++[dh (eF i n x)])[H.length]?=some (dh (eF i n x)):=by simp
  by_cases aM:(i:Int) < n
  ·have ky:i < n:=by omega
   simp +contextual only [aM,decide_true,Option.map_some,Option.map_none,slA ky,slB ky,sZ,Nat.reduceEqDiff,↓reduceIte]
   refine ZC x (by omega) ky gi _ ?_
   simp +contextual only [es,sZ,Nat.reduceEqDiff,↓reduceIte]
   refine ⟨i + min i (n - i),⟨by omega,by omega⟩,by omega,ay ?_ rfl⟩
   rw [cp _ (by omega)]
   rw [Int.natCast_add]
  ·have e:i=n:=by omega
   subst e
   simp +contextual only [aM,decide_false,sZ,Nat.reduceEqDiff,↓reduceIte,reduceCtorEq]
   have e3:eF i i x=List.replicate i x:=by simp [eF]
   rw [e3]
   refine aT (H.length + 1) (by omega) (by rw [aD,if_pos rfl,eL];simp) ?_
   rw [aD,if_pos rfl,aax (by simp)]
   exact ⟨rfl,rfl⟩
end Go.aI
end
section
set_option maxRecDepth 100000
namespace Go.aI
open Go Go.Proofs Go.dD
def qL (l:List Bool):List AV:=l.map .bool
def mV (l:List Bool):aa:=.cells (qL l)
theorem um (l:List Bool):(qL l).length=l.length:=by simp [qL]
def below (n:Nat) (p:Nat→Bool):List Int:=((List.range n).filter p).map Int.ofNat
theorem xT (n:Nat) (p:Nat→Bool):below (n + 1) p=if p n=true then below n p++[(n:Int)] else below n p:=by
 unfold below
 rw [adp,List.filter_append,ab8]
 by_cases h:p n=true
 ·simp [h]
 ·simp [h]
theorem kK (n:Nat) (p:Nat→Bool):(below n p).length≤n:=by
 unfold below
 rw [acz]
 have:=List.length_filter_le p (List.range n)
 simpa using this
theorem iG {n:Nat} {p:Nat→Bool} {x:Int}:x∈below n p↔∃ j:Nat,x=j∧j < n∧p j=true:=by
 unfold below
 simp only [aaw,ab3,abG]
 constructor
 ·rintro ⟨j,h,rfl⟩;exact ⟨j,rfl,h⟩
 ·rintro ⟨j,rfl,h⟩;exact ⟨j,h,rfl⟩
structure Pr (Q:Int→Int→Prop) (a b:List Int) (k:Nat) (us:List Bool) (to:List Int):Prop where
 lu:us.length=a.length
 lt:to.length=b.length
 rest:∀ j,k≤j→j < b.length→to.getD j 0=-1
 t1:∀ j,j < k→to.getD j 0=-1∨∃ i:Nat,to.getD j 0=i∧i < a.length∧us.getD i false=true∧Q (a.getD i 0) (b.getD j 0)
 inj:∀ j j',j < k→j' < k→to.getD j 0=to.getD j' 0→to.getD j 0≠-1→j=j'
 uu:∀ i,i < a.length→us.getD i false=true→∃ j,j < k∧to.getD j 0=i
 free:∀ j,j < k→to.getD j 0=-1→∀ i,i < a.length→us.getD i false=false→¬ Q (a.getD i 0) (b.getD j 0)
theorem J5 {l:List Bool} {i j:Nat} {x:Bool} (hi:i < l.length):(l.set i x).getD j false=if j=i then x else l.getD j false:=by
 simp only [th,ab4]
 by_cases h:i=j
 ·subst h;simp [hi]
 ·rw [if_neg h,if_neg (fun e=>h e.symm)]
theorem Pr.start {Q:Int→Int→Prop} {a b:List Int}:Pr Q a b 0 (List.replicate a.length false) (List.replicate b.length (-1)):=
 ⟨by simp,by simp,fun j _ hj=>by simp [hj],fun j h=>by omega,fun j j' h=>by omega,fun i hi h=>by simp [hi] at h,fun j h=>by omega⟩
theorem Pr.pair {Q:Int→Int→Prop} {a b:List Int} {k i:Nat} {us:List Bool} {to:List Int} (h:Pr Q a b k us to) (hk:k < b.length) (hi:i < a.length) (hu:us.getD i false=false) (hq:Q (a.getD i 0) (b.getD k 0)) :
 Pr Q a b (k + 1) (us.set i true) (to.set k i):=by
 have hl:=h.lt
 have lZ:=h.lu
 have gt:∀ j,(to.set k (i:Int)).getD j 0=if j=k then (i:Int) else to.getD j 0:=fun j=>mR (by omega)
 have gu:∀ j,(us.set i true).getD j false=if j=i then true else us.getD j false:=fun j=>J5 (by omega)
 refine ⟨by simp [lZ],by simp [hl],fun j h1 h2=>?_,fun j hj=>?_,fun j j' hj tx he hn=>?_,fun i' lW IQ=>?_,fun j hj hn i' lW IQ=>?_⟩
 ·rw [gt,if_neg (by omega)];exact h.rest j (by omega) h2
 ·rw [gt]
  by_cases e:j=k
  ·subst e;rw [if_pos rfl];exact .inr ⟨i,rfl,hi,by rw [gu,if_pos rfl],hq⟩
  ·rw [if_neg e]
   rcases h.t1 j (by omega) with h1 | ⟨i',h1,h2,h3,h4⟩
   ·exact .inl h1
   ·exact .inr ⟨i',h1,h2,by rw [gu];split;rfl;exact h3,h4⟩
 ·rw [gt] at he hn
  rw [gt] at he
  by_cases e:j=k
  ·by_cases e':j'=k
   ·omega
   ·rw [if_pos e,if_neg e'] at he
    rcases h.t1 j' (by omega) with h1 | ⟨i',h1,h2,h3,h4⟩
    ·omega
    ·have:i'=i:=by omega
     subst this;rw [hu] at h3;cases h3
  ·rw [if_neg e] at he hn
   by_cases e':j'=k
   ·rw [if_pos e'] at he
    rcases h.t1 j (by omega) with h1 | ⟨i',h1,h2,h3,h4⟩
    ·omega
    ·have:i'=i:=by omega
     subst this;rw [hu] at h3;cases h3
   ·rw [if_neg e'] at he
    exact h.inj j j' (by omega) (by omega) he hn
 ·rw [gu] at IQ
  by_cases e:i'=i
  ·subst e;exact ⟨k,by omega,by rw [gt,if_pos rfl]⟩
  ·rw [if_neg e] at IQ
   obtain ⟨j,h1,h2⟩:=h.uu i' lW IQ
   exact ⟨j,by omega,by rw [gt,if_neg (by omega)];exact h2⟩
 ·rw [gt] at hn
  rw [gu] at IQ
  by_cases e:j=k
  ·rw [if_pos e] at hn;omega
  ·rw [if_neg e] at hn
   by_cases e':i'=i
   ·rw [if_pos e'] at IQ;cases IQ
   ·rw [if_neg e'] at IQ
    exact h.free j (by omega) hn i' lW IQ
theorem Pr.fQ {Q:Int→Int→Prop} {a b:List Int} {k:Nat} {us:List Bool} {to:List Int} (h:Pr Q a b k us to) (hk:k < b.length) (hq:∀ i,i < a.length→us.getD i false=false→¬ Q (a.getD i 0) (b.getD k 0)):Pr Q a b (k + 1) us to:=by
 have hr:=h.rest k (zy _) hk
 refine ⟨h.lu,h.lt,fun j h1 h2=>h.rest j (by omega) h2,fun j hj=>?_,fun j j' hj tx he hn=>?_,fun i hi hu=>?_,fun j hj hn i hi hu=>?_⟩
 ·by_cases e:j=k
  ·subst e;exact .inl hr
  ·exact h.t1 j (by omega)
 ·have h1:j≠k:=fun e=>by subst e;exact hn hr
  have h2:j'≠k:=fun e=>by subst e;exact hn (he.trans hr)
  exact h.inj j j' (by omega) (by omega) he hn
 ·obtain ⟨j,h1,h2⟩:=h.uu i hi hu;exact ⟨j,by omega,h2⟩
 ·by_cases e:j=k
  ·subst e;exact hq i hi hu
  ·exact h.free j (by omega) hn i hi hu
def ZD (c:Cx) (a b:List Int) (H:List aa) (r:AV) (H':List aa):Prop:=
 ∃ us to,Pr (fun x y=>E c.O (c.tm x) (c.tm y)) a b b.length us to∧r=.tuple [bu (below a.length fun i=>!us.getD i false),bu (below b.length fun j=>decide (to.getD j 0 < 0)),.al 0 (ints to)]∧Up c H H'∧Du c H'
theorem mkB (n:Nat) (H:List aa) (K:AV→List aa→Prop) (h:n≤1000000000):gY 1 1 (.bool false) (.int .i64 (n:Int)) H K=K (.aZ H.length 0 n n) (H++[mV (List.replicate n false)]):=by
 have e:flat (List.replicate n (bU (.bool false)))=qL (List.replicate n false):=by
  induction n with
  | zero=>rfl
  | succ n ih=>rw [acE,acE];exact congrArg (AV.bool false::·) (ih (by omega))
 have eb:∀ m,aw m (qL (List.replicate n false))=true:=fun m=>(bg _ _).2 fun x hx=>by
  obtain ⟨y,_,rfl⟩:=aaw.1 hx;rfl
 simp only [gY,zB,e,eb,mV,true_and,eq_iff_iff]
 constructor
 ·rintro ⟨_,_,h⟩;exact h
 ·exact fun k=>⟨by omega,by omega,k⟩
theorem Ed {n:Nat} {p q:Nat→Bool} (h:∀ j,j < n→p j=q j):below n p=below n q:=by
 unfold below
 congr 1
 apply List.filter_congr
 intro j hj
 exact h j (abG.1 hj)
structure PS (c:Cx) (H:List aa) (us:List Bool) (to:List Int) (G:List aa):Prop where
 du:Du c G
 up:Up c (H++[mV us,dh to]) G
theorem PS.u {c:Cx} {H:List aa} {us:List Bool} {to:List Int} {G:List aa} (hD:Du c H) (h:PS c H us to G):G[H.length]?=some (mV us):=by
 obtain ⟨l1,l2,l3⟩:=hD.lt
 rw [h.up.get _ (by omega) (by omega)];simp
theorem PS.t {c:Cx} {H:List aa} {us:List Bool} {to:List Int} {G:List aa} (hD:Du c H) (h:PS c H us to G):G[H.length + 1]?=some (dh to):=by
 obtain ⟨l1,l2,l3⟩:=hD.lt
 rw [h.up.get _ (by omega) (by omega)];simp
theorem PS.call {c:Cx} {H:List aa} {us:List Bool} {to:List Int} {G G':List aa} (h:PS c H us to G) (hU:Up c G G') (hD:Du c G'):PS c H us to G':=⟨hD,h.up.trans hU⟩
theorem PS.len {c:Cx} {H:List aa} {us:List Bool} {to:List Int} {G:List aa} (h:PS c H us to G):G.length=H.length + 2:=by have:=h.up.len;simpa using this
theorem PS.ads {c:Cx} {H:List aa} {us us':List Bool} {to:List Int} {G:List aa} (hD:Du c H) (h:PS c H us to G):PS c H us' to (G.set H.length (mV us')):=by
 obtain ⟨l1,l2,l3⟩:=hD.lt
 have hl:=h.len
 refine ⟨h.du.set (by omega) (by omega) (by omega),by simp [hl],fun j h1 h2=>?_⟩
 rw [ab4]
 by_cases e:H.length=j
 ·subst e;rw [if_pos rfl,if_pos (by omega)];simp
 ·rw [if_neg e,h.up.get j h1 h2]
  by_cases e2:j < H.length
  ·rw [zz e2,zz e2]
  ·rw [abx (by omega),abx (by omega)]
   obtain ⟨m,rfl⟩:∃ m,j=H.length + (m + 1):=⟨j - H.length - 1,by omega⟩
   simp
theorem PS.adu {c:Cx} {H:List aa} {us:List Bool} {to to':List Int} {G:List aa} (hD:Du c H) (h:PS c H us to G):PS c H us to' (G.set (H.length + 1) (dh to')):=by
 obtain ⟨l1,l2,l3⟩:=hD.lt
 have hl:=h.len
 refine ⟨h.du.set (by omega) (by omega) (by omega),by simp [hl],fun j h1 h2=>?_⟩
 rw [ab4]
 by_cases e:H.length + 1=j
 ·subst e;rw [if_pos rfl,if_pos (by omega)];simp
 ·rw [if_neg e,h.up.get j h1 h2]
  by_cases e2:j < H.length
  ·rw [zz e2,zz e2]
  ·rw [abx (by omega),abx (by omega)]
   obtain ⟨m,rfl⟩:∃ m,j=H.length + m:=⟨j - H.length,by omega⟩
   rcases m with _ | m
   ·simp
   ·rcases m with _ | m
    ·omega
    ·simp
theorem R3 {us:List Bool} {i:Nat} (h:i < us.length) (φ:AV→Prop):cS (some (mV us)) none (i * 1) φ=φ (.bool (us.getD i false)):=by
 have e:(qL us).getD (i * 1) .any=.bool (us.getD i false):=by
  rw [abP];simp [qL,h]
 simp only [mV,cS,e,pS,um,eq_iff_iff]
 constructor
 ·exact fun h=>h.2
 ·exact fun h2=>⟨by omega,h2⟩
theorem B1 {l:List Int} {i:Nat} (h:i < l.length) (φ:AV→Prop):cS (some (dh l)) none (i * 1) φ=φ (.int .i64 (l.getD i 0)):=by
 have e:(ints l).getD (i * 1) .any=.int .i64 (l.getD i 0):=by
  rw [abP];simp [ints,h]
 simp only [dh,cS,e,pj,ap,eq_iff_iff]
 constructor
 ·exact fun h=>h.2
 ·exact fun h2=>⟨by omega,h2⟩
theorem stB {us:List Bool} {i:Nat} (h:i < us.length) (x:Bool) (id:Nat) (H:List aa) (K:List aa→Prop):hZ (some (mV us)) 1 id (i * 1) (.bool x) H K=K (H.set id (mV (us.set i x))):=by
 have e:ai (qL us) (i * 1) [AV.bool x]=qL (us.set i x):=by
  rw [abP,iE _ _ _ (by rw [um];exact h)];simp [qL,ad6]
 have e2:(AV.bool x).cells.map AV.ab=[.bool x]:=rfl
 simp only [mV,hZ,e2,e,um,eq_iff_iff]
 constructor
 ·exact fun h=>h.2.2.2.2.2
 ·exact fun h2=>⟨rfl,rfl,by omega,rfl,rfl,h2⟩
theorem MH {l:List Int} {i:Nat} (h:i < l.length) (x:Int) (id:Nat) (H:List aa) (K:List aa→Prop):hZ (some (dh l)) 1 id (i * 1) (.int .i64 x) H K=K (H.set id (dh (l.set i x))):=by
 have e:ai (ints l) (i * 1) [AV.int .i64 x]=ints (l.set i x):=by
  rw [abP,iE _ _ _ (by rw [ap];exact h)];simp [ints,ad6]
 have e2:(AV.int .i64 x).cells.map AV.ab=[.int .i64 x]:=rfl
 simp only [dh,hZ,e2,e,ap,eq_iff_iff]
 constructor
 ·exact fun h=>h.2.2.2.2.2
 ·exact fun h2=>⟨rfl,rfl,by omega,rfl,rfl,h2⟩
theorem Ee {id:Nat} {l:List Int} {H:List aa} (h:H[id]?=some (dh l)) {K:AV→List aa→Prop} (hK:K (.al 0 (ints l)) (H.set id .dead)):eK 1 (.aZ id 0 l.length l.length) H K:=by
 have hc:∀ (l:List Int),chunks 1 l.length (ints l)=ints l:=by
  intro l
  induction l with
  | nil=>rfl
  | cons x q ih=>exact congrArg (AV.int .i64 x::·) ih
 simp only [eK,h,dh,List.drop_zero,hc,mU]
 exact ⟨by omega,zy _,by simp [ap],trivial,hK⟩
theorem MJ {id n:Nat} {l:List Int} {H:List aa} (h:H[id]?=some (dh l)) (hn:l.length=n) {K:AV→List aa→Prop} (hK:K (.al 0 (ints l)) (H.set id .dead)):jl 1 (.aZ id 0 n n) H K:=by
 subst hn;exact Ee h hK
theorem UU {c:Cx} {a b:List Int} {va vb:AV} (ha:IL va a) (hb:IL vb b) (la:a.length≤1000000000) (lb:b.length≤1000000000) (h:∀ x∈a,∀ y∈b,lN c x y) {H:List aa} (hD:Du c H) :
 aA Tryz.prog 139 [.ptr c.d 0,va,vb] H (ZD c a b H):=by
 refine RR.2.calls rfl ?_
 simp only [RR,aH]
 obtain ⟨a1,a2,a3,a4⟩:=ha.one
 obtain ⟨b1,b2,b3,b4⟩:=hb.one
 simp +contextual only [a2,b2,ha.aO,hb.aO,ha.len (by omega),hb.len (by omega),mkB _ _ _ la,sZ,Nat.reduceEqDiff,Nat.reduceAdd,↓reduceIte,reduceCtorEq]
 refine af (UT 0 (-1) b.length lb _) ?_
 rintro r G0 ⟨rfl,rfl⟩
 have el:(H++[mV (List.replicate a.length false)]).length=H.length + 1:=by simp
 rw [el]
 simp +contextual only [b2,hb.aO,hb.len (by omega),sZ,Nat.reduceEqDiff,↓reduceIte,reduceCtorEq]
 have ps0:PS c H (List.replicate a.length false) (List.replicate b.length (-1)) (H++[mV (List.replicate a.length false),dh (List.replicate b.length (-1))]):=⟨hD.ui _,Up.refl c _⟩
 generalize H++[mV (List.replicate a.length false),dh (List.replicate b.length (-1))]=G0 at ps0 ⊢
 refine aF b.length (fun k (p:List aa×List Bool×List Int)=>PS c H p.2.1 p.2.2 p.1∧Pr (fun x y=>E c.O (c.tm x) (c.tm y)) a b k p.2.1 p.2.2)
  (fun k p=>[(0,.ptr c.d 0),(1,va),(9,.aZ H.length 0 a.length a.length),(10,.aZ (H.length + 1) 0 b.length b.length),(11,.ag),(12,cC (below k fun j=>decide (p.2.2.getD j 0 < 0))),(26,vb),(27,.int .i64 b.length),(28,.int .i64 k)])
  (fun k p=>p.1) (G0,List.replicate a.length false,List.replicate b.length (-1)) ⟨⟨ps0,Pr.start⟩,ax _ _ _⟩ fun k p hk hI=>?_
 obtain ⟨G,us,to⟩:=p
 obtain ⟨qD,B2⟩:=hI
 simp only at qD B2
 simp +contextual only [a2,ha.aO,hb.lens,hb.idx,zB,ha.len (by omega),sZ,Nat.reduceEqDiff,↓reduceIte,reduceCtorEq]
 refine ⟨fun aM=>⟨by omega,?_⟩,fun fV=>?_⟩
 ·have aM:=bp aM
  refine mM (Q1:=fun x e G'=>x=.exit 2∧∃ us' to',PS c H us' to' G'∧Pr (fun x y=>E c.O (c.tm x) (c.tm y)) a b (k + 1) us' to'∧(∀ j,j < k→to'.getD j 0=to.getD j 0)∧
   get e 0=.ptr c.d 0∧get e 1=va∧get e 9=.aZ H.length 0 a.length a.length∧get e 10=.aZ (H.length + 1) 0 b.length b.length∧get e 11=.ag∧get e 12=cC (below k fun j=>decide (to.getD j 0 < 0))∧get e 13=.int .i64 (k:Int)∧get e 26=vb∧get e 27=.int .i64 (b.length:Int)∧get e 28=.int .i64 (k:Int)) ?_ ?_
  ·refine aF a.length (fun i (G':List aa)=>PS c H us to G'∧∀ i',i' < i→us.getD i' false=false→¬ E c.O (c.tm (a.getD i' 0)) (c.tm (b.getD k 0)))
    (fun i G'=>[(0,.ptr c.d 0),(1,va),(9,.aZ H.length 0 a.length a.length),(10,.aZ (H.length + 1) 0 b.length b.length),(11,.ag),(12,cC (below k fun j=>decide (to.getD j 0 < 0))),(13,.int .i64 (k:Int)),(14,.int .i64 (b.getD k 0)),(26,vb),(27,.int .i64 b.length),(28,.int .i64 k),(33,va),(34,.int .i64 a.length),(35,.int .i64 i)])
    (fun i G'=>G') G ⟨⟨qD,fun i' lW=>by omega⟩,ax _ _ _⟩ fun i G' hi hI=>?_
   obtain ⟨B3,jZ⟩:=hI
   have hlu:=B2.lu
   have oH:=B2.lt
   have gu:=B3.u hD
   by_cases Ol:(i:Int) < a.length
   ·have ZE:i < a.length:=by omega
    have Qq:i < us.length:=by omega
    cases hu:us.getD i false with
    | true=>
      simp +contextual only [Ol,decide_true,ha.lens,ha.idx,zB,jb,gu,R3 Qq,hu,Bool.not_true,sZ,Nat.reduceEqDiff,↓reduceIte,reduceCtorEq]
      refine ⟨by omega,by omega,⟨i + 1,G',⟨by omega,B3,fun i' lW h0=>?_⟩,by omega,ay (by rw [aj i (by omega)]) rfl⟩⟩
      by_cases e:i'=i
      ·subst e;rw [hu] at h0;cases h0
      ·exact jZ i' (by omega) h0
    | false=>
      simp +contextual only [Ol,decide_true,ha.lens,ha.idx,zB,jb,gu,R3 Qq,hu,Bool.not_false,sZ,Nat.reduceEqDiff,Nat.reduceAdd,↓reduceIte,reduceCtorEq]
      refine ⟨by omega,by omega,?_⟩
      refine af (h _ (aV ZE) _ (aV aM) G' B3.du) ?_
      rintro r G2 ⟨x,rfl,hx,hU,CD⟩
      have ps2:=B3.call hU CD
      cases x with
      | false=>
        simp +contextual only [sZ,Nat.reduceEqDiff,↓reduceIte,reduceCtorEq]
        refine ⟨i + 1,G2,⟨by omega,ps2,fun i' lW h0=>?_⟩,by omega,ay (by rw [aj i (by omega)]) rfl⟩
        by_cases e:i'=i
        ·subst e;exact fun hh=>absurd (hx.2 hh) (by simp)
        ·exact jZ i' (by omega) h0
      | true=>
        have gu2:=ps2.u hD
        have ps3:=ps2.ads (us':=us.set i true) hD
        have gt3:=ps3.t hD
        have I6:k < to.length:=by omega
        simp +contextual only [jb,gu2,gt3,stB Qq,MH I6,sZ,Nat.reduceEqDiff,↓reduceIte,reduceCtorEq]
        refine ⟨by omega,by omega,us.set i true,to.set k i,ps3.adu hD,B2.pair aM ZE hu (hx.1 rfl),fun j hj=>?_⟩
        rw [mR I6,if_neg (by omega)]
   ·simp +contextual only [Ol,decide_false,sZ,Nat.reduceEqDiff,↓reduceIte,reduceCtorEq]
    exact ⟨us,to,B3,B2.fQ aM fun i' lW h0=>jZ i' (by omega) h0,fun _ _=>rfl⟩
  ·rintro x e G' ⟨rfl,us',to',B3,Qr,hsame,e0,e1,e9,e10,e11,e12,e13,e26,e27,e28⟩
   have hlu:=Qr.lu
   have oH:=Qr.lt
   have gt:=B3.t hD
   have I6:k < to'.length:=by omega
   have ebl:(below k fun j=>decide (to'.getD j 0 < 0))=below k fun j=>decide (to.getD j 0 < 0):=Ed fun j hj=>by rw [hsame j hj]
   have ebs:=xT k fun j=>decide (to'.getD j 0 < 0)
   have ebn:=kK k fun j=>decide (to.getD j 0 < 0)
   by_cases yQ:to'.getD k 0 < 0
   ·rw [if_pos (by simpa using yQ),ebl] at ebs
    simp +contextual only [e0,e1,e9,e10,e11,e12,e13,e26,e27,e28,jb,gt,B1 I6,yQ,decide_true,(eZ _).2.1,kq,dZ,sZ,Nat.reduceEqDiff,Nat.reduceAdd,↓reduceIte,reduceCtorEq]
    refine ⟨by omega,by omega,k + 1,(G',us',to'),⟨aM,B3,Qr⟩,by omega,ay (by rw [aj k (by omega),ebs]) rfl⟩
   ·rw [if_neg (by simpa using yQ),ebl] at ebs
    simp +contextual only [e0,e1,e9,e10,e11,e12,e13,e26,e27,e28,jb,gt,B1 I6,yQ,decide_false,sZ,Nat.reduceEqDiff,↓reduceIte,reduceCtorEq]
    refine ⟨by omega,k + 1,(G',us',to'),⟨aM,B3,Qr⟩,by omega,ay (by rw [aj k (by omega),ebs]) rfl⟩
 ·have hkk:k=b.length:=by omega
  subst hkk
  have hlu:=B2.lu
  have oH:=B2.lt
  have gu:=qD.u hD
  have gt:=qD.t hD
  refine aq a.length (fun i=>True) (fun i=>[(10,.aZ (H.length + 1) 0 b.length b.length),(11,cC (below i fun j=>!us.getD j false)),(12,cC (below b.length fun j=>decide (to.getD j 0 < 0))),(69,.aZ H.length 0 a.length a.length),(70,.int .i64 a.length),(71,.int .i64 i)])
   (fun i=>G) ⟨trivial,ax _ _ _⟩ fun i hi _=>?_
  have ebs:=xT i fun j=>!us.getD j false
  have ebn:=kK i fun j=>!us.getD j false
  by_cases Ol:(i:Int) < a.length
  ·have Qq:i < us.length:=by omega
   cases hu:us.getD i false with
   | true=>
     rw [hu,if_neg (by simp)] at ebs
     simp +contextual only [Ol,decide_true,jb,gu,R3 Qq,hu,Bool.not_true,sZ,Nat.reduceEqDiff,↓reduceIte,reduceCtorEq]
     refine ⟨by omega,i + 1,by omega,by omega,ay (by rw [aj i (by omega),ebs]) rfl⟩
   | false=>
     rw [hu,if_pos (by simp)] at ebs
     simp +contextual only [Ol,decide_true,jb,gu,R3 Qq,hu,Bool.not_false,(eZ _).2.1,kq,dZ,sZ,Nat.reduceEqDiff,Nat.reduceAdd,↓reduceIte,reduceCtorEq]
     refine ⟨by omega,by omega,i + 1,by omega,by omega,ay (by rw [aj i (by omega),ebs]) rfl⟩
  ·have hii:i=a.length:=by omega
   subst hii
   simp +contextual only [Ol,decide_false,(eZ _).2.1,sZ,Nat.reduceEqDiff,↓reduceIte]
   refine MJ gt oH ?_
   simp +contextual only [(aL _).2.1,sZ,Nat.reduceEqDiff,↓reduceIte,reduceCtorEq]
   obtain ⟨l1,l2,l3⟩:=hD.lt
   refine Aw (by decide) rfl ⟨(aL _).2.2.1 _,(aL _).2.2.1 _,?_⟩ (aL _).2.1 (aL _).2.1 rfl ⟨us,to,B2,rfl,?_,?_⟩
   ·rw [xp,bA];exact aJ _ _
   ·rw [abz (by omega)];exact qD.up.take
   ·rw [abz (by omega)];exact qD.du.take l1 l2 l3
end Go.aI
end
section
namespace Go.aI
open Go Go.Proofs Go.dD
theorem J6 {β:Type} (f:Int→β) (a:List Int):a.map f=(List.range a.length).map fun i=>f (a.getD i 0):=by
 apply aes
 ·simp
 ·intro i h1 h2
  have:i < a.length:=by simpa using h1
  simp [this]
theorem Ef {β:Type} (f:Int→β) (a:List Int) (p:Nat→Bool):(a.map f).Perm (((List.range a.length).filter p).map (fun i=>f (a.getD i 0))++((List.range a.length).filter fun i=>!p i).map fun i=>f (a.getD i 0)):=by
 rw [J6,← ab8]
 exact (List.filter_append_perm p (List.range a.length)).symm.map _
theorem sQ (n:Nat) (p:Nat→Bool):((List.range n).filter p).Nodup:=List.Pairwise.filter p List.nodup_range
def vq (f:Int→T) (a:List Int) (us:List Bool):List T:=((List.range a.length).filter fun i=>!us.getD i false).map fun i=>f (a.getD i 0)
def Eg (f:Int→T) (b to:List Int):List T:=((List.range b.length).filter fun j=>decide (to.getD j 0 < 0)).map fun j=>f (b.getD j 0)
theorem Pr.parts {f:Int→T} {a b:List Int} {us:List Bool} {to:List Int} (h:Pr (fun x y=>f x=f y) a b b.length us to) :
 ∃ C,(a.map f).Perm (vq f a us++C)∧(b.map f).Perm (Eg f b to++C)∧Qk (vq f a us) (Eg f b to):=by
 refine ⟨((List.range b.length).filter fun j=>!decide (to.getD j 0 < 0)).map fun j=>f (b.getD j 0),?_,Ef f b _,?_⟩
 ·have h1:=Ef f a (fun i=>!us.getD i false)
  refine h1.trans (List.Perm.append_left _ ?_)
  have hp:(((List.range b.length).filter fun j=>!decide (to.getD j 0 < 0)).map fun j=>(to.getD j 0).toNat).Perm ((List.range a.length).filter fun i=>!!us.getD i false):=by
   rw [List.perm_ext_iff_of_nodup]
   ·intro i
    simp only [aaw,ab3,abG,abC,decide_eq_false_iff_not,afZ]
    constructor
    ·rintro ⟨j,⟨hj,hn⟩,rfl⟩
     rcases h.t1 j hj with h2 | ⟨i,h2,h3,h4,_⟩
     ·omega
     ·rw [h2];exact ⟨by simpa using h3,by simpa using h4⟩
    ·rintro ⟨hi,hu⟩
     obtain ⟨j,h2,h3⟩:=h.uu i hi hu
     exact ⟨j,⟨h2,by omega⟩,by omega⟩
   ·rw [List.Nodup,List.pairwise_map]
    refine List.Pairwise.imp_of_mem ?_ (sQ _ _)
    intro j j' hj tx dP he
    simp only [ab3,abG,abC,decide_eq_false_iff_not] at hj tx
    exact dP (h.inj j j' hj.1 tx.1 (by omega) (by omega))
   ·exact sQ _ _
  refine (hp.map fun i=>f (a.getD i 0)).symm.trans ?_
  rw [acH]
  refine List.Perm.of_eq (ab2 fun j hj=>?_)
  simp only [ab3,abG,abC,decide_eq_false_iff_not] at hj
  rcases h.t1 j hj.1 with h2 | ⟨i,h2,h3,h4,h5⟩
  ·omega
  ·show f (a.getD (to.getD j 0).toNat 0)=f (b.getD j 0)
   rw [h2];exact h5
 ·intro z hz xU
  simp only [vq,Eg,aaw,ab3,abG,decide_eq_true_eq,abC] at hz xU
  obtain ⟨i,⟨hi,hu⟩,rfl⟩:=hz
  obtain ⟨j,⟨hj,hn⟩,he⟩:=xU
  refine h.free j hj ?_ i hi hu he.symm
  rcases h.t1 j hj with h2 | ⟨i',h2,_⟩
  ·exact h2
  ·omega
theorem uo {f:Int→T} {a:List Int} {us:List Bool}:vq f a us=[]↔below a.length (fun i=>!us.getD i false)=[]:=by
 simp [vq,below]
theorem Pr.mu {f:Int→T} {G:T→T→Prop} {a b:List Int} {us:List Bool} {to:List Int} (h:Pr (fun x y=>f x=f y) a b b.length us to) :
 Mu G (a.map f) (b.map f)↔below a.length (fun i=>!us.getD i false)≠[]∧∀ y∈below b.length (fun j=>decide (to.getD j 0 < 0)),∃ x∈below a.length (fun i=>!us.getD i false),G (f (a.getD x.toNat 0)) (f (b.getD y.toNat 0)):=by
 obtain ⟨C,h1,h2,h3⟩:=h.parts
 rw [Mw h1 h2 h3,Ne,uo]
 refine and_congr Iff.rfl ⟨fun hh y hy=>?_,fun hh y hy=>?_⟩
 ·obtain ⟨j,rfl,hj,hn⟩:=iG.1 hy
  obtain ⟨x,hx,hg⟩:=hh (f (b.getD j 0)) (by simp only [Eg,aaw,ab3,abG];exact ⟨j,⟨hj,hn⟩,rfl⟩)
  simp only [vq,aaw,ab3,abG] at hx
  obtain ⟨i,⟨hi,hu⟩,rfl⟩:=hx
  exact ⟨i,iG.2 ⟨i,rfl,hi,hu⟩,hg⟩
 ·simp only [Eg,aaw,ab3,abG] at hy
  obtain ⟨j,⟨hj,hn⟩,rfl⟩:=hy
  obtain ⟨x,hx,hg⟩:=hh j (iG.2 ⟨j,rfl,hj,hn⟩)
  obtain ⟨i,rfl,hi,hu⟩:=iG.1 hx
  refine ⟨f (a.getD i 0),?_,hg⟩
  simp only [vq,aaw,ab3,abG]
  exact ⟨i,⟨hi,hu⟩,rfl⟩
theorem Pr.perm {f:Int→T} {a b:List Int} {us:List Bool} {to:List Int} (h:Pr (fun x y=>f x=f y) a b b.length us to) (hl:a.length=b.length) :
 (a.map f).Perm (b.map f)↔below a.length (fun i=>!us.getD i false)=[]:=by
 obtain ⟨C,h1,h2,h3⟩:=h.parts
 rw [qJ h1 h2 h3,uo (f:=f)]
 constructor
 ·exact fun h=>h.1
 ·intro h0
  refine ⟨h0,?_⟩
  have e1:=h1.length_eq
  have e2:=h2.length_eq
  have e3:(vq f a us).length=0:=by rw [(uo (f:=f)).2 h0];rfl
  simp only [aaj,acz] at e1 e2
  exact abE.1 (by omega)
end Go.aI
end
section
set_option maxRecDepth 100000
set_option maxHeartbeats 0
namespace Go.aI
open Go Go.Proofs
noncomputable def R4:=aH Tryz.call186 Tryz.func186 Tryz.ntmps186 [(0,0,1),(5,3,2000),(5,8,1000),(6,6,2000)] [(0,[1,2,3]),(1,[1,2,3,7,8]),(2,[1,2,3,26]),(3,[6]),(4,[3,9,10]),(5,[3,9,10,11,12]),(6,[6])] [(4,(tkq 0 8 (.take 8 false (.take 9 false (.take 10 false (.take 12 false (.br 11 (.take 13 false (.take 14 false (.take 15 false (.br 16 (.br 17 (.br 18 (.br 19 .done .nil) .nil) .nil) (.br 17 (.br 16 (.br 18 (.br 19 .done .nil) .nil) .nil) .nil))))) (.br 16 (.br 11 (.take 13 false (.take 14 false (.take 15 false (.br 17 (.br 18 (.br 19 .done .nil) .nil) .nil)))) (.br 17 (.br 11 (.take 13 false (.take 14 false (.take 15 false (.br 18 (.br 19 .done .nil) .nil)))) (.br 18 (.take 11 true (tkq 13 3 (.br 19 .done .nil))) .nil)) .nil)) (.br 17 (.br 11 (.take 13 false (.take 14 false (.take 15 false (.br 16 (.br 18 (.br 19 .done .nil) .nil) .nil)))) (.br 16 (.br 11 (.take 13 false (.take 14 false (.take 15 false (.br 18 (.br 19 .done .nil) .nil)))) (.br 18 (.take 11 true (tkq 13 3 (.br 19 .done .nil))) .nil)) .nil)) .nil)))))))))]
end Go.aI
end
section
set_option maxRecDepth 100000
namespace Go.aI
open Go Go.Proofs Go.dD
def nf (c:Cx) (x:Int):T:=norm c.O (c.tm x)
def zk (c:Cx) (i k:Int):Prop:=vQ c i k=true∧dU c i=3∧Mu (Gt c.O.sp) ((c.kd i).map (nf c)) ((c.kd k).map (nf c))
theorem adw {c:Cx} {a b:List Int} {va vb:AV} (ha:IL va a) (hb:IL vb b) {p q:Nat} {x y:Int} (hx:0≤x∧x < a.length) (hy:0≤y∧y < b.length) (h:jo c (a.getD x.toNat 0) (b.getD y.toNat 0)) {G:List aa} (hD:Du c G) (gp:G[p]?=some (.cells [va])) (gq:G[q]?=some (.cells [vb])) :
 aA Tryz.prog 222 [.int .i64 x,.ah (.ptr c.d 0),.ptr p 0,.ptr q 0,.ah (.int .i64 y)] G (jJ c (R c.O (c.tm (a.getD x.toNat 0)) (c.tm (b.getD y.toNat 0))) G):=by
 refine YK.2.calls rfl ?_
 simp only [YK,aH]
 obtain ⟨a1,a2,a3,a4⟩:=ha.one
 obtain ⟨b1,b2,b3,b4⟩:=hb.one
 simp +contextual only [gp,gq,a2,b2,ha.lens,hb.lens,ha.idx,hb.idx,sZ,Nat.reduceEqDiff,Nat.reduceAdd,Nat.reduceLT,↓reduceIte,reduceCtorEq]
 refine ⟨hx,hy,af (h G hD) ?_⟩
 rintro r G' ⟨z,rfl,hz,hU,kA⟩
 simp +contextual only [sZ,↓reduceIte,reduceCtorEq]
 exact fc rfl hz hU kA
theorem adx {c:Cx} {a b l:List Int} {va vb vl:AV} (ha:IL va a) (hb:IL vb b) (hl:IL vl l) (ll:l.length≤1000000000) {p q:Nat} {y:Int} (hx:∀ x∈l,0≤x∧x < a.length) (hy:0≤y∧y < b.length) (h:∀ x∈l,jo c (a.getD x.toNat 0) (b.getD y.toNat 0)) {G:List aa} (hD:Du c G)
 (gp:G[p]?=some (.cells [va])) (gq:G[q]?=some (.cells [vb])) (np:p≠c.e∧p≠c.g) (nq:q≠c.e∧q≠c.g) :
 aA Tryz.prog 221 [.int .i64 y,.ah vl,.ah (.ptr c.d 0),.ptr p 0,.ptr q 0] G (jJ c (¬ ∃ x∈l,R c.O (c.tm (a.getD x.toNat 0)) (c.tm (b.getD y.toNat 0))) G):=by
 refine YJ.2.calls rfl ?_
 simp only [YJ,aH]
 obtain ⟨a1,a2,a3,a4⟩:=hl.one
 have ld:∀ (H:List aa) (φ:AV→Prop),a8 none (.ah vl) H φ=φ vl:=fun H φ=>by simp [a8,a1,a2]
 simp +contextual only [ld,a2,sZ,Nat.reduceEqDiff,Nat.reduceAdd,↓reduceIte,reduceCtorEq]
 refine af (Eb (SD.BZ c G) hl ll 222 [] [.ah (.ptr c.d 0),.ptr p 0,.ptr q 0,.ah (.int .i64 y)] rfl rfl (Q:=fun x=>R c.O (c.tm (a.getD x.toNat 0)) (c.tm (b.getD y.toNat 0)))
  (fun x rN G' fa=>(adw ha hb (hx x rN) hy (h x rN) fa.1 (by rw [fa.2.get p np.1 np.2,gp]) (by rw [fa.2.get q nq.1 nq.2,gq])).mono fun r H' hr=>hr.sb fa) ⟨hD,Up.refl c G⟩) ?_
 rintro r G' ⟨z,rfl,hz,fa⟩
 simp +contextual only [sZ,↓reduceIte,reduceCtorEq]
 refine fc (b:=!z) rfl ?_ fa.2 fa.1
 rw [← hz];cases z <;> simp
theorem mW {P:Px} {t:DT} {f:AV→Env} {H:List aa} {o:Option aa} {off:Nat} {K1 K2:Env→List aa→Prop} (h:cS o none off fun x=>kj P t (f x) H K1) (hk:∀ e G,K1 e G→K2 e G):cS o none off fun x=>kj P t (f x) H K2:=by
 unfold cS at *
 split at h
 ·exact ⟨h.1,dX h.2 hk⟩
 ·exact h.elim
theorem ZF {c:Cx} (hc:c.Ok) {i k:Int} (hi:c.eJ i) (hk:c.eJ k) (h2:∀ x∈c.kd i,∀ y∈c.kd k,lN c x y) (h3:∀ x∈c.kd i,∀ y∈c.kd k,jo c x y) {H:List aa} (hD:Du c H) :
 aA Tryz.prog 186 [.ptr c.d 0,.int .i64 i,.int .i64 k] H (jJ c (zk c i k) H):=by
 refine R4.2.calls rfl ?_
 simp only [R4,aH]
 have k2:∀ l,(bu l).ab=bu l:=fun l=>(aL l).2.1
 have l1:=hc.kl i hi
 have l2:=hc.kl k hk
 simp +contextual only [sZ,Nat.reduceEqDiff,Nat.reduceAdd,↓reduceIte,reduceCtorEq]
 refine af (GB hc hi hk hD) ?_
 rintro r H1 ⟨rfl,rfl⟩
 simp +contextual only [sZ,Nat.reduceEqDiff,Nat.reduceAdd,Nat.reduceLT,↓reduceIte]
 cases hl:vQ c i k with
 | false=>
   simp +contextual only [Bool.not_false,sZ,Nat.reduceEqDiff,↓reduceIte,reduceCtorEq]
   exact fc rfl ⟨fun h=>by simp at h,fun h=>by have:=h.1;rw [hl] at this;simp at this⟩ (Up.refl c _) hD
 | true=>
   by_cases hs:dU c i=3
   ·have d3:decide (dU c i=3)=true:=decide_eq_true hs
    have d3':decide (¬dU c i=3)=false:=decide_eq_false (fun h=>h hs)
    simp +contextual only [Bool.not_true,hs,not_true_eq_false,decide_false,sZ,Nat.reduceEqDiff,Nat.reduceAdd,↓reduceIte]
    obtain ⟨l4,l5,l6⟩:=hD.lt
    have ed:∀ X:List aa,(H1++X)[c.d]?=H1[c.d]?:=fun X=>zz l4
    refine mW (K1:=fun e G=>get e 3=.ah (.ptr c.d 0)∧∃ p q X,get e 9=.ptr p 0∧get e 10=.ptr q 0∧H1.length≤p∧H1.length≤q∧G=H1++X∧G[p]?=some (.cells [bu (c.kd i)])∧G[q]?=some (.cells [bu (c.kd k)])) ?_ ?_
    ·obtain ⟨k1,k3,k4,k5,k6⟩:=aL (c.kd i)
     obtain ⟨m1,m3,m4,m5,m6⟩:=aL (c.kd k)
     have g0:∀ (x:aa) (l:List aa),(H1++x::l)[H1.length]?=some x:=fun x l=>by simp
     have g1:∀ (x y:aa),(H1++[x,y])[H1.length + 1]?=some y:=fun x y=>by simp
     have ei:(c.nd.getD i.toNat default).snd=c.kd i:=rfl
     have ek:(c.nd.getD k.toNat default).snd=c.kd k:=rfl
     have sp:∀ x:AV,ai [AV.ag] 0 [x]=[x]:=fun x=>rfl
     have A:∃ p q X,AV.ptr H1.length 0=AV.ptr p 0∧AV.ptr (H1.length + 1) 0=AV.ptr q 0∧H1.length≤p∧H1.length≤q∧H1++[.cells [bu (c.kd i)],.cells [bu (c.kd k)]]=H1++X∧(H1++[aa.cells [bu (c.kd i)],.cells [bu (c.kd k)]])[p]?=some (.cells [bu (c.kd i)])∧(H1++[aa.cells [bu (c.kd i)],.cells [bu (c.kd k)]])[q]?=some (.cells [bu (c.kd k)]):=
      ⟨_,_,_,rfl,rfl,zy _,Nat.le_succ _,rfl,g0 _ _,g1 _ _⟩
     have B:∃ p q X,AV.ptr (H1.length + 1) 0=AV.ptr p 0∧AV.ptr H1.length 0=AV.ptr q 0∧H1.length≤p∧H1.length≤q∧H1++[.cells [bu (c.kd k)],.cells [bu (c.kd i)]]=H1++X∧(H1++[aa.cells [bu (c.kd k)],.cells [bu (c.kd i)]])[p]?=some (.cells [bu (c.kd i)])∧(H1++[aa.cells [bu (c.kd k)],.cells [bu (c.kd i)]])[q]?=some (.cells [bu (c.kd k)]):=
      ⟨_,_,_,rfl,rfl,Nat.le_succ _,zy _,rfl,g1 _ _,g0 _ _⟩
     simp +contextual only [ed,hD.d,n8,E9,cK,b7,k2,ei,ek,k1,k4,k5,k6,m1,m4,m5,m6,List.map_cons,List.map_nil,sp,List.all_cons,List.all_nil,acr,bL,cV,sZ,Nat.reduceEqDiff,Nat.reduceAdd,Nat.reduceLT,↓reduceIte]
     refine ⟨hi,?_⟩
     repeat' apply tg
     all_goals first | exact hk.1 | exact hk.2 | exact A | exact B
    ·rintro e G ⟨e3,p,q,X,e9,e10,hp,hq,rfl,gp,gq⟩
     simp +contextual only [e3,e9,e10,gp,gq,k2,sZ,Nat.reduceEqDiff,Nat.reduceAdd,Nat.reduceLT,↓reduceIte,reduceCtorEq]
     refine af (UU (.inl rfl:IL (bu (c.kd i)) (c.kd i)) (.inl rfl:IL (bu (c.kd k)) (c.kd k)) (by omega) (by omega) h2 (hD.ui X)) ?_
     rintro r G' ⟨us,to,B2,rfl,hU,kA⟩
     have UW:=Pr.mu (f:=nf c) (G:=Gt c.O.sp) B2
     have lbl:=kK (c.kd i).length fun i=>!us.getD i false
     have lbo:=kK (c.kd k).length fun j=>decide (to.getD j 0 < 0)
     have il:IL (bu (below (c.kd i).length fun i=>!us.getD i false)) (below (c.kd i).length fun i=>!us.getD i false):=.inl rfl
     have io:IL (bu (below (c.kd k).length fun j=>decide (to.getD j 0 < 0))) (below (c.kd k).length fun j=>decide (to.getD j 0 < 0)):=.inl rfl
     have ml:∀ x∈below (c.kd i).length (fun i=>!us.getD i false),0≤x∧x < (c.kd i).length:=by
      intro x hx;obtain ⟨j,rfl,hj,_⟩:=iG.1 hx;omega
     have mo:∀ x∈below (c.kd k).length (fun j=>decide (to.getD j 0 < 0)),0≤x∧x < (c.kd k).length:=by
      intro x hx;obtain ⟨j,rfl,hj,_⟩:=iG.1 hx;omega
     generalize (below (c.kd i).length fun i=>!us.getD i false)=L at *
     generalize (below (c.kd k).length fun j=>decide (to.getD j 0 < 0))=V at *
     obtain ⟨a1,a2,a3,a4⟩:=il.one
     obtain ⟨b1,b2,b3,b4⟩:=io.one
     have ZG:∀ G2,Up c (H1++X) G2→Du c G2→Up c H1 (G2.take H1.length)∧Du c (G2.take H1.length):=fun G2 u d=>⟨u.take,d.take l4 l5 l6⟩
     have fin:∀ G2 (b:Bool),Up c (H1++X) G2→Du c G2→(b=true↔zk c i k)→bP H1.length [.t 6] [(6,.bool b)] G2 (jJ c (zk c i k) H1):=by
      intro G2 b u d hb
      refine aT H1.length (zy _) (by rw [aD,if_pos rfl];rfl) ?_
      rw [aD,if_pos rfl]
      exact ⟨b,rfl,hb,(ZG G2 u d).1,(ZG G2 u d).2⟩
     simp +contextual only [List.map_cons,List.map_nil,k2,a1,a3,a4,il.aO,il.len (by omega),b7,sZ,Nat.reduceEqDiff,Nat.reduceAdd,Nat.reduceLT,↓reduceIte,reduceCtorEq]
     refine ⟨fun hL=>?_,fun hL=>?_⟩
     ·have gp':G'[p]?=some (.cells [bu (c.kd i)]):=by rw [hU.get p (by omega) (by omega),gp]
      have gq':G'[q]?=some (.cells [bu (c.kd k)]):=by rw [hU.get q (by omega) (by omega),gq]
      have gm:∀ {x:Int} {l:List Int},0≤x∧x < l.length→l.getD x.toNat 0∈l:=fun h=>aV (by omega)
      refine af (Eb (SD.BZ c G') io (by omega) 221 [] [.ah (bu L),.ah (.ptr c.d 0),.ptr p 0,.ptr q 0] rfl rfl (Q:=fun y=>¬ ∃ x∈L,R c.O (c.tm ((c.kd i).getD x.toNat 0)) (c.tm ((c.kd k).getD y.toNat 0)))
       (fun y hy G2 Om=>(adx (.inl rfl) (.inl rfl) il (by omega) ml (mo y hy) (fun x hx=>h3 _ (gm (ml x hx)) _ (gm (mo y hy))) Om.1 (by rw [Om.2.get p (by omega) (by omega),gp']) (by rw [Om.2.get q (by omega) (by omega),gq']) ⟨by omega,by omega⟩ ⟨by omega,by omega⟩).mono fun r H' hr=>hr.sb Om) ⟨kA,Up.refl c G'⟩) ?_
      rintro r G2 ⟨z,rfl,hz,Om⟩
      simp +contextual only [sZ,Nat.reduceEqDiff,↓reduceIte,reduceCtorEq]
      refine fin G2 (!z) (hU.trans Om.2) Om.1 ?_
      have hLn:L≠[]:=by intro e;rw [e] at hL;simp at hL
      rw [zk,UW]
      cases z with
      | true=>
        obtain ⟨y,hy,hn⟩:=hz.1 rfl
        exact ⟨fun h=>by simp at h,fun ⟨_,_,_,h⟩=>absurd (h y hy) hn⟩
      | false=>
        refine ⟨fun _=>⟨hl,hs,hLn,fun y hy=>?_⟩,fun _=>rfl⟩
        by_cases E8:∃ x∈L,R c.O (c.tm ((c.kd i).getD x.toNat 0)) (c.tm ((c.kd k).getD y.toNat 0))
        ·exact E8
        ·exact absurd (hz.2 ⟨y,hy,E8⟩) (by simp)
     ·refine fin G' false hU kA ⟨fun h=>by simp at h,fun h=>?_⟩
      have:=(UW.1 h.2.2).1
      exact absurd (abE.1 (by omega)) this
   ·have d3':decide (¬dU c i=3)=true:=decide_eq_true hs
    simp +contextual only [Bool.not_true,hs,decide_true,not_false_eq_true,sZ,Nat.reduceEqDiff,↓reduceIte,reduceCtorEq]
    exact fc rfl ⟨fun h=>by simp at h,fun h=>absurd h.2.1 hs⟩ (Up.refl c _) hD
theorem wg {c:Cx} (hc:c.Ok) {i:Int} (hi:c.eJ i):(c.tm i).l.map (norm c.O)=(c.kd i).map (nf c):=by
 rw [← (hc.kids i hi).1,acH];rfl
theorem GC {f:Int→T} {a b:List Int}:a.map f=b.map f↔a.length=b.length∧∀ j,j < a.length→f (a.getD j 0)=f (b.getD j 0):=by
 constructor
 ·intro h
  have hl:a.length=b.length:=by simpa using congrArg List.length h
  refine ⟨hl,fun j hj=>?_⟩
  have:=congrArg (fun l=>l[j]?) h
  have hb:j < b.length:=by omega
  simpa [hj,hb] using this
 ·rintro ⟨hl,h⟩
  apply aes
  ·simpa using hl
  ·intro j h1 h2
   have h3:j < a.length:=by simpa using h1
   have h4:j < b.length:=by simpa using h2
   simpa [h3,h4] using h j h3
theorem ady {c:Cx} (hc:c.Ok) {i k:Int} (hi:c.eJ i) (hk:c.eJ k) (h2:∀ x∈c.kd i,∀ y∈c.kd k,lN c x y) {H:List aa} (hD:Du c H):aA Tryz.prog 138 (Ea c i k) H (jJ c (E c.O (c.tm i) (c.tm k)) H):=by
 refine XF.2.calls rfl ?_
 simp only [XF,aH,Ea]
 have k2:∀ l,(bu l).ab=bu l:=fun l=>(aL l).2.1
 have l1:=hc.kl i hi
 have l2:=hc.kl k hk
 simp +contextual only [sZ,Nat.reduceEqDiff,Nat.reduceAdd,↓reduceIte,reduceCtorEq]
 refine af (rq hc hi hD) ?_
 rintro r H1 ⟨rfl,rfl⟩
 simp +contextual only [dV,gg,gh,gk,sZ,Nat.reduceEqDiff,Nat.reduceAdd,↓reduceIte,reduceCtorEq]
 refine af (rq hc hk hD) ?_
 rintro r H1 ⟨rfl,rfl⟩
 simp +contextual only [dV,gg,gh,gk,sZ,Nat.reduceEqDiff,↓reduceIte,reduceCtorEq]
 have eqf:∀ b:Bool,dA false (.bool b) (.bool b)=fun φ=>φ (.bool true):=fun b=>by funext φ;cases b <;> simp [dA]
 have fT0:=H7
 have fT1:∀ (t:T) (φ:AV→Prop),au 1 none (.ah t.av) φ=φ (.ah (.int .i64 t.n)):=fun t φ=>by cases t;simp [au,T.av,apart,AV.cells,AV.one,T.n]
 have ei:(c.nd.getD i.toNat default).fst=c.tm i:=rfl
 have ek:(c.nd.getD k.toNat default).fst=c.tm k:=rfl
 have hE:=R0 (O:=c.O) (a:=c.tm i) (b:=c.tm k)
 rw [wg hc hi,wg hc hk] at hE
 cases hbi:tw c i with
 | false=>
   have ki:(c.tm i).k≠2:=of_decide_eq_false hbi
   cases GD:tw c k with
   | false=>
     have kk:(c.tm k).k≠2:=of_decide_eq_false GD
     simp +contextual only [Bool.not_false,hD.d,n8,fN0,fT1,cK,ei,ek,sZ,Nat.reduceEqDiff,Nat.reduceAdd,Nat.reduceLT,↓reduceIte,reduceCtorEq]
     refine ⟨hi,hk,fc rfl ?_ (Up.refl c _) hD⟩
     rw [hE,decide_eq_true_eq]
     exact ⟨fun h=>.inr ⟨ki,kk,h⟩,fun h=>by rcases h with h | h;exact absurd h.1 ki;exact h.2.2⟩
   | true=>
     have kk:(c.tm k).k=2:=of_decide_eq_true GD
     simp +contextual only [Bool.not_false,sZ,Nat.reduceEqDiff,↓reduceIte,reduceCtorEq]
     refine fc rfl ?_ (Up.refl c _) hD
     rw [hE]
     exact ⟨fun h=>by simp at h,fun h=>by rcases h with h | h;exact absurd h.1 ki;exact absurd kk h.2.1⟩
 | true=>
   have ki:(c.tm i).k=2:=of_decide_eq_true hbi
   cases GD:tw c k with
   | false=>
     have kk:(c.tm k).k≠2:=of_decide_eq_false GD
     simp +contextual only [Bool.not_false,Bool.not_true,sZ,Nat.reduceEqDiff,↓reduceIte,reduceCtorEq]
     refine fc rfl ?_ (Up.refl c _) hD
     rw [hE]
     exact ⟨fun h=>by simp at h,fun h=>by rcases h with h | h;exact absurd h.2.1 kk;exact absurd ki h.1⟩
   | true=>
     have kk:(c.tm k).k=2:=of_decide_eq_true GD
     have epi:rp c i=c.O.pl (c.tm i).n:=if_pos ki
     have epk:rp c k=c.O.pl (c.tm k).n:=if_pos kk
     have esi:dU c i=c.O.sp (c.O.pl (c.tm i).n):=if_pos ki
     have hE2:E c.O (c.tm i) (c.tm k)↔rp c i=rp c k∧(if dU c i=3 then ((c.kd i).map (nf c)).Perm ((c.kd k).map (nf c)) else (c.kd i).map (nf c)=(c.kd k).map (nf c)):=by
      rw [hE,epi,epk,esi]
      exact ⟨fun h=>by rcases h with h | h;exact h.2.2;exact absurd ki h.1,fun h=>.inl ⟨ki,kk,h⟩⟩
     have eki:(c.nd.getD i.toNat default).snd=c.kd i:=rfl
     have ekk:(c.nd.getD k.toNat default).snd=c.kd k:=rfl
     have ii:IL (bu (c.kd i)) (c.kd i):=.inl rfl
     have ik:IL (bu (c.kd k)) (c.kd k):=.inl rfl
     have hlen:E c.O (c.tm i) (c.tm k)→(c.kd i).length=(c.kd k).length:=by
      intro h
      have h:=(hE2.1 h).2
      split at h
      ·simpa using h.length_eq
      ·simpa using congrArg List.length h
     simp +contextual only [Bool.not_true,hD.d,n8,E9,cK,b7,k2,eki,ekk,ii.aO,ik.aO,ii.len (by omega),ik.len (by omega),sZ,Nat.reduceEqDiff,Nat.reduceAdd,Nat.reduceLT,↓reduceIte,reduceCtorEq]
     refine ⟨hi,hk,fun hp=>⟨fun hn=>?_,fun ZH=>⟨fun h3=>?_,fun h3=>?_⟩⟩,fun hp=>?_⟩
     ·refine fc rfl ⟨fun h=>by simp at h,fun h=>absurd (hlen h) (by omega)⟩ (Up.refl c _) hD
     ·refine af (UU ii ik (by omega) (by omega) h2 hD) ?_
      rintro r G ⟨us,to,B2,rfl,hU,kA⟩
      have OH:=Pr.perm (f:=nf c) B2 (by omega)
      have lbl:=kK (c.kd i).length fun i=>!us.getD i false
      have il:IL (bu (below (c.kd i).length fun i=>!us.getD i false)) (below (c.kd i).length fun i=>!us.getD i false):=.inl rfl
      generalize (below (c.kd i).length fun i=>!us.getD i false)=L at *
      simp +contextual only [k2,il.aO,il.len (by omega),sZ,Nat.reduceEqDiff,Nat.reduceAdd,Nat.reduceLT,↓reduceIte,reduceCtorEq]
      refine fc rfl ?_ hU kA
      rw [hE2,if_pos h3,OH,decide_eq_true_eq]
      exact ⟨fun h=>⟨hp,abE.1 (by omega)⟩,fun h=>by rw [h.2];rfl⟩
     ·refine af (Zv (SD.BZ c _) ii ik (by omega) (by omega) 79 [.ptr c.d 0] [] rfl rfl (Q:=fun x y=>E c.O (c.tm x) (c.tm y)) (fun x hx y hy G hG=>(h2 x hx y hy G hG.1).mono fun r H' hr=>hr.sb hG) ⟨hD,Up.refl c _⟩) ?_
      rintro r G ⟨b,rfl,hb,hG⟩
      simp +contextual only [sZ,↓reduceIte,reduceCtorEq]
      refine fc rfl ?_ hG.2 hG.1
      rw [hE2,if_neg h3,hb]
      have:=GC (f:=nf c) (a:=c.kd i) (b:=c.kd k)
      exact ⟨fun h=>⟨hp,this.2 h⟩,fun h=>this.1 h.2⟩
     ·exact fc rfl ⟨fun h=>by simp at h,fun h=>absurd (hE2.1 h).1 hp⟩ (Up.refl c _) hD
end Go.aI
end
section
set_option maxRecDepth 100000
namespace Go.aI
open Go Go.Proofs Go.dD
def eM:AV:=.agg [.iI,.fn (.func 183) [] [],.fn (.func 184) [] [],.fn (.func 185) [] [],.fn (.func 186) [] []]
theorem adz (φ:AV→Prop):cr [.iI,.iI,.iI,.iI,.iI] [(1,1,.fn (.func 183) [] []),(2,1,.fn (.func 184) [] []),(3,1,.fn (.func 185) [] []),(4,1,.fn (.func 186) [] [])] φ=φ eM:=by
 simp only [cr,gb,eq_iff_iff]
 constructor
 ·rintro ⟨_,_,_,_,_,_,_,_,_,_,_,_,h⟩;exact h
 ·exact fun h=>⟨rfl,rfl,by decide,rfl,rfl,by decide,rfl,rfl,by decide,rfl,rfl,by decide,h⟩
theorem B4:eM.val=true∧eM.cells.length=5∧eM.cells.all AV.one=true∧(∀ n,aw n (eM.cells.map AV.ab)=true)∧ai [AV.iI,.iI,.iI,.iI,.iI] 0 (eM.cells.map AV.ab)=eM.cells:=⟨rfl,rfl,rfl,fun _=>rfl,rfl⟩
theorem MK:Pure Tryz.prog 136 [] eM:=by
 refine fun H=>XE.2.calls rfl ?_
 simp only [XE,aH]
 obtain ⟨r1,r2,r3,r4,r5⟩:=B4
 simp +contextual only [adz,r1,r2,r3,r4,r5,sZ,Nat.reduceAdd,↓reduceIte,reduceCtorEq]
 have e:cS (some (aa.cells eM.cells)) (some 5) 0=fun φ=>(5≤5∧φ eM):=rfl
 rw [e]
 exact ⟨zy _,RF (n0:=H.length) (by simp) rfl rfl ⟨rfl,rfl⟩⟩
theorem Wb (j:Nat) (f:AV) (h:eM.cells[j]?=some f) (hj:j < 5) (φ:AV→Prop) (hd:f.drop=f):cv 5 eM (.int .i64 (j:Int)) φ=φ f:=by
 simp only [cv,eM,zB,eq_iff_iff]
 have e:[AV.iI,.fn (.func 183) [] [],.fn (.func 184) [] [],.fn (.func 185) [] [],.fn (.func 186) [] []].getD j .any=f:=by
  rw [th];show (eM.cells[j]?).getD .any=f;rw [h];rfl
 rw [e,hd]
 exact ⟨fun h=>h.2.2.2,fun h=>⟨rfl,by omega,hj,h⟩⟩
def ML (c:Cx) (i k:Int):Prop:=∃ x∈c.kd i,E c.O (c.tm x) (c.tm k)∨R c.O (c.tm x) (c.tm k)
def uq (c:Cx) (i k:Int):Prop:=tw c k=true∧rp c k < rp c i∧∀ x∈c.kd k,R c.O (c.tm i) (c.tm x)
def jf (c:Cx) (i k:Int) (n:Nat):Prop:=(n=1∧ML c i k)∨(n=2∧uq c i k)∨(n=3∧B0 c i k)∨(n=4∧zk c i k)
structure H8 (c:Cx) (i k:Int):Prop where
 r1:∀ H,Du c H→aA Tryz.prog 183 [.ptr c.d 0,.int .i64 i,.int .i64 k] H (jJ c (ML c i k) H)
 r2:∀ H,Du c H→aA Tryz.prog 184 [.ptr c.d 0,.int .i64 i,.int .i64 k] H (jJ c (uq c i k) H)
 r3:∀ H,Du c H→aA Tryz.prog 185 [.ptr c.d 0,.int .i64 i,.int .i64 k] H (jJ c (B0 c i k) H)
 r4:∀ H,Du c H→aA Tryz.prog 186 [.ptr c.d 0,.int .i64 i,.int .i64 k] H (jJ c (zk c i k) H)
theorem H8.at {c:Cx} {i k:Int} (h:H8 c i k) {n:Nat} (h1:0 < n) (h2:n < 5) {H:List aa} (hD:Du c H):aA Tryz.prog (182 + n) [.ptr c.d 0,.int .i64 i,.int .i64 k] H (jJ c (jf c i k n) H):=by
 have:n=1∨n=2∨n=3∨n=4:=by omega
 have key:∀ {Q Q':Prop} {f:Nat},aA Tryz.prog f [.ptr c.d 0,.int .i64 i,.int .i64 k] H (jJ c Q H)→(Q↔Q')→aA Tryz.prog f [.ptr c.d 0,.int .i64 i,.int .i64 k] H (jJ c Q' H):=by
  intro Q Q' f h e
  refine h.mono ?_
  rintro r H' ⟨b,h1,h2,h3,h4⟩
  exact ⟨b,h1,h2.trans e,h3,h4⟩
 rcases this with rfl | rfl | rfl | rfl
 ·exact key (h.r1 H hD) (by simp [jf])
 ·exact key (h.r2 H hD) (by simp [jf])
 ·exact key (h.r3 H hD) (by simp [jf])
 ·exact key (h.r4 H hD) (by simp [jf])
theorem adA {c:Cx} (hc:c.Ok) {i k:Int} (hi:c.eJ i) (hr:H8 c i k) {H:List aa} (hD:Du c H):aA Tryz.prog 134 (Ea c i k) H (jJ c (tw c i=true∧∃ n,n < 5∧jf c i k n) H):=by
 refine XC.2.calls rfl ?_
 simp only [XC,aH,Ea]
 simp +contextual only [sZ,Nat.reduceEqDiff,Nat.reduceAdd,↓reduceIte,reduceCtorEq]
 refine af (rq hc hi hD) ?_
 rintro r H1 ⟨rfl,rfl⟩
 simp +contextual only [dV,gg,gh,gk,sZ,Nat.reduceEqDiff,↓reduceIte,reduceCtorEq]
 cases hb:tw c i with
 | false=>
   simp +contextual only [Bool.not_false,sZ,↓reduceIte,reduceCtorEq]
   exact fc rfl ⟨fun h=>by simp at h,fun h=>absurd h.1 (by simp)⟩ (Up.refl c _) hD
 | true=>
   simp +contextual only [Bool.not_true,sZ]
   refine ae MK ?_
   simp +contextual only [sZ,Nat.reduceEqDiff,↓reduceIte,reduceCtorEq]
   refine aF 5 (fun n (G:List aa)=>SD c H1 G∧∀ m,m < n→¬ jf c i k m)
    (fun n G=>[(0,.ah (.ptr c.d 0)),(1,.ah (.int .i64 i)),(2,.ah (.int .i64 k)),(18,eM),(19,.int .i64 n)]) (fun n G=>G) H1 ⟨⟨⟨hD,Up.refl c _⟩,fun m hm=>by omega⟩,ax _ _ _⟩ fun n G hn hI=>?_
   obtain ⟨hG,jZ⟩:=hI
   by_cases h0:n=0
   ·subst h0
    have e0:=Wb 0 .iI rfl (by decide)
    have d1:decide (((0:Nat):Int) < 5)=true:=rfl
    have d2:decide ((0:Int) < ((0:Nat):Int))=false:=rfl
    simp +contextual only [nU,e0 _ rfl,d1,d2,sZ,Nat.reduceEqDiff,↓reduceIte,reduceCtorEq]
    refine ⟨1,G,⟨by omega,hG,fun m hm=>?_⟩,by omega,ay rfl rfl⟩
    intro h
    simp only [jf] at h
    omega
   ·by_cases h5:n < 5
    ·have hf:eM.cells[n]?=some (.fn (.func (182 + n)) [] []):=by
      have:n=1∨n=2∨n=3∨n=4:=by omega
      rcases this with rfl | rfl | rfl | rfl <;> rfl
     have en:=Wb n _ hf h5
     have d1:decide ((n:Int) < 5)=true:=decide_eq_true (by omega)
     have d2:decide ((0:Int) < n)=true:=decide_eq_true (by omega)
     simp +contextual only [nU,en _ rfl,d1,d2,sZ,Nat.reduceEqDiff,Nat.reduceAdd,↓reduceIte,reduceCtorEq]
     refine af (hr.at (by omega) h5 hG.1) ?_
     rintro r G' ⟨b,rfl,ew,hU,kA⟩
     have fa:SD c H1 G':=⟨kA,hG.2.trans hU⟩
     cases b with
     | true=>
       simp +contextual only [sZ,Nat.reduceEqDiff,↓reduceIte,reduceCtorEq]
       exact fc rfl ⟨fun _=>⟨rfl,n,h5,ew.1 rfl⟩,fun _=>rfl⟩ fa.2 fa.1
     | false=>
       simp +contextual only [sZ,Nat.reduceEqDiff,↓reduceIte,reduceCtorEq]
       refine ⟨n + 1,G',⟨by omega,fa,fun m hm=>?_⟩,by omega,ay (by rw [aj n (by omega)]) rfl⟩
       by_cases e:m=n
       ·subst e;exact fun h=>absurd (ew.2 h) (by simp)
       ·exact jZ m (by omega)
    ·have d1:decide ((n:Int) < 5)=false:=decide_eq_false (by omega)
     simp +contextual only [d1,sZ,Nat.reduceEqDiff,↓reduceIte,reduceCtorEq]
     exact fc rfl ⟨fun h=>by simp at h,fun ⟨_,m,hm,h⟩=>absurd h (jZ m (by omega))⟩ hG.2 hG.1
theorem iH {f:Int→T} {s:Int} {l:List Int}:side s (l.map f)=(bt s l).map f:=by unfold side bt;split <;> simp
theorem KA.lx {f:Int→T} {G:T→T→Prop} (irr:∀ x,¬ G x x):∀ {a b:List Int} {n:Nat},KA (fun x y=>f x=f y) a b n→(Lx G (a.map f) (b.map f)↔n < a.length∧(n=b.length∨G (f (a.getD n 0)) (f (b.getD n 0))))
 | [],b,n,h=>by simp [Lx]
 | x::r,[],n,h=>by
   have:=h.lb
   simp at this
   subst this
   simp [Lx]
 | x::r,y::s,0,h=>by
   have dP:¬ f x=f y:=h.no (by simp) (by simp)
   simp [Lx,dP]
 | x::r,y::s,m + 1,h=>by
   have heq:f x=f y:=h.eq 0 (by omega)
   have ih:=KA.lx irr (a:=r) (b:=s) (n:=m) ⟨by have:=h.la;simp at this;omega,by have:=h.lb;simp at this;omega,fun j hj=>h.eq (j + 1) (by omega),fun h1 h2=>h.no (by simpa using h1) (by simpa using h2)⟩
   simp only [List.map_cons,Lx,heq,true_and,List.length_cons,List.getD_cons_succ,Nat.add_lt_add_iff_right,Nat.add_right_cancel_iff]
   rw [ih]
   exact ⟨fun h=>by rcases h with h | h;exact h;exact absurd h (irr _),fun h=>.inl h⟩
theorem xV {Q:Int→Int→Prop}:∀ (a b:List Int),∃ n,KA Q a b n
 | [],b=>⟨0,by simp,by simp,fun j h=>by omega,fun h=>by simp at h⟩
 | x::r,[]=>⟨0,by simp,by simp,fun j h=>by omega,fun _ h=>by simp at h⟩
 | x::r,y::s=>by
   by_cases hq:Q x y
   ·obtain ⟨n,h⟩:=xV (Q:=Q) r s
    refine ⟨n + 1,by have:=h.la;simp;omega,by have:=h.lb;simp;omega,fun j hj=>?_,fun h1 h2=>h.no (by simpa using h1) (by simpa using h2)⟩
    cases j with
    | zero=>exact hq
    | succ j=>exact h.eq j (by omega)
   ·exact ⟨0,by simp,by simp,fun j h=>by omega,fun _ _=>hq⟩
theorem ur {c:Cx} (hc:c.Ok) {i k:Int} (hi:c.eJ i) (hk:c.eJ k):(tw c i=true∧∃ n,n < 5∧jf c i k n)↔R c.O (c.tm i) (c.tm k):=by
 rw [qK,wg hc hi,wg hc hk]
 have hbi:tw c i=true↔(c.tm i).k=2:=by simp [tw]
 have GD:tw c k=true↔(c.tm k).k=2:=by simp [tw]
 rw [hbi]
 refine and_congr_right fun Wc=>?_
 have epi:rp c i=c.O.pl (c.tm i).n:=if_pos Wc
 have esi:dU c i=c.O.sp (c.O.pl (c.tm i).n):=if_pos Wc
 have lk:=(hc.kids k hk).1
 have li:=(hc.kids i hi).1
 have all:(∀ x∈c.kd k,R c.O (c.tm i) (c.tm x))↔∀ y∈(c.tm k).l,R c.O (c.tm i) y:=by rw [← lk];simp
 have sub:ML c i k↔∃ x∈(c.tm i).l,E c.O x (c.tm k)∨R c.O x (c.tm k):=by
  rw [← li];unfold ML
  constructor
  ·rintro ⟨x,hx,h⟩;exact ⟨_,aaw.2 ⟨x,hx,rfl⟩,h⟩
  ·rintro ⟨y,hy,h⟩;obtain ⟨x,hx,rfl⟩:=aaw.1 hy;exact ⟨x,hx,h⟩
 have lex:B0 c i k↔(c.tm k).k=2∧c.O.pl (c.tm k).n=c.O.pl (c.tm i).n∧c.O.sp (c.O.pl (c.tm i).n)≠3∧(∀ y∈(c.tm k).l,R c.O (c.tm i) y)∧Lx (Gt c.O.sp) (side (c.O.sp (c.O.pl (c.tm i).n)) ((c.kd i).map (nf c))) (side (c.O.sp (c.O.pl (c.tm i).n)) ((c.kd k).map (nf c))):=by
  unfold B0
  rw [lO,all,← esi,iH,iH]
  obtain ⟨n,hn⟩:=xV (Q:=fun x y=>nf c x=nf c y) (bt (dU c i) (c.kd i)) (bt (dU c i) (c.kd k))
  have hlx:=KA.lx (G:=Gt c.O.sp) (fun x=>xN x) hn
  rw [hlx]
  constructor
  ·rintro ⟨⟨_,h1,h2⟩,h3,h4,m,hm,h5⟩
   have:=hm.UQ hn
   subst this
   exact ⟨h1,h2.symm,h3,h4,h5⟩
  ·rintro ⟨h1,h2,h3,h4,h5⟩
   exact ⟨⟨Wc,h1,h2.symm⟩,h3,h4,n,hn,h5⟩
 have mul:zk c i k↔(c.tm k).k=2∧c.O.pl (c.tm k).n=c.O.pl (c.tm i).n∧c.O.sp (c.O.pl (c.tm i).n)=3∧Mu (Gt c.O.sp) ((c.kd i).map (nf c)) ((c.kd k).map (nf c)):=by
  unfold zk
  rw [lO,← esi]
  exact ⟨fun ⟨⟨_,h1,h2⟩,h3⟩=>⟨h1,h2.symm,h3⟩,fun ⟨h1,h2,h3⟩=>⟨⟨Wc,h1,h2.symm⟩,h3⟩⟩
 have pla:uq c i k↔(c.tm k).k=2∧c.O.pl (c.tm k).n < c.O.pl (c.tm i).n∧∀ y∈(c.tm k).l,R c.O (c.tm i) y:=by
  unfold uq
  rw [all,GD,epi]
  refine and_congr_right fun h=>?_
  rw [show rp c k=c.O.pl (c.tm k).n from if_pos h]
 have e:(∃ n,n < 5∧jf c i k n)↔ML c i k∨uq c i k∨B0 c i k∨zk c i k:=by
  constructor
  ·rintro ⟨n,_,h | h | h | h⟩
   ·exact .inl h.2
   ·exact .inr (.inl h.2)
   ·exact .inr (.inr (.inl h.2))
   ·exact .inr (.inr (.inr h.2))
  ·rintro (h | h | h | h)
   ·exact ⟨1,by omega,.inl ⟨rfl,h⟩⟩
   ·exact ⟨2,by omega,.inr (.inl ⟨rfl,h⟩)⟩
   ·exact ⟨3,by omega,.inr (.inr (.inl ⟨rfl,h⟩))⟩
   ·exact ⟨4,by omega,.inr (.inr (.inr ⟨rfl,h⟩))⟩
 rw [e,sub,pla,lex,mul]
 refine or_congr_right ?_
 constructor
 ·rintro (⟨h1,h2⟩ | ⟨h1,h2⟩ | ⟨h1,h2⟩)
  ·exact ⟨h1,.inl h2⟩
  ·exact ⟨h1,.inr (.inl h2)⟩
  ·exact ⟨h1,.inr (.inr h2)⟩
 ·rintro ⟨h1,h2 | h2 | h2⟩
  ·exact .inl ⟨h1,h2⟩
  ·exact .inr (.inl ⟨h1,h2⟩)
  ·exact .inr (.inr ⟨h1,h2⟩)
theorem jJ.iff {c:Cx} {Q Q':Prop} {f:Nat} {args:List AV} {H:List aa} (h:aA Tryz.prog f args H (jJ c Q H)) (e:Q↔Q'):aA Tryz.prog f args H (jJ c Q' H):=by
 refine h.mono ?_
 rintro r H' ⟨b,h1,h2,h3,h4⟩
 exact ⟨b,h1,h2.trans e,h3,h4⟩
theorem Eh {c:Cx} (hc:c.Ok):∀ (N:Nat) (i k:Int),c.eJ i→c.eJ k→wt (c.tm i) + wt (c.tm k)≤N→lN c i k∧jo c i k:=by
 intro N
 induction N with
 | zero=>intro i k _ _ h;have:=dt (c.tm i);omega
 | succ N ih=>
 intro i k hi hk hN
 have hx:∀ {j:Int},c.eJ j→∀ x∈c.kd j,c.eJ x∧wt (c.tm x) < wt (c.tm j):=fun {j} hj x hx=>by
  have h1:=hc.kids j hj
  exact ⟨h1.2 x hx,ch (by rw [← h1.1];exact aaw.2 ⟨x,hx,rfl⟩)⟩
 have s1:∀ x∈c.kd i,∀ y∈c.kd k,lN c x y:=fun x h y h'=>(ih x y (hx hi x h).1 (hx hk y h').1 (by have:=(hx hi x h).2;have:=(hx hk y h').2;omega)).1
 have m1:∀ x∈c.kd i,∀ y∈c.kd k,jo c x y:=fun x h y h'=>(ih x y (hx hi x h).1 (hx hk y h').1 (by have:=(hx hi x h).2;have:=(hx hk y h').2;omega)).2
 have s2:∀ x∈c.kd i,lN c x k:=fun x h=>(ih x k (hx hi x h).1 hk (by have:=(hx hi x h).2;omega)).1
 have m2:∀ x∈c.kd i,jo c x k:=fun x h=>(ih x k (hx hi x h).1 hk (by have:=(hx hi x h).2;omega)).2
 have m3:∀ y∈c.kd k,jo c i y:=fun y h=>(ih i y hi (hx hk y h).1 (by have:=(hx hk y h).2;omega)).2
 refine ⟨c79 hc fun H hD=>ady hc hi hk s1 hD,c76 hc fun H hD=>jJ.iff (adA hc hi ⟨fun H hD=>Zw hc hi s2 m2 hD,fun H hD=>Zx hc hi hk m3 hD,fun H hD=>Zz hc hi hk m3 s1 m1 hD,fun H hD=>ZF hc hi hk s1 m1 hD⟩ hD) (ur hc hi hk)⟩
theorem lf {c:Cx} (hc:c.Ok) {i k:Int} (hi:c.eJ i) (hk:c.eJ k):lN c i k:=(Eh hc _ i k hi hk (zy _)).1
theorem lg {c:Cx} (hc:c.Ok) {i k:Int} (hi:c.eJ i) (hk:c.eJ k):jo c i k:=(Eh hc _ i k hi hk (zy _)).2
end Go.aI
end
