/- Part 13 of 20 of the proof. -/
import Derived.Test.YtljchnfgjdjobaaGreatVal
import Derived.Test.YtljchnfgjdjobaaGreatVak
import Derived.Test.YtljchnfgjdjobaaGreatVai
import Derived.Test.YtljchnfgjdjobaaGreatVag
import Derived.KernelRfl
import Derived.Test.YtljchnfgjdjobaaGreatVac
set_option linter.unusedVariables false
set_option linter.unusedSimpArgs false
set_option linter.defProp false
set_option linter.unusedSectionVars false
section
set_option maxRecDepth 100000
namespace Go.aK
open Go Go.Proofs Go.eI
def eJ:AV:=.agg [.gn,.fn (.func 183) [] [],.fn (.func 184) [] [],.fn (.func 185) [] [],.fn (.func 186) [] []]
theorem adF (φ:AV→Prop):cH [.gn,.gn,.gn,.gn,.gn] [(1,1,.fn (.func 183) [] []),(2,1,.fn (.func 184) [] []),(3,1,.fn (.func 185) [] []),(4,1,.fn (.func 186) [] [])] φ=φ eJ:=by
 simp only [cH,iB,eq_iff_iff]
 constructor
 ·rintro ⟨_,_,_,_,_,_,_,_,_,_,_,_,h⟩;exact h
 ·exact fun h=>⟨rfl,rfl,by decide,rfl,rfl,by decide,rfl,rfl,by decide,rfl,rfl,by decide,h⟩
theorem Cw:eJ.val=true∧eJ.cells.length=5∧eJ.cells.all AV.one=true∧(∀ n,aj n (eJ.cells.map AV.ab)=true)∧ah [AV.gn,.gn,.gn,.gn,.gn] 0 (eJ.cells.map AV.ab)=eJ.cells:=⟨rfl,rfl,rfl,fun _=>rfl,rfl⟩
theorem Nj:Pure Tryz.prog 136 [] eJ:=by
 refine fun H=>X5.2.calls rfl ?_
 simp only [X5,aG]
 obtain ⟨r1,r2,r3,r4,r5⟩:=Cw
 simp +contextual only [adF,r1,r2,r3,r4,r5,sZ,Nat.reduceAdd,↓reduceIte,reduceCtorEq]
 have e:dd (some (aa.cells eJ.cells)) (some 5) 0=fun φ=>(5≤5∧φ eJ):=rfl
 rw [e]
 exact ⟨rC _,SJ (n0:=H.length) (by simp) rfl rfl ⟨rfl,rfl⟩⟩
theorem W4 (j:Nat) (f:AV) (h:eJ.cells[j]?=some f) (hj:j < 5) (φ:AV→Prop) (hd:f.drop=f):ch 5 eJ (.int .i64 (j:Int)) φ=φ f:=by
 simp only [ch,eJ,yP,eq_iff_iff]
 have e:[AV.gn,.fn (.func 183) [] [],.fn (.func 184) [] [],.fn (.func 185) [] [],.fn (.func 186) [] []].getD j .any=f:=by
  rw [rB];show (eJ.cells[j]?).getD .any=f;rw [h];rfl
 rw [e,hd]
 exact ⟨fun h=>h.2.2.2,fun h=>⟨rfl,by omega,hj,h⟩⟩
def Nk (c:Cx) (i k:Int):Prop:=∃ x∈c.kd i,E c.O (c.tm x) (c.tm k)∨R c.O (c.tm x) (c.tm k)
def uk (c:Cx) (i k:Int):Prop:=td c k=true∧rc c k < rc c i∧∀ x∈c.kd k,R c.O (c.tm i) (c.tm x)
def iO (c:Cx) (i k:Int) (n:Nat):Prop:=(n=1∧Nk c i k)∨(n=2∧uk c i k)∨(n=3∧Ct c i k)∨(n=4∧zE c i k)
structure IJ (c:Cx) (i k:Int):Prop where
 r1:∀ H,Du c H→ax Tryz.prog 183 [.ptr c.d 0,.int .i64 i,.int .i64 k] H (jt c (Nk c i k) H)
 r2:∀ H,Du c H→ax Tryz.prog 184 [.ptr c.d 0,.int .i64 i,.int .i64 k] H (jt c (uk c i k) H)
 r3:∀ H,Du c H→ax Tryz.prog 185 [.ptr c.d 0,.int .i64 i,.int .i64 k] H (jt c (Ct c i k) H)
 r4:∀ H,Du c H→ax Tryz.prog 186 [.ptr c.d 0,.int .i64 i,.int .i64 k] H (jt c (zE c i k) H)
theorem IJ.at {c:Cx} {i k:Int} (h:IJ c i k) {n:Nat} (h1:0 < n) (h2:n < 5) {H:List aa} (hD:Du c H):ax Tryz.prog (182 + n) [.ptr c.d 0,.int .i64 i,.int .i64 k] H (jt c (iO c i k n) H):=by
 have:n=1∨n=2∨n=3∨n=4:=by omega
 have key:∀ {Q Q':Prop} {f:Nat},ax Tryz.prog f [.ptr c.d 0,.int .i64 i,.int .i64 k] H (jt c Q H)→(Q↔Q')→ax Tryz.prog f [.ptr c.d 0,.int .i64 i,.int .i64 k] H (jt c Q' H):=by
  intro Q Q' f h e
  refine h.mono ?_
  rintro r H' ⟨b,h1,h2,h3,h4⟩
  exact ⟨b,h1,h2.trans e,h3,h4⟩
 rcases this with rfl | rfl | rfl | rfl
 ·exact key (h.r1 H hD) (by simp [iO])
 ·exact key (h.r2 H hD) (by simp [iO])
 ·exact key (h.r3 H hD) (by simp [iO])
 ·exact key (h.r4 H hD) (by simp [iO])
theorem adG {c:Cx} (hc:c.Ok) {i k:Int} (hi:c.ep i) (hr:IJ c i k) {H:List aa} (hD:Du c H):ax Tryz.prog 134 (EG c i k) H (jt c (td c i=true∧∃ n,n < 5∧iO c i k n) H):=by
 refine X3.2.calls rfl ?_
 simp only [X3,aG,EG]
 simp +contextual only [sZ,Nat.reduceEqDiff,Nat.reduceAdd,↓reduceIte,reduceCtorEq]
 refine af (rf hc hi hD) ?_
 rintro r H1 ⟨rfl,rfl⟩
 simp +contextual only [dQ,gb,gf,gg,sZ,Nat.reduceEqDiff,↓reduceIte,reduceCtorEq]
 cases hb:td c i with
 | false=>
   simp +contextual only [Bool.not_false,sZ,↓reduceIte,reduceCtorEq]
   exact eW rfl ⟨fun h=>by simp at h,fun h=>absurd h.1 (by simp)⟩ (Up.refl c _) hD
 | true=>
   simp +contextual only [Bool.not_true,sZ]
   refine ae Nj ?_
   simp +contextual only [sZ,Nat.reduceEqDiff,↓reduceIte,reduceCtorEq]
   refine aJ 5 (fun n (G:List aa)=>SD c H1 G∧∀ m,m < n→¬ iO c i k m)
    (fun n G=>[(0,.ai (.ptr c.d 0)),(1,.ai (.int .i64 i)),(2,.ai (.int .i64 k)),(18,eJ),(19,.int .i64 n)]) (fun n G=>G) H1 ⟨⟨⟨hD,Up.refl c _⟩,fun m hm=>by omega⟩,aB _ _ _⟩ fun n G hn hI=>?_
   obtain ⟨hG,jy⟩:=hI
   by_cases h0:n=0
   ·subst h0
    have e0:=W4 0 .gn rfl (by decide)
    have d1:decide (((0:Nat):Int) < 5)=true:=rfl
    have d2:decide ((0:Int) < ((0:Nat):Int))=false:=rfl
    simp +contextual only [nD,e0 _ rfl,d1,d2,sZ,Nat.reduceEqDiff,↓reduceIte,reduceCtorEq]
    refine ⟨1,G,⟨by omega,hG,fun m hm=>?_⟩,by omega,aE rfl rfl⟩
    intro h
    simp only [iO] at h
    omega
   ·by_cases h5:n < 5
    ·have hf:eJ.cells[n]?=some (.fn (.func (182 + n)) [] []):=by
      have:n=1∨n=2∨n=3∨n=4:=by omega
      rcases this with rfl | rfl | rfl | rfl <;> rfl
     have en:=W4 n _ hf h5
     have d1:decide ((n:Int) < 5)=true:=decide_eq_true (by omega)
     have d2:decide ((0:Int) < n)=true:=decide_eq_true (by omega)
     simp +contextual only [nD,en _ rfl,d1,d2,sZ,Nat.reduceEqDiff,Nat.reduceAdd,↓reduceIte,reduceCtorEq]
     refine af (hr.at (by omega) h5 hG.1) ?_
     rintro r G' ⟨b,rfl,ey,hU,kh⟩
     have eR:SD c H1 G':=⟨kh,hG.2.trans hU⟩
     cases b with
     | true=>
       simp +contextual only [sZ,Nat.reduceEqDiff,↓reduceIte,reduceCtorEq]
       exact eW rfl ⟨fun _=>⟨rfl,n,h5,ey.1 rfl⟩,fun _=>rfl⟩ eR.2 eR.1
     | false=>
       simp +contextual only [sZ,Nat.reduceEqDiff,↓reduceIte,reduceCtorEq]
       refine ⟨n + 1,G',⟨by omega,eR,fun m hm=>?_⟩,by omega,aE (by rw [au n (by omega)]) rfl⟩
       by_cases e:m=n
       ·subst e;exact fun h=>absurd (ey.2 h) (by simp)
       ·exact jy m (by omega)
    ·have d1:decide ((n:Int) < 5)=false:=decide_eq_false (by omega)
     simp +contextual only [d1,sZ,Nat.reduceEqDiff,↓reduceIte,reduceCtorEq]
     exact eW rfl ⟨fun h=>by simp at h,fun ⟨_,m,hm,h⟩=>absurd h (jy m (by omega))⟩ hG.2 hG.1
theorem ij {f:Int→T} {s:Int} {l:List Int}:side s (l.map f)=(bt s l).map f:=by unfold side bt;split <;> simp
theorem KV.lx {f:Int→T} {G:T→T→Prop} (irr:∀ x,¬ G x x):∀ {a b:List Int} {n:Nat},KV (fun x y=>f x=f y) a b n→(Lx G (a.map f) (b.map f)↔n < a.length∧(n=b.length∨G (f (a.getD n 0)) (f (b.getD n 0))))
 | [],b,n,h=>by simp [Lx]
 | x::r,[],n,h=>by
   have:=h.lb
   simp at this
   subst this
   simp [Lx]
 | x::r,y::s,0,h=>by
   have dJ:¬ f x=f y:=h.no (by simp) (by simp)
   simp [Lx,dJ]
 | x::r,y::s,m + 1,h=>by
   have heq:f x=f y:=h.eq 0 (by omega)
   have ih:=KV.lx irr (a:=r) (b:=s) (n:=m) ⟨by have:=h.la;simp at this;omega,by have:=h.lb;simp at this;omega,fun j hj=>h.eq (j + 1) (by omega),fun h1 h2=>h.no (by simpa using h1) (by simpa using h2)⟩
   simp only [List.map_cons,Lx,heq,true_and,List.length_cons,List.getD_cons_succ,Nat.add_lt_add_iff_right,Nat.add_right_cancel_iff]
   rw [ih]
   exact ⟨fun h=>by rcases h with h | h;exact h;exact absurd h (irr _),fun h=>.inl h⟩
theorem yb {Q:Int→Int→Prop}:∀ (a b:List Int),∃ n,KV Q a b n
 | [],b=>⟨0,by simp,by simp,fun j h=>by omega,fun h=>by simp at h⟩
 | x::r,[]=>⟨0,by simp,by simp,fun j h=>by omega,fun _ h=>by simp at h⟩
 | x::r,y::s=>by
   by_cases hq:Q x y
   ·obtain ⟨n,h⟩:=yb (Q:=Q) r s
    refine ⟨n + 1,by have:=h.la;simp;omega,by have:=h.lb;simp;omega,fun j hj=>?_,fun h1 h2=>h.no (by simpa using h1) (by simpa using h2)⟩
    cases j with
    | zero=>exact hq
    | succ j=>exact h.eq j (by omega)
   ·exact ⟨0,by simp,by simp,fun j h=>by omega,fun _ _=>hq⟩
theorem ul {c:Cx} (hc:c.Ok) {i k:Int} (hi:c.ep i) (hk:c.ep k):(td c i=true∧∃ n,n < 5∧iO c i k n)↔R c.O (c.tm i) (c.tm k):=by
 rw [qE,wE hc hi,wE hc hk]
 have hbi:td c i=true↔(c.tm i).k=2:=by simp [td]
 have Hg:td c k=true↔(c.tm k).k=2:=by simp [td]
 rw [hbi]
 refine and_congr_right fun hki=>?_
 have epi:rc c i=c.O.pl (c.tm i).n:=if_pos hki
 have esi:dP c i=c.O.sp (c.O.pl (c.tm i).n):=if_pos hki
 have lk:=(hc.kids k hk).1
 have li:=(hc.kids i hi).1
 have all:(∀ x∈c.kd k,R c.O (c.tm i) (c.tm x))↔∀ y∈(c.tm k).l,R c.O (c.tm i) y:=by rw [← lk];simp
 have sub:Nk c i k↔∃ x∈(c.tm i).l,E c.O x (c.tm k)∨R c.O x (c.tm k):=by
  rw [← li];unfold Nk
  constructor
  ·rintro ⟨x,hx,h⟩;exact ⟨_,aal.2 ⟨x,hx,rfl⟩,h⟩
  ·rintro ⟨y,hy,h⟩;obtain ⟨x,hx,rfl⟩:=aal.1 hy;exact ⟨x,hx,h⟩
 have lex:Ct c i k↔(c.tm k).k=2∧c.O.pl (c.tm k).n=c.O.pl (c.tm i).n∧c.O.sp (c.O.pl (c.tm i).n)≠3∧(∀ y∈(c.tm k).l,R c.O (c.tm i) y)∧Lx (Gt c.O.sp) (side (c.O.sp (c.O.pl (c.tm i).n)) ((c.kd i).map (nf c))) (side (c.O.sp (c.O.pl (c.tm i).n)) ((c.kd k).map (nf c))):=by
  unfold Ct
  rw [lE,all,← esi,ij,ij]
  obtain ⟨n,hn⟩:=yb (Q:=fun x y=>nf c x=nf c y) (bt (dP c i) (c.kd i)) (bt (dP c i) (c.kd k))
  have hlx:=KV.lx (G:=Gt c.O.sp) (fun x=>xW x) hn
  rw [hlx]
  constructor
  ·rintro ⟨⟨_,h1,h2⟩,h3,h4,m,hm,h5⟩
   have:=hm.VP hn
   subst this
   exact ⟨h1,h2.symm,h3,h4,h5⟩
  ·rintro ⟨h1,h2,h3,h4,h5⟩
   exact ⟨⟨hki,h1,h2.symm⟩,h3,h4,n,hn,h5⟩
 have mul:zE c i k↔(c.tm k).k=2∧c.O.pl (c.tm k).n=c.O.pl (c.tm i).n∧c.O.sp (c.O.pl (c.tm i).n)=3∧Mu (Gt c.O.sp) ((c.kd i).map (nf c)) ((c.kd k).map (nf c)):=by
  unfold zE
  rw [lE,← esi]
  exact ⟨fun ⟨⟨_,h1,h2⟩,h3⟩=>⟨h1,h2.symm,h3⟩,fun ⟨h1,h2,h3⟩=>⟨⟨hki,h1,h2.symm⟩,h3⟩⟩
 have pla:uk c i k↔(c.tm k).k=2∧c.O.pl (c.tm k).n < c.O.pl (c.tm i).n∧∀ y∈(c.tm k).l,R c.O (c.tm i) y:=by
  unfold uk
  rw [all,Hg,epi]
  refine and_congr_right fun h=>?_
  rw [show rc c k=c.O.pl (c.tm k).n from if_pos h]
 have e:(∃ n,n < 5∧iO c i k n)↔Nk c i k∨uk c i k∨Ct c i k∨zE c i k:=by
  constructor
  ·rintro ⟨n,_,h | h | h | h⟩
   ·exact .inl h.2
   ·exact .inr (.inl h.2)
   ·exact .inr (.inr (.inl h.2))
   ·exact .inr (.inr (.inr h.2))
  ·rintro (h | h | h | h)
   ·exact ⟨1,by omega,.inl ⟨rfl,h⟩⟩
   ·exact ⟨2,by omega,.inr (.inl ⟨rfl,h⟩)⟩
   ·exact ⟨3,by omega,.inr (.inr (.inl ⟨rfl,h⟩))⟩
   ·exact ⟨4,by omega,.inr (.inr (.inr ⟨rfl,h⟩))⟩
 rw [e,sub,pla,lex,mul]
 refine or_congr_right ?_
 constructor
 ·rintro (⟨h1,h2⟩ | ⟨h1,h2⟩ | ⟨h1,h2⟩)
  ·exact ⟨h1,.inl h2⟩
  ·exact ⟨h1,.inr (.inl h2)⟩
  ·exact ⟨h1,.inr (.inr h2)⟩
 ·rintro ⟨h1,h2 | h2 | h2⟩
  ·exact .inl ⟨h1,h2⟩
  ·exact .inr (.inl ⟨h1,h2⟩)
  ·exact .inr (.inr ⟨h1,h2⟩)
theorem jt.iff {c:Cx} {Q Q':Prop} {f:Nat} {args:List AV} {H:List aa} (h:ax Tryz.prog f args H (jt c Q H)) (e:Q↔Q'):ax Tryz.prog f args H (jt c Q' H):=by
 refine h.mono ?_
 rintro r H' ⟨b,h1,h2,h3,h4⟩
 exact ⟨b,h1,h2.trans e,h3,h4⟩
theorem EO {c:Cx} (hc:c.Ok):∀ (N:Nat) (i k:Int),c.ep i→c.ep k→wt (c.tm i) + wt (c.tm k)≤N→lD c i k∧jb c i k:=by
 intro N
 induction N with
 | zero=>intro i k _ _ h;have:=dH (c.tm i);omega
 | succ N ih=>
 intro i k hi hk hN
 have hx:∀ {j:Int},c.ep j→∀ x∈c.kd j,c.ep x∧wt (c.tm x) < wt (c.tm j):=fun {j} hj x hx=>by
  have h1:=hc.kids j hj
  exact ⟨h1.2 x hx,cR (by rw [← h1.1];exact aal.2 ⟨x,hx,rfl⟩)⟩
 have s1:∀ x∈c.kd i,∀ y∈c.kd k,lD c x y:=fun x h y h'=>(ih x y (hx hi x h).1 (hx hk y h').1 (by have:=(hx hi x h).2;have:=(hx hk y h').2;omega)).1
 have m1:∀ x∈c.kd i,∀ y∈c.kd k,jb c x y:=fun x h y h'=>(ih x y (hx hi x h).1 (hx hk y h').1 (by have:=(hx hi x h).2;have:=(hx hk y h').2;omega)).2
 have s2:∀ x∈c.kd i,lD c x k:=fun x h=>(ih x k (hx hi x h).1 hk (by have:=(hx hi x h).2;omega)).1
 have m2:∀ x∈c.kd i,jb c x k:=fun x h=>(ih x k (hx hi x h).1 hk (by have:=(hx hi x h).2;omega)).2
 have m3:∀ y∈c.kd k,jb c i y:=fun y h=>(ih i y hi (hx hk y h).1 (by have:=(hx hk y h).2;omega)).2
 refine ⟨c79 hc fun H hD=>adE hc hi hk s1 hD,c76 hc fun H hD=>jt.iff (adG hc hi ⟨fun H hD=>ZZ hc hi s2 m2 hD,fun H hD=>Z0 hc hi hk m3 hD,fun H hD=>Z2 hc hi hk m3 s1 m1 hD,fun H hD=>Z8 hc hi hk s1 m1 hD⟩ hD) (ul hc hi hk)⟩
theorem kV {c:Cx} (hc:c.Ok) {i k:Int} (hi:c.ep i) (hk:c.ep k):lD c i k:=(EO hc _ i k hi hk (rC _)).1
theorem kW {c:Cx} (hc:c.Ok) {i k:Int} (hi:c.ep i) (hk:c.ep k):jb c i k:=(EO hc _ i k hi hk (rC _)).2
end Go.aK
end
section
set_option maxRecDepth 100000
namespace Go.aK
open Go Go.Proofs Go.eI
def EmT (nd:List Nd) (t:T) (i:Nat):Prop:=∀ j,j < wt t→nd[i + j]?=(xY t i)[j]?
def Nl (nd:List Nd) (l:List T) (i:Nat):Prop:=∀ j,j < fM l→nd[i + j]?=(dl l i)[j]?
theorem EmT.head {nd:List Nd} {t:T} {i:Nat} (h:EmT nd t i):nd[i]?=some (t,ba t.l (i + 1))∧Nl nd t.l (i + 1):=by
 have hw:=xZ t
 constructor
 ·have:=h 0 (dH t)
  rw [pO] at this
  simpa using this
 ·intro j hj
  have:=h (j + 1) (by omega)
  rw [pO,List.getElem?_cons_succ] at this
  rw [← this];congr 1;omega
theorem Nl.cons {nd:List Nd} {x:T} {r:List T} {i:Nat} (h:Nl nd (x::r) i):EmT nd x i∧Nl nd r (i + wt x):=by
 constructor
 ·intro j hj
  have:=h j (by rw [fM];omega)
  rw [dl,yO (by rw [sK];exact hj)] at this
  exact this
 ·intro j hj
  have:=h (wt x + j) (by rw [fM];omega)
  rw [dl,abt (by rw [sK];omega),sK] at this
  rw [show wt x + j - wt x=j by omega] at this
  rw [← this];congr 1;omega
theorem Nl.kids {nd:List Nd}:∀ {l:List T} {i:Nat},Nl nd l i→(ba l i).map (fun k=>(nd.getD k.toNat default).1)=l∧∀ k∈ba l i,0≤k∧k < nd.length
 | [],i,_=>⟨rfl,fun k h=>by simp [ba] at h⟩
 | x::r,i,h=>by
   obtain ⟨h1,h2⟩:=h.cons
   obtain ⟨h3,h4⟩:=Nl.kids h2
   have h5:=h1.head.1
   have h6:=(aaJ.1 h5).1
   refine ⟨?_,?_⟩
   ·rw [ba,List.map_cons,h3]
    congr 1
    rw [rB,yP,h5];rfl
   ·intro k hk
    rw [ba] at hk
    rcases aai.1 hk with rfl | hk
    ·omega
    ·exact h4 k hk
def Gd (nd:List Nd) (p:Int→Prop) (i:Nat):Prop:=∃ t,nd[i]?=some (t,ba t.l (i + 1))∧Nl nd t.l (i + 1)∧zC p t
mutual
theorem gdT {nd:List Nd} {p:Int→Prop}:∀ (t:T) (i:Nat),EmT nd t i→zC p t→∀ j,j < wt t→Gd nd p (i + j)
 | .mk k n l,i,h,ha,j,hj=>by
   obtain ⟨h1,h2⟩:=h.head
   cases j with
   | zero=>exact ⟨_,h1,h2,ha⟩
   | succ j=>
     have:=gdL l (i + 1) h2 (fun x hx=>ha.mem hx) j (by rw [wt] at hj;omega)
     rw [show i + (j + 1)=i + 1 + j by omega];exact this
theorem gdL {nd:List Nd} {p:Int→Prop}:∀ (l:List T) (i:Nat),Nl nd l i→(∀ x∈l,zC p x)→∀ j,j < fM l→Gd nd p (i + j)
 | [],i,h,ha,j,hj=>by simp [fM] at hj
 | x::r,i,h,ha,j,hj=>by
   obtain ⟨h1,h2⟩:=h.cons
   by_cases hx:j < wt x
   ·exact gdT x i h1 (ha x aaW) j hx
   ·have:=gdL r (i + wt x) h2 (fun y hy=>ha y (aaF _ hy)) (j - wt x) (by rw [fM] at hj;omega)
    rw [show i + j=i + wt x + (j - wt x) by omega];exact this
end
def iu (ps ss:List Int) (ts:List T) (n:Nat):Cx:=⟨ps,ss,dl ts 0,n + 2,n,n + 1⟩
theorem Rf (ts:List T):Nl (dl ts 0) ts 0:=fun j _=>by rw [abM]
theorem SX {ps ss:List Int} (hv:Va ps ss) {ts:List T} (dJ:ts≠[]) (hw:fM ts≤100000000) (ha:∀ t∈ts,zC (fun n=>0≤n∧n < ps.length) t) (n:Nat):(iu ps ss ts n).Ok:=by
 have hl:(dl ts 0).length=fM ts:=iN ts 0
 have gd:∀ i,(iu ps ss ts n).ep i→∃ t,(dl ts 0).getD i.toNat default=(t,ba t.l (i.toNat + 1))∧Nl (dl ts 0) t.l (i.toNat + 1)∧zC (fun n=>0≤n∧n < ps.length) t:=by
  intro i hi
  have k9:i.toNat < fM ts:=by have:=hi.1;have:=hi.2;simp only [iu] at *;omega
  obtain ⟨t,h1,h2,h3⟩:=gdL ts 0 (Rf ts) ha i.toNat k9
  rw [abM] at h1 h2
  exact ⟨t,by rw [rB,h1];rfl,h2,h3⟩
 refine ⟨hv,?_,by simp [iu],by simp [iu],by simp [iu],fun i hi=>?_,fun i hi=>?_,fun i hi hk=>?_⟩
 ·intro e
  have e:dl ts 0=[]:=e
  rw [e] at hl
  have:=gI ts
  have h0:ts.length=0:=by simp at hl;omega
  exact dJ (aby.1 h0)
 ·obtain ⟨t,h1,h2,h3⟩:=gd i hi
  show ((dl ts 0).getD i.toNat default).2.length≤_
  rw [h1,cS]
  by_cases h0:t.l=[]
  ·rw [h0];simp
  ·have:fM t.l≤(dl ts 0).length:=by
    have hp:0 < fM t.l:=by
     have:=gI t.l
     have:=adW.2 h0
     omega
    have:=h2 (fM t.l - 1) (by omega)
    have h4:(dl t.l (i.toNat + 1))[fM t.l - 1]?≠none:=by rw [Oq (by rw [iN];omega)];simp
    rw [← this] at h4
    have h5:i.toNat + 1 + (fM t.l - 1) < (dl ts 0).length:=by
     apply Decidable.byContradiction
     intro hc
     exact h4 (abL (by omega))
    omega
   have:=gI t.l
   omega
 ·obtain ⟨t,h1,h2,h3⟩:=gd i hi
  have hk:=h2.kids
  have e1:(iu ps ss ts n).kd i=ba t.l (i.toNat + 1):=by show ((dl ts 0).getD i.toNat default).2=_;rw [h1]
  have e2:(iu ps ss ts n).tm i=t:=by show ((dl ts 0).getD i.toNat default).1=_;rw [h1]
  rw [e1,e2]
  exact hk
 ·obtain ⟨t,h1,h2,h3⟩:=gd i hi
  have e2:(iu ps ss ts n).tm i=t:=by show ((dl ts 0).getD i.toNat default).1=_;rw [h1]
  rw [e2] at hk ⊢
  exact h3.op hk
theorem AP (ps ss:List Int) {ts:List T} (dJ:ts≠[]) (H:List aa):Du (iu ps ss ts H.length) (H++[.map [],.map [],kU ps ss (dl ts 0) H.length (H.length + 1)]):=by
 have hn:dl ts 0≠[]:=by
  intro e
  have hl:(dl ts 0).length=fM ts:=iN ts 0
  have:=gI ts
  rw [e] at hl
  have h0:ts.length=0:=by simp at hl;omega
  exact dJ (aby.1 h0)
 refine ⟨?_,⟨[],?_,fun p hp=>by simp at hp⟩,⟨[],?_,fun p hp=>by simp at hp⟩⟩
 ·show (H++[aa.map [],.map [],kU ps ss (dl ts 0) H.length (H.length + 1)])[H.length + 2]?=_
  rw [kU,o6,if_neg hn]
  simp [iu]
 ·show (H++[aa.map [],.map [],kU ps ss (dl ts 0) H.length (H.length + 1)])[H.length]?=_
  simp [nJ]
 ·show (H++[aa.map [],.map [],kU ps ss (dl ts 0) H.length (H.length + 1)])[H.length + 1]?=_
  simp [nJ]
theorem vC {ps ss:List Int} {ts:List T} {n j:Nat} (hj:j < ts.length):(iu ps ss ts n).ep ((ba ts 0).getD j 0)∧(iu ps ss ts n).tm ((ba ts 0).getD j 0)=ts.getD j default:=by
 obtain ⟨h1,h2⟩:=(Rf ts).kids
 have hl:=cS ts 0
 refine ⟨h2 _ (aT (by omega)),?_⟩
 have:=congrArg (fun l=>l[j]?) h1
 have vY:j < (ba ts 0).length:=by omega
 simp only [abW,Oq vY,Oq hj,Option.map_some,Option.some.injEq] at this
 have e1:(ba ts 0).getD j 0=(ba ts 0)[j]:=by simp [vY]
 have e2:ts.getD j default=ts[j]:=by simp [hj]
 rw [e1,e2]
 exact this
end Go.aK
end
section
set_option maxRecDepth 100000
namespace Go.aK
open Go Go.Proofs
theorem ixs (s:ByteArray) (k:IntKind) (i:Nat) (φ:AV→Prop):bQ (.str s) (.int k (i:Int)) φ=(i < s.size∧φ (.int .u8 (s.data.toList.getD i 0).toNat)):=by
 simp only [bQ,yP,eq_iff_iff]
 exact ⟨fun h=>h.2,fun h=>⟨by omega,h⟩⟩
theorem rh (a b:ByteArray) (φ:AV→Prop):dt .eql (.str a) (.str b) φ=φ (.bool (decide (a=b))):=by
 simp [dt]
theorem IK {g:Nat} {f:List AV→Option AV} (h:vq Tryz.prog g (.xB f)) {xs:List AV} {r:AV} (hr:f xs=some r):Pure Tryz.prog g xs r:=fun H=>h xs r H hr
theorem adK (s:ByteArray) (c:Int):Pure Tryz.prog 238 [.str s,.int .u8 c] (.int .i64 (firstIdx s c.toNat.toUInt8)):=IK Zg rfl
def oc (s:ByteArray) (c:Int):Int:=s.foldl (fun (n:Int) x=>if x == c.toNat.toUInt8 then n + 1 else n) ((0:Nat):Int)
theorem adL (s:ByteArray) (c:Int):Pure Tryz.prog 231 [.str s,.int .u8 c] (.int .i64 (oc s c)):=IK Zh (by simp only [countP,oc])
theorem Z9 (s:ByteArray) (c:Int):Pure Tryz.prog 228 [.str s,.int .u8 c] (.int .i64 (firstIdx s c.toNat.toUInt8)):=by
 refine fun H=>PM.2.calls rfl ?_
 simp only [PM,aG]
 simp +contextual only [B5,sZ,Nat.reduceEqDiff,Nat.reduceAdd,↓reduceIte,reduceCtorEq]
 refine ae (adK s c) ?_
 simp +contextual only [sZ,↓reduceIte,reduceCtorEq]
 exact a8 rfl rfl
theorem adM (s:ByteArray) (c:Int):Pure Tryz.prog 190 [.str s,.int .u8 c] (.int .i64 (firstIdx s c.toNat.toUInt8)):=by
 refine fun H=>PD.2.calls rfl ?_
 simp only [PD,aG]
 simp +contextual only [B5,sZ,Nat.reduceEqDiff,Nat.reduceAdd,↓reduceIte,reduceCtorEq]
 refine ae (Z9 s c) ?_
 simp +contextual only [sZ,↓reduceIte,reduceCtorEq]
 exact a8 rfl rfl
def us:ByteArray:=⟨#[95]⟩
theorem ix0 (k:IntKind) (φ:AV→Prop):bQ (.str us) (.int k 0) φ=φ (.int .u8 95):=by
 simp only [bQ,eq_iff_iff]
 exact ⟨fun h=>h.2.2,fun h=>⟨by omega,by decide,h⟩⟩
def Nm (s:ByteArray):Int:=if s=us then 0 else firstIdx s 95
theorem adN (s:ByteArray):Pure Tryz.prog 229 [.str s,.str us] (.int .i64 (Nm s)):=by
 refine fun H=>PN.2.calls rfl ?_
 simp only [PN,aG]
 unfold Nm
 have di:((us.size:Nat):Int)=1:=rfl
 by_cases hs:s=us
 ·rw [if_pos hs]
  simp +contextual only [rh,di,hs,Int.reduceEq,sZ,Nat.reduceEqDiff,Nat.reduceAdd,↓reduceIte,reduceCtorEq,Int.reduceEq]
  exact a8 rfl rfl
 ·rw [if_neg hs]
  have TD:¬ us=s:=fun e=>hs e.symm
  simp +contextual only [rh,di,TD,ix0,Int.reduceEq,sZ,Nat.reduceEqDiff,Nat.reduceAdd,↓reduceIte,reduceCtorEq,Int.reduceEq]
  refine ae (Z9 s 95) ?_
  simp +contextual only [sZ,↓reduceIte,reduceCtorEq]
  exact a8 rfl rfl
theorem adO (s:ByteArray):Pure Tryz.prog 191 [.str s,.str us] (.int .i64 (Nm s)):=by
 refine fun H=>PE.2.calls rfl ?_
 simp only [PE,aG]
 simp +contextual only [sZ,Nat.reduceEqDiff,Nat.reduceAdd,↓reduceIte,reduceCtorEq]
 refine ae (adN s) ?_
 simp +contextual only [sZ,↓reduceIte,reduceCtorEq]
 exact a8 rfl rfl
theorem adP (s:ByteArray):Pure Tryz.prog 142 [.str s,.str us] (.bool (decide (0≤Nm s))):=by
 refine fun H=>Pu.2.calls rfl ?_
 simp only [Pu,aG]
 simp +contextual only [sZ,Nat.reduceEqDiff,Nat.reduceAdd,↓reduceIte,reduceCtorEq]
 refine ae (adO s) ?_
 simp +contextual only [sZ,↓reduceIte,reduceCtorEq]
 exact a8 rfl rfl
theorem adQ (s:ByteArray):Pure Tryz.prog 193 [.str s,.str us] (.int .i64 (oc s 95)):=by
 refine fun H=>PG.2.calls rfl ?_
 simp only [PG,aG]
 have di:((us.size:Nat):Int)=1:=rfl
 simp +contextual only [di,ix0,Int.reduceEq,sZ,Nat.reduceEqDiff,Nat.reduceAdd,↓reduceIte,reduceCtorEq,Int.reduceEq]
 refine ae (adL s 95) ?_
 simp +contextual only [sZ,↓reduceIte,reduceCtorEq]
 exact a8 rfl rfl
def yc (c:UInt8):Bool:=decide (((c.toNat:Nat):Int) < 33) || decide ((126:Int) < ((c.toNat:Nat):Int)) || decide (0≤firstIdx ⟨#[40,41,44]⟩ ((c.toNat:Nat):Int).toNat.toUInt8)
def nW (s:ByteArray):Bool:=!decide (((s.size:Nat):Int) < 1) && !decide ((32:Int) < ((s.size:Nat):Int)) && s.data.toList.all fun c=>!yc c
theorem AQ {p:UInt8→Bool} {l:List UInt8} {i:Nat} (h:i < l.length):(l.drop i).all p=(p (l.getD i 0) && (l.drop (i + 1)).all p):=by
 rw [abr h,List.all_cons]
 simp [h]
theorem aaa (s:ByteArray):Pure Tryz.prog 141 [.str s] (.bool (nW s)):=by
 refine fun H=>Sf.calls rfl ?_
 simp only [LS,Se]
 have hl:s.data.toList.length=s.size:=rfl
 unfold nW
 simp +contextual only [sZ,Nat.reduceEqDiff,Nat.reduceAdd,↓reduceIte,reduceCtorEq]
 refine ⟨fun h1=>⟨fun h2=>?_,fun h2=>?_⟩,fun h1=>?_⟩
 ·exact a8 rfl (by simp [h2])
 ·refine aD s.size (fun i=>((s.data.toList.drop i).all fun c=>!yc c)=(s.data.toList.all fun c=>!yc c))
   (fun i=>[(0,.str s),(13,.int .i64 s.size),(14,.int .i64 i)]) (fun i=>H) ⟨rfl,aB _ _ _⟩ fun i hi hI=>?_
  simp +contextual only [ixs,sZ,Nat.reduceEqDiff,Nat.reduceAdd,↓reduceIte,reduceCtorEq]
  have fin:∀ (aS:i < s.size),yc (s.data.toList.getD i 0)=true→(s.data.toList.all fun c=>!yc c)=false:=fun aS hb=>by
   rw [← hI,AQ (by omega),hb];rfl
  refine ⟨fun aS=>?_,fun jw=>?_⟩
  ·have aS:=bN aS
   have fin:=fin aS
   rw [AQ (by omega)] at hI
   have SR:yc (s.data.toList.getD i 0)=(decide ((((s.data.toList.getD i 0).toNat:Nat):Int) < 33) || decide ((126:Int) < (((s.data.toList.getD i 0).toNat:Nat):Int)) || decide (0≤firstIdx ⟨#[40,41,44]⟩ (((s.data.toList.getD i 0).toNat:Nat):Int).toNat.toUInt8)):=rfl
   generalize s.data.toList.getD i 0=c at *
   refine ⟨aS,fun a=>⟨aS,fun b=>⟨aS,ae (adM _ _) ?_⟩,fun b=>?_⟩,fun a=>?_⟩
   ·simp +contextual only [sZ,Nat.reduceEqDiff,↓reduceIte,reduceCtorEq]
    refine ⟨fun d=>?_,fun d=>?_⟩
    ·exact a8 rfl (by rw [fin (by rw [SR];simp only [decide_eq_true d,Bool.or_true])];simp)
    ·refine ⟨i + 1,⟨aS,?_⟩,by omega,aE (by rw [au i (by omega)]) rfl⟩
     rw [← hI]
     have:yc c=false:=by
      rw [SR]
      simp only [ab1,decide_eq_false_iff_not]
      omega
     rw [this];simp
   ·exact a8 rfl (by rw [fin (by rw [SR];simp only [decide_eq_true b,Bool.or_true,Bool.true_or])];simp)
   ·exact a8 rfl (by rw [fin (by rw [SR];simp only [decide_eq_true a,Bool.true_or])];simp)
  ·rw [abu (by have:=dh jw;omega)] at hI
   exact a8 rfl (by rw [← hI];simp;omega)
 ·exact a8 rfl (by simp [h1])
end Go.aK
end
section
set_option maxRecDepth 100000
namespace Go.aK
open Go Go.Proofs
structure iP where
 name:ByteArray
 args:List Int
 C3:Int
 deriving Inhabited
structure Sg where
 aY:List ByteArray
 ops:List iP
 deriving Inhabited
def iP.av (o:iP):AV:=.agg [.str o.name,.al 0 (ints o.args),.int .i64 o.C3]
def qg (l:List iP):List AV:=l.map iP.av
def strs (l:List ByteArray):List AV:=l.map AV.str
def Sg.av (s:Sg):AV:=.agg [.al 0 (strs s.aY),.al 0 (qg s.ops)]
theorem yd (l:List iP):(qg l).length=l.length:=by simp [qg]
theorem EP (l:List ByteArray):(strs l).length=l.length:=by simp [strs]
theorem ye (n:Nat) (l:List iP):aj n (qg l)=true:=by
 rw [a9];intro x hx;obtain ⟨y,_,rfl⟩:=aal.1 hx
 simp [iP.av,AV.bc,aj,bf]
theorem yf (n:Nat) (l:List ByteArray):aj n (strs l)=true:=by
 rw [a9];intro x hx;obtain ⟨y,_,rfl⟩:=aal.1 hx;rfl
theorem iP.gl (n:Nat) (o:iP):o.av.bc n=true:=by simp [iP.av,AV.bc,aj,bf]
theorem iP.xQ (o:iP):o.av.val=true:=rfl
theorem iP.qZ (o:iP):o.av.cells.all AV.one=true:=rfl
theorem iP.kS (o:iP):o.av.ab=o.av:=rfl
theorem iP.sG (o:iP):o.av.drop=o.av:=rfl
theorem iP.iL (o:iP):o.av.cells.length=3:=rfl
theorem Sg.gl (n:Nat) (o:Sg):o.av.bc n=true:=by simp [Sg.av,AV.bc,aj,yf,ye]
theorem Sg.xQ (o:Sg):o.av.val=true:=rfl
theorem Sg.qZ (o:Sg):o.av.cells.all AV.one=true:=rfl
theorem Sg.kS (o:Sg):o.av.ab=o.av:=rfl
theorem Sg.sG (o:Sg):o.av.drop=o.av:=rfl
theorem Sg.iL (o:Sg):o.av.cells.length=2:=rfl
theorem Ku (o:Nat) (l:List iP):(∀ (own:Nat) (xs:List AV),AV.al o (qg l)=AV.al own xs→∀ z∈xs,z.cells.length=3)=True:=by
 simp only [eq_iff_iff,iff_true]
 intro own xs e z hz
 cases e
 obtain ⟨y,_,rfl⟩:=aal.1 hz
 rfl
theorem Kv (o:Nat) (l:List ByteArray):(∀ (own:Nat) (xs:List AV),AV.al o (strs l)=AV.al own xs→∀ z∈xs,z.cells.length=1)=True:=by
 simp only [eq_iff_iff,iff_true]
 intro own xs e z hz
 cases e
 obtain ⟨y,_,rfl⟩:=aal.1 hz
 rfl
theorem Nn (e o:Nat) (l:List iP) (k:IntKind) (i:Nat) (φ:AV→Prop):aC e (.al o (qg l)) (.int k (i:Int)) φ=(i < l.length∧φ (.ai (l.getD i default).av)):=by
 simp only [aC,yd,yP,eq_iff_iff]
 constructor
 ·rintro ⟨_,h,h2⟩;refine ⟨h,?_⟩;simpa [qg,h] using h2
 ·rintro ⟨h,h2⟩;refine ⟨by omega,h,?_⟩;simpa [qg,h] using h2
theorem No (e o:Nat) (l:List ByteArray) (k:IntKind) (i:Nat) (φ:AV→Prop):aC e (.al o (strs l)) (.int k (i:Int)) φ=(i < l.length∧φ (.ai (.str (l.getD i default)))):=by
 simp only [aC,EP,yP,eq_iff_iff]
 constructor
 ·rintro ⟨_,h,h2⟩;refine ⟨h,?_⟩;simpa [strs,h] using h2
 ·rintro ⟨h,h2⟩;refine ⟨by omega,h,?_⟩;simpa [strs,h] using h2
theorem aab (o:iP) (H:List aa) (φ:AV→Prop):aV (some 3) (.ai o.av) H φ=φ o.av:=by simp [aV,iP.av,AV.cells]
theorem sP (o:Sg) (H:List aa) (φ:AV→Prop):aV (some 2) (.ai o.av) H φ=φ o.av:=by simp [aV,Sg.av,AV.cells]
theorem fo0 (x:iP) (φ:AV→Prop):ap 0 none (.ai x.av) φ=φ (.ai (.str x.name)):=by simp [ap,apart,iP.av,AV.cells,AV.one]
theorem fo1 (x:iP) (φ:AV→Prop):ap 1 none (.ai x.av) φ=φ (.ai (.al 0 (ints x.args))):=by simp [ap,apart,iP.av,AV.cells,AV.one]
theorem fo2 (x:iP) (φ:AV→Prop):ap 2 none (.ai x.av) φ=φ (.ai (.int .i64 x.C3)):=by simp [ap,apart,iP.av,AV.cells,AV.one]
theorem fs0 (x:Sg) (φ:AV→Prop):ap 0 none (.ai x.av) φ=φ (.ai (.al 0 (strs x.aY))):=by simp [ap,apart,Sg.av,AV.cells,AV.one]
theorem fs1 (x:Sg) (φ:AV→Prop):ap 1 none (.ai x.av) φ=φ (.ai (.al 0 (qg x.ops))):=by simp [ap,apart,Sg.av,AV.cells,AV.one]
def aF:=(hV (hV (hV (hV @yd @EP) (hV @ye @yf)) (hV (hV @iP.gl @iP.xQ) (hV (hV @iP.qZ @iP.kS) (hV @iP.sG @iP.iL)))) (hV (hV (hV (hV @Sg.gl @Sg.xQ) (hV (hV @Sg.qZ @Sg.kS) (hV @Sg.sG @Sg.iL))) (hV (hV @Ku @Kv) (hV @Nn @No))) (hV (hV @aab @sP) (hV (hV @fo0 @fo1) (hV @fo2 (hV @fs0 @fs1))))))
def zF (p:Int→Bool):List Int→Int→Int
 | [],_=>-1
 | x::r,k=>if p x=true then k else zF p r (k + 1)
theorem EQ (p:Int→Bool):∀ (l:List Int) (k:Int),0≤k→(decide (0≤zF p l k)=l.any p)
 | [],k,_=>by simp [zF]
 | x::r,k,h=>by
   simp only [zF,af0]
   split
   ·rename_i hp;simp [hp,h]
   ·rename_i hp;simp [hp,EQ p r (k + 1) (by omega)]
theorem Kw {p:Int→Bool} {l:List Int} {i:Nat} {k:Int} (h:i < l.length):zF p (l.drop i) k=if p (l.getD i 0)=true then k else zF p (l.drop (i + 1)) (k + 1):=by
 rw [abr h]
 simp [zF,h]
theorem adR (g:Nat) (cap:List AV) (cp:cap.map AV.ab=cap) (hb:aj 0 cap=true) (p:Int→Bool) (l:List Int) (hf:∀ x∈l,Pure Tryz.prog g ([.int .i64 x]++cap) (.bool (p x))) :
 Pure Tryz.prog 100 [.al 0 (ints l),.fn (.func g) [] cap] (.int .i64 (zF p l 0)):=by
 refine fun H=>DU.2.calls rfl ?_
 simp only [DU,aG]
 simp +contextual only [sZ,Nat.reduceEqDiff,Nat.reduceAdd,↓reduceIte,reduceCtorEq]
 intro hl
 refine aD l.length (fun i=>zF p (l.drop i) i=zF p l 0) (fun i=>[(0,.al 0 (ints l)),(1,.fn (.func g) [] cap),(7,.int .i64 l.length),(8,.int .i64 i)]) (fun _=>H) ⟨rfl,aB _ _ _⟩ fun i hi hI=>?_
 simp +contextual only [cp,sZ,Nat.reduceEqDiff,Nat.reduceAdd,↓reduceIte,reduceCtorEq]
 refine ⟨fun aS=>?_,fun jw=>?_⟩
 ·have aS:=bN aS
  rw [Kw aS] at hI
  refine ⟨aS,ae (hf _ ?_) ?_⟩
  ·simp [aS]
  simp +contextual only [sZ,Nat.reduceEqDiff,↓reduceIte,reduceCtorEq]
  refine wA (fun hb=>?_) (fun hb=>?_) <;> simp +contextual only [sZ,Nat.reduceEqDiff,↓reduceIte,reduceCtorEq]
  ·rw [if_pos hb] at hI
   exact a8 rfl (by rw [← hI])
  ·rw [if_neg (by rw [hb];simp)] at hI
   exact ⟨i + 1,⟨aS,hI⟩,by omega,aE (by rw [au i (by omega)]) rfl⟩
 ·rw [abu (dh jw)] at hI
  exact a8 rfl (by rw [← hI];rfl)
theorem adS (g:Nat) (cap:List AV) (cp:cap.map AV.ab=cap) (hb:aj 0 cap=true) (p:Int→Bool) (l:List Int) (hf:∀ x∈l,Pure Tryz.prog g ([.int .i64 x]++cap) (.bool (p x))) :
 Pure Tryz.prog 102 [.al 0 (ints l),.fn (.func g) [] cap] (.bool (l.any p)):=by
 refine fun H=>DV.2.calls rfl ?_
 simp only [DV,aG]
 simp +contextual only [sZ,Nat.reduceEqDiff,Nat.reduceAdd,↓reduceIte,reduceCtorEq]
 refine ae (adR g cap cp hb p l hf) ?_
 simp +contextual only [sZ,↓reduceIte,reduceCtorEq]
 exact a8 rfl (by rw [EQ p l 0 (by omega)])
end Go.aK
end
section
set_option maxRecDepth 100000
namespace Go.aK
open Go Go.Proofs
def Hh (n a:Int):Bool:=decide (0≤a) && decide (a < n)
theorem aac (n a:Int):Pure Tryz.prog 192 [.int .i64 a,.ai (.int .i64 n)] (.bool (Hh n a)):=by
 refine fun H=>PF.2.calls rfl ?_
 simp only [PF,aG]
 unfold Hh
 simp +contextual only [sZ,Nat.reduceEqDiff,Nat.reduceAdd,↓reduceIte,reduceCtorEq]
 refine ⟨fun h=>a8 rfl (by simp [h]),fun h=>a8 rfl (by simp;omega)⟩
theorem adT (n a:Int):Pure Tryz.prog 194 [.int .i64 a,.ai (.fn (.func 192) [] [.ai (.int .i64 n)])] (.bool (!Hh n a)):=by
 refine fun H=>PH.2.calls rfl ?_
 simp only [PH,aG]
 simp +contextual only [sZ,Nat.reduceEqDiff,Nat.reduceAdd,↓reduceIte,reduceCtorEq]
 refine ae (aac n a) ?_
 simp +contextual only [sZ,↓reduceIte,reduceCtorEq]
 exact a8 rfl rfl
def o8 (o:iP) (n:Int):Bool:=
 nW o.name && (decide (oc o.name 95 < o.name.size) && ((decide (oc o.name 95=0) || decide (oc o.name 95=o.args.length)) && (decide ((o.args.length:Int)≤8) && (Hh n o.C3 && !o.args.any fun a=>!Hh n a))))
theorem adU (o:iP) (n:Int):Pure Tryz.prog 143 [o.av,.int .i64 n] (.bool (o8 o n)):=by
 refine fun H=>Sj.calls rfl ?_
 simp only [LU,Si]
 unfold o8
 simp +contextual only [aF,sZ,Nat.reduceEqDiff,Nat.reduceAdd,↓reduceIte,reduceCtorEq]
 refine ae (adQ o.name) ?_
 simp +contextual only [aF,sZ,Nat.reduceEqDiff,Nat.reduceAdd,↓reduceIte]
 refine ae (aaa o.name) ?_
 cases hn:nW o.name with
 | false=>
   simp +contextual only [sZ,Nat.reduceEqDiff,↓reduceIte,reduceCtorEq]
   exact a8 rfl rfl
 | true=>
   have h66:=adS 194 [.ai (.fn (.func 192) [] [.ai (.int .i64 n)])] rfl rfl (fun a=>!Hh n a) o.args (fun a _=>adT n a)
   have Np:=aac n o.C3
   generalize Hh n o.C3=q at Np ⊢
   generalize (o.args.any fun a=>!Hh n a)=z at h66 ⊢
   by_cases h1:oc o.name 95 < o.name.size
   ·have e1:decide (oc o.name 95 < o.name.size)=true:=decide_eq_true h1
    simp +contextual only [aF,h1,sZ,Nat.reduceEqDiff,Nat.reduceAdd,↓reduceIte,reduceCtorEq]
    refine ⟨fun h20 _=>⟨fun h21=>?_,fun h21=>?_⟩,fun h20 _=>?_⟩
    ·have e2:(decide (oc o.name 95=0) || decide (oc o.name 95=(o.args.length:Int)))=true:=by simp [h21]
     refine ⟨fun h3=>ae Np ?_,fun h3=>?_⟩
     ·have e903:decide ((o.args.length:Int)≤8)=true:=decide_eq_true h3
      rw [e1,e2,e903]
      cases q with
      | false=>
        simp +contextual only [sZ,Nat.reduceEqDiff,↓reduceIte,reduceCtorEq]
        exact a8 rfl (by simp)
      | true=>
        simp +contextual only [aF,sZ,Nat.reduceEqDiff,Nat.reduceAdd,↓reduceIte,reduceCtorEq]
        refine ae h66 ?_
        simp +contextual only [sZ,Nat.reduceEqDiff,↓reduceIte,reduceCtorEq]
        exact a8 rfl (by simp)
     ·have e903:decide ((o.args.length:Int)≤8)=false:=decide_eq_false (by omega)
      exact a8 rfl (by rw [e903];simp)
    ·have e2:(decide (oc o.name 95=0) || decide (oc o.name 95=(o.args.length:Int)))=false:=by simp [h20,h21]
     exact a8 rfl (by rw [e2];simp)
    ·have e2:(decide (oc o.name 95=0) || decide (oc o.name 95=(o.args.length:Int)))=true:=by simp [h20]
     refine ⟨fun h3=>ae Np ?_,fun h3=>?_⟩
     ·have e903:decide ((o.args.length:Int)≤8)=true:=decide_eq_true h3
      rw [e1,e2,e903]
      cases q with
      | false=>
        simp +contextual only [sZ,Nat.reduceEqDiff,↓reduceIte,reduceCtorEq]
        exact a8 rfl (by simp)
      | true=>
        simp +contextual only [aF,sZ,Nat.reduceEqDiff,Nat.reduceAdd,↓reduceIte,reduceCtorEq]
        refine ae h66 ?_
        simp +contextual only [sZ,Nat.reduceEqDiff,↓reduceIte,reduceCtorEq]
        exact a8 rfl (by simp)
     ·have e903:decide ((o.args.length:Int)≤8)=false:=decide_eq_false (by omega)
      exact a8 rfl (by rw [e903];simp)
   ·have e1:decide (oc o.name 95 < o.name.size)=false:=decide_eq_false h1
    rw [e1]
    simp +contextual only [aF,h1,sZ,Nat.reduceEqDiff,↓reduceIte,reduceCtorEq]
    exact a8 rfl (by simp)
end Go.aK
end
section
set_option maxRecDepth 100000
namespace Go.aK
open Go Go.Proofs
theorem aad (l:List Int) (hl:l.length * 8≤140737488355328):Pure Tryz.prog 118 [.al 0 (ints l)] (.al 1 (ints l)):=fun H=>
 xE 0 (ints l) H (of_eq_true (nF l)) (by rw [aw];exact hl) (bf _ _)
def Kx (a:Int):UInt8:=UInt8.ofNat (IntKind.u8.wrap a).toNat
theorem VW (a:Int):AV.int .u8 (IntKind.u8.wrap a)=.int .u8 (Kx a).toNat:=by
 have h:0≤IntKind.u8.wrap a∧IntKind.u8.wrap a < 256:=by
  simp only [IntKind.wrap]
  have h1:IntKind.u8.bits=8:=rfl
  have h2:IntKind.u8.signed=false:=rfl
  rw [h1,h2]
  simp
  omega
 congr 1
 unfold Kx
 rw [UInt8.toNat_ofNat']
 omega
def Hi (o:iP):List UInt8:=(o.name++⟨#[40]⟩).data.toList++(o.args++[o.C3]).map Kx
def jX (o:iP):ByteArray:=⟨(Hi o).toArray⟩
theorem Hj (l:List UInt8) (a:Int):bp l++[.int .u8 (IntKind.u8.wrap a)]=bp (l++[Kx a]):=by
 rw [VW];simp [bp]
theorem Ky (l:List UInt8):(bp l).length=l.length:=by simp [bp]
theorem VX (s:ByteArray) (φ:AV→Prop):fF 1 (.str s) φ=(s.size < 9223372036854775808∧φ (.al 1 (bp s.data.toList))):=af4
theorem VY (o:Nat) (l:List UInt8) (φ:AV→Prop) (h:φ (.str ⟨l.toArray⟩)):kD (.al o (bp l)) φ:=⟨l,rfl,h⟩
theorem VZ (k k':IntKind) (n:Int) (φ:AV→Prop):cN k (.int k' n) φ=φ (.int k (k.wrap n)):=af4
theorem aae (o:iP) (h1:o.name.size≤32) (h2:o.args.length≤8):Pure Tryz.prog 144 [o.av] (.str (jX o)):=by
 refine fun H=>Sl.calls rfl ?_
 simp only [LV,Sk]
 have di:(⟨#[40]⟩:ByteArray).size=1:=rfl
 have hs2:(o.name++⟨#[40]⟩:ByteArray).size=o.name.size + 1:=by rw [ByteArray.size_append,di]
 have hln:(o.name++⟨#[40]⟩:ByteArray).data.toList.length=o.name.size + 1:=hs2
 simp +contextual only [aF,VX,di,hs2,sZ,Nat.reduceEqDiff,Nat.reduceAdd,↓reduceIte]
 refine ⟨by omega,by omega,ay (aad o.args (by omega)) ?_⟩
 simp +contextual only [aF,nC,ok_int,tY,sZ,Nat.reduceEqDiff,Nat.reduceAdd,↓reduceIte]
 refine ⟨by omega,?_⟩
 generalize hv:o.args++[o.C3]=vs
 have rN:vs.length≤9:=by rw [← hv];simp;omega
 have hk:jX o=⟨((o.name++⟨#[40]⟩:ByteArray).data.toList++vs.map Kx).toArray⟩:=by rw [jX,Hi,hv]
 rw [hk]
 generalize (o.name++⟨#[40]⟩:ByteArray).data.toList=nm at *
 refine aD vs.length (fun _=>True)
  (fun i=>[(3,.al 1 (bp (nm++(vs.take i).map Kx))),(16,.al 1 (ints vs)),(17,.int .i64 vs.length),(18,.int .i64 i)]) (fun _=>H) ⟨trivial,aE (by simp) rfl⟩ fun i hi hI=>?_
 simp +contextual only [sZ,Nat.reduceEqDiff,↓reduceIte,reduceCtorEq]
 refine ⟨fun aS=>⟨bN aS,?_⟩,fun jw=>?_⟩
 ·have aS:=bN aS
  simp +contextual only [VZ,nC,ok_int,Hj,Ky,sZ,Nat.reduceEqDiff,Nat.reduceAdd,↓reduceIte]
  refine ⟨by simp;omega,i + 1,aS,by omega,aE ?_ rfl⟩
  rw [au i (by omega),acN,ab3,← abb]
  simp [aS]
 ·rw [aaw (dh jw)]
  refine VY 0 _ _ ?_
  simp +contextual only [sZ]
  exact a8 rfl rfl
instance:LawfulBEq ByteArray where
 rfl:=by intro a;rw [Bv];simp
 eq_of_beq:=by intro a b h;rw [Bv] at h;exact of_decide_eq_true h
def qG (vs:List ByteArray):List (AV×AV):=vs.map fun v=>(.str v,.bool true)
theorem o9 (n:ByteArray):∀ (vs:List ByteArray) (i:Nat),(n∈vs→∃ j,eG 1 (.str n) (qG vs) i=some (some (j,.bool true)))∧(n∉vs→eG 1 (.str n) (qG vs) i=some none)
 | [],i=>⟨fun h=>(by cases h),fun _=>rfl⟩
 | v::r,i=>by
   have ih:=o9 n r (i + 1)
   simp only [qG,List.map_cons,eG,dk]
   by_cases hv:n=v
   ·subst hv
    simp
   ·simp only [aai,hv,false_or]
    exact ih
theorem sQ (n:ByteArray) (vs:List ByteArray) (φ:AV→Prop):jq (some (.map (qG vs))) 1 (.bool false) (.str n) false φ=φ (.bool (decide (n∈vs))):=by
 have h:=o9 n vs 0
 unfold jq
 by_cases hn:n∈vs
 ·obtain ⟨j,hj⟩:=h.1 hn
  simp [hj,hn,wz]
 ·simp [h.2 hn,hn,dk,a7,bw.a7,wz]
theorem ER {n:ByteArray} {vs:List ByteArray} (hn:n∉vs) (id:Nat) (H:List aa) (K:List aa→Prop):jr (some (.map (qG vs))) 1 id (.str n) (.bool true) H K=K (H.set id (.map (qG (vs++[n])))):=by
 have h:=(o9 n vs 0).2 hn
 unfold jr
 simp only [h]
 simp [dk,L3,B6,Is,qG,a7,bw.a7,wz]
def lX:List ByteArray→List ByteArray→Bool
 | [],_=>true
 | s::r,seen=>if nW s=true∧¬ 0≤Nm s∧s∉seen then lX r (seen++[s]) else false
def zG (n:Int):List iP→List ByteArray→Bool
 | [],_=>true
 | o::r,seen=>if o8 o n=true∧jX o∉seen then zG n r (seen++[jX o]) else false
def mJ (s:Sg):Bool:=decide ((s.aY.length:Int)≤64) && decide ((s.ops.length:Int)≤256) && lX s.aY [] && zG s.aY.length s.ops []
theorem pc {l:List ByteArray} {i:Nat} (h:i < l.length) (seen:List ByteArray):lX (l.drop i) seen=if nW (l.getD i default)=true∧¬ 0≤Nm (l.getD i default)∧l.getD i default∉seen then lX (l.drop (i + 1)) (seen++[l.getD i default]) else false:=by
 rw [abr h,lX]
 have e:l.getD i default=l[i]:=by simp [h]
 rw [e]
theorem um {n:Int} {l:List iP} {i:Nat} (h:i < l.length) (seen:List ByteArray):zG n (l.drop i) seen=if o8 (l.getD i default) n=true∧jX (l.getD i default)∉seen then zG n (l.drop (i + 1)) (seen++[jX (l.getD i default)]) else false:=by
 rw [abr h,zG]
 have e:l.getD i default=l[i]:=by simp [h]
 rw [e]
theorem Hk {o:iP} {n:Int} (h:o8 o n=true):o.name.size≤32∧o.args.length≤8∧Hh n o.C3=true∧∀ a∈o.args,Hh n a=true:=by
 simp only [o8,nW,Ot,abG,decide_eq_false_iff_not,decide_eq_true_eq] at h
 obtain ⟨⟨⟨_,h1⟩,_⟩,_,_,h2,h3,h4⟩:=h
 refine ⟨by omega,by omega,h3,fun a ha=>?_⟩
 cases hx:Hh n a with
 | true=>rfl
 | false=>
   rw [aca] at h4
   exact absurd (List.any_eq_true.2 ⟨a,ha,by rw [hx];rfl⟩) h4
theorem c81 (s:Sg):Pure Tryz.prog 81 [s.av] (.int .i64 (if mJ s=true then 0 else 40)):=by
 refine fun H=>XK.calls rfl ?_
 simp only [TW,XJ]
 have bad:∀ {G:List aa} {e:Bool},e=false→G.take H.length=H→mJ s=e→bV H.length [RX.t 2] [(2,AV.int IntKind.i64 40)] G fun r H'=>r=AV.int IntKind.i64 (if mJ s=true then 0 else 40)∧H'=H:=by
  intro G e he hG hc
  rw [hc,he]
  exact QU hG rfl rfl ⟨rfl,rfl⟩
 simp +contextual only [aF,sZ,Nat.reduceEqDiff,Nat.reduceAdd,↓reduceIte,reduceCtorEq]
 refine fun _=>⟨fun h1 _=>⟨fun h2=>?_,fun h2=>?_⟩,fun h1=>?_⟩
 ·have h2':¬ (s.ops.length:Int)≤256:=by omega
  exact bad rfl (by simp) (by rw [mJ,decide_eq_false h2'];simp)
 ·refine aJ s.aY.length (fun i (seen:List ByteArray)=>lX (s.aY.drop i) seen=lX s.aY [])
   (fun i seen=>[(1,.ai s.av),(3,.map H.length),(21,.al 0 (strs s.aY)),(22,.int .i64 s.aY.length),(23,.int .i64 i)]) (fun i seen=>H++[.map (qG seen)]) [] ⟨rfl,aB _ _ _⟩ fun i seen hi hI=>?_
  simp +contextual only [aF,sZ,Nat.reduceEqDiff,Nat.reduceAdd,↓reduceIte]
  refine ⟨fun aS=>⟨bN aS,?_⟩,fun jw=>?_⟩
  ·have aS:=bN aS
   rw [pc aS] at hI
   generalize s.aY.getD i default=x at *
   refine ae (aaa x) ?_
   cases hn:nW x with
   | false=>
     rw [hn,if_neg (by simp)] at hI
     simp +contextual only [sZ,Nat.reduceEqDiff,↓reduceIte,reduceCtorEq]
     exact bad rfl (by simp) (by simp [mJ,← hI])
   | true=>
     rw [hn] at hI
     simp +contextual only [sZ,Nat.reduceEqDiff,Nat.reduceAdd,↓reduceIte]
     refine ae (adP x) ?_
     by_cases hu:0≤Nm x
     ·rw [if_neg (fun h=>h.2.1 hu)] at hI
      simp +contextual only [hu,sZ,Nat.reduceEqDiff,↓reduceIte,reduceCtorEq]
      exact bad rfl (by simp) (by simp [mJ,← hI])
     ·by_cases hm:x∈seen
      ·rw [if_neg (fun h=>h.2.2 hm)] at hI
       simp +contextual only [hu,sQ,hm,sZ,Nat.reduceEqDiff,↓reduceIte,reduceCtorEq]
       exact bad rfl (by simp) (by simp [mJ,← hI])
      ·rw [if_pos ⟨rfl,hu,hm⟩] at hI
       simp +contextual only [hu,sQ,hm,ER hm,sZ,Nat.reduceEqDiff,↓reduceIte]
       exact ⟨i + 1,seen++[x],⟨aS,hI⟩,by omega,aE (by rw [au i (by omega)]) rfl⟩
  ·have hs:lX s.aY []=true:=by
    rw [← hI,abu (dh jw)];rfl
   have hc:mJ s=zG s.aY.length s.ops []:=by simp [mJ,h1,h2,hs]
   clear hI
   simp +contextual only [sZ]
   refine fun _=>aJ s.ops.length (fun i (seen2:List ByteArray)=>zG s.aY.length (s.ops.drop i) seen2=zG s.aY.length s.ops [])
    (fun i seen2=>[(1,.ai s.av),(6,.map (H.length + 1)),(44,.al 0 (qg s.ops)),(45,.int .i64 s.ops.length),(46,.int .i64 i)]) (fun i seen2=>H++[.map (qG seen),.map (qG seen2)]) [] ⟨rfl,aB _ _ _⟩ fun i seen2 hi hI=>?_
   simp +contextual only [aF,sZ,Nat.reduceEqDiff,Nat.reduceAdd,↓reduceIte,reduceCtorEq]
   refine ⟨fun aS=>⟨bN aS,?_⟩,fun jw=>?_⟩
   ·have aS:=bN aS
    rw [um aS] at hI
    generalize s.ops.getD i default=x at *
    refine fun _=>ae (adU x _) ?_
    cases hg:o8 x s.aY.length with
    | false=>
      rw [hg,if_neg (by simp)] at hI
      simp +contextual only [sZ,Nat.reduceEqDiff,↓reduceIte,reduceCtorEq]
      exact bad rfl (by simp) (by rw [hc,← hI])
    | true=>
      rw [hg] at hI
      have hsm:=Hk hg
      simp +contextual only [aF,sZ,Nat.reduceEqDiff,Nat.reduceAdd,↓reduceIte]
      refine ae (aae x hsm.1 hsm.2.1) ?_
      by_cases hm:jX x∈seen2
      ·rw [if_neg (fun h=>h.2 hm)] at hI
       simp +contextual only [sQ,hm,sZ,Nat.reduceEqDiff,↓reduceIte,reduceCtorEq]
       exact bad rfl (by simp) (by rw [hc,← hI])
      ·rw [if_pos ⟨rfl,hm⟩] at hI
       simp +contextual only [aF,sQ,hm,sZ,Nat.reduceEqDiff,Nat.reduceAdd,↓reduceIte]
       refine ae (aae x hsm.1 hsm.2.1) ?_
       simp +contextual only [ER hm,sZ,Nat.reduceEqDiff,↓reduceIte]
       exact ⟨i + 1,seen2++[jX x],⟨aS,hI⟩,by omega,aE (by rw [au i (by omega)]) rfl⟩
   ·rw [abu (dh jw)] at hI
    exact QU (by simp) rfl rfl ⟨by rw [hc,← hI];rfl,rfl⟩
 ·have h1':¬ (s.aY.length:Int)≤64:=by omega
  exact bad rfl (by simp) (by rw [mJ,decide_eq_false h1'];simp)
end Go.aK
end
section
set_option maxRecDepth 100000
namespace Go.aK
open Go Go.Proofs Go.eI
def jc (w:List (Int×Int)):List (AV×AV):=w.map fun p=>(.int .i64 p.1,.int .i64 p.2)
theorem Hl (n:Int):∀ (w:List (Int×Int)) (i:Nat),(∃ j s,w[j]?=some (n,s)∧eG 0 (.int .i64 n) (jc w) i=some (some (i + j,.int .i64 s)))∨((∀ p∈w,p.1≠n)∧eG 0 (.int .i64 n) (jc w) i=some none)
 | [],i=>.inr ⟨(fun p h=>by cases h),rfl⟩
 | (a,b)::r,i=>by
   have ih:=Hl n r (i + 1)
   simp only [jc,List.map_cons,eG,dk,if_true]
   by_cases h:n=a
   ·subst h
    exact .inl ⟨0,b,rfl,by simp⟩
   ·simp only [decide_eq_false h]
    rcases ih with ⟨j,s,h1,h2⟩ | ⟨h1,h2⟩
    ·exact .inl ⟨j + 1,s,h1,by rw [show i + (j + 1)=i + 1 + j by omega];exact h2⟩
    ·refine .inr ⟨fun p hp=>?_,h2⟩
     rcases aai.1 hp with rfl | hp
     ·exact fun e=>h e.symm
     ·exact h1 p hp
theorem lkW {n:Int} {w:List (Int×Int)} {φ:AV→Prop} (h1:∀ s,(n,s)∈w→φ (.tuple [.int .i64 s,.bool true])) (h2:(∀ p∈w,p.1≠n)→φ (.tuple [.int .i64 0,.bool false])):jq (some (.map (jc w))) 0 (.int .i64 0) (.int .i64 n) true φ:=by
 unfold jq
 rcases Hl n w 0 with ⟨j,s,h3,h4⟩ | ⟨h3,h4⟩
 ·simp only [h4];exact h1 s (abE h3)
 ·simp only [h4];exact ⟨by simp [dk],h2 h3⟩
theorem msW {n s:Int} {w:List (Int×Int)} {id:Nat} {H:List aa} {K:List aa→Prop} (h:∀ w',(∀ p∈w',p∈w∨p=(n,s))→(∀ p∈w,∃ q∈w',q.1=p.1)→(n,s)∈w'→K (H.set id (.map (jc w')))):jr (some (.map (jc w))) 0 id (.int .i64 n) (.int .i64 s) H K:=by
 unfold jr
 refine ⟨rfl,rfl,rfl,?_⟩
 have ec:a7 (.int .i64 s)=.int .i64 s:=rfl
 rcases Hl n w 0 with ⟨j,x,h3,h4⟩ | ⟨h3,h4⟩
 ·simp only [h4,ec,abM]
  have e:(jc w).set j (.int .i64 n,.int .i64 s)=jc (w.set j (n,s)):=by simp [jc,adJ]
  rw [e]
  have hj:=(aaJ.1 h3).1
  refine h _ (fun p hp=>ab7 hp) (fun p hp=>?_) (aeh.2 ⟨j,by rw [yS hj]⟩)
  obtain ⟨m,hm⟩:=aeh.1 hp
  by_cases e:j=m
  ·subst e
   rw [h3] at hm;cases hm
   exact ⟨(n,s),aeh.2 ⟨j,by rw [yS hj]⟩,rfl⟩
  ·exact ⟨p,aeh.2 ⟨m,by rw [yQ e];exact hm⟩,rfl⟩
 ·simp only [h4,ec]
  refine ⟨by simp [dk],?_⟩
  have e:jc w++[(AV.int .i64 n,AV.int .i64 s)]=jc (w++[(n,s)]):=by simp [jc]
  rw [e]
  exact h _ (fun p hp=>by simpa using hp) (fun p hp=>⟨p,abJ.2 (.inl hp),rfl⟩) (by simp)
structure Rg (ps ss:List Int) (i:Nat):Prop where
 RY:∀ j,j < i→0≤ps.getD j 0∧ps.getD j 0≤255∧1≤ss.getD j 0∧ss.getD j 0≤3
 st:∀ j k,j < i→k < i→ps.getD j 0=ps.getD k 0→ss.getD j 0=ss.getD k 0
def iq (s:Sg) (ps ss:List Int):Prop:=ps.length=s.ops.length∧ss.length=s.ops.length∧Rg ps ss ps.length
theorem iq.va {s:Sg} {ps ss:List Int} (h:iq s ps ss):Va ps ss:=⟨by rw [h.2.1,h.1],h.2.2.st⟩
open Classical in
noncomputable def jF (s:Sg) (ps ss:List Int):Int:=if mJ s=true then (if iq s ps ss then 0 else 60) else 40
theorem sR (ps ss:List Int) (φ:AV→Prop):ap 0 none (.ai (dV ps ss)) φ=φ (.ai (.al 0 (ints ps))):=by simp [ap,apart,dV,AV.cells,AV.one]
theorem qh (ps ss:List Int) (φ:AV→Prop):ap 1 none (.ai (dV ps ss)) φ=φ (.ai (.al 0 (ints ss))):=by simp [ap,apart,dV,AV.cells,AV.one]
theorem aQ (ps ss:List Int):(dV ps ss).val=true∧(dV ps ss).cells.length=2∧(dV ps ss).cells.all AV.one=true∧(dV ps ss).ab=dV ps ss∧(dV ps ss).drop=dV ps ss∧∀ n,(dV ps ss).bc n=true:=
 ⟨rfl,rfl,rfl,rfl,rfl,fun n=>by simp [dV,tT,bP,c9,bW,bf]⟩
theorem bm (ps ss:List Int) (H:List aa) (φ:AV→Prop):aV (some 2) (.ai (dV ps ss)) H φ=φ (dV ps ss):=Ra _ _ _ _
theorem c24 (s:Sg) (ps ss:List Int):Pure Tryz.prog 24 [s.av,dV ps ss] (.int .i64 (jF s ps ss)):=by
 refine fun H=>k24.2.calls rfl ?_
 simp only [k24,aG]
 obtain ⟨q1,q2,q3,q4,q5,q6⟩:=aQ ps ss
 simp +contextual only [aF,q1,sZ,Nat.reduceEqDiff,Nat.reduceAdd,↓reduceIte,reduceCtorEq]
 refine ae (c81 s) ?_
 cases hs:mJ s with
 | false=>
   have e:jF s ps ss=40:=by rw [jF,if_neg (by rw [hs];simp)]
   rw [e]
   simp +contextual only [abO,sZ,Nat.reduceEqDiff,↓reduceIte,reduceCtorEq,Int.reduceEq]
   exact a8 rfl rfl
 | true=>
   simp +contextual only [aF,sR,qh,aw,sZ,Nat.reduceEqDiff,↓reduceIte,reduceCtorEq]
   have bad:¬ iq s ps ss→jF s ps ss=60:=fun h=>by rw [jF,if_pos hs,if_neg h]
   have V0:iq s ps ss→jF s ps ss=0:=fun h=>by rw [jF,if_pos hs,if_pos h]
   have ret60:∀ (X:List aa),¬ iq s ps ss→bV H.length [.t 4] [(4,.int .i64 60)] (H++X) fun r H'=>r=.int .i64 (jF s ps ss)∧H'=H:=fun X h=>by rw [bad h];exact MO rfl rfl
   have ret60':¬ iq s ps ss→bV H.length [.t 4] [(4,.int .i64 60)] H fun r H'=>r=.int .i64 (jF s ps ss)∧H'=H:=fun h=>by rw [bad h];exact a8 rfl rfl
   refine fun _ _=>⟨fun hl=>?_,fun hl=>?_⟩
   rotate_left
   ·first | exact ret60' fun h=>hl (by omega) | (refine ret60' fun h=>?_;have:=h.1;omega)
   refine fun _=>⟨fun pr=>ret60' fun h=>pr (by have:=h.2.1;omega),fun pr=>?_⟩
   have g0:∀ w,(H++[aa.map (jc w)])[H.length]?=some (.map (jc w)):=fun w=>by simp
   have gs:∀ w w',(H++[aa.map (jc w)]).set H.length (.map (jc w'))=H++[.map (jc w')]:=fun w w'=>by simp
   refine aJ ps.length (fun i (w:List (Int×Int))=>Rg ps ss i∧(∀ p∈w,∃ j,j < i∧ps.getD j 0=p.1∧ss.getD j 0=p.2)∧∀ j,j < i→∃ p∈w,p.1=ps.getD j 0)
    (fun i w=>[(3,.ai (dV ps ss)),(6,.map H.length),(35,.al 0 (ints ps)),(36,.int .i64 s.ops.length),(37,.int .i64 i)]) (fun i w=>H++[.map (jc w)]) []
    ⟨⟨⟨fun j h=>by omega,fun j k h=>by omega⟩,(fun p h=>by cases h),fun j h=>by omega⟩,aB _ _ _⟩ fun i w hi hI=>?_
   ·obtain ⟨hu,hw1,hw2⟩:=hI
    have nbad:∀ j,j < ps.length→¬ (0≤ps.getD j 0∧ps.getD j 0≤255∧1≤ss.getD j 0∧ss.getD j 0≤3)→¬ iq s ps ss:=fun j hj h h'=>h (h'.2.2.RY j hj)
    by_cases OL:(i:Int) < s.ops.length
    ·have V1:i < ps.length:=by omega
     simp +contextual only [qh,aM,yP,g0,OL,decide_true,sZ,Nat.reduceEqDiff,↓reduceIte]
     generalize hp:ps.getD i 0=p
     generalize hq:ss.getD i 0=q
     refine ⟨by omega,⟨by omega,by omega⟩,?_⟩
     by_cases r1:p < 0
     ·refine lkW (fun o _=>?_) (fun _=>?_)
      all_goals
       simp +contextual only [r1,decide_true,sZ,Nat.reduceEqDiff,Nat.reduceAdd,Nat.reduceLT,↓reduceIte,reduceCtorEq]
       exact ret60 _ (nbad i V1 (by rw [hp];omega))
     ·by_cases r2:255 < p
      ·refine lkW (fun o _=>?_) (fun _=>?_)
       all_goals
        simp +contextual only [r1,r2,decide_true,decide_false,sZ,Nat.reduceEqDiff,Nat.reduceAdd,Nat.reduceLT,↓reduceIte,reduceCtorEq]
        exact ret60 _ (nbad i V1 (by rw [hp];omega))
      ·by_cases r3:q < 1
       ·refine lkW (fun o _=>?_) (fun _=>?_)
        all_goals
         simp +contextual only [r1,r2,r3,decide_true,decide_false,sZ,Nat.reduceEqDiff,Nat.reduceAdd,Nat.reduceLT,↓reduceIte,reduceCtorEq]
         exact ret60 _ (nbad i V1 (by rw [hq];omega))
       ·by_cases r4:3 < q
        ·refine lkW (fun o _=>?_) (fun _=>?_)
         all_goals
          simp +contextual only [r1,r2,r3,r4,decide_true,decide_false,sZ,Nat.reduceEqDiff,Nat.reduceAdd,Nat.reduceLT,↓reduceIte,reduceCtorEq]
          exact ret60 _ (nbad i V1 (by rw [hq];omega))
        ·have adZ:0≤p∧p≤255∧1≤q∧q≤3:=⟨by omega,by omega,by omega,by omega⟩
         have next:(∀ j,j < i→ps.getD j 0=p→ss.getD j 0=q)→∀ w':List (Int×Int),(∀ x∈w',x∈w∨x=(p,q))→(∀ x∈w,∃ y∈w',y.1=x.1)→(p,q)∈w'→Rg ps ss (i + 1)∧(∀ x∈w',∃ j,j < i + 1∧ps.getD j 0=x.1∧ss.getD j 0=x.2)∧∀ j,j < i + 1→∃ x∈w',x.1=ps.getD j 0:=by
          intro hsame w' m1 m2 m3
          refine ⟨⟨fun j hj=>?_,fun j k hj hk he=>?_⟩,fun x hx=>?_,fun j hj=>?_⟩
          ·by_cases e:j=i
           ·subst e;rw [hp,hq];exact adZ
           ·exact hu.RY j (by omega)
          ·by_cases e:j=i
           ·by_cases e':k=i
            ·rw [e,e']
            ·subst e;rw [hp] at he;rw [hq];exact (hsame k (by omega) he.symm).symm
           ·by_cases e':k=i
            ·subst e';rw [hp] at he;rw [hq];exact hsame j (by omega) he
            ·exact hu.st j k (by omega) (by omega) he
          ·rcases m1 x hx with h | rfl
           ·obtain ⟨j,h1,h2,h3⟩:=hw1 x h;exact ⟨j,by omega,h2,h3⟩
           ·exact ⟨i,by omega,hp,hq⟩
          ·by_cases e:j=i
           ·subst e;rw [hp];exact ⟨_,m3,rfl⟩
           ·obtain ⟨x,h1,h2⟩:=hw2 j (by omega)
            obtain ⟨y,h3,h4⟩:=m2 x h1
            exact ⟨y,h3,h4.trans h2⟩
         refine lkW (fun o ho=>?_) (fun jy=>?_)
         ·obtain ⟨j0,hj1,hj2,hj3⟩:=hw1 _ ho
          simp only at hj2 hj3
          by_cases ZJ:o=q
          ·subst ZJ
           have d0:decide (¬ o=o)=false:=by simp
           simp +contextual only [r1,r2,r3,r4,decide_false,g0,sZ,Nat.reduceEqDiff,Nat.reduceAdd,Nat.reduceLT,↓reduceIte]
           refine msW fun w' m1 m2 m3=>?_
           simp +contextual only [gs,sZ,Nat.reduceEqDiff,↓reduceIte]
           refine ⟨i + 1,w',⟨V1,next (fun j hj he=>?_) w' m1 m2 m3⟩,by omega,aE (by rw [au i (by omega)]) rfl⟩
           rw [hu.st j j0 hj hj1 (he.trans hj2.symm),hj3]
          ·have d0:decide (¬ o=q)=true:=by simp [ZJ]
           simp +contextual only [r1,r2,r3,r4,decide_false,d0,sZ,Nat.reduceEqDiff,Nat.reduceAdd,Nat.reduceLT,↓reduceIte,reduceCtorEq]
           exact ret60 _ fun h=>ZJ (by rw [← hj3,← hq];exact h.2.2.st j0 i (by omega) V1 (hj2.trans hp.symm))
         ·simp +contextual only [r1,r2,r3,r4,decide_false,g0,sZ,Nat.reduceEqDiff,Nat.reduceAdd,Nat.reduceLT,↓reduceIte]
          refine msW fun w' m1 m2 m3=>?_
          simp +contextual only [gs,sZ,Nat.reduceEqDiff,↓reduceIte]
          refine ⟨i + 1,w',⟨V1,next (fun j hj he=>?_) w' m1 m2 m3⟩,by omega,aE (by rw [au i (by omega)]) rfl⟩
          obtain ⟨x,h1,h2⟩:=hw2 j hj
          exact absurd (h2.trans he) (jy x h1)
    ·have hii:i=ps.length:=by omega
     subst hii
     rw [V0 ⟨by omega,by omega,hu⟩]
     simp +contextual only [OL,decide_false,sZ,Nat.reduceEqDiff,↓reduceIte,reduceCtorEq]
     exact MO rfl rfl
end Go.aK
end
section
set_option maxRecDepth 100000
namespace Go.aK
open Go Go.Proofs Go.eI
theorem aag (g:Nat) (cc:List AV) (cp:cc.map AV.ab=cc) (p:T→Bool) (l:List T) (hf:∀ x∈l,Pure Tryz.prog g ([x.av]++cc) (.bool (p x))) :
 Pure Tryz.prog 114 [.al 0 (cJ l),.fn (.func g) [] cc] (.int .i64 (ua p l 0)):=by
 refine fun H=>DW.2.calls rfl ?_
 simp only [DW,aG]
 simp +contextual only [sZ,Nat.reduceEqDiff,Nat.reduceAdd,↓reduceIte,reduceCtorEq]
 intro hl
 refine aD l.length (fun i=>ua p (l.drop i) i=ua p l 0) (fun i=>[(0,.al 0 (cJ l)),(1,.fn (.func g) [] cc),(7,.int .i64 l.length),(8,.int .i64 i)]) (fun _=>H) ⟨rfl,aB _ _ _⟩ fun i hi hI=>?_
 simp +contextual only [cp,sZ,Nat.reduceEqDiff,Nat.reduceAdd,↓reduceIte,reduceCtorEq]
 refine ⟨fun aS=>?_,fun jw=>?_⟩
 ·have aS:=bN aS
  rw [AA aS] at hI
  refine ⟨aS,ae (hf _ (fa aS)) ?_⟩
  cases hb:p (l.getD i default) with
  | true=>
    rw [if_pos hb] at hI
    simp +contextual only [sZ,Nat.reduceEqDiff,↓reduceIte,reduceCtorEq]
    exact a8 rfl (by rw [← hI])
  | false=>
    rw [if_neg (by rw [hb];simp)] at hI
    simp +contextual only [sZ,Nat.reduceEqDiff,↓reduceIte,reduceCtorEq]
    exact ⟨i + 1,⟨aS,hI⟩,by omega,aE (by rw [au i (by omega)]) rfl⟩
 ·rw [abu (dh jw)] at hI
  exact a8 rfl (by rw [← hI];rfl)
theorem aah (g:Nat) (cc:List AV) (cp:cc.map AV.ab=cc) (p:T→Bool) (l:List T) (hf:∀ x∈l,Pure Tryz.prog g ([x.av]++cc) (.bool (p x))) :
 Pure Tryz.prog 53 [.al 0 (cJ l),.fn (.func g) [] cc] (.bool (l.any p)):=by
 refine fun H=>Sd.2.calls rfl ?_
 simp only [Sd,aG]
 simp +contextual only [sZ,Nat.reduceEqDiff,Nat.reduceAdd,↓reduceIte,reduceCtorEq]
 refine ae (aag g cc cp p l hf) ?_
 simp +contextual only [sZ,↓reduceIte,reduceCtorEq]
 exact a8 rfl (by rw [xS p l 0 (by omega)])
theorem ad2 (x:T):Pure Tryz.prog 130 [x.av] (.int .i64 (if x.tree=true then 0 else 4)):=by
 refine fun H=>Pt.2.calls rfl ?_
 simp only [Pt,aG]
 simp +contextual only [sZ,Nat.reduceEqDiff,Nat.reduceAdd,↓reduceIte]
 refine ae (ZG x) ?_
 cases h:x.tree with
 | true=>simp +contextual only [Bool.not_true,sZ,↓reduceIte,reduceCtorEq];exact a8 rfl rfl
 | false=>simp +contextual only [Bool.not_false,sZ,↓reduceIte,reduceCtorEq];exact a8 rfl rfl
mutual
def ri (s:Sg):T→Bool
 | .mk k n l=>!(decide (k=2) && (decide ((s.ops.length:Int)≤n) || !decide ((l.length:Int)=((s.ops.getD n.toNat default).args.length:Nat)))) && ovL s l
def ovL (s:Sg):List T→Bool
 | []=>true
 | x::r=>ri s x && ovL s r
end
theorem wF (s:Sg):∀ l,ovL s l=!(l.any fun x=>!ri s x)
 | []=>rfl
 | x::r=>by rw [ovL,wF s r,af0];cases ri s x <;> simp
theorem ad3 (s:Sg):∀ t:T,t.shaped=true→Pure Tryz.prog 131 [s.av,t.av] (.bool (ri s t)):=by
 suffices h:∀ N t,wt t≤N→t.shaped=true→Pure Tryz.prog 131 [s.av,t.av] (.bool (ri s t)) from fun t ht=>h _ t (rC _) ht
 intro N
 induction N with
 | zero=>intro t h;have:=dH t;omega
 | succ N ih=>
 intro t hN hs H
 have hk:=fL hs
 have c182:∀ x∈t.l,Pure Tryz.prog 182 ([x.av]++[.ai s.av]) (.bool (!ri s x)):=by
  intro x hx H
  refine Yz.2.calls rfl ?_
  simp only [Yz,aG]
  simp +contextual only [aF,sZ,Nat.reduceEqDiff,Nat.reduceAdd,↓reduceIte,reduceCtorEq]
  refine ae (ih x (by have:=cR hx;omega) (hk.2 x hx)) ?_
  simp +contextual only [sZ,↓reduceIte,reduceCtorEq]
  exact a8 rfl rfl
 have hn:0≤t.n:=by
  rw [T.dU] at hs
  simp only [Ot,abG,ab1,decide_eq_false_iff_not] at hs
  have:=hs.1.1.1.1
  omega
 obtain ⟨m,hm⟩:=abV hn
 refine X1.2.calls rfl ?_
 simp only [X1,aG]
 have e:ri s t=(!(decide (t.k=2) && (decide ((s.ops.length:Int)≤t.n) || !decide ((t.l.length:Int)=((s.ops.getD t.n.toNat default).args.length:Nat)))) && !(t.l.any fun x=>!ri s x)):=by
  rw [← wF];cases t;rfl
 have fin:(!(decide (t.k=2) && (decide ((s.ops.length:Int)≤t.n) || !decide ((t.l.length:Int)=((s.ops.getD t.n.toNat default).args.length:Nat)))))=false→bV H.length [.t 4] [(4,.bool false)] H fun r H'=>r=.bool (ri s t)∧H'=H:=by
  intro h
  rw [e,h];exact a8 rfl rfl
 by_cases h2:t.k=2
 ·by_cases h3:(s.ops.length:Int)≤t.n
  ·simp +contextual only [aF,h2,h3,decide_true,sZ,Nat.reduceEqDiff,Nat.reduceAdd,↓reduceIte,reduceCtorEq]
   exact fin (by simp [h2,h3])
  ·have hml:m < s.ops.length:=by omega
   have WQ:¬ (s.ops.length:Int)≤(m:Int):=by omega
   have em:t.n.toNat=m:=by omega
   by_cases h4:(t.l.length:Int)=((s.ops.getD m default).args.length:Nat)
   ·simp +contextual only [aF,h2,WQ,h4,hm,hml,aw,decide_true,decide_false,sZ,Nat.reduceEqDiff,Nat.reduceAdd,↓reduceIte,reduceCtorEq]
    refine ae (aah 182 [.ai s.av] rfl _ t.l c182) ?_
    simp +contextual only [sZ,↓reduceIte,reduceCtorEq]
    refine a8 rfl ?_
    rw [e,em,h4]
    simp [h2,h3]
   ·simp +contextual only [aF,h2,WQ,h4,hm,hml,aw,decide_true,decide_false,sZ,Nat.reduceEqDiff,Nat.reduceAdd,↓reduceIte,reduceCtorEq]
    exact fin (by rw [em,decide_eq_true h2,decide_eq_false h3,decide_eq_false h4];rfl)
 ·simp +contextual only [aF,h2,decide_false,sZ,Nat.reduceEqDiff,Nat.reduceAdd,↓reduceIte,reduceCtorEq]
  refine ae (aah 182 [.ai s.av] rfl _ t.l c182) ?_
  simp +contextual only [sZ,↓reduceIte,reduceCtorEq]
  refine a8 rfl ?_
  rw [e]
  simp [h2]
noncomputable def ft (s:Sg) (ps ss:List Int) (l:List T):Int:=if jF s ps ss=0 then (if (l.all fun t=>t.tree && ri s t)=true then 0 else 4) else jF s ps ss
theorem AR {p:T→Bool} {l:List T} {i:Nat} (h:i < l.length):(l.drop i).all p=(p (l.getD i default) && (l.drop (i + 1)).all p):=by
 have e:l.getD i default=l[i]:=by simp [h]
 rw [abr h,List.all_cons,e]
theorem c74 (s:Sg) (ps ss:List Int) (l:List T):Pure Tryz.prog 74 [s.av,dV ps ss,.al 0 (cJ l)] (.int .i64 (ft s ps ss l)):=by
 refine fun H=>k74.2.calls rfl ?_
 simp only [k74,aG]
 obtain ⟨q1,q2,q3,q4,q5,q6⟩:=aQ ps ss
 simp +contextual only [aF,q1,q4,bm,sZ,Nat.reduceEqDiff,Nat.reduceAdd,↓reduceIte,reduceCtorEq]
 refine ae (c24 s ps ss) ?_
 by_cases h0:jF s ps ss=0
 ·simp +contextual only [h0,sZ,Nat.reduceEqDiff,↓reduceIte]
  intro _
  refine aD l.length (fun i=>l.all (fun t=>t.tree && ri s t)=(l.drop i).all fun t=>t.tree && ri s t) (fun i=>[(3,.ai s.av),(16,.al 0 (cJ l)),(17,.int .i64 l.length),(18,.int .i64 i)]) (fun _=>H) ⟨rfl,aB _ _ _⟩ fun i hi hI=>?_
  by_cases y8:(i:Int) < l.length
  ·have aS:i < l.length:=by omega
   rw [AR aS] at hI
   simp +contextual only [y8,decide_true,sZ,Nat.reduceEqDiff,Nat.reduceAdd,↓reduceIte]
   refine ⟨aS,ae (ad2 _) ?_⟩
   cases ht:(l.getD i default).tree with
   | false=>
     rw [ht,afV,afV] at hI
     simp +contextual only [sZ,Nat.reduceEqDiff,↓reduceIte,reduceCtorEq,Int.reduceEq]
     refine a8 rfl ?_
     rw [ft,if_pos h0,hI,if_neg (by simp)]
   | true=>
     rw [ht,afZ] at hI
     simp +contextual only [aF,sZ,Nat.reduceEqDiff,Nat.reduceAdd,↓reduceIte]
     refine ae (ad3 s _ ((T.fK _).1 ht).2.2) ?_
     cases ho:ri s (l.getD i default) with
     | false=>
       rw [ho,afV] at hI
       simp +contextual only [Bool.not_false,sZ,Nat.reduceEqDiff,↓reduceIte,reduceCtorEq]
       refine a8 rfl ?_
       rw [ft,if_pos h0,hI,if_neg (by simp)]
     | true=>
       rw [ho,afZ] at hI
       simp +contextual only [Bool.not_true,sZ,Nat.reduceEqDiff,↓reduceIte]
       exact ⟨i + 1,⟨aS,hI⟩,by omega,aE (by rw [au i (by omega)]) rfl⟩
  ·simp +contextual only [y8,decide_false,sZ,Nat.reduceEqDiff,↓reduceIte,reduceCtorEq]
   rw [abu (by omega)] at hI
   refine a8 rfl ?_
   rw [ft,if_pos h0,hI];rfl
 ·simp +contextual only [h0,sZ,Nat.reduceEqDiff,↓reduceIte,reduceCtorEq]
  refine a8 rfl ?_
  rw [ft,if_neg h0]
theorem V2 {s:Sg}:∀ t:T,t.shaped=true→ri s t=true→zC (fun n=>0≤n∧n < s.ops.length) t:=by
 suffices h:∀ N t,wt t≤N→t.shaped=true→ri s t=true→zC (fun n=>0≤n∧n < s.ops.length) t from fun t=>h _ t (rC _)
 intro N
 induction N with
 | zero=>intro t h;have:=dH t;omega
 | succ N ih=>
 intro t hN hs ho
 have hn:0≤t.n:=by
  rw [T.dU] at hs
  simp only [Ot,abG,ab1,decide_eq_false_iff_not] at hs
  have:=hs.1.1.1.1
  omega
 have hk:=(fL hs).2
 obtain ⟨k,n,l⟩:=t
 rw [ri,wF] at ho
 simp only [Ot,abG,aef,ab1,decide_eq_false_iff_not,adv,Bool.not_eq_false'] at ho
 refine zC.mk k n l (fun vf=>?_) fun x hx=>ih x (by have:=cR (a:=.mk k n l) hx;omega) (hk x hx) ?_
 ·rcases ho.1 with h | h
  ·exact absurd vf h
  ·exact ⟨hn,by omega⟩
 ·have:=ho.2 x hx
  simpa using this
end Go.aK
end
section
set_option maxRecDepth 100000
namespace Go.aK
open Go Go.Proofs Go.eI
mutual
theorem Nq:∀ t:T,(wt t:Int)=t.sz
 | .mk k n l=>by rw [wt,T.sz];have:=IM l;omega
theorem IM:∀ l:List T,(fM l:Int)=yV l
 | []=>rfl
 | x::r=>by rw [fM,yV];have:=Nq x;have:=IM r;omega
end
theorem lF {l:List T} (h:∀ t∈l,t.tree=true):fM l≤2000 * l.length:=by
 induction l with
 | nil=>simp [fM]
 | cons x r ih=>
   have:=ih fun t ht=>h t (aaF _ ht)
   have h1:=((T.fK x).1 (h x aaW)).1
   have h2:=Nq x
   rw [fM,List.length_cons];omega
structure Rt0 (s:Sg) (ps ss:List Int) (l:List T):Prop where
 ord:iq s ps ss
 tree:∀ t∈l,t.tree=true
 all:∀ t∈l,zC (fun n=>0≤n∧n < ps.length) t
theorem yg {s:Sg} {ps ss:List Int}:jF s ps ss=0↔mJ s=true∧iq s ps ss:=by
 unfold jF
 by_cases h:mJ s=true
 ·by_cases h2:iq s ps ss
  ·rw [if_pos h,if_pos h2];simp [h,h2]
  ·rw [if_pos h,if_neg h2];simp [h2]
 ·rw [if_neg h];simp [h]
theorem pQ {s:Sg} {ps ss:List Int} {l:List T} (h:ft s ps ss l=0):Rt0 s ps ss l:=by
 unfold ft at h
 split at h
 ·rename_i h0
  have h1:=(yg.1 h0).2
  split at h
  ·rename_i h2
   have h3:=abF.1 h2
   refine ⟨h1,fun t ht=>?_,fun t ht=>?_⟩
   ·have:=h3 t ht;simp only [Ot] at this;exact this.1
   ·have:=h3 t ht
    simp only [Ot] at this
    rw [h1.1]
    exact V2 t ((T.fK t).1 this.1).2.2 this.2
  ·cases h
 ·rename_i h0;exact absurd h h0
theorem Rt0.cx {s:Sg} {ps ss:List Int} {l:List T} (h:Rt0 s ps ss l) (dJ:l≠[]) (hl:l.length≤10000) (n:Nat):(iu ps ss l n).Ok:=
 SX h.ord.va dJ (by have:=lF h.tree;omega) h.all n
open Classical in
noncomputable def ES (ps ss:List Int) (a b:T):Bool:=decide (R (b9 ps ss) a b)
open Classical in
noncomputable def SY (ps ss:List Int) (a b:T):Bool:=decide (E (b9 ps ss) a b)
theorem nN {ps ss:List Int} {a b:T}:ES ps ss a b=true↔R (b9 ps ss) a b:=by simp [ES]
theorem lG {ps ss:List Int} {a b:T}:SY ps ss a b=true↔E (b9 ps ss) a b:=by simp [SY]
theorem Rh (a b:T):bu (ba [a,b] 0)=.al 0 (ints (ba [a,b] 0)):=rfl
theorem AS {Hs G:List aa} {n0 a b:Nat} {u v x y:AV} {R:AV→List aa→Prop} (vA:b≠a) (hH:Hs.take n0=G) (hb:x.bc n0=true∧y.bc n0=true) (hx:u.ab=x) (hy:v.ab=y) (hR:R (.tuple [x,y]) G):bV n0 [.t a,.t b] [(a,u),(b,v)] Hs R:=by
 subst hH;subst hx;subst hy
 refine ⟨n0,rC _,[u.ab,v.ab],?_,by simp only [aj,hb.1,hb.2,aco],hR⟩
 simp only [aA,if_neg vA,if_true,List.map]
 exact b8 _
theorem Up.low {c:Cx} {H X G:List aa} (h:Up c (H++X) G) (he:H.length≤c.e) (hg:H.length≤c.g):G.take H.length=H:=by
 apply abU
 intro j
 rw [aax]
 split
 ·rename_i hj
  rw [h.get j (by omega) (by omega),yO hj]
 ·rename_i hj
  rw [abL (by omega)]
theorem c20 (s:Sg) (ps ss:List Int) (a b:T):Pure Tryz.prog 20 [s.av,dV ps ss,a.av,b.av] (.tuple [.bool (if ft s ps ss [a,b]=0 then ES ps ss a b else false),.int .i64 (ft s ps ss [a,b])]):=by
 refine fun H=>k20.2.calls rfl ?_
 simp only [k20,aG]
 obtain ⟨q1,q2,q3,q4,q5,q6⟩:=aQ ps ss
 simp +contextual only [aF,q1,q4,bm,sZ,Nat.reduceEqDiff,Nat.reduceAdd,↓reduceIte,reduceCtorEq]
 refine ae (c74 s ps ss [a,b]) ?_
 by_cases h0:ft s ps ss [a,b]=0
 ·rw [if_pos h0]
  have hr:=pQ h0
  have hw:=lF hr.tree
  have hc:=hr.cx (by simp) (by simp) H.length
  have hd:=AP ps ss (ts:=[a,b]) (by simp) H
  simp +contextual only [q4,bm,h0,sZ,Nat.reduceEqDiff,Nat.reduceAdd,↓reduceIte]
  refine af (ZT ps ss [a,b] H (by simp at hw;omega)) ?_
  rintro r G ⟨rfl,rfl⟩
  have a0:=vC (ps:=ps) (ss:=ss) (ts:=[a,b]) (n:=H.length) (j:=0) (by simp)
  have a1:=vC (ps:=ps) (ss:=ss) (ts:=[a,b]) (n:=H.length) (j:=1) (by simp)
  have hl:=cS [a,b] 0
  rw [Rh]
  generalize ba [a,b] 0=ks at a0 a1 hl ⊢
  have pr:ks.length=2:=hl
  simp +contextual only [aM,pr,dT,sZ,Nat.reduceEqDiff,Nat.reduceAdd,Nat.reduceLT,↓reduceIte,reduceCtorEq]
  refine ⟨by decide,by decide,af (kW hc a0.1 a1.1 _ hd) ?_⟩
  rintro r G ⟨x,rfl,hx,hU,hD⟩
  rw [a0.2,a1.2] at hx
  simp +contextual only [sZ,Nat.reduceEqDiff,↓reduceIte,reduceCtorEq]
  have ex:x=ES ps ss a b:=by rw [abY,nN];exact hx
  rw [ex]
  exact AS (by decide) (hU.low (by simp [iu]) (by simp [iu])) ⟨rfl,rfl⟩ rfl rfl ⟨by rw [h0];rfl,rfl⟩
 ·rw [if_neg h0]
  simp +contextual only [h0,sZ,Nat.reduceEqDiff,↓reduceIte,reduceCtorEq]
  exact AS (by decide) abp ⟨rfl,rfl⟩ rfl rfl ⟨rfl,rfl⟩
theorem c22 (s:Sg) (ps ss:List Int) (a b:T):Pure Tryz.prog 22 [s.av,dV ps ss,a.av,b.av] (.tuple [.bool (if ft s ps ss [a,b]=0 then SY ps ss a b else false),.int .i64 (ft s ps ss [a,b])]):=by
 refine fun H=>k22.2.calls rfl ?_
 simp only [k22,aG]
 obtain ⟨q1,q2,q3,q4,q5,q6⟩:=aQ ps ss
 simp +contextual only [aF,q1,q4,bm,sZ,Nat.reduceEqDiff,Nat.reduceAdd,↓reduceIte,reduceCtorEq]
 refine ae (c74 s ps ss [a,b]) ?_
 by_cases h0:ft s ps ss [a,b]=0
 ·rw [if_pos h0]
  have hr:=pQ h0
  have hw:=lF hr.tree
  have hc:=hr.cx (by simp) (by simp) H.length
  have hd:=AP ps ss (ts:=[a,b]) (by simp) H
  simp +contextual only [q4,bm,h0,sZ,Nat.reduceEqDiff,Nat.reduceAdd,↓reduceIte]
  refine af (ZT ps ss [a,b] H (by simp at hw;omega)) ?_
  rintro r G ⟨rfl,rfl⟩
  have a0:=vC (ps:=ps) (ss:=ss) (ts:=[a,b]) (n:=H.length) (j:=0) (by simp)
  have a1:=vC (ps:=ps) (ss:=ss) (ts:=[a,b]) (n:=H.length) (j:=1) (by simp)
  have hl:=cS [a,b] 0
  rw [Rh]
  generalize ba [a,b] 0=ks at a0 a1 hl ⊢
  have pr:ks.length=2:=hl
  simp +contextual only [aM,pr,dT,sZ,Nat.reduceEqDiff,Nat.reduceAdd,Nat.reduceLT,↓reduceIte,reduceCtorEq]
  refine ⟨by decide,by decide,af (kV hc a0.1 a1.1 _ hd) ?_⟩
  rintro r G ⟨x,rfl,hx,hU,hD⟩
  rw [a0.2,a1.2] at hx
  simp +contextual only [sZ,Nat.reduceEqDiff,↓reduceIte,reduceCtorEq]
  have ex:x=SY ps ss a b:=by rw [abY,lG];exact hx
  rw [ex]
  exact AS (by decide) (hU.low (by simp [iu]) (by simp [iu])) ⟨rfl,rfl⟩ rfl rfl ⟨by rw [h0];rfl,rfl⟩
 ·rw [if_neg h0]
  simp +contextual only [h0,sZ,Nat.reduceEqDiff,↓reduceIte,reduceCtorEq]
  exact AS (by decide) abp ⟨rfl,rfl⟩ rfl rfl ⟨rfl,rfl⟩
end Go.aK
end
section
set_option maxRecDepth 100000
set_option maxHeartbeats 0
namespace Go.aK
open Go Go.Proofs
noncomputable def SZ:=aG Tryz.call163 Tryz.func163 Tryz.ntmps163 [(0,0,1),(0,1,1),(1,4,1),(1,5,1),(4,2,1000),(5,0,1),(5,7,1),(8,6,2000)] [(0,[2,3]),(1,[2,3,5]),(2,[2,5,16,17,18]),(3,[2,5,16,17,18,19]),(4,[2,5,7,16,17,18]),(5,[2,5,16,17,18]),(6,[2,5,16,17,18]),(7,[8,9]),(8,[4])] [(8,(.take 0 true (.take 1 true (.take 2 true (.take 3 true (.take 4 true (.take 5 true (.br 6 (.take 7 true .done) .nil))))))))]
end Go.aK
end
section
set_option maxRecDepth 100000
namespace Go.aK
open Go Go.Proofs Go.eI
structure Cn where
 a:T
 b:T
deriving Inhabited
def Cn.av (c:Cn):AV:=.agg [.int .i64 c.a.k,.int .i64 c.a.n,.al 0 (cJ c.a.l),.int .i64 c.b.k,.int .i64 c.b.n,.al 0 (cJ c.b.l)]
def zH (l:List Cn):List AV:=l.map Cn.av
structure ot where
 vs:List Int
 cs:List Cn
 a:T
 b:T
deriving Inhabited
def ot.av (e:ot):AV:=.agg [.al 0 (ints e.vs),.al 0 (zH e.cs),.int .i64 e.a.k,.int .i64 e.a.n,.al 0 (cJ e.a.l),.int .i64 e.b.k,.int .i64 e.b.n,.al 0 (cJ e.b.l)]
def ot.rest (e:ot):List T:=e.b::e.cs.flatMap fun c=>[c.a,c.b]
theorem ET (l:List Cn):(zH l).length=l.length:=by simp [zH]
theorem Nr (n:Nat) (l:List Cn):aj n (zH l)=true:=by
 rw [a9];intro x hx;obtain ⟨y,_,rfl⟩:=aal.1 hx
 simp [Cn.av,AV.bc,aj,dq]
theorem ot.facts (e:ot):e.av.val=true∧e.av.cells.length=8∧e.av.cells.all AV.one=true∧e.av.ab=e.av∧e.av.drop=e.av∧∀ n,e.av.bc n=true:=
 ⟨rfl,rfl,rfl,rfl,rfl,fun n=>by simp [ot.av,AV.bc,aj,dq,bf,Nr]⟩
theorem Cn.facts (e:Cn):e.av.val=true∧e.av.cells.length=6∧e.av.cells.all AV.one=true∧e.av.ab=e.av∧e.av.drop=e.av∧∀ n,e.av.bc n=true:=
 ⟨rfl,rfl,rfl,rfl,rfl,fun n=>by simp [Cn.av,AV.bc,aj,dq]⟩
theorem T.Cy (t:T):AV.agg [.int .i64 t.k,.int .i64 t.n,.al 0 (cJ t.l)]=t.av:=by cases t;rfl
theorem feA (e:ot) (φ:AV→Prop):ap 2 (some 3) (.ai e.av) φ=φ (.ai e.a.av):=by simp [ap,apart,ot.av,AV.cells,← T.Cy]
theorem feB (e:ot) (φ:AV→Prop):ap 5 (some 3) (.ai e.av) φ=φ (.ai e.b.av):=by simp [ap,apart,ot.av,AV.cells,← T.Cy]
theorem feC (e:ot) (φ:AV→Prop):ap 1 none (.ai e.av) φ=φ (.ai (.al 0 (zH e.cs))):=by simp [ap,apart,ot.av,AV.cells,AV.one]
theorem fcA (e:Cn) (φ:AV→Prop):ap 0 (some 3) (.ai e.av) φ=φ (.ai e.a.av):=by simp [ap,apart,Cn.av,AV.cells,← T.Cy]
theorem fcB (e:Cn) (φ:AV→Prop):ap 3 (some 3) (.ai e.av) φ=φ (.ai e.b.av):=by simp [ap,apart,Cn.av,AV.cells,← T.Cy]
theorem Ri (o:Nat) (l:List Cn):(∀ (own:Nat) (xs:List AV),AV.al o (zH l)=AV.al own xs→∀ z∈xs,z.cells.length=6)=True:=by
 simp only [eq_iff_iff,iff_true]
 intro own xs e z hz
 cases e
 obtain ⟨y,_,rfl⟩:=aal.1 hz;rfl
theorem V3 (e o:Nat) (l:List Cn) (k:IntKind) (i:Nat) (φ:AV→Prop):aC e (.al o (zH l)) (.int k (i:Int)) φ=(i < l.length∧φ (.ai (l.getD i default).av)):=by
 simp only [aC,ET,yP,eq_iff_iff]
 constructor
 ·rintro ⟨_,h,h2⟩;refine ⟨h,?_⟩;simpa [zH,h] using h2
 ·rintro ⟨h,h2⟩;refine ⟨by omega,h,?_⟩;simpa [zH,h] using h2
theorem aaj (e:Cn) (H:List aa) (φ:AV→Prop):aV (some 6) (.ai e.av) H φ=φ e.av:=by simp [aV,Cn.av,AV.cells]
def Rj (ps ss:List Int) (e:ot):Prop:=∀ y∈e.rest,R (b9 ps ss) e.a y
def vZ (l:List Cn):List T:=l.flatMap fun c=>[c.a,c.b]
theorem Ns {l:List Cn} {i:Nat} (h:i < l.length):vZ (l.take (i + 1))=vZ (l.take i)++[(l.getD i default).a,(l.getD i default).b]:=by
 have e:l.getD i default=l[i]:=by simp [h]
 rw [abT h,e]
 unfold vZ
 rw [acY]
 rfl
theorem Cz (l:List Cn):(vZ l).length=2 * l.length:=by
 induction l with
 | nil=>rfl
 | cons x r ih=>simp only [vZ,List.flatMap_cons,aaf,List.length_cons,List.length_nil] at ih ⊢;omega
theorem Rk (a b:List T):cJ (a++b)=cJ a++cJ b:=by
 induction a with
 | nil=>rfl
 | cons x r ih=>rw [List.cons_append,cJ,cJ,ih];rfl
theorem aak (x:Int) (r:List Int) (φ:AV→Prop):bA 1 (.al 0 (ints (x::r))) (some (.int .i64 1)) none none φ=φ (.al 0 (ints r)):=by
 have er:dB (AV.al 0 (ints (x::r)))=some (ints (x::r)):=rfl
 have e1:(1:Int).toNat=1:=rfl
 have e2:((ints (x::r)).take (ints (x::r)).length).drop 1=ints r:=by rw [abp];rfl
 simp only [bA,fD,er,eo,e1,e2,eq_iff_iff]
 constructor
 ·intro h;exact h.2.2.2.2
 ·intro h
  refine ⟨fun own xs he z hz=>?_,by omega,by simp [aw],rC _,h⟩
  cases he
  obtain ⟨y,_,rfl⟩:=aal.1 hz
  rfl
theorem ad5 (ps ss:List Int) (e:ot) (hv:Va ps ss) (hlen:e.cs.length≤1000) (ht:∀ t∈e.a::e.rest,t.tree=true) (db:∀ t∈e.a::e.rest,zC (fun n=>0≤n∧n < ps.length) t) (H:List aa) :
 ax Tryz.prog 163 [dV ps ss,e.av] H fun r H'=>(∃ b:Bool,r=.bool b∧(b=true↔Rj ps ss e))∧H'=H:=by
 refine SZ.2.calls rfl ?_
 simp only [SZ,aG]
 obtain ⟨q1,q2,q3,q4,q5,q6⟩:=aQ ps ss
 obtain ⟨e1,e2,e3,e4,e5,e6⟩:=ot.facts e
 have cf:=Cn.facts
 simp +contextual only [q1,e1,feA,feB,feC,ET,sZ,Nat.reduceEqDiff,Nat.reduceAdd,↓reduceIte,reduceCtorEq]
 intro _
 have rest:e.rest=e.b::vZ e.cs:=rfl
 refine aD e.cs.length (fun i=>True) (fun i=>[(2,.ai (dV ps ss)),(5,.al 3 (cJ (e.a::e.b::vZ (e.cs.take i)))),(16,.al 0 (zH e.cs)),(17,.int .i64 e.cs.length),(18,.int .i64 i)]) (fun _=>H) ⟨trivial,aB _ _ _⟩ fun i hi _=>?_
 by_cases y8:(i:Int) < e.cs.length
 ·have aS:i < e.cs.length:=by omega
  obtain ⟨f1,f2,f3,f4,f5,f6⟩:=cf (e.cs.getD i default)
  have hl:(vZ (e.cs.take i)).length≤2000:=by rw [Cz];simp;omega
  have hal:=sE (e.a::e.b::vZ (e.cs.take i))
  have jM:rE 3 [(e.cs.getD i default).a.av,(e.cs.getD i default).b.av]:=of_eq_true (VI [_,_])
  simp +contextual only [y8,decide_true,Ri,V3,aaj,f1,f2,f3,fcA,fcB,sZ,Nat.reduceEqDiff,Nat.reduceAdd,↓reduceIte]
  have e7:cJ (e.a::e.b::vZ (e.cs.take i))++[(e.cs.getD i default).a.av,(e.cs.getD i default).b.av]=cJ (e.a::e.b::vZ (e.cs.take (i + 1))):=by
   rw [Ns aS,← List.cons_append,← List.cons_append,Rk];rfl
  exact ⟨aS,by omega,jM,i + 1,aS,by omega,aE (by rw [au i (by omega),e7]) rfl⟩
 ·have Ld:i=e.cs.length:=by omega
  subst Ld
  rw [abp]
  have dJ:e.a::e.b::vZ e.cs≠[]:=by simp
  have hl:(e.a::e.b::vZ e.cs).length≤10000:=by simp [Cz];omega
  have hw:=lF (l:=e.a::e.b::vZ e.cs) ht
  have hc:=SX hv dJ (by omega) db H.length
  have hd:=AP ps ss dJ H
  simp +contextual only [y8,decide_false,bm,q4,sZ,Nat.reduceEqDiff,Nat.reduceAdd,↓reduceIte]
  refine af (ZT ps ss (e.a::e.b::vZ e.cs) H (by omega)) ?_
  rintro r G ⟨rfl,rfl⟩
  have hk:=(Rf (e.a::e.b::vZ e.cs)).kids
  have ek:ba (e.a::e.b::vZ e.cs) 0=0::ba (e.b::vZ e.cs) (0 + wt e.a):=by rw [ba];rfl
  have FY:=cS (e.b::vZ e.cs) (0 + wt e.a)
  rw [ek] at hk ⊢
  generalize ba (e.b::vZ e.cs) (0 + wt e.a)=tl at hk FY ⊢
  obtain ⟨Nb,vf⟩:=hk
  simp only [List.map_cons,List.cons.injEq] at Nb
  obtain ⟨ha,hb⟩:=Nb
  have e0:([(0:Int)]++tl).getD 0 0=0:=rfl
  have ix0:∀ φ:AV→Prop,aC 1 (.al 0 (ints (0::tl))) (.int .i64 0) φ=φ (.ai (.int .i64 0)):=fun φ=>by
   have:=aM 1 0 (0::tl) .i64 0 φ
   rw [this]
   simp
  simp +contextual only [bu,ix0,dT,Option.map_some,Option.map_none,aak,sZ,Nat.reduceEqDiff,Nat.reduceAdd,Nat.reduceLT,↓reduceIte,reduceCtorEq]
  have itl:IL (.al 0 (ints tl)) tl:=.inr rfl
  refine af (VO (c:=iu ps ss (e.a::e.b::vZ e.cs) H.length) (i:=0) itl (by rw [FY];simp [Cz];omega) (fun x hx=>kW hc (vf 0 aaW) (vf x (aaF _ hx))) hd) ?_
  rintro r G ⟨b,rfl,hbb,hU,hD⟩
  simp +contextual only [sZ,↓reduceIte,reduceCtorEq]
  refine aX H.length (rC _) (by rw [aA,if_pos rfl];rfl) ?_
  rw [aA,if_pos rfl]
  refine ⟨⟨b,rfl,?_⟩,hU.low (by simp [iu]) (by simp [iu])⟩
  rw [hbb,Rj,rest]
  have ha':(iu ps ss (e.a::e.b::vZ e.cs) H.length).tm 0=e.a:=ha
  have ey:tl.map (iu ps ss (e.a::e.b::vZ e.cs) H.length).tm=e.b::vZ e.cs:=hb
  rw [ha']
  generalize (iu ps ss (e.a::e.b::vZ e.cs) H.length).tm=f at ey
  rw [← ey]
  constructor
  ·intro h y hy
   obtain ⟨x,hx,rfl⟩:=aal.1 hy
   exact h x hx
  ·intro h x hx
   exact h _ (aal.2 ⟨x,hx,rfl⟩)
end Go.aK
end
section
namespace Go.eI
open Go.aK
inductive PP where
 | mk (r i:Int) (to:List Int) (l:List PP)
 deriving Inhabited
def PP.r:PP→Int | .mk r _ _ _=>r
def PP.i:PP→Int | .mk _ i _ _=>i
def PP.to:PP→List Int | .mk _ _ to _=>to
def PP.l:PP→List PP | .mk _ _ _ l=>l
mutual
def pz:PP→Nat
 | .mk _ _ _ l=>W5 l + 1
def W5:List PP→Nat
 | []=>0
 | x::r=>pz x + W5 r
end
theorem CA {x:PP}:∀ {l:List PP},x∈l→pz x≤W5 l
 | y::r,h=>by
   rw [W5]
   rcases aai.1 h with rfl | h
   ·omega
   ·have:=CA h;omega
theorem yh (p:PP):0 < pz p:=by cases p;rw [pz];omega
theorem yi {p x:PP} (h:x∈p.l):pz x < pz p:=by
 obtain ⟨r,i,to,l⟩:=p
 have:pz x≤W5 l:=CA h
 rw [pz];omega
theorem dr {l:List PP} {i:Nat} (h:i < l.length):l.getD i default∈l:=by
 rw [rB,Oq h];exact acf h
theorem eK {l:List T} {i:Nat} (h:i < l.length):l.getD i default∈l:=by
 rw [rB,Oq h];exact acf h
def PP.nil (q:PP):Prop:=q.r=0∧q.i=0∧q.to=[]∧q.l=[]
instance (q:PP):Decidable q.nil:=by
 unfold PP.nil
 have:Decidable (q.l=[]):=by cases q.l with
  | nil=>exact isTrue rfl
  | cons a b=>exact isFalse (by simp)
 exact inferInstance
def cU (to:List Int) (x:Int):Nat→Nat
 | 0=>0
 | n + 1=>cU to x n + if to.getD n 0=x then 1 else 0
def cq (to:List Int) (l:List PP) (x:Int):Nat→Nat
 | 0=>0
 | n + 1=>cq to l x n + if to.getD n 0=x∧(l.getD n default).nil then 1 else 0
theorem AT {to:List Int} {x:Int} {j:Nat}:∀ {n:Nat},j < n→to.getD j 0=x→1≤cU to x n
 | n + 1,h,e=>by
   rw [cU]
   by_cases hj:j=n
   ·subst hj;rw [if_pos e];omega
   ·have:=AT (n:=n) (by omega) e;omega
theorem uo {to:List Int} {x:Int} {j j':Nat} (hj:j < j') (e:to.getD j 0=x) (e':to.getD j' 0=x):∀ {n:Nat},j' < n→2≤cU to x n
 | n + 1,h=>by
   rw [cU]
   by_cases hn:j'=n
   ·subst hn;rw [if_pos e'];have:=AT hj e;omega
   ·have:=uo hj e e' (n:=n) (by omega);omega
theorem AU {to:List Int} {x:Int} {j j' n:Nat} (h:cU to x n≤1) (hj:j < n) (vY:j' < n) (e:to.getD j 0=x) (e':to.getD j' 0=x):j=j':=by
 rcases afi j j' with h1 | h1 | h1
 ·have:=uo h1 e e' vY;omega
 ·exact h1
 ·have:=uo h1 e' e hj;omega
theorem jj {to:List Int} {l:List PP} {x:Int}:∀ {n:Nat},0 < cq to l x n↔∃ j,j < n∧to.getD j 0=x∧(l.getD j default).nil
 | 0=>by simp [cq]
 | n + 1=>by
   rw [cq]
   have ih:=jj (to:=to) (l:=l) (x:=x) (n:=n)
   by_cases h:to.getD n 0=x∧(l.getD n default).nil
   ·rw [if_pos h]
    exact ⟨fun _=>⟨n,by omega,h⟩,fun _=>by omega⟩
   ·rw [if_neg h,aeR,ih]
    constructor
    ·rintro ⟨j,h1,h2⟩;exact ⟨j,by omega,h2⟩
    ·rintro ⟨j,h1,h2⟩
     have:j≠n:=fun e=>h (e ▸ h2)
     exact ⟨j,by omega,h2⟩
theorem pd {to:List Int} {l:List PP} {x:Int}:∀ n,cq to l x n≤cU to x n
 | 0=>rC _
 | n + 1=>by
   rw [cq,cU]
   have:=pd (to:=to) (l:=l) (x:=x) n
   by_cases h:to.getD n 0=x∧(l.getD n default).nil
   ·rw [if_pos h,if_pos h.1];omega
   ·rw [if_neg h];omega
def lf (S:PP→T→T→Prop) (l:List PP) (a:T) (bs:List T):Prop:=l.length=bs.length∧∀ j,j < bs.length→S (l.getD j default) a (bs.getD j default)
def Rl (Q:T→T→Prop) (S:PP→T→T→Prop) (to:List Int) (l:List PP) (az bs:List T):Prop:=
 to.length=bs.length∧l.length=bs.length∧
 (∀ j,j < bs.length→(0≤to.getD j 0∧to.getD j 0 < az.length)∧
   (if (l.getD j default).nil then Q (az.getD (to.getD j 0).toNat default) (bs.getD j default) else S (l.getD j default) (az.getD (to.getD j 0).toNat default) (bs.getD j default)))∧
 (∀ x:Nat,x < az.length→0 < cq to l x bs.length→cU to x bs.length≤1)∧∃ x:Nat,x < az.length∧cq to l x bs.length=0
def CB (Q:T→T→Prop) (S:PP→T→T→Prop) (i:Int) (l:List PP) (a:T) (az bs:List T) (bl:List T):Prop:=
 (0≤i∧i < az.length∧i≤bs.length)∧(∀ j,j < i.toNat→Q (az.getD j default) (bs.getD j default))∧
 (if i=bs.length then lf S l a bl else ∃ q r,l=q::r∧S q (az.getD i.toNat default) (bs.getD i.toNat default)∧lf S r a bl)
def Fs (O:Od) (S:PP→T→T→Prop) (p:PP) (a b:T):Prop:=
 a.k=2∧(
  (p.r=1∧p.to=[]∧(0≤p.i∧p.i < a.l.length)∧((p.l=[]∧E O (a.l.getD p.i.toNat default) b)∨∃ q,p.l=[q]∧S q (a.l.getD p.i.toNat default) b))∨
  (p.r=2∧p.to=[]∧p.i=0∧b.k=2∧O.pl b.n < O.pl a.n∧lf S p.l a b.l)∨
  (p.r=3∧p.to=[]∧b.k=2∧O.pl a.n=O.pl b.n∧O.sp (O.pl a.n)≠3∧CB (E O) S p.i p.l a (side (O.sp (O.pl a.n)) a.l) (side (O.sp (O.pl a.n)) b.l) b.l)∨
  (p.r=4∧p.i=0∧b.k=2∧O.pl a.n=O.pl b.n∧O.sp (O.pl a.n)=3∧Rl (E O) S p.to p.l a.l b.l))
theorem nO {S S':PP→T→T→Prop} {l:List PP} {a:T} {bs:List T} (h:∀ q∈l,∀ a b,S q a b↔S' q a b):lf S l a bs↔lf S' l a bs:=by
 refine and_congr_right fun hl=>?_
 constructor
 ·exact fun k j hj=>(h _ (dr (by omega)) _ _).1 (k j hj)
 ·exact fun k j hj=>(h _ (dr (by omega)) _ _).2 (k j hj)
theorem Kz {Q:T→T→Prop} {S S':PP→T→T→Prop} {to:List Int} {l:List PP} {az bs:List T} (h:∀ q∈l,∀ a b,S q a b↔S' q a b):Rl Q S to l az bs↔Rl Q S' to l az bs:=by
 refine and_congr_right fun _=>and_congr_right fun hl=>and_congr_left fun _=>?_
 constructor
 ·intro k j hj
  refine ⟨(k j hj).1,?_⟩
  have:=(k j hj).2
  split at this
  ·rename_i e;rw [if_pos e];exact this
  ·rename_i e;rw [if_neg e];exact (h _ (dr (by omega)) _ _).1 this
 ·intro k j hj
  refine ⟨(k j hj).1,?_⟩
  have:=(k j hj).2
  split at this
  ·rename_i e;rw [if_pos e];exact this
  ·rename_i e;rw [if_neg e];exact (h _ (dr (by omega)) _ _).2 this
theorem Hm {Q:T→T→Prop} {S S':PP→T→T→Prop} {i:Int} {l:List PP} {a:T} {az bs bl:List T} (h:∀ q∈l,∀ a b,S q a b↔S' q a b):CB Q S i l a az bs bl↔CB Q S' i l a az bs bl:=by
 refine and_congr_right fun _=>and_congr_right fun _=>?_
 split
 ·exact nO h
 ·constructor
  ·rintro ⟨q,r,rfl,h1,h2⟩
   exact ⟨q,r,rfl,(h q aaW _ _).1 h1,(nO fun x hx=>h x (aaF _ hx)).1 h2⟩
  ·rintro ⟨q,r,rfl,h1,h2⟩
   exact ⟨q,r,rfl,(h q aaW _ _).2 h1,(nO fun x hx=>h x (aaF _ hx)).2 h2⟩
theorem EU {O:Od} {S S':PP→T→T→Prop} {p:PP} {a b:T} (h:∀ q∈p.l,∀ a b,S q a b↔S' q a b):Fs O S p a b↔Fs O S' p a b:=by
 refine and_congr_right fun _=>or_congr ?_ (or_congr ?_ (or_congr ?_ ?_))
 ·refine and_congr_right fun _=>and_congr_right fun _=>and_congr_right fun _=>or_congr Iff.rfl ?_
  constructor
  ·rintro ⟨q,e,k⟩;exact ⟨q,e,(h q (by rw [e];simp) _ _).1 k⟩
  ·rintro ⟨q,e,k⟩;exact ⟨q,e,(h q (by rw [e];simp) _ _).2 k⟩
 ·rw [nO h]
 ·rw [Hm h]
 ·rw [Kz h]
def S0 (O:Od):Nat→PP→T→T→Prop
 | 0=>fun _ _ _=>False
 | f + 1=>Fs O (S0 O f)
def Sh (O:Od) (p:PP) (a b:T):Prop:=S0 O (pz p) p a b
theorem rj (O:Od):∀ (f g:Nat) (p:PP) (a b:T),pz p≤f→pz p≤g→(S0 O f p a b↔S0 O g p a b)
 | 0,_,p,a,b,h,_=>by have:=yh p;omega
 | _ + 1,0,p,a,b,_,h=>by have:=yh p;omega
 | f + 1,g + 1,p,a,b,h1,h2=>by
   simp only [S0]
   refine EU fun q hq a b=>?_
   have:=yi hq
   exact rj O f g q a b (by omega) (by omega)
theorem lY {O:Od} {p:PP} {a b:T}:Sh O p a b↔Fs O (Sh O) p a b:=by
 have e:S0 O (pz p) p a b↔S0 O (pz p + 1) p a b:=rj O _ _ p a b (by omega) (by omega)
 unfold Sh
 rw [e]
 show Fs O (S0 O (pz p)) p a b↔_
 refine EU fun q hq a b=>?_
 have:=yi hq
 exact rj O _ _ q a b (by omega) (by omega)
theorem S1 {G:T→T→Prop}:∀ (n:Nat) {l m:List T},n < l.length→n≤m.length→(∀ j,j < n→l.getD j default=m.getD j default)→(n=m.length∨G (l.getD n default) (m.getD n default))→Lx G l m
 | 0,x::l,[],_,_,_,_=>trivial
 | 0,x::l,y::m,_,_,_,h=>.inr (by simpa using h)
 | n + 1,x::l,[],_,h,_,_=>by simp at h
 | n + 1,x::l,y::m,h1,h2,h3,h4=>by
   refine .inl ⟨h3 0 (by omega),S1 n (by simpa using h1) (by simpa using h2) (fun j hj=>h3 (j + 1) (by omega)) ?_⟩
   simpa using h4
theorem Hn {β:Type} (f:T→β) (a:List T):a.map f=(List.range a.length).map fun i=>f (a.getD i default):=by
 apply adV
 ·simp
 ·intro i h1 h2
  have:i < a.length:=by simpa using h1
  simp [this]
theorem AW {β:Type} (f:T→β) (a:List T) (p:Nat→Bool):(a.map f).Perm (((List.range a.length).filter p).map (fun i=>f (a.getD i default))++((List.range a.length).filter fun i=>!p i).map fun i=>f (a.getD i default)):=by
 rw [Hn,← ab3]
 exact (List.filter_append_perm p (List.range a.length)).symm.map _
theorem qH (n:Nat) (p:Nat→Bool):((List.range n).filter p).Nodup:=List.Pairwise.filter p List.nodup_range
theorem V4 {O:Od} {S:PP→T→T→Prop} {to:List Int} {l:List PP} {az bs:List T} (h:Rl (E O) S to l az bs) (hS:∀ q∈l,∀ a b,S q a b→R O a b):Mu (Gt O.sp) (az.map (norm O)) (bs.map (norm O)):=by
 obtain ⟨h1,h2,h3,h4,x0,Li,h5⟩:=h
 let n:=bs.length
 let U:Nat→Bool:=fun i=>decide (cq to l i n=0)
 let Z:Nat→Bool:=fun j=>!decide (l.getD j default).nil
 have pu:=AW (norm O) az U
 have pz:=AW (norm O) bs Z
 refine ZN (X:=((List.range az.length).filter U).map fun i=>norm O (az.getD i default)) (Y:=((List.range bs.length).filter Z).map fun i=>norm O (bs.getD i default)) (C:=((List.range bs.length).filter fun i=>!Z i).map fun i=>norm O (bs.getD i default)) ?_ pz ?_ ?_
 ·refine pu.trans (List.Perm.append_left _ ?_)
  have hp:(((List.range bs.length).filter fun j=>!Z j).map fun j=>(to.getD j 0).toNat).Perm ((List.range az.length).filter fun i=>!U i):=by
   rw [List.perm_ext_iff_of_nodup]
   ·intro i
    simp only [Z,U,n,aal,abZ,abK,aeN,abG,decide_eq_true_eq,decide_eq_false_iff_not]
    constructor
    ·rintro ⟨j,⟨hj,hn⟩,rfl⟩
     have:=(h3 j hj).1
     refine ⟨by omega,?_⟩
     have:0 < cq to l ((to.getD j 0).toNat:Int) bs.length:=jj.2 ⟨j,hj,by omega,hn⟩
     omega
    ·rintro ⟨hi,hu⟩
     obtain ⟨j,k1,k2,k3⟩:=jj.1 (show 0 < cq to l (i:Int) bs.length by omega)
     exact ⟨j,⟨k1,k3⟩,by omega⟩
   ·rw [List.Nodup,List.pairwise_map]
    refine List.Pairwise.imp_of_mem ?_ (qH _ _)
    intro j j' hj vY dJ he
    simp only [Z,abZ,abK,aeN,decide_eq_true_eq] at hj vY
    have b1:=(h3 j hj.1).1
    have b2:=(h3 j' vY.1).1
    have e1:to.getD j 0=(((to.getD j 0).toNat:Nat):Int):=by omega
    have e2:to.getD j' 0=(((to.getD j 0).toNat:Nat):Int):=by omega
    have hp:0 < cq to l (((to.getD j 0).toNat:Nat):Int) bs.length:=jj.2 ⟨j,hj.1,e1,hj.2⟩
    exact dJ (AU (h4 _ (by omega) hp) hj.1 vY.1 e1 e2)
   ·exact qH _ _
  refine (hp.map fun i=>norm O (az.getD i default)).symm.trans ?_
  rw [acs]
  refine List.Perm.of_eq (ab4 fun j hj=>?_)
  simp only [Z,abZ,abK,aeN,decide_eq_true_eq] at hj
  have:=(h3 j hj.1).2
  rw [if_pos hj.2] at this
  exact this
 ·intro e
  have:norm O (az.getD x0 default)∈((List.range az.length).filter U).map fun i=>norm O (az.getD i default):=
   aal.2 ⟨x0,abZ.2 ⟨abK.2 Li,by simp [U,n,h5]⟩,rfl⟩
  rw [e] at this
  cases this
 ·intro y hy
  obtain ⟨j,hj,rfl⟩:=aal.1 hy
  simp only [Z,abZ,abK,abG,decide_eq_false_iff_not] at hj
  obtain ⟨hj,hn⟩:=hj
  have b1:=h3 j hj
  rw [if_neg hn] at b1
  refine ⟨norm O (az.getD (to.getD j 0).toNat default),aal.2 ⟨(to.getD j 0).toNat,abZ.2 ⟨abK.2 (by omega),?_⟩,rfl⟩,hS _ (dr (by omega)) _ _ b1.2⟩
  simp only [U,n,decide_eq_true_eq]
  by_cases hp:0 < cq to l ((to.getD j 0).toNat:Int) bs.length
  ·have ht:=h4 _ (by omega) hp
   obtain ⟨j',k1,k2,k3⟩:=jj.1 hp
   have:=AU ht hj k1 (by omega) k2
   exact absurd (this ▸ k3) hn
  ·omega
theorem pR {f:T→T} {l:List T} {i:Nat} (h:i < l.length):(l.map f).getD i default=f (l.getD i default):=by
 simp [h]
theorem ad6 {O:Od}:∀ (N:Nat) {p:PP} {a b:T},pz p≤N→Sh O p a b→R O a b:=by
 intro N
 induction N with
 | zero=>intro p a b h;have:=yh p;omega
 | succ N ih=>
 intro p a b hN h
 have hm:∀ q∈p.l,∀ a b,Sh O q a b→R O a b:=fun q hq a b hs=>ih (by have:=yi hq;omega) hs
 have iU:∀ {l:List PP} {bs:List T},(∀ q∈l,q∈p.l)→lf (Sh O) l a bs→∀ y∈bs,R O a y:=by
  intro l bs hq hl y hy
  obtain ⟨j,hj,rfl⟩:=List.mem_iff_getElem.1 hy
  have:=hl.2 j hj
  have e:bs.getD j default=bs[j]:=by simp [hj]
  rw [e] at this
  exact hm _ (hq _ (dr (by have:=hl.1;omega))) _ _ this
 obtain ⟨ha,h⟩:=lY.1 h
 rcases h with ⟨_,_,hi,h⟩ | ⟨_,_,_,hb,hp,h⟩ | ⟨_,_,hb,hp,hs,h1,h2,h3⟩ | ⟨_,_,hb,hp,hs,h⟩
 ·refine ZP ha (eK (i:=p.i.toNat) (by omega)) ?_
  rcases h with ⟨_,h⟩ | ⟨q,e,h⟩
  ·exact .inl h
  ·exact .inr (hm q (by rw [e];simp) _ _ h)
 ·exact qE.2 ⟨ha,.inr ⟨hb,.inl ⟨hp,iU (fun _ h=>h) h⟩⟩⟩
 ·refine qE.2 ⟨ha,.inr ⟨hb,.inr (.inl ⟨hp.symm,hs,?_,?_⟩)⟩⟩
  ·split at h3
   ·exact iU (fun _ h=>h) h3
   ·obtain ⟨q,r,e,_,h3⟩:=h3
    exact iU (fun x hx=>by rw [e];exact aaF _ hx) h3
  ·rw [ED,ED]
   have S2:p.i.toNat < (side (O.sp (O.pl a.n)) a.l).length:=by omega
   refine S1 p.i.toNat (by simpa using S2) (by simp;omega) (fun j hj=>?_) ?_
   ·rw [pR (by omega),pR (by omega)]
    exact h2 j hj
   ·by_cases hi:p.i=(side (O.sp (O.pl a.n)) b.l).length
    ·left;simp;omega
    ·rw [if_neg hi] at h3
     obtain ⟨q,r,e,h3,_⟩:=h3
     right
     rw [pR (by omega),pR (by omega)]
     exact hm q (by rw [e];simp) _ _ h3
 ·exact qE.2 ⟨ha,.inr ⟨hb,.inr (.inr ⟨hp.symm,hs,V4 h hm⟩)⟩⟩
theorem Sh.gt {O:Od} {p:PP} {a b:T} (h:Sh O p a b):R O a b:=ad6 _ (rC _) h
end Go.eI
end
section
set_option maxRecDepth 100000
namespace Go.aK
open Go Go.Proofs Go.eI
mutual
def dA:PP→AV
 | .mk r i to l=>.agg [.int .i64 r,.int .i64 i,.al 0 (ints to),.al 0 (dx l)]
def dx:List PP→List AV
 | []=>[]
 | x::r=>dA x::dx r
end
theorem pe (p:PP):dA p=.agg [.int .i64 p.r,.int .i64 p.i,.al 0 (ints p.to),.al 0 (dx p.l)]:=by cases p;rw [dA];rfl
theorem kX:∀ l,dx l=l.map dA
 | []=>rfl
 | x::r=>by simp [dx,kX r]
theorem bG (l:List PP):(dx l).length=l.length:=by simp [kX]
mutual
theorem gJ (n:Nat):∀ p,(dA p).bc n=true
 | .mk r i to l=>by simp [dA,AV.bc,aj,bf,jG n l]
theorem jG (n:Nat):∀ l,aj n (dx l)=true
 | []=>rfl
 | x::r=>by simp [dx,aj,gJ n x,jG n r]
end
theorem aH (p:PP):(dA p).val=true∧(dA p).cells.length=4∧(dA p).cells.all AV.one=true∧(dA p).ab=dA p∧(dA p).drop=dA p∧(∀ n,(dA p).bc n=true)∧AV.agg (dA p).cells=dA p∧(dA p).cells.map AV.drop=(dA p).cells∧(dA p).cells.map AV.ab=(dA p).cells:=by
 refine ⟨?_,?_,?_,?_,?_,fun n=>gJ n p,?_,?_,?_⟩ <;> (rw [pe];rfl)
theorem lZ (p:PP) (φ:AV→Prop):ap 0 none (.ai (dA p)) φ=φ (.ai (.int .i64 p.r)):=by rw [pe];simp [ap,apart,AV.cells,AV.one]
theorem mK (p:PP) (φ:AV→Prop):ap 1 none (.ai (dA p)) φ=φ (.ai (.int .i64 p.i)):=by rw [pe];simp [ap,apart,AV.cells,AV.one]
theorem pS (p:PP) (φ:AV→Prop):ap 2 none (.ai (dA p)) φ=φ (.ai (.al 0 (ints p.to))):=by rw [pe];simp [ap,apart,AV.cells,AV.one]
theorem rI (p:PP) (φ:AV→Prop):ap 3 none (.ai (dA p)) φ=φ (.ai (.al 0 (dx p.l))):=by rw [pe];simp [ap,apart,AV.cells,AV.one]
theorem iQ (o:Nat) (l:List PP):(∀ (own:Nat) (xs:List AV),AV.al o (dx l)=AV.al own xs→∀ z∈xs,z.cells.length=4)=True:=by
 simp only [eq_iff_iff,iff_true]
 intro own xs e z hz
 cases e
 rw [kX] at hz
 obtain ⟨y,_,rfl⟩:=aal.1 hz
 exact (aH y).2.1
theorem AX (l:List PP) (i:Nat) (h:i < l.length):(dx l).getD i .any=dA (l.getD i default):=by
 simp [kX,h]
theorem l7 (e o:Nat) (l:List PP) (k:IntKind) (i:Int) (φ:AV→Prop):aC e (.al o (dx l)) (.int k i) φ=((0≤i∧i < l.length)∧φ (.ai (dA (l.getD i.toNat default)))):=by
 simp only [aC,bG,eq_iff_iff]
 constructor
 ·rintro ⟨h0,h,h2⟩;rw [AX _ _ h] at h2;exact ⟨by omega,h2⟩
 ·rintro ⟨⟨h0,h⟩,h2⟩
  have h:i.toNat < l.length:=by omega
  rw [AX _ _ h];exact ⟨h0,h,h2⟩
theorem eL (p:PP) (H:List aa) (φ:AV→Prop):aV (some 4) (.ai (dA p)) H φ=φ (dA p):=by
 obtain ⟨_,h2,_,_,_,_,h7,_⟩:=aH p
 simp [aV,h2,h7]
theorem V5 (l:List PP):rE 4 (dx l)=True:=by
 simp only [eq_iff_iff,iff_true]
 intro z hz
 rw [kX] at hz
 obtain ⟨y,_,rfl⟩:=aal.1 hz
 obtain ⟨h1,h2,h3,h4,h5,_⟩:=aH y
 first | exact ⟨h1,h2,h3⟩ | exact ⟨h2,h1,h3⟩ | exact ⟨h1,h2⟩ | (constructor <;> first | assumption | simp [*])
def CC (P:Px) (id:Nat) (xs:List AV) (H:List aa) (K:AV→List aa→Prop):Prop:=∃ bZ,z5 xs bZ∧mZ P id bZ H K
@[congr] theorem Rm {P:Px} {id:Nat} {xs xs':List AV} {H H':List aa} {K:AV→List aa→Prop} (h:gZ xs=xs') (h2:H=H'):CC P id xs H K=CC P id xs' H' K:=by subst h;subst h2;rfl
theorem IN {P:Px} {env:Env} {H:List aa} (id:Nat) (args:List IX) (pass:Option Nat) (K:AV→Env→List aa→Prop):qo P (.ou id) args pass env H K=CC P id (aN env pass 0 args) H (fun r H'=>K r (cQ env (bh args pass)) H'):=af4
theorem V6 (id:Nat):(AV.ou id).ab=.ou id:=af4
theorem AY {P:Program} {id:Nat} {xs:List AV} {H:List aa} {R K:AV→List aa→Prop} (hc:kI P id xs H R) (hk:∀ r H',R r H'→K r H'):CC (P:Px) id xs H K:=⟨xs,b8 _,fV.mono hc hk⟩
theorem uq {P:Program} (g:FuncId) (first cap:List AV) (lc:ju) (env:Env) (H:List aa) (K:Option Code→List aa→Prop) {R:AV→List aa→Prop} (he:∀ (vs:Array Value) (w:World),(callFunc g vs).run P w=.ok (.enter g vs) w)
 (hc:ax P g (first.map AV.ab++[.ou H.length]++cap.map AV.ab) (H++[.loop .ready lc (lQ lc.n env)]) R) (hk:∀ r H',R r H'→behind H.length H' K):xJ (P:Px) (.fn (.func g) first cap) lc env H K:=
 ⟨he,_,b8 _,dO.of (hc.mono hk)⟩
theorem ad7 (n:Nat) (hn:n < 4611686018427387904) (id:Nat) (G:Nat→List aa) (hl:∀ j,(G j).length=(G 0).length) (hy:∀ j,j < n→kI Tryz.prog id [.int .i64 (j:Int)] (G j) fun r H'=>r=.bool true∧H'=G (j + 1)) :
 ax Tryz.prog 201 [.ou id,.ai (.int .i64 n)] (G 0) fun r H'=>r=.tuple []∧H'=G n:=by
 refine YK.2.calls rfl ?_
 simp only [YK,aG]
 simp +contextual only [sZ,Nat.reduceEqDiff,Nat.reduceAdd,↓reduceIte,reduceCtorEq]
 refine aD n (fun j=>True) (fun j=>[(0,.ou id),(1,.ai (.int .i64 n)),(3,.int .i64 j)]) G ⟨trivial,aB _ _ _⟩ fun j hj _=>?_
 by_cases hjn:(j:Int) < n
 ·simp +contextual only [hjn,decide_true,IN,V6,sZ,Nat.reduceEqDiff,Nat.reduceAdd,↓reduceIte,reduceCtorEq]
  refine AY (hy j (by omega)) ?_
  rintro r H' ⟨rfl,rfl⟩
  simp +contextual only [sZ,Nat.reduceEqDiff,↓reduceIte,reduceCtorEq]
  exact ⟨j + 1,by omega,by omega,aE (by rw [au j (by omega)]) rfl⟩
 ·have e:j=n:=by omega
  subst e
  simp +contextual only [hjn,decide_false,sZ,Nat.reduceEqDiff,↓reduceIte,reduceCtorEq]
  exact sB (hl j).symm rfl
end Go.aK
end
