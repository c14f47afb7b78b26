/- Part 9 of 17 of the proof. -/
import Derived.Test.YtljchnfgjdjobaaGreatXag
import Derived.Test.YtljchnfgjdjobaaGreatXah
set_option linter.unusedVariables false
set_option linter.unusedSimpArgs false
set_option linter.defProp false
set_option linter.unusedSectionVars false
section
namespace Go.fo
open Go.aK
mutual
def code:T→List Int
 | .mk k n l=>k::n::(l.length:Int)::AG l
def AG:List T→List Int
 | []=>[]
 | x::r=>code x++AG r
end
mutual
theorem EH:∀ (a b:T) (r s:List Int),code a++r=code b++s→a=b∧r=s
 | .mk k n l,.mk k' n' l',r,s,h=>by
   simp only [code,List.cons_append,List.cons.injEq] at h
   obtain ⟨h1,h2,h3,h4⟩:=h
   obtain ⟨h5,h6⟩:=AH l l' r s (by omega) h4
   exact ⟨by rw [h1,h2,h5],h6⟩
theorem AH:∀ (l m:List T) (r s:List Int),l.length=m.length→AG l++r=AG m++s→l=m∧r=s
 | [],[],r,s,_,h=>⟨rfl,by simpa [AG] using h⟩
 | x::l,y::m,r,s,hl,h=>by
   simp only [AG,abb] at h
   obtain ⟨h1,h2⟩:=EH x y _ _ h
   obtain ⟨h3,h4⟩:=AH l m r s (by simpa using hl) h2
   exact ⟨by rw [h1,h3],h4⟩
 | [],_::_,_,_,h,_=>by simp at h
 | _::_,[],_,_,h,_=>by simp at h
end
theorem IJ {a b:T} (h:code a=code b):a=b:=(EH a b [] [] (by rw [h])).1
instance:DecidableEq T:=fun a b=>decidable_of_iff (code a=code b) ⟨IJ,fun h=>by rw [h]⟩
def C4 (a b:T):Prop:=code a≤code b
instance (a b:T):Decidable (C4 a b):=inferInstanceAs (Decidable (code a≤code b))
theorem EI {a b:T} (h1:C4 a b) (h2:C4 b a):a=b:=IJ (List.le_antisymm h1 h2)
theorem AI (a b:T):C4 a b∨C4 b a:=List.le_total _ _
theorem AJ {a b c:T} (h1:C4 a b) (h2:C4 b c):C4 a c:=List.le_trans h1 h2
def ins (x:T):List T→List T
 | []=>[x]
 | y::r=>if C4 x y then x::y::r else y::ins x r
def yJ:List T→List T
 | []=>[]
 | x::r=>ins x (yJ r)
theorem EJ (x:T):∀ l,(ins x l).Perm (x::l)
 | []=>List.Perm.refl _
 | y::r=>by
   simp only [ins]
   split
   ·exact List.Perm.refl _
   ·exact ((EJ x r).cons y).trans (List.Perm.swap _ _ _)
theorem gF:∀ l,(yJ l).Perm l
 | []=>List.Perm.refl _
 | x::r=>(EJ x _).trans ((gF r).cons x)
theorem EK (x y:T):∀ l,ins x (ins y l)=ins y (ins x l)
 | []=>by
   simp only [ins]
   by_cases h1:C4 x y <;> by_cases h2:C4 y x <;> simp only [h1,h2,if_true,if_false]
   ·rw [EI h1 h2]
   ·rcases AI x y with h | h
    ·exact absurd h h1
    ·exact absurd h h2
 | z::r=>by
   simp only [ins]
   by_cases hx:C4 x z <;> by_cases hy:C4 y z <;> simp only [hx,hy,if_true,if_false,ins]
   ·by_cases h1:C4 x y <;> by_cases h2:C4 y x <;> simp only [h1,h2,if_true,if_false]
    ·rw [EI h1 h2]
    ·rcases AI x y with h | h
     ·exact absurd h h1
     ·exact absurd h h2
   ·have h2:¬ C4 y x:=fun h=>hy (AJ h hx)
    simp only [h2,if_false]
   ·have h2:¬ C4 x y:=fun h=>hx (AJ h hy)
    simp only [h2,if_false]
   ·rw [EK x y r]
theorem Nu {l m:List T} (h:l.Perm m):yJ l=yJ m:=by
 induction h with
 | nil=>rfl
 | cons x _ ih=>simp only [yJ,ih]
 | swap x y l=>simp only [yJ];exact EK _ _ _
 | trans _ _ h1 h2=>rw [h1,h2]
theorem IK {l m:List T}:yJ l=yJ m↔l.Perm m:=⟨fun h=>(gF l).symm.trans (h ▸ gF m),Nu⟩
theorem RW {x:T} {l:List T}:x∈yJ l↔x∈l:=(gF l).mem_iff
mutual
def wt:T→Nat
 | .mk _ _ l=>1 + iN l
def iN:List T→Nat
 | []=>0
 | x::r=>wt x + iN r
end
theorem IM {x:T}:∀ {l:List T},x∈l→wt x≤iN l
 | y::r,h=>by
   simp only [iN]
   rcases OU.1 h with rfl | h
   ·omega
   ·have:=IM h;omega
theorem eF (a:T):0 < wt a:=by cases a;simp only [wt];omega
theorem bM {a x:T} (h:x∈a.l):wt x < wt a:=by
 cases a with
 | mk k n l=>have:=IM (l:=l) h;simp only [wt];omega
structure Od where
 pl:Int→Int
 sp:Int→Int
mutual
def norm (O:Od):T→T
 | .mk k n l=>if k=2 then .mk 2 (O.pl n) (if O.sp (O.pl n)=3 then yJ (EL O l) else EL O l) else .mk 1 n []
def EL (O:Od):List T→List T
 | []=>[]
 | x::r=>norm O x::EL O r
end
theorem AK (O:Od):∀ l,EL O l=l.map (norm O)
 | []=>rfl
 | x::r=>by simp [EL,AK O r]
def Lx (G:T→T→Prop):List T→List T→Prop
 | [],_=>False
 | _::_,[]=>True
 | x::l,y::m=>x=y∧Lx G l m∨G x y
def side (s:Int) (l:List T):List T:=if s=2 then l.reverse else l
def Mu (G:T→T→Prop) (l m:List T):Prop:=
 (∃ x∈l,m.count x < l.count x)∧∀ y∈m,l.count y < m.count y→∃ x∈l,m.count x < l.count x∧G x y
def Fm (sp:Int→Int) (G:T→T→Prop) (a b:T):Prop:=
 a.k=2∧((∃ x∈a.l,x=b∨G x b)∨b.k=2∧(
  (b.n < a.n∧∀ y∈b.l,G a y)∨
  (b.n=a.n∧sp a.n≠3∧(∀ y∈b.l,G a y)∧Lx G (side (sp a.n) a.l) (side (sp a.n) b.l))∨
  (b.n=a.n∧sp a.n=3∧Mu G a.l b.l)))
theorem jv {s:Int} {l:List T} {x:T}:x∈side s l↔x∈l:=by unfold side;split <;> simp
theorem EM {G G':T→T→Prop}:∀ {l m:List T},(∀ x∈l,∀ y∈m,(G x y↔G' x y))→(Lx G l m↔Lx G' l m)
 | [],_,_=>Iff.rfl
 | _::_,[],_=>Iff.rfl
 | x::l,y::m,h=>by
   simp only [Lx]
   rw [EM (fun x hx y hy=>h x (aa6 _ hx) y (aa6 _ hy)),h x abn y abn]
theorem EN {sp:Int→Int} {G G':T→T→Prop} {a b:T} (h1:∀ x∈a.l,(G x b↔G' x b)) (h2:∀ y∈b.l,(G a y↔G' a y)) (h3:∀ x∈a.l,∀ y∈b.l,(G x y↔G' x y)) :
 Fm sp G a b↔Fm sp G' a b:=by
 have e1:(∃ x∈a.l,x=b∨G x b)↔(∃ x∈a.l,x=b∨G' x b):=⟨fun ⟨x,hx,h⟩=>⟨x,hx,by rwa [← h1 x hx]⟩,fun ⟨x,hx,h⟩=>⟨x,hx,by rwa [h1 x hx]⟩⟩
 have e2:(∀ y∈b.l,G a y)↔(∀ y∈b.l,G' a y):=⟨fun h y hy=>(h2 y hy).1 (h y hy),fun h y hy=>(h2 y hy).2 (h y hy)⟩
 have e3:Lx G (side (sp a.n) a.l) (side (sp a.n) b.l)↔Lx G' (side (sp a.n) a.l) (side (sp a.n) b.l):=EM fun x hx y hy=>h3 x (jv.1 hx) y (jv.1 hy)
 have e4:Mu G a.l b.l↔Mu G' a.l b.l:=by
  unfold Mu
  refine and_congr Iff.rfl ⟨fun h y hy hc=>?_,fun h y hy hc=>?_⟩ <;> obtain ⟨x,hx,JC,hg⟩:=h y hy hc
  ·exact ⟨x,hx,JC,(h3 x hx y hy).1 hg⟩
  ·exact ⟨x,hx,JC,(h3 x hx y hy).2 hg⟩
 unfold Fm
 rw [e1,e2,e3,e4]
def Pf (sp:Int→Int):Nat→T→T→Prop
 | 0=>fun _ _=>False
 | f + 1=>Fm sp (Pf sp f)
def Gt (sp:Int→Int) (a b:T):Prop:=Pf sp (wt a + wt b) a b
theorem gU (sp:Int→Int):∀ (f g:Nat) (a b:T),wt a + wt b≤f→wt a + wt b≤g→(Pf sp f a b↔Pf sp g a b)
 | 0,_,a,b,h,_=>by have:=eF a;omega
 | _ + 1,0,a,b,_,h=>by have:=eF a;omega
 | f + 1,g + 1,a,b,h1,h2=>by
   simp only [Pf]
   refine EN (fun x hx=>?_) (fun y hy=>?_) (fun x hx y hy=>?_)
   ·have:=bM hx;exact gU sp f g x b (by omega) (by omega)
   ·have:=bM hy;exact gU sp f g a y (by omega) (by omega)
   ·have:=bM hx;have:=bM hy;exact gU sp f g x y (by omega) (by omega)
theorem xY {sp:Int→Int} {a b:T}:Gt sp a b↔Fm sp (Gt sp) a b:=by
 have e:Pf sp (wt a + wt b) a b↔Pf sp (wt a + wt b + 1) a b:=gU sp _ _ a b (by omega) (by omega)
 unfold Gt
 rw [e]
 show Fm sp (Pf sp (wt a + wt b)) a b↔_
 refine EN (fun x hx=>?_) (fun y hy=>?_) (fun x hx y hy=>?_)
 ·have:=bM hx;exact gU sp _ _ x b (by omega) (by omega)
 ·have:=bM hy;exact gU sp _ _ a y (by omega) (by omega)
 ·have:=bM hx;have:=bM hy;exact gU sp _ _ x y (by omega) (by omega)
section
variable {sp:Int→Int}
theorem xZ {a b:T} (h:Gt sp a b):a.k=2:=(xY.1 h).1
theorem jU {a b x:T} (ha:a.k=2) (hx:x∈a.l) (h:x=b∨Gt sp x b):Gt sp a b:=xY.2 ⟨ha,.inl ⟨x,hx,h⟩⟩
theorem n9 {l m:List T} {x:T} (h:m.count x < l.count x):x∈l:=acD.1 (by omega)
theorem o9 {a b:T} (h:Gt sp a b):(∃ x∈a.l,x=b∨Gt sp x b)∨b.k=2∧(∀ y∈b.l,Gt sp a y)∧(
 b.n < a.n∨(b.n=a.n∧sp a.n≠3∧Lx (Gt sp) (side (sp a.n) a.l) (side (sp a.n) b.l))∨(b.n=a.n∧sp a.n=3∧Mu (Gt sp) a.l b.l)):=by
 obtain ⟨ha,h | ⟨hb,h | h | h⟩⟩:=xY.1 h
 ·exact .inl h
 ·exact .inr ⟨hb,h.2,.inl h.1⟩
 ·exact .inr ⟨hb,h.2.2.1,.inr (.inl ⟨h.1,h.2.1,h.2.2.2⟩)⟩
 ·refine .inr ⟨hb,fun y hy=>?_,.inr (.inr h)⟩
  obtain ⟨_,_,_,h2⟩:=h
  by_cases hc:a.l.count y < b.l.count y
  ·obtain ⟨x,hx,_,hg⟩:=h2 y hy hc
   exact jU ha hx (.inr hg)
  ·have:0 < b.l.count y:=acD.2 hy
   exact jU ha (acD.1 (by omega)) (.inl rfl)
theorem Nv {a b:T} (ha:a.k=2) (hb:b.k=2) (h1:∀ y∈b.l,Gt sp a y) (h2:b.n < a.n∨(b.n=a.n∧sp a.n≠3∧Lx (Gt sp) (side (sp a.n) a.l) (side (sp a.n) b.l))∨(b.n=a.n∧sp a.n=3∧Mu (Gt sp) a.l b.l)):Gt sp a b:=by
 refine xY.2 ⟨ha,.inr ⟨hb,?_⟩⟩
 rcases h2 with h | h | h
 ·exact .inl ⟨h,h1⟩
 ·exact .inr (.inl ⟨h.1,h.2.1,h1,h.2.2⟩)
 ·exact .inr (.inr h)
theorem RY:∀ {a b y:T},Gt sp a b→b.k=2→y∈b.l→Gt sp a y:=by
 intro a
 induction h:wt a using Nat.strongRecOn generalizing a with
 | _ n ih=>
   intro b y sX hb hy
   rcases o9 sX with ⟨x,hx,rfl | hg⟩ | ⟨_,h1,_⟩
   ·exact jU (xZ sX) hx (.inr (jU hb hy (.inl rfl)))
   ·exact jU (xZ sX) hx (.inr (ih _ (by have:=bM hx;omega) rfl hg hb hy))
   ·exact h1 y hy
theorem Nw {G:T→T→Prop}:∀ {l:List T},Lx G l l→∃ x∈l,G x x
 | x::l,h=>by
   rcases h with ⟨_,h⟩ | h
   ·obtain ⟨y,hy,hg⟩:=Nw h;exact ⟨y,aa6 _ hy,hg⟩
   ·exact ⟨x,abn,h⟩
theorem Co:∀ a:T,¬ Gt sp a a:=by
 intro a
 induction h:wt a using Nat.strongRecOn generalizing a with
 | _ n ih=>
   intro hg
   rcases o9 hg with ⟨x,hx,rfl | RZ⟩ | ⟨_,_,h1 | ⟨_,_,h1⟩ | ⟨_,_,h1⟩⟩
   ·have:=bM hx;omega
   ·exact ih (wt x) (by have:=bM hx;omega) x rfl (RY RZ (xZ hg) hx)
   ·omega
   ·obtain ⟨x,hx,RZ⟩:=Nw h1
    have hx:=jv.1 hx
    exact ih (wt x) (by have:=bM hx;omega) x rfl RZ
   ·obtain ⟨⟨x,_,hx⟩,_⟩:=h1;omega
theorem Nx {G:T→T→Prop} {S:List T} (irr:∀ x∈S,¬ G x x) (tr:∀ x∈S,∀ y∈S,∀ z∈S,G x y→G y z→G x z) (P:T→Prop)
 (step:∀ z∈S,(∀ x∈S,G x z→P x)→P z):∀ z∈S,P z:=by
 classical
 intro z
 induction h:S.countP (fun w=>decide (G w z)) using Nat.strongRecOn generalizing z with
 | _ n ih=>
   intro hz
   refine step z hz fun x hx hg=>ih (S.countP fun w=>decide (G w x)) ?_ x rfl hx
   subst h
   have key:∀ (l:List T),(∀ w∈l,w∈S)→l.countP (fun w=>decide (G w x))≤l.countP (fun w=>decide (G w z))∧(x∈l→l.countP (fun w=>decide (G w x)) < l.countP (fun w=>decide (G w z))):=by
    intro l
    induction l with
    | nil=>intro _;exact ⟨sU _,fun h=>by cases h⟩
    | cons w l ihl=>
      intro hl
      obtain ⟨i1,i2⟩:=ihl fun w hw=>hl w (aa6 _ hw)
      have hw:=hl w abn
      by_cases h1:G w x
      ·have h2:G w z:=tr w hw x hx z hz h1 hg
       have eS:x≠w:=fun e=>irr x hx (by rw [← e] at h1;exact h1)
       simp only [ae0,h1,h2,decide_true,if_true]
       refine ⟨by omega,fun hm=>?_⟩
       rcases OU.1 hm with e | hm
       ·exact absurd e eS
       ·have:=i2 hm;omega
      ·by_cases h2:G w z
       ·simp only [ae0,h1,h2,decide_true,decide_false,if_true]
        refine ⟨by simp;omega,fun _=>by simp;omega⟩
       ·have eS:x≠w:=fun e=>h2 (e ▸ hg)
        simp only [ae0,h1,h2,decide_false]
        refine ⟨by simpa using i1,fun hm=>?_⟩
        rcases OU.1 hm with e | hm
        ·exact absurd e eS
        ·simpa using i2 hm
   exact (key S fun _ h=>h).2 hx
theorem Ny {G:T→T→Prop} {l m k:List T} (irr:∀ x∈l++m++k,¬ G x x) (tr:∀ x∈l++m++k,∀ y∈l++m++k,∀ z∈l++m++k,G x y→G y z→G x z)
 (h1:Mu G l m) (h2:Mu G m k):Mu G l k:=by
 have il:∀ {x},x∈l→x∈l++m++k:=fun h=>by simp [h]
 have im:∀ {x},x∈m→x∈l++m++k:=fun h=>by simp [h]
 have ik:∀ {x},x∈k→x∈l++m++k:=fun h=>by simp [h]
 have up:∀ z∈l++m++k,(l.count z < m.count z∨m.count z < k.count z)→∃ x∈l,k.count x < l.count x∧G x z:=by
  refine Nx irr tr _ fun z hz ih hc=>?_
  rcases hc with hc | hc
  ·obtain ⟨x1,uL,SZ,Lc⟩:=h1.2 z (n9 hc) hc
   by_cases hk:k.count x1 < l.count x1
   ·exact ⟨x1,uL,hk,Lc⟩
   ·obtain ⟨x,hx,pZ,hg⟩:=ih x1 (il uL) Lc (.inr (by omega))
    exact ⟨x,hx,pZ,tr x (il hx) x1 (il uL) z hz hg Lc⟩
  ·obtain ⟨x1,uL,SZ,Lc⟩:=h2.2 z (n9 hc) hc
   by_cases hk:l.count x1 < m.count x1
   ·obtain ⟨x,hx,pZ,hg⟩:=ih x1 (im uL) Lc (.inl hk)
    exact ⟨x,hx,pZ,tr x (il hx) x1 (im uL) z hz hg Lc⟩
   ·exact ⟨x1,acD.1 (by omega),by omega,Lc⟩
 constructor
 ·obtain ⟨x0,Lz,Pt⟩:=h1.1
  by_cases hk:k.count x0 < l.count x0
  ·exact ⟨x0,Lz,hk⟩
  ·obtain ⟨x,hx,hc,_⟩:=up x0 (il Lz) (.inr (by omega))
   exact ⟨x,hx,hc⟩
 ·intro y hy hc
  refine up y (ik hy) ?_
  by_cases h:l.count y < m.count y
  ·exact .inl h
  ·exact .inr (by omega)
theorem EO {G:T→T→Prop}:∀ {l m k:List T},(∀ x∈l,∀ y∈m,∀ z∈k,G x y→G y z→G x z)→Lx G l m→Lx G m k→Lx G l k
 | [],_,_,_,h,_=>h.elim
 | _::_,[],_,_,_,h=>h.elim
 | _::_,_::_,[],_,_,_=>trivial
 | x::l,y::m,z::k,tr,h1,h2=>by
   have ih:=@EO G l m k fun x hx y hy z hz=>tr x (aa6 _ hx) y (aa6 _ hy) z (aa6 _ hz)
   rcases h1 with ⟨rfl,h1⟩ | h1 <;> rcases h2 with ⟨rfl,h2⟩ | h2
   ·exact .inl ⟨rfl,ih h1 h2⟩
   ·exact .inr h2
   ·exact .inr h1
   ·exact .inr (tr x abn y abn z abn h1 h2)
theorem Cp:∀ (N:Nat) {a b c:T},wt a≤N→wt b≤N→wt c≤N→Gt sp a b→Gt sp b c→Gt sp a c:=by
 intro N
 induction N with
 | zero=>intro a b c h;have:=eF a;omega
 | succ N ihN=>
 intro a b c
 induction h:wt a + wt b + wt c using Nat.strongRecOn generalizing a b c with
 | _ n ih=>
   intro la lb lc sX TN
   rcases o9 sX with ⟨x,hx,rfl | hg⟩ | ⟨hb,h1,h2⟩
   ·exact jU (xZ sX) hx (.inr TN)
   ·have:=bM hx
    exact jU (xZ sX) hx (.inr (ih (wt x + wt b + wt c) (by omega) rfl (by omega) lb lc hg TN))
   rcases o9 TN with ⟨y,hy,rfl | hg⟩ | ⟨hc,h3,h4⟩
   ·exact h1 y hy
   ·have:=bM hy
    exact ih (wt a + wt y + wt c) (by omega) rfl la (by omega) lc (h1 y hy) hg
   have h5:∀ z∈c.l,Gt sp a z:=fun z hz=>by
    have:=bM hz
    exact ih (wt a + wt b + wt z) (by omega) rfl la lb (by omega) sX (h3 z hz)
   refine Nv (xZ sX) hc h5 ?_
   rcases h2 with h2 | ⟨e2,s2,h2⟩ | ⟨e2,s2,h2⟩ <;> rcases h4 with h4 | ⟨e4,s4,h4⟩ | ⟨e4,s4,h4⟩
   ·exact .inl (by omega)
   ·exact .inl (by omega)
   ·exact .inl (by omega)
   ·exact .inl (by omega)
   ·refine .inr (.inl ⟨by omega,s2,?_⟩)
    rw [e2] at h4
    refine EO (fun x hx y hy z hz=>?_) h2 h4
    have:=bM (jv.1 hx);have:=bM (jv.1 hy);have:=bM (jv.1 hz)
    exact ihN (by omega) (by omega) (by omega)
   ·rw [e2] at s4;exact absurd s4 s2
   ·exact .inl (by omega)
   ·rw [e2] at s4;exact absurd s2 s4
   ·refine .inr (.inr ⟨by omega,s2,?_⟩)
    have small:∀ x∈a.l++b.l++c.l,wt x≤N:=by
     intro x hx
     simp only [ab7] at hx
     rcases hx with (hx | hx) | hx <;> have:=bM hx <;> omega
    exact Ny (fun x _=>Co x) (fun x hx y hy z hz=>ihN (small x hx) (small y hy) (small z hz)) h2 h4
theorem gt_trans {a b c:T}:Gt sp a b→Gt sp b c→Gt sp a c:=Cp (wt a + wt b + wt c) (by omega) (by omega) (by omega)
theorem Nz {l m X Y C:List T} (hl:l.Perm (X++C)) (hm:m.Perm (Y++C)) (h0:X≠[]) (h1:∀ y∈Y,∃ x∈X,Gt sp x y):Mu (Gt sp) l m:=by
 have cl:∀ z,l.count z=X.count z + C.count z:=fun z=>by rw [hl.count_eq,aep]
 have cm:∀ z,m.count z=Y.count z + C.count z:=fun z=>by rw [hm.count_eq,aep]
 have up:∀ z∈X++Y,z∈Y→∃ x∈X,Y.count x < X.count x∧Gt sp x z:=by
  refine Nx (G:=Gt sp) (fun x _=>Co x) (fun x _ y _ z _=>gt_trans) _ fun z hz ih hy=>?_
  obtain ⟨x1,uL,Lc⟩:=h1 z hy
  by_cases hc:Y.count x1 < X.count x1
  ·exact ⟨x1,uL,hc,Lc⟩
  ·have:0 < X.count x1:=acD.2 uL
   obtain ⟨x,hx,pZ,hg⟩:=ih x1 (by simp [uL]) Lc (acD.1 (by omega))
   exact ⟨x,hx,pZ,gt_trans hg Lc⟩
 have inl:∀ {x},x∈X→x∈l:=fun hx=>hl.mem_iff.2 (by simp [hx])
 constructor
 ·obtain ⟨x,hx⟩:=List.exists_mem_of_ne_nil X h0
  by_cases hc:Y.count x < X.count x
  ·exact ⟨x,inl hx,by rw [cl,cm];omega⟩
  ·have:0 < X.count x:=acD.2 hx
   obtain ⟨x',yH,JC,_⟩:=up x (by simp [hx]) (acD.1 (by omega))
   exact ⟨x',inl yH,by rw [cl,cm];omega⟩
 ·intro y hy hc
  rw [cl,cm] at hc
  have hyY:y∈Y:=acD.1 (by omega)
  obtain ⟨x,hx,JC,hg⟩:=up y (by simp [hyY]) hyY
  exact ⟨x,inl hx,by rw [cl,cm];omega,hg⟩
def R0 (X Y:List T):Prop:=∀ z,z∈X→z∉Y
theorem NA {G:T→T→Prop} {l m X Y C:List T} (hl:l.Perm (X++C)) (hm:m.Perm (Y++C)) (hd:R0 X Y):Mu G l m↔X≠[]∧∀ y∈Y,∃ x∈X,G x y:=by
 have cl:∀ z,l.count z=X.count z + C.count z:=fun z=>by rw [hl.count_eq,aep]
 have cm:∀ z,m.count z=Y.count z + C.count z:=fun z=>by rw [hm.count_eq,aep]
 have inl:∀ {x},x∈X→x∈l:=fun hx=>hl.mem_iff.2 (by simp [hx])
 have inm:∀ {x},x∈Y→x∈m:=fun hx=>hm.mem_iff.2 (by simp [hx])
 have cX:∀ {z},m.count z < l.count z↔z∈X:=by
  intro z
  rw [cl,cm]
  constructor
  ·intro h;exact acD.1 (by omega)
  ·intro h
   have h1:0 < X.count z:=acD.2 h
   have h2:Y.count z=0:=List.count_eq_zero.2 (hd z h)
   omega
 have cY:∀ {z},l.count z < m.count z↔z∈Y:=by
  intro z
  rw [cl,cm]
  constructor
  ·intro h;exact acD.1 (by omega)
  ·intro h
   have h1:0 < Y.count z:=acD.2 h
   have h2:X.count z=0:=List.count_eq_zero.2 (fun hx=>hd z hx h)
   omega
 constructor
 ·rintro ⟨⟨x,_,hx⟩,h2⟩
  refine ⟨fun e=>(by have hm:=cX.1 hx;rw [e] at hm;cases hm),fun y hy=>?_⟩
  obtain ⟨x,_,hx,hg⟩:=h2 y (inm hy) (cY.2 hy)
  exact ⟨x,cX.1 hx,hg⟩
 ·rintro ⟨h1,h2⟩
  refine ⟨?_,fun y _ hy=>?_⟩
  ·obtain ⟨x,hx⟩:=List.exists_mem_of_ne_nil X h1
   exact ⟨x,inl hx,cX.2 hx⟩
  ·obtain ⟨x,hx,hg⟩:=h2 y (cY.1 hy)
   exact ⟨x,inl hx,cX.2 hx,hg⟩
theorem zk {l m X Y C:List T} (hl:l.Perm (X++C)) (hm:m.Perm (Y++C)) (hd:R0 X Y):l.Perm m↔X=[]∧Y=[]:=by
 constructor
 ·intro h
  have hc:∀ z,X.count z=Y.count z:=fun z=>by
   have h1:=hl.count_eq z
   have h2:=hm.count_eq z
   have h3:=h.count_eq z
   rw [aep] at h1 h2
   omega
  constructor
  ·cases hX:X with
   | nil=>rfl
   | cons x r=>
     have h1:x∈X:=by rw [hX];simp
     have h2:0 < Y.count x:=by rw [← hc];exact acD.2 h1
     exact absurd (acD.1 h2) (hd x h1)
  ·cases hY:Y with
   | nil=>rfl
   | cons x r=>
     have h1:x∈Y:=by rw [hY];simp
     have h2:0 < X.count x:=by rw [hc];exact acD.2 h1
     exact absurd h1 (hd x (acD.1 h2))
 ·rintro ⟨rfl,rfl⟩
  exact hl.trans hm.symm
theorem KA (l m:List T):∃ X Y C,l.Perm (X++C)∧m.Perm (Y++C)∧R0 X Y:=by
 induction l with
 | nil=>exact ⟨[],m,[],by simp,by simp,fun z hz=>by cases hz⟩
 | cons x l ih=>
   obtain ⟨X,Y,C,h1,h2,h3⟩:=ih
   by_cases hx:x∈Y
   ·have hp:Y.Perm (x::Y.erase x):=List.perm_cons_erase hx
    refine ⟨X,Y.erase x,x::C,(h1.cons x).trans List.perm_middle.symm,h2.trans ((hp.append_right C).trans List.perm_middle.symm),fun z hz hz2=>h3 z hz (List.mem_of_mem_erase hz2)⟩
   ·refine ⟨x::X,Y,C,h1.cons x,h2,fun z hz hz2=>?_⟩
    rcases OU.1 hz with rfl | hz
    ·exact hx hz2
    ·exact h3 z hz hz2
mutual
def sb (sp:Int→Int) (f:Int→T):T→T
 | .mk k n l=>if k=2 then .mk 2 n (if sp n=3 then yJ (sbs sp f l) else sbs sp f l) else f n
def sbs (sp:Int→Int) (f:Int→T):List T→List T
 | []=>[]
 | x::r=>sb sp f x::sbs sp f r
end
theorem Cq (sp:Int→Int) (f:Int→T):∀ l,sbs sp f l=l.map (sb sp f)
 | []=>rfl
 | x::r=>by simp [sbs,Cq sp f r]
theorem EP {sp:Int→Int} {f:Int→T} {a:T} (h:a.k=2):(sb sp f a).k=2∧(sb sp f a).n=a.n∧(sp a.n=3→(sb sp f a).l.Perm (a.l.map (sb sp f)))∧(sp a.n≠3→(sb sp f a).l=a.l.map (sb sp f)):=by
 cases a with
 | mk k n l=>
   simp only [T.k] at h
   subst h
   simp only [sb,if_true,T.k,T.n,T.l,Cq,true_and]
   refine ⟨fun h=>by rw [if_pos h];exact gF _,fun h=>by rw [if_neg h]⟩
theorem Hj {f:Int→T} {a x:T} (h:a.k=2):x∈(sb sp f a).l↔∃ y∈a.l,sb sp f y=x:=by
 obtain ⟨_,_,h1,h2⟩:=EP (sp:=sp) (f:=f) h
 by_cases hs:sp a.n=3
 ·rw [(h1 hs).mem_iff,aaR]
 ·rw [h2 hs,aaR]
theorem NB {G:T→T→Prop} {g:T→T}:∀ {l m:List T},(∀ x∈l,∀ y∈m,G x y→G (g x) (g y))→Lx G l m→Lx G (l.map g) (m.map g)
 | [],_,_,h=>h.elim
 | _::_,[],_,_=>trivial
 | x::l,y::m,hg,h=>by
   simp only [List.map_cons]
   rcases h with ⟨rfl,h⟩ | h
   ·exact .inl ⟨rfl,NB (fun x hx y hy=>hg x (aa6 _ hx) y (aa6 _ hy)) h⟩
   ·exact .inr (hg x abn y abn h)
theorem sw (s:Int) (g:T→T) (l:List T):side s (l.map g)=(side s l).map g:=by unfold side;split <;> simp
theorem aaA (f:Int→T):∀ {a b:T},Gt sp a b→Gt sp (sb sp f a) (sb sp f b):=by
 intro a b
 induction h:wt a + wt b using Nat.strongRecOn generalizing a b with
 | _ n ih=>
   intro sX
   have ha:=xZ sX
   obtain ⟨ka,na,pa,qa⟩:=EP (sp:=sp) (f:=f) ha
   rcases o9 sX with ⟨x,hx,rfl | hg⟩ | ⟨hb,h1,h2⟩
   ·exact jU ka ((Hj ha).2 ⟨x,hx,rfl⟩) (.inl rfl)
   ·have:=bM hx
    exact jU ka ((Hj ha).2 ⟨x,hx,rfl⟩) (.inr (ih (wt x + wt b) (by omega) rfl hg))
   obtain ⟨kb,nb,pb,qb⟩:=EP (sp:=sp) (f:=f) hb
   refine Nv ka kb (fun y hy=>?_) ?_
   ·obtain ⟨z,hz,rfl⟩:=(Hj hb).1 hy
    have:=bM hz
    exact ih (wt a + wt z) (by omega) rfl (h1 z hz)
   rw [na,nb]
   rcases h2 with h2 | ⟨e,s,h2⟩ | ⟨e,s,h2⟩
   ·exact .inl h2
   ·refine .inr (.inl ⟨e,s,?_⟩)
    rw [qa s,qb (by rw [e];exact s),sw,sw]
    refine NB (fun x hx y hy hg=>?_) h2
    have:=bM (jv.1 hx);have:=bM (jv.1 hy)
    exact ih (wt x + wt y) (by omega) rfl hg
   ·refine .inr (.inr ⟨e,s,?_⟩)
    obtain ⟨X,Y,C,p1,p2,dj⟩:=KA a.l b.l
    obtain ⟨m1,m2⟩:=(NA p1 p2 dj).1 h2
    have q1:=(pa s).trans (p1.map (sb sp f))
    have q2:=(pb (by rw [e];exact s)).trans (p2.map (sb sp f))
    rw [acL] at q1 q2
    refine Nz q1 q2 (by simpa using m1) fun y hy=>?_
    obtain ⟨z,hz,rfl⟩:=aaR.1 hy
    obtain ⟨x,hx,hg⟩:=m2 z hz
    have:=bM (p1.mem_iff.2 (agw C hx));have:=bM (p2.mem_iff.2 (agw C hz))
    exact ⟨_,aaR.2 ⟨x,hx,rfl⟩,ih (wt x + wt z) (by omega) rfl hg⟩
theorem Hk {G:T→T→Prop} {x y:T} (h:G x y):∀ (p q:List T),Lx G (p++x::q) (p++y::q)
 | [],q=>.inr h
 | z::p,q=>.inl ⟨rfl,Hk h p q⟩
theorem WB {a b x y:T} {p q:List T} (ha:a.k=2) (hb:b.k=2) (hn:b.n=a.n) (h:Gt sp x y)
 (hl:if sp a.n=3 then a.l.Perm (p++x::q)∧b.l.Perm (p++y::q) else a.l=p++x::q∧b.l=p++y::q):Gt sp a b:=by
 have ma:∀ z,z∈a.l↔z∈p++x::q:=fun z=>by
  split at hl
  ·exact hl.1.mem_iff
  ·rw [hl.1]
 have mb:∀ z,z∈b.l↔z∈p++y::q:=fun z=>by
  split at hl
  ·exact hl.2.mem_iff
  ·rw [hl.2]
 refine Nv ha hb (fun z hz=>?_) ?_
 ·have hz:=(mb z).1 hz
  simp only [ab7,OU] at hz
  rcases hz with hz | rfl | hz
  ·exact jU ha ((ma z).2 (by simp [hz])) (.inl rfl)
  ·exact jU ha ((ma x).2 (by simp)) (.inr h)
  ·exact jU ha ((ma z).2 (by simp [hz])) (.inl rfl)
 ·by_cases hs:sp a.n=3
  ·rw [if_pos hs] at hl
   refine .inr (.inr ⟨hn,hs,?_⟩)
   refine Nz (X:=[x]) (Y:=[y]) (C:=p++q) (hl.1.trans List.perm_middle) (hl.2.trans List.perm_middle) (by simp) fun z hz=>?_
   rw [aa4] at hz
   subst hz
   exact ⟨x,by simp,h⟩
  ·rw [if_neg hs] at hl
   refine .inr (.inl ⟨hn,hs,?_⟩)
   rw [hl.1,hl.2]
   unfold side
   split
   ·rw [List.reverse_append,List.reverse_append,agI,agI,abb,abb]
    exact Hk h _ _
   ·exact Hk h _ _
theorem T.ext {a b:T} (h1:a.k=b.k) (h2:a.n=b.n) (h3:a.l=b.l):a=b:=by
 cases a;cases b;simp only [T.k,T.n,T.l] at h1 h2 h3;rw [h1,h2,h3]
end
end Go.fo
end
section
namespace Go.fo
open Go.aK
def E (O:Od) (a b:T):Prop:=norm O a=norm O b
def R (O:Od) (a b:T):Prop:=Gt O.sp (norm O a) (norm O b)
theorem kmk (k n:Int) (l:List T):(T.mk k n l).k=k:=rfl
theorem nmk (k n:Int) (l:List T):(T.mk k n l).n=n:=rfl
theorem lmk (k n:Int) (l:List T):(T.mk k n l).l=l:=rfl
section
variable {O:Od}
theorem jj {a:T} (h:a.k=2):(norm O a).k=2∧(norm O a).n=O.pl a.n∧(O.sp (O.pl a.n)=3→(norm O a).l=yJ (a.l.map (norm O)))∧(O.sp (O.pl a.n)≠3→(norm O a).l=a.l.map (norm O)):=by
 cases a with
 | mk k n l=>
   simp only [T.k] at h
   subst h
   simp only [norm,if_true,T.k,T.n,T.l,AK,true_and]
   exact ⟨fun h=>by rw [if_pos h],fun h=>by rw [if_neg h]⟩
theorem sx {a:T} (h:a.k≠2):norm O a=.mk 1 a.n []:=by
 cases a with
 | mk k n l=>simp only [kmk] at h;simp only [norm];rw [if_neg h];rfl
theorem tY {a:T}:(norm O a).k=2↔a.k=2:=by
 by_cases h:a.k=2
 ·simp [h,(jj h).1]
 ·rw [sx h,kmk];simp [h]
theorem sy {a x:T} (h:a.k=2):x∈(norm O a).l↔∃ y∈a.l,norm O y=x:=by
 obtain ⟨_,_,h1,h2⟩:=jj (O:=O) h
 by_cases hs:O.sp (O.pl a.n)=3
 ·rw [h1 hs,RW,aaR]
 ·rw [h2 hs,aaR]
theorem R1 {G:T→T→Prop} {l m l' m':List T} (h1:l.Perm l') (h2:m.Perm m'):Mu G l m↔Mu G l' m':=by
 unfold Mu
 simp only [h1.count_eq,h2.count_eq,h1.mem_iff,h2.mem_iff]
theorem aaB {a b:T}:E O a b↔(a.k=2∧b.k=2∧O.pl a.n=O.pl b.n∧(if O.sp (O.pl a.n)=3 then (a.l.map (norm O)).Perm (b.l.map (norm O)) else a.l.map (norm O)=b.l.map (norm O)))∨(a.k≠2∧b.k≠2∧a.n=b.n):=by
 by_cases ha:a.k=2
 ·by_cases hb:b.k=2
  ·obtain ⟨ka,na,pa,qa⟩:=jj (O:=O) ha
   obtain ⟨kb,nb,pb,qb⟩:=jj (O:=O) hb
   simp only [ha,hb,true_and,ne_eq,not_true_eq_false,false_and,or_false]
   unfold E
   constructor
   ·intro h
    have hn:O.pl a.n=O.pl b.n:=by rw [← na,← nb,h]
    refine ⟨hn,?_⟩
    have hl:(norm O a).l=(norm O b).l:=by rw [h]
    split
    ·rename_i hs
     rw [pa hs,pb (by rw [← hn];exact hs)] at hl
     exact IK.1 hl
    ·rename_i hs
     rw [qa hs,qb (by rw [← hn];exact hs)] at hl
     exact hl
   ·rintro ⟨hn,hl⟩
    refine T.ext (by rw [ka,kb]) (by rw [na,nb,hn]) ?_
    split at hl
    ·rename_i hs
     rw [pa hs,pb (by rw [← hn];exact hs)]
     exact IK.2 hl
    ·rename_i hs
     rw [qa hs,qb (by rw [← hn];exact hs)]
     exact hl
  ·simp only [ha,hb,ne_eq,not_true_eq_false,false_and,and_false,or_false,iff_false]
   intro h
   have:=tY (O:=O) (a:=a)
   unfold E at h
   rw [h,tY] at this
   exact hb (this.2 ha)
 ·by_cases hb:b.k=2
  ·simp only [ha,hb,ne_eq,not_true_eq_false,false_and,and_false,or_false,iff_false]
   intro h
   have:=tY (O:=O) (a:=b)
   unfold E at h
   rw [← h,tY] at this
   exact ha (this.2 hb)
  ·simp only [ha,hb,ne_eq,not_false_eq_true,false_and,true_and,false_or]
   unfold E
   rw [sx ha,sx hb]
   simp
theorem sA {a b:T}:R O a b↔a.k=2∧((∃ x∈a.l,E O x b∨R O x b)∨b.k=2∧(
 (O.pl b.n < O.pl a.n∧∀ y∈b.l,R O a y)∨
 (O.pl b.n=O.pl a.n∧O.sp (O.pl a.n)≠3∧(∀ y∈b.l,R O a y)∧Lx (Gt O.sp) (side (O.sp (O.pl a.n)) (a.l.map (norm O))) (side (O.sp (O.pl a.n)) (b.l.map (norm O))))∨
 (O.pl b.n=O.pl a.n∧O.sp (O.pl a.n)=3∧Mu (Gt O.sp) (a.l.map (norm O)) (b.l.map (norm O))))):=by
 unfold R
 rw [xY]
 unfold Fm
 rw [tY,tY]
 refine and_congr_right fun ha=>?_
 obtain ⟨ka,na,pa,qa⟩:=jj (O:=O) ha
 refine or_congr ?_ (and_congr_right fun hb=>?_)
 ·constructor
  ·rintro ⟨x,hx,h⟩
   obtain ⟨y,hy,rfl⟩:=(sy ha).1 hx
   exact ⟨y,hy,h⟩
  ·rintro ⟨x,hx,h⟩
   exact ⟨_,(sy ha).2 ⟨x,hx,rfl⟩,h⟩
 ·obtain ⟨kb,nb,pb,qb⟩:=jj (O:=O) hb
  have e:(∀ y∈(norm O b).l,Gt O.sp (norm O a) y)↔∀ y∈b.l,Gt O.sp (norm O a) (norm O y):=by
   constructor
   ·intro h y hy;exact h _ ((sy hb).2 ⟨y,hy,rfl⟩)
   ·intro h y hy;obtain ⟨z,hz,rfl⟩:=(sy hb).1 hy;exact h z hz
  rw [e,na,nb]
  refine or_congr Iff.rfl (or_congr ?_ ?_)
  ·refine and_congr_right fun hn=>and_congr_right fun hs=>?_
   rw [qa hs,qb (by rw [hn];exact hs)]
  ·refine and_congr_right fun hn=>and_congr_right fun hs=>?_
   exact R1 (by rw [pa hs];exact gF _) (by rw [pb (by rw [hn];exact hs)];exact gF _)
theorem aaC {a b:T} (h:E O a b):¬ R O a b:=by unfold R;rw [show norm O a=norm O b from h];exact Co _
theorem R2 {a b c:T} (h1:R O a b) (h2:R O b c):R O a c:=gt_trans h1 h2
theorem aaD {a b x:T} (ha:a.k=2) (hx:x∈a.l) (h:E O x b∨R O x b):R O a b:=sA.2 ⟨ha,.inl ⟨x,hx,h⟩⟩
def WC (g:T→T) (f:Int→T):Prop:=∀ t:T,if t.k=2 then g t=.mk 2 t.n (t.l.map g) else g t=f t.n
theorem AL {g:T→T} {f:Int→T} (hg:WC g f):∀ t,norm O (g t)=sb O.sp (fun n=>norm O (f n)) (norm O t):=by
 intro t
 induction h:wt t using Nat.strongRecOn generalizing t with
 | _ n ih=>
   have h1:=hg t
   split at h1
   ·rename_i hk
    rw [h1]
    have hm:(t.l.map g).map (norm O)=(t.l.map (norm O)).map (sb O.sp fun n=>norm O (f n)):=by
     rw [ada,ada]
     refine acT fun x hx=>?_
     exact ih _ (by have:=bM hx;omega) x rfl
    obtain ⟨ka,na,pa,qa⟩:=jj (O:=O) hk
    obtain ⟨ka',na',pa',qa'⟩:=jj (O:=O) (a:=.mk 2 t.n (t.l.map g)) rfl
    have e:norm O t=.mk 2 (O.pl t.n) (norm O t).l:=T.ext ka na rfl
    refine T.ext ?_ ?_ ?_
    ·rw [ka',(EP (sp:=O.sp) ka).1]
    ·rw [na',(EP (sp:=O.sp) ka).2.1,na];rfl
    ·rw [e]
     simp only [sb,if_true,lmk,Cq]
     simp only [nmk,lmk] at pa' qa'
     by_cases hs:O.sp (O.pl t.n)=3
     ·rw [pa' hs,if_pos hs,hm,pa hs]
      exact Nu ((gF _).symm.map _)
     ·rw [qa' hs,if_neg hs,hm,qa hs]
   ·rename_i hk
    rw [h1,sx hk]
    simp [sb]
theorem WD {g:T→T} {f:Int→T} (hg:WC g f) {a b:T} (h:R O a b):R O (g a) (g b):=by
 unfold R
 rw [AL hg,AL hg]
 exact aaA _ h
theorem aaE {a x y:T} {i:Nat} (ha:a.k=2) (hi:i < a.l.length) (h:R O x y):R O (.mk a.k a.n (a.l.set i x)) (.mk a.k a.n (a.l.set i y)):=by
 have e:∀ z:T,a.l.set i z=a.l.take i++z::a.l.drop (i + 1):=fun z=>List.set_eq_take_append_cons_drop.trans (by rw [if_pos hi])
 obtain ⟨k1,n1,p1,q1⟩:=jj (O:=O) (a:=.mk a.k a.n (a.l.set i x)) ha
 obtain ⟨k2,n2,p2,q2⟩:=jj (O:=O) (a:=.mk a.k a.n (a.l.set i y)) ha
 refine WB (p:=(a.l.take i).map (norm O)) (q:=(a.l.drop (i + 1)).map (norm O)) k1 k2 (by rw [n1,n2];rfl) h ?_
 rw [n1]
 simp only [nmk,lmk,e,acL,List.map_cons] at p1 q1 p2 q2 ⊢
 split
 ·rename_i hs;rw [p1 hs,p2 hs];exact ⟨gF _,gF _⟩
 ·rename_i hs;rw [q1 hs,q2 hs];exact ⟨rfl,rfl⟩
end
inductive wx (p:Int→Prop):T→Prop
 | mk (k n:Int) (l:List T) (h1:k=2→p n) (h2:∀ x∈l,wx p x):wx p (.mk k n l)
theorem wx.op {p:Int→Prop} {a:T} (h:wx p a) (hk:a.k=2):p a.n:=by cases h with | mk k n l h1 _=>exact h1 hk
theorem wx.mem {p:Int→Prop} {a x:T} (h:wx p a) (hx:x∈a.l):wx p x:=by cases h with | mk k n l _ h2=>exact h2 x hx
end Go.fo
end
section
set_option maxRecDepth 100000
namespace Go.aK
open Go Go.Proofs Go.fo
abbrev Nd:=T×List Int
def bA:List Int→AV
 | []=>.ag
 | v::r=>.ak 0 (ints (v::r))
def Hl (p:Nd):AV:=.agg [.int .i64 p.1.k,.int .i64 p.1.n,.ak 0 (bk p.1.l),bA p.2]
def fp (l:List Nd):List AV:=l.map Hl
def zN:AV:=.agg [.int .i64 0,.int .i64 0,.ag,.ag]
theorem aJ (l:List Int):(bA l).one=true∧(bA l).ab=bA l∧(∀ n,(bA l).aW n=true)∧(bA l).val=true∧(bA l).cells=[bA l]:=by
 cases l with
 | nil=>exact ⟨rfl,rfl,fun _=>rfl,rfl,rfl⟩
 | cons v r=>exact ⟨rfl,rfl,fun n=>by rw [bA,bZ];exact aT n _,rfl,rfl⟩
theorem R3 (p:Nd):jT 4 (Hl p):=by
 obtain ⟨t,ks⟩:=p
 cases ks with
 | nil=>exact ⟨rfl,rfl,by simp [Hl,bA,AV.cells,dy,bJ,cV,eE,bZ,Iu],rfl⟩
 | cons v r=>exact ⟨rfl,rfl,by simp [Hl,bA,AV.cells,dy,bJ,cV,eE,bZ,aT],rfl⟩
theorem Cr:jT 4 (bV zN):=⟨rfl,rfl,rfl,rfl⟩
theorem kS (l:List Nd):∀ x∈fp l,jT 4 x:=by
 intro x hx;obtain ⟨p,_,rfl⟩:=aaR.1 hx;exact R3 p
def aZ:List T→Nat→List Int
 | [],_=>[]
 | x::r,n=>(n:Int)::aZ r (n + wt x)
mutual
def x7:T→Nat→List Nd
 | .mk k n l,i=>(.mk k n l,aZ l (i + 1))::dg l (i + 1)
def dg:List T→Nat→List Nd
 | [],_=>[]
 | x::r,i=>x7 x i++dg r (i + wt x)
end
mutual
theorem sB:∀ (t:T) (i:Nat),(x7 t i).length=wt t
 | .mk k n l,i=>by rw [x7,List.length_cons,iF,wt];omega
theorem iF:∀ (l:List T) (i:Nat),(dg l i).length=iN l
 | [],_=>rfl
 | x::r,i=>by rw [dg,aaz,sB,iF,iN]
end
theorem pQ (t:T) (i:Nat):x7 t i=(t,aZ t.l (i + 1))::dg t.l (i + 1):=by cases t;rw [x7];rfl
theorem EQ (t:T):wt t=iN t.l + 1:=by cases t;rw [wt];exact afM _ _
theorem mA:∀ (l:List T) (x:T) (i:Nat),dg (l++[x]) i=dg l i++x7 x (i + iN l)
 | [],x,i=>by simp [dg,iN]
 | y::r,x,i=>by rw [List.cons_append,dg,dg,mA r x,abb,iN];congr 3;omega
theorem jw:∀ (l:List T) (x:T) (i:Nat),aZ (l++[x]) i=aZ l i++[((i + iN l:Nat):Int)]
 | [],x,i=>by simp [aZ,iN]
 | y::r,x,i=>by rw [List.cons_append,aZ,aZ,jw r x,iN];simp;omega
theorem pc {l:List T} {i:Nat} (h:i < l.length):iN (l.take (i + 1))=iN (l.take i) + wt (l.getD i default):=by
 have e:∀ (a:List T) (x:T),iN (a++[x])=iN a + wt x:=by
  intro a x;induction a with
  | nil=>simp [iN]
  | cons y r ih=>rw [List.cons_append,iN,iN,ih];omega
 rw [acP h,e]
 simp [h]
theorem dB:∀ (l:List T) (i:Nat),iN (l.take i)≤iN l
 | [],i=>by simp [iN]
 | x::r,0=>by simp [iN]
 | x::r,i + 1=>by rw [List.take_succ_cons,iN,iN];have:=dB r i;omega
theorem cN:∀ (l:List T) (i:Nat),(aZ l i).length=l.length
 | [],_=>rfl
 | x::r,i=>by rw [aZ,List.length_cons,cN,List.length_cons]
theorem jk:∀ l:List T,l.length≤iN l
 | []=>by simp
 | x::r=>by rw [List.length_cons,iN];have:=jk r;have:=eF x;omega
def nK (t:T):AV:=.agg [.int .i64 t.k,.int .i64 t.n,.ak 0 (bk t.l),.ak 0 []]
theorem sC (t:T):jT 4 (nK t):=⟨rfl,rfl,by simp [nK,AV.cells,dy,bJ,eE,bZ,aj],rfl⟩
theorem bdN (t:T) (φ:AV→Prop):cE [.int .i64 0,.int .i64 0,.ag,.ag] [(0,3,t.av)] φ=φ (.agg [.int .i64 t.k,.int .i64 t.n,.ak 0 (bk t.l),.ag]):=by
 cases t with
 | mk k n l=>
 simp only [cE,iu,T.av,eq_iff_iff]
 constructor
 ·rintro ⟨_,_,_,h⟩;exact h
 ·exact fun h=>⟨rfl,rfl,by decide,h⟩
theorem aaF (t:T):aR (.agg [.int .i64 t.k,.int .i64 t.n,.ak 0 (bk t.l),.ag])=nK t:=rfl
theorem RO.aN {z:AV} {base:Nat} {v:AV} {xs:List AV} {G:List aa} (h:RO z base v xs G):aN 1 v=True:=by
 rcases h with ⟨_,rfl⟩ | ⟨id,cap,_,rfl,_⟩ <;> simp [Go.aK.aN]
theorem fN (l:List Int):(gT l).one=true∧(gT l).ab=bA l∧(gT l).val=true∧(gT l).cells=[gT l]:=by
 cases l with
 | nil=>exact ⟨rfl,rfl,rfl,rfl⟩
 | cons v r=>exact ⟨rfl,rfl,rfl,rfl⟩
def aaG (base:Nat) (H:List aa) (xs:List AV) (r:AV) (H':List aa):Prop:=RO zN base r xs H'∧H'.take base=H.take base∧H.length≤H'.length
theorem sD (a b:List Nd):fp (a++b)=fp a++fp b:=by simp [fp]
theorem sE (a:List Nd):(fp a).length=a.length:=by simp [fp]
theorem aeo:∀ (N:Nat) (t:T),wt t≤N→∀ (base:Nat) (v:AV) (xs:List AV) (H:List aa),RO zN base v xs H→(∀ x∈xs,jT 4 x)→base≤H.length→(xs.length + wt t) * 64≤140737488355328→
 aw Tryz.prog 132 [t.av,v] H (aaG base H (xs++fp (x7 t xs.length))):=by
 intro N
 induction N with
 | zero=>intro t ht;have:=eF t;omega
 | succ N ih=>
 intro t ht base v xs H hR eK hbase hb
 have hw:=EQ t
 have hlw:=jk t.l
 refine II.2.calls rfl ?_
 simp only [II,aH]
 obtain ⟨o1,o2,o3,o4⟩:=hR.one
 simp +contextual only [o3,hR.len,hR.aN,bdN,aaF,sZ,Nat.reduceEqDiff,Nat.reduceAdd,↓reduceIte,reduceCtorEq]
 refine Nt Cr hR eK 0 [nK t] (by simp) (by simp [sC]) (by simp;omega) hbase fun v1 G1 WE WG hj1 vG=>?_
 obtain ⟨o1',o2',o3',o4'⟩:=WE.one
 simp +contextual only [sZ]
 intro _
 have jI:∀ i,(xs++nK t::fp (dg (t.l.take i) (xs.length + 1))).length=xs.length + 1 + iN (t.l.take i):=by intro i;simp [sE,iF];omega
 have jo:∀ i,∀ x∈xs++nK t::fp (dg (t.l.take i) (xs.length + 1)),jT 4 x:=by
  intro i x hx
  rcases ab7.1 hx with hx | hx
  ·exact eK x hx
  ·rcases OU.1 hx with rfl | hx
   ·exact sC t
   ·exact kS _ x hx
 refine aD t.l.length (fun i (p:AV×List aa)=>RO zN base p.1 (xs++nK t::fp (dg (t.l.take i) (xs.length + 1))) p.2∧p.2.take base=H.take base∧H.length≤p.2.length)
  (fun i p=>[(1,p.1),(5,.int .i64 xs.length),(6,gT (aZ (t.l.take i) (xs.length + 1))),(17,.ak 0 (bk t.l)),(18,.int .i64 t.l.length),(19,.int .i64 i)])
  (fun i p=>p.2) (v1,G1) ⟨⟨WE,WG,vG⟩,ax _ _ _⟩ fun i p hi hI=>?_
 obtain ⟨v,G⟩:=p
 obtain ⟨hR,hG,hl⟩:=hI
 simp only at hR hG hl
 obtain ⟨o1,o2,o3,o4⟩:=hR.one
 have hle:=dB t.l i
 have Dy:=cN (t.l.take i) (xs.length + 1)
 have WH:(t.l.take i).length≤t.l.length:=by simp;omega
 simp +contextual only [o3,hR.len,hR.aN,jI,qS,(fN _).2.1,jd,sZ,Nat.reduceEqDiff,Nat.reduceAdd,↓reduceIte,reduceCtorEq]
 refine ⟨fun aG=>⟨aY aG,by omega,?_⟩,fun eW=>?_⟩
 ·have aG:=aY aG
  have hwt:=pc aG
  have hnext:=dB t.l (i + 1)
  have e2:t.l.take (i + 1)=t.l.take i++[t.l.getD i default]:=by rw [acP aG];simp [aG]
  refine af (ih (t.l.getD i default) (by have:=bM (bU aG);omega) base v _ G hR (jo i) (by omega) (by rw [jI];omega)) ?_
  rintro r G' ⟨qt,dS,xb⟩
  obtain ⟨o1',o2',o3',o4'⟩:=qt.one
  simp +contextual only [o3',sZ,Nat.reduceEqDiff,↓reduceIte]
  refine ⟨i + 1,(r,G'),⟨aG,?_,dS.trans hG,acN hl xb⟩,by omega,aE ?_ rfl⟩
  ·rw [jI] at qt
   rw [e2,mA,sD,← List.cons_append,← abb]
   exact qt
  ·rw [e2,jw,aq i (by omega)]
 ·have mV:i=t.l.length:=by have:=bN eW;omega
  subst mV
  rw [aby] at hR
  have Hm:=jI t.l.length
  have Hn:=jo t.l.length
  rw [aby] at Hm Hn
  have g9:(xs++nK t::fp (dg t.l (xs.length + 1))).set xs.length (Hl (t,aZ t.l (xs.length + 1)))=xs++fp (x7 t xs.length):=by
   rw [ac9 _ _ (sU _),afw,af0,pQ];rfl
  have kw:(xs++nK t::fp (dg t.l (xs.length + 1))).getD xs.length .any=nK t:=by simp
  generalize xs++nK t::fp (dg t.l (xs.length + 1))=ys at hR Hm Hn g9 kw
  rcases hR with ⟨rfl,_⟩ | ⟨id,cap,bu,rfl,hg,cc,_⟩
  ·simp at Hm
   omega
  have vS:=(aaH.1 hg).1
  obtain ⟨k1,k2,k3,k4,k5⟩:=aJ (aZ t.l (xs.length + 1))
  simp +contextual only [hg,lW,aby,sZ,Nat.reduceEqDiff,↓reduceIte,reduceCtorEq]
  refine ⟨by omega,?_⟩
  refine Cm Hn (by omega) (by decide) (y:=Hl (t,aZ t.l (xs.length + 1))) k1 k4 (by rw [k2];exact k3 _) (by rw [kw,k2];rfl) ?_
  simp +contextual only [sZ,Nat.reduceEqDiff,↓reduceIte,reduceCtorEq]
  rw [g9]
  refine aP (G.length) (by omega) (by rw [ay,if_pos rfl,fJ];simpa using vS) ?_
  rw [ay,if_pos rfl,Ue (by simp)]
  refine ⟨.inr ⟨id,cap,bu,?_,?_,?_,?_⟩,?_,by simpa using hl⟩
  ·rw [← g9];simp
  ·rw [zD vS]
  ·rw [← g9];simpa using cc
  ·rw [pQ];simp [fp]
  ·rw [acu bu];exact hG
end Go.aK
end
section
set_option maxRecDepth 100000
namespace Go.aK
open Go Go.Proofs Go.fo
def pd (l:List Nd):AV:=if l=[] then .ag else .ak 0 (fp l)
def eT (ps ss:List Int):AV:=.agg [.ak 0 (ints ps),.ak 0 (ints ss)]
def kT (ps ss:List Int) (l:List Nd) (e g:Nat):aa:=.cells [.ak 0 (ints ps),.ak 0 (ints ss),pd l,.map e,.map g]
theorem bdD (ps ss:List Int) (a b:Nat) (φ:AV→Prop):cE [.ag,.ag,.ag,.jE,.jE] [(0,2,.agg [.ak 0 (ints ps),.ak 0 (ints ss)]),(3,1,.map a),(4,1,.map b)] φ=φ (.agg [.ak 0 (ints ps),.ak 0 (ints ss),.ag,.map a,.map b]):=by
 simp only [cE,iu,eq_iff_iff]
 constructor
 ·rintro ⟨_,_,_,_,_,_,_,_,_,h⟩;exact h
 ·exact fun h=>⟨rfl,rfl,by simp,rfl,rfl,by simp [ai,AV.cells],rfl,rfl,by simp [ai,AV.cells],h⟩
theorem R4 (a b:AV) (H:List aa) (φ:AV→Prop):aU (some 2) (.ah (.agg [a,b])) H φ=φ (.agg [a,b]):=by simp [aU,AV.cells]
theorem ER (id:Nat) (H:List aa) (K:AV→List aa→Prop):ft 3004 (.ptr id 0) H K=Bu 4 id 2 H (K (.ptr id 0)):=rfl
def TO (H:List aa) (ps ss:List Int) (ts:List T) (r:AV) (H':List aa):Prop:=
 r=.tuple [.ptr (H.length + 2) 0,bA (aZ ts 0)]∧H'=H++[.map [],.map [],kT ps ss (dg ts 0) H.length (H.length + 1)]
theorem ko (l:List T):(fp (dg l 0)).length=iN l:=by rw [sE,iF]
theorem ES {l:List Nd} (h:fp l=[]):l=[]:=adO.1 h
theorem NC {C:List aa→Nat→List aa→Prop} {n0 a b m:Nat} {env:Env} {H H':List aa} {R:AV→List aa→Prop} {x y:AV} (hm:n0≤m) (hC:C H m H') (hx:(get env a).ab=x) (hy:(get env b).ab=y) (bx:x.aW m=true) (zL:y.aW m=true)
 (hR:R (.tuple [x,y]) H'):mj C n0 [.t a,.t b] env H R:=by
 subst hx;subst hy
 exact ⟨m,H',hm,hC,_,cp _,by show aj m [(get env a).ab,(get env b).ab]=true;rw [bJ,bJ,cV,bx,zL];rfl,hR⟩
theorem Ho {n0 m:Nat} {G:List aa} (hm:m≤G.length) (hb:∀ (j:Nat) (o:aa),n0≤j→j < m→G[j]?=some o→o=.dead∨o.aW (j + 1)=true):lh n0 G m (G.take m):=by
 refine ⟨by simp,fun j o ho=>?_⟩
 rw [aa7] at ho
 split at ho
 ·rename_i hj
  by_cases h0:n0≤j
  ·rcases hb j o h0 hj ho with h | h
   ·exact .inl h
   ·exact .inr ⟨ho,fun _=>h⟩
  ·exact .inr ⟨ho,fun h=>by omega⟩
 ·cases ho
theorem x8 (n:Nat) (l:List Nd):aj n (fp l)=true:=
 (bc _ _).2 fun x hx=>by
   obtain ⟨⟨t,ks⟩,_,rfl⟩:=aaR.1 hx
   cases ks with
   | nil=>simp [Hl,bA,AV.aW,dy,aj]
   | cons v r=>simp [Hl,bA,AV.aW,dy,aT,aj]
theorem AM (ps ss:List Int) (l:List Nd) (n:Nat):(kT ps ss l n (n + 1)).aW (n + 2 + 1)=true:=by
 have h:(pd l).aW (n + 2 + 1)=true:=by
  unfold pd
  split
  ·rfl
  ·rw [bZ]
   exact x8 _ _
 simp only [kT,aa.aW,bJ,cV,bZ,aT,h,Me]
 simp;omega
theorem c75 (ps ss:List Int) (ts:List T) (H:List aa) (hb:iN ts * 64≤140737488355328):aw Tryz.prog 75 [eT ps ss,.ak 0 (bk ts)] H (TO H ps ss ts):=by
 refine aay.2.xE rfl ?_
 simp only [aay,aH,eT]
 have hlw:=jk ts
 simp +contextual only [bdD,R4,sZ,Nat.reduceEqDiff,Nat.reduceAdd,↓reduceIte,reduceCtorEq]
 refine ⟨by simp;omega,fun _=>?_⟩
 have e0:∀ (l:List aa) (x:aa),(H++x::l)[H.length]?=some x:=by simp
 refine ke ts.length (fun i (p:AV×List aa)=>RO zN (H.length + 3) p.1 (fp (dg (ts.take i) 0)) p.2∧H.length + 3≤p.2.length∧
  p.2.take (H.length + 3)=H++[.map [],.map [],.cells [.ak 0 (ints ps),.ak 0 (ints ss),p.1,.map H.length,.map (H.length + 1)]])
  (fun i p=>[(6,.ptr (H.length + 2) 0),(7,gT (aZ (ts.take i) 0)),(15,.ak 0 (bk ts)),(16,.int .i64 ts.length),(17,.int .i64 i)])
  (fun i p=>p.2) (.ag,_) ⟨⟨.inl ⟨rfl,rfl⟩,by simp,?_⟩,ms _ _ _⟩ fun i p hi hI=>?_
 ·rw [Ue (by simp)]
 obtain ⟨v,G⟩:=p
 obtain ⟨hR,hl,hG⟩:=hI
 simp only at hR hl hG
 obtain ⟨o1,o2,o3,o4⟩:=hR.one
 have gget:∀ j,j < H.length + 3→G[j]?=(H++[.map [],.map [],.cells [.ak 0 (ints ps),.ak 0 (ints ss),v,.map H.length,.map (H.length + 1)]])[j]?:=by
  intro j hj;rw [← hG,aa7,if_pos hj]
 have g2:G[H.length + 2]?=some (.cells [.ak 0 (ints ps),.ak 0 (ints ss),v,.map H.length,.map (H.length + 1)]):=by rw [gget _ (by omega)];simp
 have hle:=dB ts i
 have Dy:=cN (ts.take i) 0
 have WH:(ts.take i).length≤ts.length:=by simp;omega
 simp +contextual only [o3,g2,hR.len,hR.aN,ko,qS,(fN _).2.1,jd,sZ,Nat.reduceEqDiff,Nat.reduceAdd,Nat.reduceLT,↓reduceIte,reduceCtorEq]
 refine ⟨fun aG=>⟨aY aG,by omega,?_⟩,fun eW=>?_⟩
 ·have aG:=aY aG
  have hwt:=pc aG
  have hnext:=dB ts (i + 1)
  have e2:ts.take (i + 1)=ts.take i++[ts.getD i default]:=by rw [acP aG];simp [aG]
  have hc:=aeo (wt (ts.getD i default)) (ts.getD i default) (sU _) (H.length + 3) v _ G hR (kS _) hl (by rw [ko];omega)
  refine af hc ?_
  rintro r G' ⟨qt,dS,xb⟩
  obtain ⟨o1',o2',o3',o4'⟩:=qt.one
  have g2':G'[H.length + 2]?=some (.cells [.ak 0 (ints ps),.ak 0 (ints ss),v,.map H.length,.map (H.length + 1)]):=by
   have:(G'.take (H.length + 3))[H.length + 2]?=(G.take (H.length + 3))[H.length + 2]?:=by rw [dS]
   rw [aa7,aa7,if_pos (by omega),if_pos (by omega)] at this
   rw [this,g2]
  have dZ:=qt.aW (sU _)
  simp +contextual only [kN,o1',o2',o3',o4',g2',dZ,sZ,Nat.reduceEqDiff,Nat.reduceAdd,Nat.reduceLeDiff,↓reduceIte]
  refine ⟨by omega,i + 1,(r,_),⟨aG,?_,by simp;omega,?_⟩,by omega,sm ?_ rfl⟩
  ·have h1:=qt.set (j:=H.length + 2) (by omega) (.cells (ai [.ak 0 (ints ps),.ak 0 (ints ss),v,.map H.length,.map (H.length + 1)] 2 [r]))
   rw [ko] at h1
   rw [e2,mA,sD,acC]
   exact h1
  ·rw [aef,dS,hG]
   simp [ai]
  ·rw [e2,jw,aq i (by omega),acC]
 ·have mV:i=ts.length:=by have:=bN eW;omega
  subst mV
  rw [aby] at hR
  have fin:∀ (G':List aa),G'.length=G.length→G'.take (H.length + 3)=H++[.map [],.map [],kT ps ss (dg ts 0) H.length (H.length + 1)]→mj (lh H.length) H.length [.t 4,.t 5] [(4,.ptr (H.length + 2) 0),(5,bA (aZ ts 0))] G' (TO H ps ss ts):=by
   intro G' xb dS
   refine NC (m:=H.length + 3) (by omega) (Ho (by omega) fun j o h1 h2 ho=>.inr ?_) (x:=.ptr (H.length + 2) 0) (y:=bA (aZ ts 0)) rfl ?_ ?_ ((aJ _).2.2.1 _) ⟨rfl,dS⟩
   ·have h3:(G'.take (H.length + 3))[j]?=some o:=by rw [aa7,if_pos h2];exact ho
    rw [dS,abu h1] at h3
    have:j=H.length∨j=H.length + 1∨j=H.length + 2:=by omega
    rcases this with rfl | rfl | rfl
    ·simp at h3;subst h3;rfl
    ·simp at h3;subst h3;rfl
    ·simp at h3;subst h3;exact AM ps ss _ _
   ·have h2:=(aJ (aZ ts 0)).2.1
    simp [ay,h2]
   ·rw [qP];simp
  rw [ER]
  unfold Bu
  rw [g2]
  rcases hR with ⟨e1,rfl⟩ | ⟨id,cap,bu,rfl,hg,cc,eS⟩
  ·simp +contextual only [List.getElem?_cons_succ,List.getElem?_cons_zero,aby,(fN _).2.1,(aJ _).2.1,sZ,Nat.reduceEqDiff,↓reduceIte,reduceCtorEq]
   refine fin G rfl ?_
   rw [hG,kT,pd,if_pos (ES e1)]
  ·simp +contextual only [List.getElem?_cons_succ,List.getElem?_cons_zero,aby,(fN _).2.1,(aJ _).2.1,sZ,Nat.reduceEqDiff,↓reduceIte,reduceCtorEq]
   refine xX (by decide) Cr (kS _) (fun x hx=>?_) hg cc ⟨?_,?_,?_⟩
   ·obtain ⟨q,_,rfl⟩:=aaR.1 hx;rfl
   ·rw [zC (by omega)];exact g2
   ·rw [bZ];exact x8 _ _
   ·refine fin _ (by simp) ?_
    rw [aef,aef,hG]
    have e1:∀ X:List aa,X.length≤id→X.set id .dead=X:=fun X h=>List.set_eq_of_length_le h
    rw [e1 _ (by simp;omega),kT,pd,if_neg (fun e=>eS (by rw [e];rfl))]
    simp
end Go.aK
end
section
set_option maxRecDepth 100000
namespace Go.aK
open Go Go.Proofs Go.fo
def zI:AV:=.int .i64 0
theorem Cs:jT 1 (bV zI):=⟨rfl,rfl,rfl,rfl⟩
theorem pe (l:List Int):∀ x∈ints l,jT 1 x:=by
 intro x hx;obtain ⟨n,_,rfl⟩:=aaR.1 hx;exact ⟨rfl,rfl,rfl,rfl⟩
theorem pR:∀ l:List Int,flat (ints l)=ints l
 | []=>rfl
 | x::r=>by
   have:=pR r
   show AV.cells (.int .i64 x)++flat (ints r)=_
   rw [this];rfl
theorem R5 {l:List Int} (h:l≠[]):ints l≠[]:=by cases l with | nil=>exact absurd rfl h | cons v r=>simp [ints]
theorem ND (o:Nat) (v:Int) (r:List Int) (φ:AV→Prop):dw 0 false (.ak o (ints (v::r))) φ=φ (.bool false):=by simp [dw,isNil,ints]
theorem NE (φ:AV→Prop):dw 0 false .ag φ=φ (.bool true):=by simp [dw,isNil]
theorem IN {esz bytes:Nat} {z:AV} (hz:jT esz (bV z)) {id o:Nat} {G:List aa} (bu:G[id]?=some (.cells [])) (ys:List AV) (hy:ys≠[]) (ru:∀ x∈ys,jT esz x) (hb:ys.length * bytes≤140737488355328) {base:Nat} (hG:base≤G.length) {K:AV→List aa→Prop}
 (hK:∀ v' G',RO z base v' ys G'→G'.take base=G.take base→G.length≤G'.length→K v' G'):ch esz bytes z (.ba id 0 0 0) (.ak o ys) G K:=by
 obtain ⟨f1,f2,f3,f4⟩:=jT.flat ru
 have lV:∀ n m,aj n (dl z m)=true:=fun n m=>(jT.flat (kR hz m)).2.2.1 n
 have hl:0 < ys.length:=adS.2 hy
 unfold ch
 simp only [dG,bu]
 refine ⟨fun y h=>⟨(ru y h).len,(ru y h).one⟩,by simpa using hb,sU _,by simp,fun h=>absurd h (by omega),fun _ cap hc _=>⟨?_,?_⟩⟩
 ·simp only [afL,List.drop_zero,List.take_nil,List.map_nil,List.nil_append,f2,a8];exact ⟨f3 _,lV _ _⟩
 ·simp only [afL,List.drop_zero,List.take_nil,List.map_nil,List.nil_append,f2,acC]
  refine hK _ _ (.inr ⟨G.length,cap,hG,rfl,?_,by omega,hy⟩) ?_ (by simp)
  ·simp [bw]
  ·rw [abc hG]
theorem aaI (l:List Int) (H:List aa) (hb:l.length * 8≤140737488355328):aw Tryz.prog 118 [bA l] H fun r H'=>RO zI H.length r (ints l) H'∧H'.take H.length=H∧H.length≤H'.length:=by
 refine TI.2.calls rfl ?_
 simp only [TI,aH]
 cases l with
 | nil=>
   simp +contextual only [bA,NE,sZ,Nat.reduceAdd,↓reduceIte,reduceCtorEq]
   exact aP H.length (sU _) (by rw [ay,if_pos rfl];rfl) ⟨.inl ⟨rfl,by rw [ay,if_pos rfl]⟩,by simp,by simp⟩
 | cons v r=>
   simp +contextual only [bA,ND,wh,uF,sZ,Nat.reduceEqDiff,Nat.reduceAdd,↓reduceIte,reduceCtorEq]
   refine ⟨rfl,IN Cs (by simp [flat]) (ints (v::r)) (R5 (by simp)) (pe _) (by rw [au];exact hb) (base:=H.length) (by simp) fun v' G' hR hG hl=>?_⟩
   obtain ⟨o1,o2,o3,o4⟩:=hR.one
   simp +contextual only [o3,sZ,↓reduceIte,reduceCtorEq]
   have xb:H.length≤G'.length:=by simp at hl;omega
   refine aP G'.length xb (by rw [ay,if_pos rfl];exact hR.aW (sU _)) ?_
   rw [ay,if_pos rfl,aby]
   exact ⟨hR,by rw [hG];simp,xb⟩
theorem Ct (l:List Int) (cap:Nat):bw zI (ints l) cap=.cells (ints l++dl zI (cap - l.length)):=by rw [bw,pR,au]
theorem IP {l:List Int} {cap i:Nat} (h:i < l.length) (φ:AV→Prop):cw (some (bw zI (ints l) cap)) none (i * 1) φ=φ (.int .i64 (l.getD i 0)):=by
 have e:(ints l++dl zI (cap - l.length)).getD (i * 1) .any=.int .i64 (l.getD i 0):=by
  rw [adG,sT,zA (by rw [au];exact h)]
  simp [ints,h]
 have hl:=au l
 simp only [Ct,cw,e,nw,eq_iff_iff,aaz,hl]
 constructor
 ·exact fun h=>h.2
 ·exact fun h2=>⟨by omega,h2⟩
theorem NF {l:List Int} {cap i:Nat} (h:i < l.length) (n:Int) (id:Nat) (H:List aa) (K:List aa→Prop) (hK:K (H.set id (bw zI (ints (l.set i n)) cap))):gR (some (bw zI (ints l) cap)) 1 id (i * 1) (.int .i64 n) H K:=by
 have e:ints (l.set i n)=(ints l).set i (.int .i64 n):=by simp [ints,adK]
 rw [e] at hK
 refine Cm (esz:=1) (c:=0) (pe l) (by rw [au];exact h) (by decide) (v:=.int .i64 n) (y:=.int .i64 n) rfl rfl rfl ?_ hK
 simp [ints,h,AV.cells,AV.ab]
structure Tu (l:List Int) (i:Nat) (m:List Int):Prop where
 len:m.length=l.length
 get:∀ j,j < l.length→m.getD j 0=if j < i∨l.length - 1 - j < i then l.getD (l.length - 1 - j) 0 else l.getD j 0
theorem AN {l m:List Int} (h:m.length=l.length) (hg:∀ j,j < l.length→m.getD j 0=l.getD j 0):m=l:=by
 apply aeZ h
 intro j h1 h2
 have:=hg j h2
 simpa [h1,h2] using this
theorem Tu.done {l m:List Int} {i:Nat} (h:Tu l i m) (hi:l.length≤2 * i + 1):m=l.reverse:=by
 refine AN (by simp [h.len]) fun j hj=>?_
 simp at hj
 rw [h.get j hj]
 have e:l.reverse.getD j 0=l.getD (l.length - 1 - j) 0:=by
  have h1:l.length - 1 - j < l.length:=by omega
  simp [List.getElem?_reverse hj]
 rw [e]
 split
 ·rfl
 ·rename_i hc
  have:l.length - 1 - j=j:=by omega
  rw [this]
theorem mB {l:List Int} {i j:Nat} {x:Int} (hi:i < l.length):(l.set i x).getD j 0=if j=i then x else l.getD j 0:=by
 simp only [sT,acM]
 by_cases h:i=j
 ·subst h;simp [hi]
 ·rw [if_neg h,if_neg (fun e=>h e.symm)]
theorem Tu.step {l m:List Int} {i k:Nat} (h:Tu l i m) (hk:l.length=i + k + 1) (aG:i < k):Tu l (i + 1) ((m.set i (m.getD k 0)).set k (m.getD i 0)):=by
 refine ⟨by simp [h.len],fun j hj=>?_⟩
 have hl:=h.len
 rw [mB (by simp;omega),mB (by omega)]
 by_cases h1:j=k
 ·subst h1
  rw [if_pos rfl,h.get i (by omega),if_neg (by omega),if_pos (by omega)]
  congr 1;omega
 ·rw [if_neg h1]
  by_cases h2:j=i
  ·subst h2
   rw [if_pos rfl,h.get k (by omega),if_neg (by omega),if_pos (by omega)]
   congr 1;omega
  ·rw [if_neg h2,h.get j hj]
   by_cases h3:j < i∨l.length - 1 - j < i
   ·rw [if_pos h3,if_pos (by omega)]
   ·rw [if_neg h3,if_neg (by omega)]
theorem Hp {H:List aa} {id:Nat} {o:aa} (h:H[id]?=some o):H.set id o=H:=by
 apply acG
 intro j
 rw [acM]
 split
 ·rename_i e;subst e
  have:=(aaH.1 h).1
  rw [if_pos this,h]
 ·rfl
theorem aaJ (l:List Int) (base:Nat) (v:AV) (H:List aa) (hR:RO zI base v (ints l) H) (hb:l.length * 8≤140737488355328):aw Tryz.prog 199 [v] H fun r H'=>r=.tuple []∧RO zI base v (ints l.reverse) H'∧H'.take base=H.take base∧H'.length=H.length:=by
 refine TM.2.calls rfl ?_
 simp only [TM,aH]
 obtain ⟨o1,o2,o3,o4⟩:=hR.one
 simp +contextual only [o3,hR.len,hR.aN,au,sZ,Nat.reduceEqDiff,Nat.reduceAdd,↓reduceIte,reduceCtorEq]
 rcases hR with ⟨e,rfl⟩ | ⟨id,cap,bu,rfl,hg,cc,eS⟩
 ·have e:l=[]:=adO.1 e
  subst e
  refine aB 0 (fun _=>True) (fun _=>[(0,.ag),(2,.int .i64 0),(3,.int .i64 (-1))]) (fun _=>H) ⟨trivial,aE (by rfl) rfl⟩ fun i hi _=>?_
  simp +contextual only [sZ,Nat.reduceEqDiff,↓reduceIte,reduceCtorEq,Int.reduceLT]
  exact ⟨H.length,sU _,[],trivial,rfl,rfl,.inl ⟨rfl,rfl⟩,by simp,by simp⟩
 ·rw [au] at cc ⊢
  have e1:IntKind.i64.wrap ((l.length:Int) - 1)=(l.length:Int) - 1 - (0:Nat):=by rw [cZ _ (by omega)];omega
  rw [e1]
  refine aD l.length (fun i m=>Tu l i m) (fun i m=>[(0,.ba id 0 l.length cap),(2,.int .i64 i),(3,.int .i64 ((l.length:Int) - 1 - i))]) (fun i m=>H.set id (bw zI (ints m) cap)) l ⟨⟨rfl,fun j hj=>by simp⟩,aE rfl ?_⟩ fun i m hi hI=>?_
  ·exact (Hp hg).symm
  have vS:=(aaH.1 hg).1
  have hm:=hI.len
  simp +contextual only [sZ,Nat.reduceEqDiff,↓reduceIte,reduceCtorEq]
  refine ⟨fun aG=>?_,fun eW=>?_⟩
  ·obtain ⟨k,hk⟩:∃ k,l.length=i + k + 1:=⟨l.length - i - 1,by omega⟩
   have e2:(l.length:Int) - 1 - i=(k:Nat):=by omega
   rw [e2] at aG ⊢
   have AB:k < m.length:=by omega
   have hi1:i < m.length:=by omega
   simp +contextual only [lW,zD vS,IP AB,IP hi1,sZ,Nat.reduceEqDiff,↓reduceIte,reduceCtorEq]
   refine ⟨by omega,by omega,by omega,NF hi1 _ _ _ _ ?_⟩
   have Gv:k < (m.set i (m.getD k 0)).length:=by simp;omega
   simp +contextual only [lW,zD vS,adL,sZ,Nat.reduceEqDiff,↓reduceIte,reduceCtorEq]
   refine ⟨by omega,NF Gv _ _ _ _ ?_⟩
   simp +contextual only [adL,sZ,Nat.reduceEqDiff,↓reduceIte,reduceCtorEq]
   have hw:IntKind.i64.wrap ((k:Int) - 1)=(l.length:Int) - 1 - ((i + 1:Nat):Int):=by rw [cZ _ (by omega)];omega
   exact ⟨i + 1,_,⟨by omega,hI.step hk (by omega)⟩,by omega,aE (by rw [hw,aq i (by omega)]) rfl⟩
  ·have hd:=hI.done (by omega)
   subst hd
   refine ⟨H.length,sU _,[],trivial,rfl,rfl,.inr ⟨id,cap,bu,by simp [au],?_,by simpa [au] using cc,?_⟩,?_,by simp⟩
   ·rw [Ue (by simp),zD vS]
   ·intro e;apply eS;have:=adO.1 e;simp at this;rw [this];rfl
   ·rw [Ue (l:=H.set _ _) (by simp),acu bu]
def bI (s:Int) (l:List Int):List Int:=if s=2 then l.reverse else l
theorem R6 {id cap:Nat} {l:List Int} {H:List aa} (h:H[id]?=some (bw zI (ints l) cap)) (hl:l.length≤cap) {K:AV→List aa→Prop} (hK:K (.ak 0 (ints l)) (H.set id .dead)):dx 1 (.ba id 0 l.length cap) H K:=by
 have hc:∀ (l:List Int) (r:List AV),chunks 1 l.length (ints l++r)=ints l:=by
  intro l r
  induction l with
  | nil=>rfl
  | cons x q ih=>exact congrArg (AV.int .i64 x::·) ih
 have ho:(ints l++dl zI (cap - l.length)).all AV.one=true:=by
  rw [agx,show (dl zI (cap - l.length)).all AV.one=true from (jT.flat (kR Cs _)).2.2.2,acX]
  have:=(jT.flat (pe l)).2.2.2
  rwa [pR] at this
 rw [Ct] at h
 simp only [dx,h,List.drop_zero,hc,ho]
 exact ⟨by omega,hl,by simp [au],trivial,hK⟩
theorem KB (l:List Int) (s:Int) (hb:l.length * 8≤140737488355328):Pure Tryz.prog 149 [bA l,.int .i64 s] (.ak 0 (ints (bI s l))):=by
 refine fun H=>TK.2.calls rfl ?_
 simp only [TK,aH]
 obtain ⟨k1,k2,k3,k4,k5⟩:=aJ l
 simp +contextual only [k2,sZ,Nat.reduceEqDiff,Nat.reduceAdd,↓reduceIte,reduceCtorEq]
 refine af (aaI l H hb) ?_
 rintro v G ⟨hR,hG,hl⟩
 obtain ⟨o1,o2,o3,o4⟩:=hR.one
 have fin:∀ (m:List Int) (G':List aa) (K:AV→List aa→Prop),RO zI H.length v (ints m) G'→G'.take H.length=H→(∀ x G'',(m=[]∧x=.ag∨x=.ak 0 (ints m))→x.ab=x→G''.take H.length=H→K x G'')→ft 1 v G' K:=by
  intro m G' K qt dS hK
  rcases qt with ⟨e,rfl⟩ | ⟨id,cap,bu,rfl,hg,cc,eS⟩
  ·exact hK _ _ (.inl ⟨adO.1 e,rfl⟩) rfl dS
  ·rw [au] at cc ⊢
   exact R6 hg cc (hK _ _ (.inr rfl) rfl (by rw [acu bu];exact dS))
 have fin2:∀ (m:List Int) (x:AV) (G':List aa),bI s l=m→(m=[]∧x=.ag∨x=.ak 0 (ints m))→G'.take H.length=H→bT H.length [.t 4] [(4,x)] G' fun r H'=>r=.ak 0 (ints (bI s l))∧H'=H:=by
  intro m x G' hm hx dS
  rw [hm]
  rcases hx with ⟨rfl,rfl⟩ | rfl
  ·exact ⟨H.length,sU _,.ak 0 [],.inr (.inr (.inr (.inl ⟨rfl,0,rfl⟩))),rfl,rfl,dS⟩
  ·exact ⟨H.length,sU _,_,le_refl _,by show AV.aW _ (.ak 0 (ints m))=true;rw [bZ];exact aT _ _,rfl,dS⟩
 simp +contextual only [o3,sZ,Nat.reduceEqDiff,Nat.reduceAdd,↓reduceIte,reduceCtorEq]
 refine ⟨fun hs=>?_,fun hs=>?_⟩
 ·refine af (aaJ l H.length v G hR hb) ?_
  rintro r G' ⟨rfl,qt,dS,_⟩
  simp +contextual only [sZ,↓reduceIte,reduceCtorEq]
  refine fin l.reverse G' _ qt (by rw [dS,hG]) fun x G'' hx hu WI=>?_
  simp +contextual only [hu,sZ,↓reduceIte,reduceCtorEq]
  exact fin2 l.reverse x G'' (by rw [bI,if_pos hs]) hx WI
 ·refine fin l G _ hR hG fun x G'' hx hu WI=>?_
  simp +contextual only [hu,sZ,↓reduceIte,reduceCtorEq]
  exact fin2 l x G'' (by rw [bI,if_neg hs]) hx WI
end Go.aK
end
section
set_option maxRecDepth 100000
namespace Go.aK
open Go Go.Proofs Go.fo
structure Cx where
 ps:List Int
 ss:List Int
 nd:List Nd
 d:Nat
 e:Nat
 g:Nat
def Cx.tm (c:Cx) (i:Int):T:=(c.nd.getD i.toNat default).1
def Cx.kd (c:Cx) (i:Int):List Int:=(c.nd.getD i.toNat default).2
def Cx.ee (c:Cx) (i:Int):Prop:=0≤i∧i < c.nd.length
def WJ (ps ss:List Int) (p:Int):Int:=ss.getD (ps.findIdx fun q=>decide (q=p)) 0
def jy (ps ss:List Int):Od:=⟨fun n=>ps.getD n.toNat 0,WJ ps ss⟩
def Cx.O (c:Cx):Od:=jy c.ps c.ss
structure Va (ps ss:List Int):Prop where
 len:ss.length=ps.length
 st:∀ i j,i < ps.length→j < ps.length→ps.getD i 0=ps.getD j 0→ss.getD i 0=ss.getD j 0
theorem Va.sp {ps ss:List Int} (h:Va ps ss) {i:Nat} (hi:i < ps.length):WJ ps ss (ps.getD i 0)=ss.getD i 0:=by
 unfold WJ
 have hx:ps.getD i 0∈ps:=by rw [sT,aaf hi];exact adr hi
 have h1:ps.findIdx (fun q=>decide (q=ps.getD i 0)) < ps.length:=List.findIdx_lt_length_of_exists ⟨_,hx,by simp⟩
 have h2:=List.findIdx_getElem (xs:=ps) (p:=fun q=>decide (q=ps.getD i 0)) (w:=h1)
 refine h.st _ _ h1 hi ?_
 rw [sT,aaf h1]
 exact of_decide_eq_true h2
structure Cx.Ok (c:Cx):Prop where
 va:Va c.ps c.ss
 nd:c.nd≠[]
 ne1:c.d≠c.e
 ne2:c.d≠c.g
 ne3:c.e≠c.g
 kl:∀ i,c.ee i→(c.kd i).length≤100000000
 kids:∀ i,c.ee i→(c.kd i).map c.tm=(c.tm i).l∧∀ k∈c.kd i,c.ee k
 op:∀ i,c.ee i→(c.tm i).k=2→0≤(c.tm i).n∧(c.tm i).n < c.ps.length
def nL (m:List ((Int×Int)×Bool)):List (AV×AV):=m.map fun p=>(.agg [.int .i64 p.1.1,.int .i64 p.1.2],.bool p.2)
def Rt (c:Cx) (P:T→T→Prop) (m:List ((Int×Int)×Bool)):Prop:=∀ p∈m,p.2=true↔P (c.tm p.1.1) (c.tm p.1.2)
structure Du (c:Cx) (H:List aa):Prop where
 d:H[c.d]?=some (.cells [.ak 0 (ints c.ps),.ak 0 (ints c.ss),.ak 0 (fp c.nd),.map c.e,.map c.g])
 e:∃ m,H[c.e]?=some (.map (nL m))∧Rt c (E c.O) m
 g:∃ m,H[c.g]?=some (.map (nL m))∧Rt c (R c.O) m
structure Up (c:Cx) (H H':List aa):Prop where
 len:H'.length=H.length
 get:∀ j,j≠c.e→j≠c.g→H'[j]?=H[j]?
theorem Up.refl (c:Cx) (H:List aa):Up c H H:=⟨rfl,fun _ _ _=>rfl⟩
theorem Up.trans {c:Cx} {H H' H'':List aa} (h:Up c H H') (k:Up c H' H''):Up c H H'':=⟨k.len.trans h.len,fun j h1 h2=>(k.get j h1 h2).trans (h.get j h1 h2)⟩
theorem Du.lt {c:Cx} {H:List aa} (h:Du c H):c.d < H.length∧c.e < H.length∧c.g < H.length:=by
 obtain ⟨m,h1,_⟩:=h.e
 obtain ⟨m',h2,_⟩:=h.g
 exact ⟨(aaH.1 h.d).1,(aaH.1 h1).1,(aaH.1 h2).1⟩
theorem Du.sl {c:Cx} {H:List aa} (h:Du c H) (X:List aa):Du c (H++X):=by
 obtain ⟨l1,l2,l3⟩:=h.lt
 exact ⟨by rw [zA l1];exact h.d,by rw [zA l2];exact h.e,by rw [zA l3];exact h.g⟩
theorem Du.take {c:Cx} {H:List aa} {n:Nat} (h:Du c H) (h1:c.d < n) (h2:c.e < n) (h3:c.g < n):Du c (H.take n):=by
 exact ⟨by rw [aa7,if_pos h1];exact h.d,by rw [aa7,if_pos h2];exact h.e,by rw [aa7,if_pos h3];exact h.g⟩
theorem Du.set {c:Cx} {H:List aa} {j:Nat} {o:aa} (h:Du c H) (h1:j≠c.d) (h2:j≠c.e) (h3:j≠c.g):Du c (H.set j o):=by
 exact ⟨by rw [zC h1];exact h.d,by rw [zC h2];exact h.e,by rw [zC h3];exact h.g⟩
theorem Up.take {c:Cx} {H X H':List aa} (h:Up c (H++X) H'):Up c H (H'.take H.length):=
 ⟨by have:=h.len;simp at this ⊢;omega,fun j h1 h2=>by
   rw [aa7]
   split
   ·rename_i hj;rw [h.get j h1 h2,zA hj]
   ·rename_i hj;rw [acB (by omega)]⟩
def jl (c:Cx) (Q:Prop) (H:List aa) (r:AV) (H':List aa):Prop:=∃ b:Bool,r=.bool b∧(b=true↔Q)∧Up c H H'∧Du c H'
theorem cb (l:List Int) (H:List aa) (φ:AV→Prop):aU none (.ah (bA l)) H φ=φ (bA l):=by
 obtain ⟨k1,k2,_⟩:=aJ l
 simp [aU,k1,k2]
theorem fN0 (p:Nd) (φ:AV→Prop):al 0 (some 3) (.ah (Hl p)) φ=φ (.ah p.1.av):=by
 obtain ⟨⟨k,n,l⟩,ks⟩:=p
 simp [al,Hl,apart,AV.cells,T.av,T.k,T.n,T.l]
theorem FO (p:Nd) (φ:AV→Prop):al 3 none (.ah (Hl p)) φ=φ (.ah (bA p.2)):=by
 obtain ⟨k1,_⟩:=aJ p.2
 simp [al,Hl,apart,AV.cells,k1]
theorem nM (e o:Nat) (l:List Nd) (k:IntKind) (i:Int) (φ:AV→Prop):aA e (.ak o (fp l)) (.int k i) φ=((0≤i∧i < l.length)∧φ (.ah (Hl (l.getD i.toNat default)))):=by
 simp only [aA,sE,eq_iff_iff]
 constructor
 ·rintro ⟨h0,h,h2⟩;refine ⟨by omega,?_⟩;simpa [fp,h] using h2
 ·rintro ⟨⟨h0,h⟩,h2⟩;have h:i.toNat < l.length:=by omega
  refine ⟨h0,h,?_⟩;simpa [fp,h] using h2
theorem cP (o:Nat) (l:List Nd):(∀ (own:Nat) (xs:List AV),AV.ak o (fp l)=AV.ak own xs→∀ z∈xs,z.cells.length=4)=True:=by
 simp only [eq_iff_iff,iff_true]
 intro own xs e z hz
 cases e
 exact (kS l z hz).len
theorem cR (e o:Nat) (l:List Int) (k:IntKind) (i:Int) (φ:AV→Prop):aA e (.ak o (ints l)) (.int k i) φ=((0≤i∧i < l.length)∧φ (.ah (.int .i64 (l.getD i.toNat 0)))):=by
 simp only [aA,au,eq_iff_iff]
 constructor
 ·rintro ⟨h0,h,h2⟩;refine ⟨by omega,?_⟩;simpa [ints,h] using h2
 ·rintro ⟨⟨h0,h⟩,h2⟩;have h:i.toNat < l.length:=by omega
  refine ⟨h0,h,?_⟩;simpa [ints,h] using h2
def qX (c:Cx) (i:Int):Int:=if (c.tm i).k=2 then c.O.pl (c.tm i).n else 0
def dM (c:Cx) (i:Int):Int:=if (c.tm i).k=2 then c.O.sp (c.O.pl (c.tm i).n) else 0
def sY (c:Cx) (i:Int):Bool:=decide ((c.tm i).k=2)
def NG (c:Cx) (i:Int):AV:=.tuple [.int .i64 (qX c i),.int .i64 (dM c i),.bool (sY c i)]
theorem IQ (t:T) (φ:AV→Prop):al 0 none (.ah t.av) φ=φ (.ah (.int .i64 t.k)):=by cases t;simp [al,T.av,apart,AV.cells,AV.one,T.k]
theorem AO {Hs G:List aa} {n0 a b c:Nat} {u v w x y z:AV} {R:AV→List aa→Prop} (sX:b≠a∧c≠a∧c≠b) (hH:Hs.take n0=G) (hb:x.aW n0=true∧y.aW n0=true∧z.aW n0=true)
 (hx:u.ab=x) (hy:v.ab=y) (hz:w.ab=z) (hR:R (.tuple [x,y,z]) G):bT n0 [.t a,.t b,.t c] [(a,u),(b,v),(c,w)] Hs R:=by
 subst hH;subst hx;subst hy;subst hz
 refine ⟨n0,sU _,[u.ab,v.ab,w.ab],?_,by simp only [aj,hb.1,hb.2.1,hb.2.2,ac0],hR⟩
 simp only [ay,if_neg sX.1,if_neg sX.2.1,if_neg sX.2.2,if_true,List.map]
 exact cp _
theorem qY {c:Cx} (hc:c.Ok) {i:Int} (hi:c.ee i) {H:List aa} (hD:Du c H):aw Tryz.prog 135 [.ptr c.d 0,.int .i64 i] H fun r H'=>r=NG c i∧H'=H:=by
 refine Zm.2.calls rfl ?_
 simp only [Zm,aH]
 simp +contextual only [hD.d,nM,fN0,cP,cR,sZ,Nat.reduceEqDiff,Nat.reduceAdd,Nat.reduceLT,↓reduceIte,reduceCtorEq]
 refine ⟨hi,fun hk=>?_,fun hk=>?_⟩
 ·exact AO (by decide) (aby) ⟨rfl,rfl,rfl⟩ rfl rfl rfl ⟨by rw [NG,qX,dM,sY,if_neg (show ¬(c.tm i).k=2 from hk),if_neg (show ¬(c.tm i).k=2 from hk),decide_eq_false (show ¬(c.tm i).k=2 from hk)];rfl,rfl⟩
 ·obtain ⟨o1,o2⟩:=hc.op i hi hk
  have hl:=hc.va.len
  refine ⟨⟨o1,o2⟩,⟨o1,by rw [hl];exact o2⟩,?_⟩
  refine AO (by decide) (aby) ⟨rfl,rfl,rfl⟩ rfl rfl rfl ⟨?_,rfl⟩
  have e:=hc.va.sp (i:=(c.tm i).n.toNat) (by omega)
  rw [NG,qX,dM,sY,if_pos (show (c.tm i).k=2 from hk),if_pos (show (c.tm i).k=2 from hk),decide_eq_true (show (c.tm i).k=2 from hk)]
  have e2:c.O.sp (c.O.pl (c.tm i).n)=c.ss.getD (c.tm i).n.toNat 0:=e
  rw [e2];rfl
def nN (i k:Int):AV:=.agg [.int .i64 i,.int .i64 k]
theorem tZ (i k:Int):∀ (m:List ((Int×Int)×Bool)) (n:Nat),(∃ j b,m[j]?=some ((i,k),b)∧dt 2 (nN i k) (nL m) n=some (some (n + j,.bool b)))∨dt 2 (nN i k) (nL m) n=some none
 | [],n=>.inr rfl
 | ((a,b),v)::r,n=>by
   have ih:=tZ i k r (n + 1)
   have e:cL 2 (nN i k) (.agg [.int .i64 a,.int .i64 b])=some (decide (i=a∧k=b)):=by simp [cL,nN]
   simp only [nL,List.map_cons,dt,e]
   by_cases h:i=a∧k=b
   ·obtain ⟨rfl,rfl⟩:=h
    exact .inl ⟨0,v,rfl,by simp⟩
   ·simp only [decide_eq_false h]
    rcases ih with ⟨j,x,h1,h2⟩ | h2
    ·exact .inl ⟨j + 1,x,h1,by rw [show n + (j + 1)=n + 1 + j by omega];exact h2⟩
    ·exact .inr h2
theorem lkM {i k:Int} {m:List ((Int×Int)×Bool)} {φ:AV→Prop} (h1:∀ b,((i,k),b)∈m→φ (.tuple [.bool b,.bool true])) (h2:φ (.tuple [.bool false,.bool false])):gK (some (.map (nL m))) 2 (.bool false) (nN i k) true φ:=by
 unfold gK
 rcases tZ i k m 0 with ⟨j,b,h3,h4⟩ | h4
 ·simp only [h4];exact h1 b (abJ h3)
 ·simp only [h4];exact ⟨by simp [cL,nN],h2⟩
theorem NH (m:List ((Int×Int)×Bool)) (j:Nat) (i k:Int) (b:Bool):(nL m).set j (nN i k,.bool b)=nL (m.set j ((i,k),b)):=by simp [nL,nN,adK]
theorem msM {i k:Int} {b:Bool} {m:List ((Int×Int)×Bool)} {id:Nat} {H:List aa} {K:List aa→Prop} (h:∀ m',(∀ p∈m',p∈m∨p=((i,k),b))→K (H.set id (.map (nL m')))):fx (some (.map (nL m))) 2 id (nN i k) (.bool b) H K:=by
 unfold fx
 refine ⟨by simp [nN,o6,bJ,cV,eE],rfl,rfl,?_⟩
 have ec:aR (.bool b)=.bool b:=rfl
 rcases tZ i k m 0 with ⟨j,x,h3,h4⟩ | h4
 ·simp only [h4,ec,acC,NH]
  refine h _ fun p hp=>?_
  rcases acH hp with h | h
  ·exact .inl h
  ·exact .inr h
 ·simp only [h4,ec]
  refine ⟨by simp [cL,nN],?_⟩
  have e:nL m++[(nN i k,.bool b)]=nL (m++[((i,k),b)]):=by simp [nL,nN]
  rw [e]
  refine h _ fun p hp=>?_
  rcases ab7.1 hp with h | h
  ·exact .inl h
  ·exact .inr (by simpa using h)
theorem bdK (i k:Int) (φ:AV→Prop):cE [.int .i64 0,.int .i64 0] [(0,1,.int .i64 i),(1,1,.int .i64 k)] φ=φ (nN i k):=by
 simp only [cE,iu,eq_iff_iff]
 constructor
 ·rintro ⟨_,_,_,_,_,_,h⟩;exact h
 ·exact fun h=>⟨rfl,rfl,by simp,rfl,rfl,by simp [ai,AV.cells],h⟩
theorem Hq (i k:Int):(nN i k).val=true∧(nN i k).cells.length=2∧(nN i k).cells.all AV.one=true:=⟨rfl,rfl,rfl⟩
theorem ldK (i k:Int) (H:List aa) (φ:AV→Prop):aU (some 2) (.ah (nN i k)) H φ=φ (nN i k):=R4 _ _ _ _
def Mp (c:Cx) (w:Nat) (Q:T→T→Prop):Prop:=(w=c.e∧Q=E c.O)∨(w=c.g∧Q=R c.O)
theorem Mp.at {c:Cx} {w:Nat} {Q:T→T→Prop} (h:Mp c w Q) {H:List aa} (hD:Du c H):∃ m,H[w]?=some (.map (nL m))∧Rt c Q m:=by
 rcases h with ⟨rfl,rfl⟩ | ⟨rfl,rfl⟩
 ·exact hD.e
 ·exact hD.g
theorem Mp.set {c:Cx} (hc:c.Ok) {w:Nat} {Q:T→T→Prop} (h:Mp c w Q) {H:List aa} (hD:Du c H) {m:List ((Int×Int)×Bool)} (hm:Rt c Q m):Du c (H.set w (.map (nL m)))∧Up c H (H.set w (.map (nL m))):=by
 obtain ⟨l1,l2,l3⟩:=hD.lt
 obtain ⟨_,_,n1,n2,n3,_,_,_⟩:=hc
 rcases h with ⟨rfl,rfl⟩ | ⟨rfl,rfl⟩
 ·exact ⟨⟨by rw [zC (fun e=>n1 e.symm)];exact hD.d,⟨m,by rw [zD l2],hm⟩,by rw [zC n3];exact hD.g⟩,by simp,fun j h1 h2=>by rw [zC (fun e=>h1 e.symm)]⟩
 ·exact ⟨⟨by rw [zC (fun e=>n2 e.symm)];exact hD.d,by rw [zC (fun e=>n3 e.symm)];exact hD.e,⟨m,by rw [zD l3],hm⟩⟩,by simp,fun j h1 h2=>by rw [zC (fun e=>h2 e.symm)]⟩
theorem eO {c:Cx} {s:Nat} {b:Bool} {Q:Prop} {H H':List aa} {x:AV} (hx:x=.bool b) (hb:b=true↔Q) (hU:Up c H H') (hD:Du c H'):bT H.length [.t s] [(s,x)] H' (jl c Q H):=by
 subst hx
 refine aP H.length (sU _) (by rw [ay,if_pos rfl];rfl) ?_
 rw [ay,if_pos rfl,Ue (by rw [hU.len];exact sU _)]
 exact ⟨b,rfl,hb,hU,hD⟩
theorem aaK {c:Cx} (hc:c.Ok) {w:Nat} {Q:T→T→Prop} (hw:Mp c w Q) (i k:Int) (fn:Nat) (cS:List AV) {H:List aa} (hD:Du c H) (cc:cS.map AV.ab=cS)
 (hf:aw Tryz.prog fn cS H (jl c (Q (c.tm i) (c.tm k)) H)):aw Tryz.prog 133 [.map w,.int .i64 i,.int .i64 k,.fn (.func fn) [] cS] H (jl c (Q (c.tm i) (c.tm k)) H):=by
 refine Zk.2.calls rfl ?_
 simp only [Zk,aH]
 obtain ⟨m,hm,hr⟩:=hw.at hD
 have kf:=Hq i k
 simp +contextual only [bdK,ldK,kf.1,kf.2.1,kf.2.2,hm,sZ,Nat.reduceEqDiff,Nat.reduceAdd,↓reduceIte,reduceCtorEq]
 refine lkM (fun b hb=>?_) ?_
 ·have hq:=hr _ hb
  cases b with
  | true=>
    simp +contextual only [sZ,Nat.reduceEqDiff,Nat.reduceAdd,Nat.reduceLT,↓reduceIte,reduceCtorEq]
    exact eO rfl hq (Up.refl c H) hD
  | false=>
    simp +contextual only [sZ,Nat.reduceEqDiff,Nat.reduceAdd,Nat.reduceLT,↓reduceIte,reduceCtorEq]
    exact eO rfl hq (Up.refl c H) hD
 ·simp +contextual only [cc,sZ,Nat.reduceEqDiff,Nat.reduceAdd,Nat.reduceLT,↓reduceIte,reduceCtorEq]
  refine af hf ?_
  rintro r H' ⟨b,rfl,hb,hU,kg⟩
  obtain ⟨m',Pq,hr'⟩:=hw.at kg
  simp +contextual only [ldK,Pq,sZ,Nat.reduceEqDiff,↓reduceIte,reduceCtorEq]
  refine msM fun m2 h2=>?_
  have tg:Rt c Q m2:=by
   intro p hp
   rcases h2 p hp with h | rfl
   ·exact hr' p h
   ·exact hb
  obtain ⟨s1,s2⟩:=hw.set hc kg tg
  simp +contextual only [sZ,Nat.reduceEqDiff,↓reduceIte,reduceCtorEq]
  exact eO rfl hb (hU.trans s2) s1
def lB (c:Cx) (i k:Int):Prop:=∀ H,Du c H→aw Tryz.prog 79 [.ptr c.d 0,.int .i64 i,.int .i64 k] H (jl c (E c.O (c.tm i) (c.tm k)) H)
def iU (c:Cx) (i k:Int):Prop:=∀ H,Du c H→aw Tryz.prog 76 [.ptr c.d 0,.int .i64 i,.int .i64 k] H (jl c (R c.O (c.tm i) (c.tm k)) H)
def ET (c:Cx) (i k:Int):List AV:=[.ah (.ptr c.d 0),.ah (.int .i64 i),.ah (.int .i64 k)]
theorem g53 (a b c d e z:AV):[a,b,c,d,e].getD 3 z=d:=rfl
theorem g54 (a b c d e z:AV):[a,b,c,d,e].getD 4 z=e:=rfl
theorem c79 {c:Cx} (hc:c.Ok) {i k:Int} (h:∀ H,Du c H→aw Tryz.prog 138 (ET c i k) H (jl c (E c.O (c.tm i) (c.tm k)) H)):lB c i k:=by
 intro H hD
 refine k79.2.calls rfl ?_
 simp only [k79,aH]
 simp +contextual only [hD.d,g53,sZ,Nat.reduceEqDiff,Nat.reduceAdd,Nat.reduceLT,↓reduceIte,reduceCtorEq]
 refine af (aaK hc (.inl ⟨rfl,rfl⟩) i k 138 (ET c i k) hD rfl (h H hD)) ?_
 rintro r H' ⟨b,rfl,hb,hU,kg⟩
 simp +contextual only [sZ,↓reduceIte,reduceCtorEq]
 exact eO rfl hb hU kg
theorem c76 {c:Cx} (hc:c.Ok) {i k:Int} (h:∀ H,Du c H→aw Tryz.prog 134 (ET c i k) H (jl c (R c.O (c.tm i) (c.tm k)) H)):iU c i k:=by
 intro H hD
 refine k76.2.calls rfl ?_
 simp only [k76,aH]
 simp +contextual only [hD.d,g54,sZ,Nat.reduceEqDiff,Nat.reduceAdd,Nat.reduceLT,↓reduceIte,reduceCtorEq]
 refine af (aaK hc (.inr ⟨rfl,rfl⟩) i k 134 (ET c i k) hD rfl (h H hD)) ?_
 rintro r H' ⟨b,rfl,hb,hU,kg⟩
 simp +contextual only [sZ,↓reduceIte,reduceCtorEq]
 exact eO rfl hb hU kg
theorem dN (c:Cx) (i:Int):(NG c i).ab=NG c i:=rfl
theorem gb (c:Cx) (i:Int) (φ:AV→Prop):bH (NG c i) 0 φ=φ (.int .i64 (qX c i)):=by simp [NG,bH,nw]
theorem gf (c:Cx) (i:Int) (φ:AV→Prop):bH (NG c i) 1 φ=φ (.int .i64 (dM c i)):=by simp [NG,bH,nw]
theorem gg (c:Cx) (i:Int) (φ:AV→Prop):bH (NG c i) 2 φ=φ (.bool (sY c i)):=by simp [NG,bH,pJ]
def vL (c:Cx) (i k:Int):Bool:=sY c i && (sY c k && decide (qX c i=qX c k))
theorem lC {c:Cx} {i k:Int}:vL c i k=true↔(c.tm i).k=2∧(c.tm k).k=2∧c.O.pl (c.tm i).n=c.O.pl (c.tm k).n:=by
 simp only [vL,sY,zB,decide_eq_true_eq]
 unfold qX
 constructor
 ·rintro ⟨h1,h2,h3⟩;rw [if_pos h1,if_pos h2] at h3;exact ⟨h1,h2,h3⟩
 ·rintro ⟨h1,h2,h3⟩;refine ⟨h1,h2,?_⟩;rw [if_pos h1,if_pos h2];exact h3
theorem Hr {c:Cx} (hc:c.Ok) {i k:Int} (hi:c.ee i) (hk:c.ee k) {H:List aa} (hD:Du c H):aw Tryz.prog 155 [.ptr c.d 0,.int .i64 i,.int .i64 k] H fun r H'=>r=.tuple [.int .i64 (dM c i),.bool (vL c i k)]∧H'=H:=by
 refine Zy.2.calls rfl ?_
 simp only [Zy,aH]
 simp +contextual only [sZ,Nat.reduceEqDiff,Nat.reduceAdd,↓reduceIte,reduceCtorEq]
 refine af (qY hc hi hD) ?_
 rintro r H1 ⟨rfl,rfl⟩
 simp +contextual only [dN,gb,gf,gg,sZ,Nat.reduceEqDiff,Nat.reduceAdd,↓reduceIte,reduceCtorEq]
 refine af (qY hc hk hD) ?_
 rintro r H1 ⟨rfl,rfl⟩
 simp +contextual only [dN,gb,gf,gg,sZ,Nat.reduceEqDiff,↓reduceIte,reduceCtorEq]
 have fin:∀ (s:Int) (b:Bool),s=dM c i→b=vL c i k→bT H1.length [.t 6,.t 7] [(6,.int .i64 s),(7,.bool b)] H1 fun r H'=>r=.tuple [.int .i64 (dM c i),.bool (vL c i k)]∧H'=H1:=by
  rintro s b rfl rfl
  have:=u0 (H:=H1) (e:=[]) (s:=6) (s':=7) (v:=.int .i64 (dM c i)) (v':=.bool (vL c i k)) (by decide) rfl rfl rfl rfl
  rwa [acA] at this
 cases h1:sY c i with
 | false=>
   simp +contextual only [sZ,Nat.reduceEqDiff,↓reduceIte,reduceCtorEq]
   exact fin _ _ rfl (by rw [vL,h1];rfl)
 | true=>
   cases h2:sY c k with
   | false=>
     simp +contextual only [sZ,Nat.reduceEqDiff,↓reduceIte,reduceCtorEq]
     exact fin _ _ rfl (by rw [vL,h1,h2];rfl)
   | true=>
     simp +contextual only [sZ,Nat.reduceEqDiff,↓reduceIte,reduceCtorEq]
     exact fin _ _ rfl (by rw [vL,h1,h2];rfl)
end Go.aK
end
section
set_option maxRecDepth 100000
namespace Go.aK
open Go Go.Proofs Go.fo
def IL (v:AV) (l:List Int):Prop:=v=bA l∨v=.ak 0 (ints l)
theorem IL.one {v:AV} {l:List Int} (h:IL v l):v.one=true∧v.ab=v∧v.val=true∧v.cells=[v]:=by
 rcases h with rfl | rfl
 ·obtain ⟨k1,k2,_,k4,k5⟩:=aJ l;exact ⟨k1,k2,k4,k5⟩
 ·exact ⟨rfl,rfl,rfl,rfl⟩
theorem IL.len {v:AV} {l:List Int} (h:IL v l) (hs:l.length < 9223372036854775808) (H:List aa) (φ:AV→Prop):fT v H φ=φ (.int .i64 l.length):=by
 have hl:∀ l:List Int,l.length < 9223372036854775808→fT (.ak 0 (ints l)) H φ=φ (.int .i64 l.length):=by
  intro l hs;simp [fT,au,hs]
 rcases h with rfl | rfl
 ·cases l with
  | nil=>rfl
  | cons x r=>exact hl _ hs
 ·exact hl _ hs
theorem IL.x9 {v:AV} {l:List Int} (h:IL v l) (H:List aa) (φ:AV→Prop):iT v H φ=φ (.int .i64 l.length):=by
 rcases h with rfl | rfl
 ·cases l with
  | nil=>rfl
  | cons x r=>rw [bA,mq,au]
 ·rw [mq,au]
theorem IL.aN {v:AV} {l:List Int} (h:IL v l):aN 1 v=True:=by
 rcases h with rfl | rfl
 ·cases l <;> simp [bA,Go.aK.aN]
 ·simp [Go.aK.aN]
theorem IL.idx {v:AV} {l:List Int} (h:IL v l) (k:IntKind) (i:Int) (φ:AV→Prop):aA 1 v (.int k i) φ=((0≤i∧i < l.length)∧φ (.ah (.int .i64 (l.getD i.toNat 0)))):=by
 rcases h with rfl | rfl
 ·cases l with
  | nil=>simp [bA,aA];omega
  | cons x r=>exact cR 1 0 (x::r) k i φ
 ·exact cR 1 0 l k i φ
theorem IL.lens {v:AV} {l:List Int} (h:IL v l):(∀ (own:Nat) (xs:List AV),v=AV.ak own xs→∀ z∈xs,z.cells.length=1)=True:=by
 rcases h with rfl | rfl
 ·cases l with
  | nil=>simp [bA]
  | cons x r=>exact dQ 0 (x::r)
 ·exact dQ 0 l
def AP (S:List aa→Prop):Prop:=∀ H H',S H→S H'→H'.length=H.length
def SB (S:List aa→Prop) (Q:Prop) (r:AV) (H':List aa):Prop:=∃ b:Bool,r=.bool b∧(b=true↔Q)∧S H'
def SI (S:List aa→Prop) (Q:Int→Prop) (l:List Int) (r:AV) (H':List aa):Prop:=
 S H'∧((r=.int .i64 (-1)∧∀ x∈l,¬ Q x)∨∃ n:Nat,r=.int .i64 n∧n < l.length∧Q (l.getD n 0)∧∀ j,j < n→¬ Q (l.getD j 0))
theorem Cu {S:List aa→Prop} (hl:AP S) {s:Nat} {b:Bool} {Q:Prop} {H H':List aa} {x:AV} (hx:x=.bool b) (hb:b=true↔Q) (hS:S H) (hS':S H'):bT H.length [.t s] [(s,x)] H' (SB S Q):=by
 subst hx
 refine aP H.length (sU _) (by rw [ay,if_pos rfl];rfl) ?_
 rw [ay,if_pos rfl,Ue (by rw [hl H H' hS hS'];exact sU _)]
 exact ⟨b,rfl,hb,hS'⟩
theorem aQ {l:List Int} {i:Nat} (h:i < l.length):l.getD i 0∈l:=by rw [sT,aaf h];exact adr h
theorem aaM {S:List aa→Prop} (hS:AP S) {Q:Int→Int→Prop} {a b:List Int} {va vb:AV} (ha:IL va a) (hb:IL vb b) (la:a.length≤1000000000) (lb:b.length≤1000000000) (g:Nat) (pre cS:List AV) (cc:cS.map AV.ab=cS) (mQ:pre.map AV.ab=pre)
 (hf:∀ x∈a,∀ y∈b,∀ H,S H→aw Tryz.prog g (pre++[.int .i64 x,.int .i64 y]++cS) H (SB S (Q x y))) {H:List aa} (hH:S H) :
 aw Tryz.prog 140 [va,vb,.fn (.func g) pre cS] H (SB S (a.length=b.length∧∀ j,j < a.length→Q (a.getD j 0) (b.getD j 0))):=by
 refine Zp.2.calls rfl ?_
 simp only [Zp,aH]
 obtain ⟨a1,a2,a3,a4⟩:=ha.one
 obtain ⟨b1,b2,b3,b4⟩:=hb.one
 simp +contextual only [a2,b2,ha.aN,hb.aN,ha.len (by omega),hb.len (by omega),sZ,Nat.reduceEqDiff,Nat.reduceAdd,↓reduceIte,reduceCtorEq]
 refine ⟨fun eS=>Cu hS rfl ⟨fun h=>by simp at h,fun h=>absurd (by omega) eS⟩ hH hH,fun XV=>?_⟩
 refine aD a.length (fun i (G:List aa)=>S G∧∀ j,j < i→Q (a.getD j 0) (b.getD j 0))
  (fun i G=>[(1,vb),(2,.fn (.func g) pre cS),(15,va),(16,.int .i64 b.length),(17,.int .i64 i)]) (fun i G=>G) H ⟨⟨hH,fun j hj=>by omega⟩,ax _ _ _⟩ fun i G hi hI=>?_
 obtain ⟨hG,hq⟩:=hI
 simp +contextual only [b2,ha.lens,hb.lens,ha.idx,hb.idx,aad,cc,mQ,sZ,Nat.reduceEqDiff,Nat.reduceAdd,↓reduceIte,reduceCtorEq]
 refine ⟨fun aG=>⟨by omega,by omega,?_⟩,fun eW=>?_⟩
 ·refine af (hf _ (aQ (by omega)) _ (aQ (by omega)) G hG) ?_
  rintro r G' ⟨x,rfl,hx,dS⟩
  cases x with
  | true=>
    simp +contextual only [sZ,Nat.reduceEqDiff,↓reduceIte]
    refine ⟨i + 1,G',⟨by omega,dS,fun j hj=>?_⟩,by omega,aE (by rw [aq i (by omega)]) rfl⟩
    by_cases h:j=i
    ·subst h;exact hx.1 rfl
    ·exact hq j (by omega)
  | false=>
    simp +contextual only [sZ,Nat.reduceEqDiff,↓reduceIte,reduceCtorEq]
    refine Cu hS rfl ⟨fun h=>by simp at h,fun h=>?_⟩ hH dS
    exact absurd (hx.2 (h.2 i (by omega))) (by simp)
 ·refine Cu hS rfl ⟨fun _=>⟨by omega,fun j hj=>hq j (by omega)⟩,fun _=>rfl⟩ hH hG
theorem NI {S:List aa→Prop} (hS:AP S) {Q:Int→Prop} {a:List Int} {va:AV} (ha:IL va a) (la:a.length≤1000000000) (g:Nat) (pre cS:List AV) (cc:cS.map AV.ab=cS) (mQ:pre.map AV.ab=pre)
 (hf:∀ x∈a,∀ H,S H→aw Tryz.prog g (pre++[.int .i64 x]++cS) H (SB S (Q x))) {H:List aa} (hH:S H) :
 aw Tryz.prog 100 [va,.fn (.func g) pre cS] H (SI S Q a):=by
 refine Em.2.calls rfl ?_
 simp only [Em,aH]
 obtain ⟨a1,a2,a3,a4⟩:=ha.one
 simp +contextual only [a2,ha.aN,ha.len (by omega),sZ,Nat.reduceEqDiff,Nat.reduceAdd,↓reduceIte,reduceCtorEq]
 have fin:∀ (n:Int) (G:List aa),S G→((n=-1∧∀ x∈a,¬ Q x)∨∃ m:Nat,n=m∧m < a.length∧Q (a.getD m 0)∧∀ j,j < m→¬ Q (a.getD j 0))→bT H.length [.t 4] [(4,.int .i64 n)] G (SI S Q a):=by
  intro n G hG hn
  refine aP H.length (sU _) (by rw [ay,if_pos rfl];rfl) ?_
  rw [ay,if_pos rfl,Ue (by rw [hS H G hH hG];exact sU _)]
  refine ⟨hG,?_⟩
  rcases hn with ⟨rfl,h⟩ | ⟨m,rfl,h⟩
  ·exact .inl ⟨rfl,h⟩
  ·exact .inr ⟨m,rfl,h⟩
 refine aD a.length (fun i (G:List aa)=>S G∧∀ j,j < i→¬ Q (a.getD j 0))
  (fun i G=>[(0,va),(1,.fn (.func g) pre cS),(7,.int .i64 a.length),(8,.int .i64 i)]) (fun i G=>G) H ⟨⟨hH,fun j hj=>by omega⟩,ax _ _ _⟩ fun i G hi hI=>?_
 obtain ⟨hG,hq⟩:=hI
 simp +contextual only [a2,ha.lens,ha.idx,aad,cc,mQ,sZ,Nat.reduceEqDiff,Nat.reduceAdd,↓reduceIte,reduceCtorEq]
 refine ⟨fun aG=>⟨by omega,?_⟩,fun eW=>?_⟩
 ·refine af (hf _ (aQ (by omega)) G hG) ?_
  rintro r G' ⟨x,rfl,hx,dS⟩
  cases x with
  | false=>
    simp +contextual only [sZ,Nat.reduceEqDiff,↓reduceIte,reduceCtorEq]
    refine ⟨i + 1,G',⟨by omega,dS,fun j hj=>?_⟩,by omega,aE (by rw [aq i (by omega)]) rfl⟩
    by_cases h:j=i
    ·subst h;exact fun h=>absurd (hx.2 h) (by simp)
    ·exact hq j (by omega)
  | true=>
    simp +contextual only [sZ,Nat.reduceEqDiff,↓reduceIte,reduceCtorEq]
    exact fin _ _ dS (.inr ⟨i,rfl,by omega,hx.1 rfl,hq⟩)
 ·refine fin _ _ hG (.inl ⟨rfl,fun x hx=>?_⟩)
  obtain ⟨j,hj,rfl⟩:=acZ hx
  have:=hq j (by omega)
  simpa [hj] using this
theorem EU {S:List aa→Prop} (hS:AP S) {Q:Int→Prop} {a:List Int} {va:AV} (ha:IL va a) (la:a.length≤1000000000) (g:Nat) (pre cS:List AV) (cc:cS.map AV.ab=cS) (mQ:pre.map AV.ab=pre)
 (hf:∀ x∈a,∀ H,S H→aw Tryz.prog g (pre++[.int .i64 x]++cS) H (SB S (Q x))) {H:List aa} (hH:S H) :
 aw Tryz.prog 102 [va,.fn (.func g) pre cS] H (SB S (∃ x∈a,Q x)):=by
 refine En.2.calls rfl ?_
 simp only [En,aH]
 obtain ⟨a1,a2,a3,a4⟩:=ha.one
 simp +contextual only [a2,sZ,Nat.reduceEqDiff,Nat.reduceAdd,↓reduceIte,reduceCtorEq]
 refine af (NI hS ha la g pre cS cc mQ hf hH) ?_
 rintro r G ⟨hG,⟨rfl,h⟩ | ⟨n,rfl,h1,h2,_⟩⟩
 ·simp +contextual only [sZ,↓reduceIte,reduceCtorEq]
  exact Cu hS (b:=false) (by simp) ⟨fun h=>by simp at h,fun ⟨x,hx,h'⟩=>absurd h' (h x hx)⟩ hH hG
 ·simp +contextual only [sZ,↓reduceIte,reduceCtorEq]
  exact Cu hS (b:=true) (by simp) ⟨fun _=>⟨_,aQ h1,h2⟩,fun _=>rfl⟩ hH hG
end Go.aK
end
section
set_option maxRecDepth 100000
namespace Go.aK
open Go Go.Proofs Go.fo
def SD (c:Cx) (H0 H:List aa):Prop:=Du c H∧Up c H0 H
theorem SD.Cv (c:Cx) (H0:List aa):AP (SD c H0):=fun H H' h h'=>by rw [h'.2.len,h.2.len]
theorem jl.sb {c:Cx} {Q:Prop} {H0 H H':List aa} {r:AV} (h:jl c Q H r H') (hS:SD c H0 H):SB (SD c H0) Q r H':=by
 obtain ⟨b,h1,h2,h3,h4⟩:=h;exact ⟨b,h1,h2,h4,hS.2.trans h3⟩
theorem aer {c:Cx} {i x:Int} (h:iU c i x) {H:List aa} (hD:Du c H):aw Tryz.prog 233 [.int .i64 x,.ah (.ptr c.d 0),.ah (.int .i64 i)] H (jl c (¬ R c.O (c.tm i) (c.tm x)) H):=by
 refine Z3.2.calls rfl ?_
 simp only [Z3,aH]
 simp +contextual only [sZ,Nat.reduceEqDiff,Nat.reduceAdd,↓reduceIte,reduceCtorEq]
 refine af (h H hD) ?_
 rintro r H' ⟨b,rfl,hb,hU,kg⟩
 simp +contextual only [sZ,↓reduceIte,reduceCtorEq]
 refine eO (b:=!b) rfl ?_ hU kg
 rw [← hb];cases b <;> simp
theorem WK {c:Cx} {i:Int} {l:List Int} {v:AV} (hv:IL v l) (hl:l.length≤1000000000) (h:∀ x∈l,iU c i x) {H:List aa} (hD:Du c H):aw Tryz.prog 204 [.ptr c.d 0,.int .i64 i,v] H (jl c (∀ x∈l,R c.O (c.tm i) (c.tm x)) H):=by
 refine ZR.2.calls rfl ?_
 simp only [ZR,aH]
 obtain ⟨a1,a2,a3,a4⟩:=hv.one
 simp +contextual only [a2,sZ,Nat.reduceEqDiff,Nat.reduceAdd,↓reduceIte,reduceCtorEq]
 refine af (EU (SD.Cv c H) hv hl 233 [] [.ah (.ptr c.d 0),.ah (.int .i64 i)] rfl rfl (Q:=fun x=>¬ R c.O (c.tm i) (c.tm x)) (fun x hx G hG=>(aer (h x hx) hG.1).mono fun r H' hr=>hr.sb hG) ⟨hD,Up.refl c H⟩) ?_
 rintro r G ⟨b,rfl,hb,hG⟩
 simp +contextual only [sZ,↓reduceIte,reduceCtorEq]
 refine eO (b:=!b) rfl ?_ hG.2 hG.1
 cases b with
 | true=>
   obtain ⟨x,hx,hr⟩:=hb.1 rfl
   exact ⟨fun h=>by simp at h,fun h=>absurd (h x hx) hr⟩
 | false=>
   refine ⟨fun _ x hx=>?_,fun _=>rfl⟩
   by_cases hr:R c.O (c.tm i) (c.tm x)
   ·exact hr
   ·exact absurd (hb.2 ⟨x,hx,hr⟩) (by simp)
theorem aes {c:Cx} {x k:Int} (h1:lB c x k) (h2:iU c x k) {H:List aa} (hD:Du c H):aw Tryz.prog 220 [.int .i64 x,.ah (.ptr c.d 0),.ah (.int .i64 k)] H (jl c (E c.O (c.tm x) (c.tm k)∨R c.O (c.tm x) (c.tm k)) H):=by
 refine ZY.2.calls rfl ?_
 simp only [ZY,aH]
 simp +contextual only [sZ,Nat.reduceEqDiff,Nat.reduceAdd,↓reduceIte,reduceCtorEq]
 refine af (h1 H hD) ?_
 rintro r H' ⟨b,rfl,hb,hU,kg⟩
 cases b with
 | true=>
   simp +contextual only [sZ,Nat.reduceEqDiff,↓reduceIte,reduceCtorEq]
   exact eO rfl ⟨fun _=>.inl (hb.1 rfl),fun _=>rfl⟩ hU kg
 | false=>
   simp +contextual only [sZ,Nat.reduceEqDiff,Nat.reduceAdd,↓reduceIte,reduceCtorEq]
   refine af (h2 H' kg) ?_
   rintro r H2 ⟨b,rfl,rv,TP,C5⟩
   simp +contextual only [sZ,Nat.reduceEqDiff,↓reduceIte,reduceCtorEq]
   refine eO rfl ⟨fun h=>.inr (rv.1 h),fun h=>?_⟩ (hU.trans TP) C5
   rcases h with h | h
   ·exact absurd (hb.2 h) (by simp)
   ·exact rv.2 h
theorem aaN {c:Cx} (hc:c.Ok) {i k:Int} (hi:c.ee i) (h1:∀ x∈c.kd i,lB c x k) (h2:∀ x∈c.kd i,iU c x k) {H:List aa} (hD:Du c H):aw Tryz.prog 183 [.ptr c.d 0,.int .i64 i,.int .i64 k] H (jl c (∃ x∈c.kd i,E c.O (c.tm x) (c.tm k)∨R c.O (c.tm x) (c.tm k)) H):=by
 refine ZJ.2.calls rfl ?_
 simp only [ZJ,aH]
 have k2:∀ l,(bA l).ab=bA l:=fun l=>(aJ l).2.1
 simp +contextual only [hD.d,nM,FO,cP,cb,k2,sZ,Nat.reduceEqDiff,Nat.reduceAdd,Nat.reduceLT,↓reduceIte,reduceCtorEq]
 refine ⟨hi,?_⟩
 refine af (EU (SD.Cv c H) (.inl rfl:IL (bA (c.kd i)) (c.kd i)) (by have:=hc.kl i hi;omega) 220 [] [.ah (.ptr c.d 0),.ah (.int .i64 k)] rfl rfl (Q:=fun x=>E c.O (c.tm x) (c.tm k)∨R c.O (c.tm x) (c.tm k)) (fun x hx G hG=>(aes (h1 x hx) (h2 x hx) hG.1).mono fun r H' hr=>hr.sb hG) ⟨hD,Up.refl c H⟩) ?_
 rintro r G ⟨b,rfl,hb,hG⟩
 simp +contextual only [sZ,↓reduceIte,reduceCtorEq]
 exact eO rfl hb hG.2 hG.1
theorem aaO {c:Cx} (hc:c.Ok) {i k:Int} (hi:c.ee i) (hk:c.ee k) (h:∀ x∈c.kd k,iU c i x) {H:List aa} (hD:Du c H):aw Tryz.prog 184 [.ptr c.d 0,.int .i64 i,.int .i64 k] H
 (jl c (sY c k=true∧qX c k < qX c i∧∀ x∈c.kd k,R c.O (c.tm i) (c.tm x)) H):=by
 refine ZK.2.calls rfl ?_
 simp only [ZK,aH]
 have k2:∀ l,(bA l).ab=bA l:=fun l=>(aJ l).2.1
 simp +contextual only [sZ,Nat.reduceEqDiff,Nat.reduceAdd,↓reduceIte,reduceCtorEq]
 refine af (qY hc hi hD) ?_
 rintro r H1 ⟨rfl,rfl⟩
 simp +contextual only [dN,gb,gf,gg,sZ,Nat.reduceEqDiff,Nat.reduceAdd,↓reduceIte,reduceCtorEq]
 refine af (qY hc hk hD) ?_
 rintro r H1 ⟨rfl,rfl⟩
 simp +contextual only [dN,gb,gf,gg,sZ,Nat.reduceEqDiff,↓reduceIte,reduceCtorEq]
 cases hb:sY c k with
 | false=>
   simp +contextual only [sZ,Nat.reduceEqDiff,↓reduceIte,reduceCtorEq]
   exact eO rfl ⟨fun h=>by simp at h,fun h=>by simp at h⟩ (Up.refl c _) hD
 | true=>
   by_cases hp:qX c k < qX c i
   ·simp +contextual only [hp,hD.d,nM,FO,cP,cb,k2,sZ,Nat.reduceEqDiff,Nat.reduceAdd,Nat.reduceLT,↓reduceIte,reduceCtorEq]
    refine ⟨hk,af (WK (.inl rfl:IL (bA (c.kd k)) (c.kd k)) (by have:=hc.kl k hk;omega) h hD) ?_⟩
    rintro r H2 ⟨b,rfl,rv,hU,kg⟩
    simp +contextual only [sZ,Nat.reduceEqDiff,↓reduceIte,reduceCtorEq]
    exact eO rfl ⟨fun h=>⟨rfl,hp,rv.1 h⟩,fun h=>rv.2 h.2.2⟩ hU kg
   ·simp +contextual only [hp,sZ,Nat.reduceEqDiff,↓reduceIte,reduceCtorEq]
    exact eO rfl ⟨fun h=>by simp at h,fun h=>absurd h.2.1 hp⟩ (Up.refl c _) hD
structure Li (Q:Int→Int→Prop) (a b:List Int) (n:Nat):Prop where
 la:n≤a.length
 lb:n≤b.length
 eq:∀ j,j < n→Q (a.getD j 0) (b.getD j 0)
 no:n < a.length→n < b.length→¬ Q (a.getD n 0) (b.getD n 0)
theorem aaP {c:Cx} {a b:List Int} {va vb:AV} (ha:IL va a) (hb:IL vb b) (la:a.length≤1000000000) (lb:b.length≤1000000000) (h:∀ x∈a,∀ y∈b,lB c x y) {H:List aa} (hD:Du c H) :
 aw Tryz.prog 150 [.ptr c.d 0,va,vb] H fun r H'=>∃ n:Nat,r=.int .i64 n∧Li (fun x y=>E c.O (c.tm x) (c.tm y)) a b n∧Up c H H'∧Du c H':=by
 refine Zt.2.calls rfl ?_
 simp only [Zt,aH]
 obtain ⟨a1,a2,a3,a4⟩:=ha.one
 obtain ⟨b1,b2,b3,b4⟩:=hb.one
 simp +contextual only [sZ,Nat.reduceEqDiff,Nat.reduceAdd,↓reduceIte,reduceCtorEq]
 refine aD a.length (fun i (G:List aa)=>SD c H G∧i≤b.length∧∀ j,j < i→E c.O (c.tm (a.getD j 0)) (c.tm (b.getD j 0)))
  (fun i G=>[(0,.ptr c.d 0),(1,va),(2,vb),(7,.int .i64 i)]) (fun i G=>G) H ⟨⟨⟨hD,Up.refl c H⟩,ac4 _,fun j hj=>by omega⟩,ax _ _ _⟩ fun i G hi hI=>?_
 obtain ⟨hG,hib,hq⟩:=hI
 have fin:∀ G',SD c H G'→Li (fun x y=>E c.O (c.tm x) (c.tm y)) a b i→bT H.length [.t 6] [(6,.int .i64 (i:Int))] G' fun r H'=>∃ n:Nat,r=.int .i64 n∧Li (fun x y=>E c.O (c.tm x) (c.tm y)) a b n∧Up c H H'∧Du c H':=by
  intro G' dS hp
  refine aP H.length (sU _) (by rw [ay,if_pos rfl];rfl) ?_
  rw [ay,if_pos rfl,Ue (by rw [dS.2.len];exact sU _)]
  exact ⟨i,rfl,hp,dS.2,dS.1⟩
 by_cases h1:(i:Int) < a.length
 ·by_cases h2:(i:Int) < b.length
  ·simp +contextual only [a2,b2,ha.aN,hb.aN,ha.x9,hb.x9,ha.lens,hb.lens,ha.idx,hb.idx,aad,h1,h2,decide_true,sZ,Nat.reduceEqDiff,Nat.reduceAdd,↓reduceIte,reduceCtorEq]
   refine ⟨by omega,by omega,?_⟩
   refine af (h _ (aQ (by omega)) _ (aQ (by omega)) G hG.1) ?_
   rintro r G' ⟨x,rfl,hx,hU,kg⟩
   have dS:SD c H G':=⟨kg,hG.2.trans hU⟩
   cases x with
   | true=>
     simp +contextual only [sZ,Nat.reduceEqDiff,↓reduceIte,reduceCtorEq]
     refine ⟨i + 1,G',⟨by omega,dS,by omega,fun j hj=>?_⟩,by omega,aE (by rw [aq i (by omega)]) rfl⟩
     by_cases h:j=i
     ·subst h;exact hx.1 rfl
     ·exact hq j (by omega)
   | false=>
     simp +contextual only [sZ,Nat.reduceEqDiff,↓reduceIte,reduceCtorEq]
     exact fin G' dS ⟨hi,hib,hq,fun _ _ he=>absurd (hx.2 he) (by simp)⟩
  ·simp +contextual only [a2,b2,ha.aN,hb.aN,ha.x9,hb.x9,h1,h2,decide_true,decide_false,sZ,Nat.reduceEqDiff,↓reduceIte,reduceCtorEq]
   exact fin G hG ⟨hi,hib,hq,fun _ h'=>absurd h' (by omega)⟩
 ·simp +contextual only [a2,ha.aN,ha.x9,h1,decide_false,sZ,Nat.reduceEqDiff,↓reduceIte,reduceCtorEq]
  exact fin G hG ⟨hi,hib,hq,fun h' _=>absurd h' (by omega)⟩
def Cw (c:Cx) (i k:Int):Prop:=
 vL c i k=true∧dM c i≠3∧(∀ x∈c.kd k,R c.O (c.tm i) (c.tm x))∧
 ∃ n,Li (fun x y=>E c.O (c.tm x) (c.tm y)) (bI (dM c i) (c.kd i)) (bI (dM c i) (c.kd k)) n∧n < (bI (dM c i) (c.kd i)).length∧
  (n=(bI (dM c i) (c.kd k)).length∨R c.O (c.tm ((bI (dM c i) (c.kd i)).getD n 0)) (c.tm ((bI (dM c i) (c.kd k)).getD n 0)))
theorem pS {s x:Int} {l:List Int}:x∈bI s l↔x∈l:=by unfold bI;split <;> simp
theorem kq {s:Int} {l:List Int}:(bI s l).length=l.length:=by unfold bI;split <;> simp
theorem Li.WL {Q:Int→Int→Prop} {a b:List Int} {n m:Nat} (h:Li Q a b n) (k:Li Q a b m):n=m:=by
 rcases af5 n m with h1 | h1 | h1
 ·exact absurd (k.eq n h1) (h.no (by have:=k.la;omega) (by have:=k.lb;omega))
 ·exact h1
 ·exact absurd (h.eq m h1) (k.no (by have:=h.la;omega) (by have:=h.lb;omega))
theorem aaQ {c:Cx} (hc:c.Ok) {i k:Int} (hi:c.ee i) (hk:c.ee k) (h1:∀ x∈c.kd k,iU c i x) (h2:∀ x∈c.kd i,∀ y∈c.kd k,lB c x y) (h3:∀ x∈c.kd i,∀ y∈c.kd k,iU c x y) {H:List aa} (hD:Du c H) :
 aw Tryz.prog 185 [.ptr c.d 0,.int .i64 i,.int .i64 k] H (jl c (Cw c i k) H):=by
 refine TL.2.calls rfl ?_
 simp only [TL,aH]
 have k2:∀ l,(bA l).ab=bA l:=fun l=>(aJ l).2.1
 have l1:=hc.kl i hi
 have l2:=hc.kl k hk
 simp +contextual only [sZ,Nat.reduceEqDiff,Nat.reduceAdd,↓reduceIte,reduceCtorEq]
 refine af (Hr hc hi hk hD) ?_
 rintro r H1 ⟨rfl,rfl⟩
 simp +contextual only [sZ,Nat.reduceEqDiff,Nat.reduceAdd,Nat.reduceLT,↓reduceIte,reduceCtorEq]
 cases hl:vL c i k with
 | false=>
   simp +contextual only [Bool.not_false,sZ,Nat.reduceEqDiff,↓reduceIte,reduceCtorEq]
   exact eO rfl ⟨fun h=>by simp at h,fun h=>by have:=h.1;rw [hl] at this;simp at this⟩ (Up.refl c _) hD
 | true=>
   by_cases hs:dM c i=3
   ·simp +contextual only [Bool.not_true,hs,decide_true,sZ,Nat.reduceEqDiff,↓reduceIte,reduceCtorEq]
    exact eO rfl ⟨fun h=>by simp at h,fun h=>absurd hs h.2.1⟩ (Up.refl c _) hD
   ·simp +contextual only [Bool.not_true,hs,decide_false,hD.d,nM,FO,cP,cb,k2,sZ,Nat.reduceEqDiff,Nat.reduceAdd,Nat.reduceLT,↓reduceIte,reduceCtorEq]
    refine ⟨hk,af (WK (.inl rfl:IL (bA (c.kd k)) (c.kd k)) (by omega) h1 hD) ?_⟩
    rintro r H2 ⟨b,rfl,rv,hU,C5⟩
    cases b with
    | false=>
      simp +contextual only [Bool.not_false,sZ,Nat.reduceEqDiff,↓reduceIte,reduceCtorEq]
      exact eO rfl ⟨fun h=>by simp at h,fun h=>absurd (rv.2 h.2.2.1) (by simp)⟩ hU C5
    | true=>
      have sX:=rv.1 rfl
      simp +contextual only [Bool.not_true,C5.d,nM,FO,cP,cb,k2,sZ,Nat.reduceEqDiff,Nat.reduceAdd,Nat.reduceLT,↓reduceIte,reduceCtorEq]
      refine ⟨hi,aF (KB (c.kd i) (dM c i) (by omega)) ?_⟩
      simp +contextual only [C5.d,nM,FO,cP,cb,k2,sZ,Nat.reduceEqDiff,Nat.reduceAdd,Nat.reduceLT,↓reduceIte,reduceCtorEq]
      refine ⟨hk,aF (KB (c.kd k) (dM c i) (by omega)) ?_⟩
      have la:(bI (dM c i) (c.kd i)).length≤1000000000:=by rw [kq];omega
      have lb:(bI (dM c i) (c.kd k)).length≤1000000000:=by rw [kq];omega
      have ia:IL (.ak 0 (ints (bI (dM c i) (c.kd i)))) (bI (dM c i) (c.kd i)):=.inr rfl
      have ib:IL (.ak 0 (ints (bI (dM c i) (c.kd k)))) (bI (dM c i) (c.kd k)):=.inr rfl
      simp +contextual only [sZ,Nat.reduceEqDiff,Nat.reduceAdd,↓reduceIte,reduceCtorEq]
      refine af (aaP ia ib la lb (fun x hx y hy=>h2 x (pS.1 hx) y (pS.1 hy)) C5) ?_
      rintro r H3 ⟨n,rfl,hp,hU3,NJ⟩
      have U3:=hU.trans hU3
      have yes:∀ (Hx:List aa),Up c H1 Hx→Du c Hx→n < (bI (dM c i) (c.kd i)).length→(n=(bI (dM c i) (c.kd k)).length∨R c.O (c.tm ((bI (dM c i) (c.kd i)).getD n 0)) (c.tm ((bI (dM c i) (c.kd k)).getD n 0)))→
       bT H1.length [.t 6] [(6,.bool true)] Hx (jl c (Cw c i k) H1):=fun Hx u d hn hx=>eO rfl ⟨fun _=>⟨hl,hs,sX,n,hp,hn,hx⟩,fun _=>rfl⟩ u d
      have no:∀ (Hx:List aa),Up c H1 Hx→Du c Hx→¬ (n < (bI (dM c i) (c.kd i)).length∧(n=(bI (dM c i) (c.kd k)).length∨R c.O (c.tm ((bI (dM c i) (c.kd i)).getD n 0)) (c.tm ((bI (dM c i) (c.kd k)).getD n 0))))→
       bT H1.length [.t 6] [(6,.bool false)] Hx (jl c (Cw c i k) H1):=fun Hx u d hx=>eO rfl ⟨fun h=>by simp at h,fun ⟨_,_,_,m,hm,yH⟩=>absurd (hm.WL hp ▸ yH) hx⟩ u d
      by_cases h4:(n:Int) < (bI (dM c i) (c.kd i)).length
      ·have d4:decide ((n:Int) < (bI (dM c i) (c.kd i)).length)=true:=decide_eq_true h4
       by_cases h5:(n:Int)=(bI (dM c i) (c.kd k)).length
       ·have d5:decide ((n:Int)=(bI (dM c i) (c.kd k)).length)=true:=decide_eq_true h5
        simp +contextual only [au,d4,d5,sZ,Nat.reduceEqDiff,↓reduceIte,reduceCtorEq]
        exact yes H3 U3 NJ (by omega) (.inl (by omega))
       ·have hlb:=hp.lb
        simp +contextual only [au,dQ,cR,aad,h4,h5,decide_true,decide_false,sZ,Nat.reduceEqDiff,Nat.reduceAdd,↓reduceIte,reduceCtorEq]
        refine ⟨by omega,⟨by omega,by omega⟩,af (h3 _ (pS.1 (aQ (by omega))) _ (pS.1 (aQ (by omega))) H3 NJ) ?_⟩
        rintro r H4 ⟨b,rfl,hb,XW,XX⟩
        cases b with
        | true=>
          simp +contextual only [sZ,Nat.reduceEqDiff,↓reduceIte,reduceCtorEq]
          exact yes H4 (U3.trans XW) XX (by omega) (.inr (hb.1 rfl))
        | false=>
          simp +contextual only [sZ,Nat.reduceEqDiff,↓reduceIte,reduceCtorEq]
          refine no H4 (U3.trans XW) XX fun ⟨_,hx⟩=>?_
          rcases hx with hx | hx
          ·omega
          ·exact absurd (hb.2 hx) (by simp)
      ·simp +contextual only [au,h4,decide_false,sZ,Nat.reduceEqDiff,↓reduceIte,reduceCtorEq]
       exact no H3 U3 NJ fun ⟨hx,_⟩=>by omega
end Go.aK
end
