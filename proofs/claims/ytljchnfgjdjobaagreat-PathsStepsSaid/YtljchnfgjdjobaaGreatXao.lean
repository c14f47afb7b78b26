/- Part 15 of 17 of the proof. -/
import Derived.Test.YtljchnfgjdjobaaGreatXan
import Derived.Laws.Runes
import Derived.Test.YtljchnfgjdjobaaGreatXah
import Derived.Test.YtljchnfgjdjobaaGreatProg
import Derived.KernelRfl
import Derived.Test.YtljchnfgjdjobaaGreatXaf
import Derived.Test.YtljchnfgjdjobaaGreatXam
import Derived.Test.YtljchnfgjdjobaaGreatXag
set_option linter.unusedVariables false
set_option linter.unusedSimpArgs false
set_option linter.defProp false
set_option linter.unusedSectionVars false
section
set_option maxRecDepth 100000
namespace Go.aK
open Go Go.Proofs
def Xl (c:UInt8):Prop:=¬ ((c.toNat:Int) < 33∨126 < (c.toNat:Int)∨(c.toNat:Int)=40∨(c.toNat:Int)=41∨(c.toNat:Int)=44)
def po (s:ByteArray):Prop:=(∀ i,i < s.size→Xl (s.data.toList.getD i 0))∧1≤s.size∧s.size≤32
theorem kY {P:Prop} (h:Decidable P) {H:List aa} {s:Nat} (hp:¬ P):bT H.length [.t s] [(s,.bool false)] H fun r H'=>r=.bool (decide P)∧H'=H:=aS rfl (by simp [hp])
open Classical in
theorem ab5 (s:ByteArray) (hs:s.size≤200):Pure Tryz.prog 195 [.str s] (.bool (decide (po s))):=by
 refine fun H=>ZL.2.calls rfl ?_
 simp only [ZL,aH]
 simp +contextual only [sZ,Nat.reduceAdd,↓reduceIte,reduceCtorEq]
 refine aB s.size (fun i=>∀ j,j < i→Xl (s.data.toList.getD j 0))
  (fun i=>[(0,.str s),(3,.int .i64 i)]) (fun i=>H) ⟨fun j h=>by omega,ax _ _ _⟩ fun i hi hI=>?_
 simp +contextual only [ixs,sZ,Nat.reduceEqDiff,↓reduceIte,reduceCtorEq,Int.reduceLT]
 have bad (hl:i < s.size) (h:¬ Xl (s.data.toList.getD i 0)):¬ po s:=fun e=>h (e.1 i hl)
 refine ⟨fun hl=>?_,fun hl=>⟨fun h1=>?_,fun h1=>?_⟩⟩
 ·have hl:=aY hl
  have bad:=bad hl
  unfold Xl at bad
  refine ⟨hl,fun a=>⟨hl,fun b=>⟨hl,fun c=>⟨hl,fun d=>⟨hl,fun e=>?_,fun e=>?_⟩,fun d=>?_⟩,fun c=>?_⟩,fun b=>?_⟩,fun a=>?_⟩
  ·exact kY _ (bad (by omega))
  ·refine ⟨i + 1,⟨hl,fun j hj=>?_⟩,by omega,aE (by rw [aq i (by omega)]) rfl⟩
   by_cases Ig:j < i
   ·exact hI j Ig
   ·have:j=i:=by omega
    subst this
    unfold Xl;omega
  ·exact kY _ (bad (by omega))
  ·exact kY _ (bad (by omega))
  ·exact kY _ (bad (by omega))
  ·exact kY _ (bad (by omega))
 ·refine aS rfl ?_
  have e:(((s.size:Nat):Int)≤32)=po s:=propext ⟨fun h=>⟨fun j hj=>hI j (by omega),by omega,by omega⟩,fun h=>by have:=h.2.2;omega⟩
  simp only [e]
 ·exact kY _ fun e=>by have:=e.2.1;omega
def C7 (s:ByteArray):Nat:=s.data.toList.countP (· == 95)
theorem ab6 (s:ByteArray) (hs:s.size≤200):Pure Tryz.prog 196 [.str s] (.int .i64 (C7 s:Nat)):=by
 unfold C7
 refine fun H=>ZM.2.calls rfl ?_
 simp only [ZM,aH]
 simp +contextual only [sZ,Nat.reduceEqDiff,Nat.reduceAdd,↓reduceIte,reduceCtorEq]
 refine aB s.size (fun i=>True)
  (fun i=>[(0,.str s),(3,.int .i64 ((s.data.toList.take i).countP (· == 95):Nat)),(4,.int .i64 i)]) (fun i=>H) ⟨trivial,ax _ _ _⟩ fun i hi hI=>?_
 simp +contextual only [ixs,sZ,Nat.reduceEqDiff,↓reduceIte,reduceCtorEq]
 have hz:s.data.toList.length=s.size:=rfl
 have hc:=agr (p:=(· == (95:UInt8))) (l:=s.data.toList.take i)
 rw [acJ] at hc
 refine ⟨fun hl=>?_,fun hl=>?_⟩
 ·have hl:=aY hl
  have xb:i < s.data.toList.length:=hl
  have eg:s.data.toList.getD i 0=s.data.toList[i]:=by rw [sT,aaf xb];rfl
  have et:(s.data.toList.take (i + 1)).countP (· == 95)=(s.data.toList.take i).countP (· == 95) + if (s.data.toList.getD i 0 == 95)=true then 1 else 0:=by
   rw [ade,List.countP_append,eg,aaf xb];simp [ae0]
  refine ⟨hl,fun a=>⟨i + 1,hl,by omega,aE ?_ rfl⟩,fun a=>⟨i + 1,hl,by omega,aE ?_ rfl⟩⟩
  ·have:(s.data.toList.getD i 0 == 95)=true:=by
    rw [beq_iff_eq];apply UInt8.toNat_inj.1;simpa using Int.ofNat.inj a
   rw [aq i (by omega),aq _ (by omega),et,if_pos this]
  ·have:¬ (s.data.toList.getD i 0 == 95)=true:=by
    rw [beq_iff_eq];intro h;rw [h] at a;exact a rfl
   rw [aq i (by omega),et,if_neg this];rfl
 ·rw [Ue (by have:=bN hl;omega)]
  exact aS rfl rfl
def lX (s:Sg) (l:List Int):Prop:=∀ x∈l,0≤x∧x < s.a9.length
open Classical in
theorem Ub (s:Sg) (l:List Int):Pure Tryz.prog 232 [s.av,.ak 0 (ints l)] (.bool (decide (lX s l))):=by
 refine fun H=>Z2.2.calls rfl ?_
 simp only [Z2,aH]
 simp +contextual only [aC,sZ,Nat.reduceEqDiff,Nat.reduceAdd,↓reduceIte,reduceCtorEq]
 refine aB l.length (fun i=>∀ j,j < i→0≤l.getD j 0∧l.getD j 0 < s.a9.length)
  (fun i=>[(1,.ak 0 (ints l)),(2,.ah s.av),(5,.int .i64 i)]) (fun i=>H) ⟨fun j h=>by omega,ax _ _ _⟩ fun i hi hI=>?_
 by_cases hl:i < l.length
 ·have bad (h:¬ (0≤l.getD i 0∧l.getD i 0 < s.a9.length)):¬ lX s l:=fun e=>h (e _ (aQ hl))
  have e0:((i:Int) < l.length)=True:=eq_true (by omega)
  by_cases h1:l.getD i 0 < 0
  ·have e1:(l.getD i 0 < 0)=True:=eq_true h1
   simp +contextual only [e0,e1,hl,decide_true,sZ,Nat.reduceEqDiff,↓reduceIte,reduceCtorEq]
   exact fun _=>kY _ (bad (by omega))
  ·have e1:(l.getD i 0 < 0)=False:=eq_false h1
   by_cases h2:s.a9.length≤l.getD i 0
   ·have e2:((s.a9.length:Int)≤l.getD i 0)=True:=eq_true h2
    simp +contextual only [aC,e0,e1,e2,hl,decide_true,decide_false,sZ,Nat.reduceEqDiff,↓reduceIte,reduceCtorEq]
    exact fun _=>kY _ (bad (by omega))
   ·have e2:((s.a9.length:Int)≤l.getD i 0)=False:=eq_false h2
    simp +contextual only [aC,e0,e1,e2,hl,decide_true,decide_false,sZ,Nat.reduceEqDiff,↓reduceIte]
    refine fun _=>⟨i + 1,⟨hl,fun j hj=>?_⟩,by omega,aE (by rw [aq i (by omega)]) rfl⟩
    by_cases Ig:j < i
    ·exact hI j Ig
    ·have:j=i:=by omega
     subst this
     exact ⟨by omega,by omega⟩
 ·have e0:((i:Int) < l.length)=False:=eq_false (by omega)
  simp +contextual only [e0,sZ,Nat.reduceEqDiff,↓reduceIte,reduceCtorEq]
  refine fun _=>aS rfl ?_
  have:lX s l:=fun x hx=>by
   obtain ⟨n,hn,rfl⟩:=acZ hx
   have:=hI n (by omega)
   rwa [sT,aaf hn] at this
  simp [this]
def Pl (s:Sg) (o:iK):Prop:=po o.name∧C7 o.name≠o.name.size∧(C7 o.name=0∨C7 o.name=o.args.length)∧o.args.length≤8∧lX s o.args∧lX s [o.AS]
theorem OE (a:Int):[AV.int .i64 a]=ints [a]:=rfl
open Classical in
theorem af3 (s:Sg) (o:iK) (ho:Pk o):Pure Tryz.prog 197 [s.av,o.av] (.bool (decide (Pl s o))):=by
 have e1:=ab6 o.name ho.2
 have e2:=ab5 o.name ho.2
 have hb:C7 o.name≤o.name.size:=agr (p:=(· == (95:UInt8))) (l:=o.name.data.toList)
 have e3:=Ub s o.args
 have e4:=Ub s [o.AS]
 have hR:Pl s o=(po o.name∧C7 o.name≠o.name.size∧(C7 o.name=0∨C7 o.name=o.args.length)∧o.args.length≤8∧lX s o.args∧lX s [o.AS]):=rfl
 refine fun H=>ZN.2.calls rfl ?_
 simp only [ZN,aH]
 simp +contextual only [aC,sZ,Nat.reduceEqDiff,Nat.reduceAdd,↓reduceIte,reduceCtorEq]
 refine ae e1 ?_
 simp +contextual only [aC,sZ,Nat.reduceEqDiff,Nat.reduceAdd,↓reduceIte]
 refine ae e2 ?_
 have ha:=ho.1
 generalize C7 o.name=n at *
 by_cases hn:po o.name
 ·rw [decide_eq_true hn]
  by_cases h1:n=o.name.size
  ·have f1:((n:Int)=o.name.size)=True:=eq_true (by omega)
   simp +contextual only [aC,f1,decide_true,sZ,Nat.reduceEqDiff,↓reduceIte,reduceCtorEq]
   exact kY _ (by rw [hR];exact fun e=>e.2.1 h1)
  have f1:((n:Int)=o.name.size)=False:=eq_false (by omega)
  by_cases h2:n=0∨n=o.args.length
  ·have hz:(0 < (n:Int))=False∧(True∧True)=True∨(0 < (n:Int))=True∧((n:Int)=o.args.length)=True:=by
    by_cases h0:n=0
    ·exact .inl ⟨eq_false (by omega),by simp⟩
    ·exact .inr ⟨eq_true (by omega),eq_true (by omega)⟩
   rcases hz with ⟨f2,f3⟩ | ⟨f2,f3⟩
   all_goals
    simp +contextual only [aC,f1,f2,f3,decide_false,decide_true,sZ,Nat.reduceEqDiff,Nat.reduceAdd,↓reduceIte,reduceCtorEq]
    refine fun _=>⟨fun h3=>ae e3 ?_,fun h3=>kY _ (by rw [hR];exact fun e=>by have:=e.2.2.2.1;omega)⟩
    by_cases h4:lX s o.args
    ·rw [decide_eq_true h4]
     simp +contextual only [aC,OE,sZ,Nat.reduceEqDiff,Nat.reduceAdd,↓reduceIte]
     refine ae e4 ?_
     simp +contextual only [sZ,Nat.reduceEqDiff,↓reduceIte,reduceCtorEq]
     refine aS rfl ?_
     have:Pl s o=lX s [o.AS]:=by rw [hR];exact propext ⟨fun e=>e.2.2.2.2.2,fun e=>⟨hn,h1,h2,by omega,h4,e⟩⟩
     simp only [this]
    ·rw [decide_eq_false h4]
     simp +contextual only [sZ,Nat.reduceEqDiff,↓reduceIte,reduceCtorEq]
     exact kY _ (by rw [hR];exact fun e=>h4 e.2.2.2.2.1)
  ·have f2:(0 < (n:Int))=True:=eq_true (by omega)
   have f3:((n:Int)=o.args.length)=False:=eq_false (by omega)
   simp +contextual only [aC,f1,f2,f3,decide_false,decide_true,sZ,Nat.reduceEqDiff,↓reduceIte,reduceCtorEq]
   exact fun _=>kY _ (by rw [hR];exact fun e=>h2 e.2.2.1)
 ·rw [decide_eq_false hn]
  simp +contextual only [sZ,Nat.reduceEqDiff,↓reduceIte,reduceCtorEq]
  exact kY _ (by rw [hR];exact fun e=>hn e.1)
end Go.aK
end
section
set_option maxRecDepth 100000
namespace Go.aK
open Go Go.Proofs
def X2 (s:Sg) (i:Nat):Prop:=po (s.a9.getD i default)∧C7 (s.a9.getD i default)=0∧∀ k,k < i→s.a9.getD k default≠s.a9.getD i default
def X3 (a b:iK):Prop:=a.name=b.name∧a.AS=b.AS∧a.args=b.args
def OoR (s:Sg) (i:Nat):Prop:=Pl s (s.ops.getD i default)∧∀ k,k < i→¬ X3 (s.ops.getD k default) (s.ops.getD i default)
def rh (s:Sg):Prop:=s.a9.length≤64∧s.ops.length≤256∧(∀ i,i < s.a9.length→X2 s i)∧∀ i,i < s.ops.length→OoR s i
theorem gI {p:Nat→Prop} {i:Nat} (h:∀ j,j < i→p j) (h':p i):∀ j,j < i + 1→p j:=fun j hj=>by
 by_cases e:j < i
 ·exact h j e
 ·have:j=i:=by omega
  subst this;exact h'
theorem ri {α:Type} [Inhabited α] {l:List α} {i:Nat} (h:i < l.length):l.getD i default∈l:=by
 rw [sT,aaf h];exact adr h
open Classical in
theorem af4 (s:Sg) (ho:∀ o∈s.ops,Pk o) (hs:∀ x∈s.a9,x.size≤200) (h40:s.ops.length≤40) (h41:s.a9.length≤40):Pure Tryz.prog 145 [s.av] (.bool (decide (rh s))):=by
 refine fun H=>Zq.2.calls rfl ?_
 simp only [Zq,aH]
 have f1:(64 < (s.a9.length:Int))=False:=eq_false (by omega)
 have f2:(256 < (s.ops.length:Int))=False:=eq_false (by omega)
 simp +contextual only [aC,f1,f2,decide_false,sZ,Nat.reduceEqDiff,Nat.reduceAdd,↓reduceIte]
 refine fun _ _=>aB s.a9.length (fun i=>∀ j,j < i→X2 s j) (fun i=>[(1,.ah s.av),(3,.int .i64 i)]) (fun i=>H) ⟨fun j h=>by omega,ax _ _ _⟩ fun i hi hI=>?_
 by_cases hl:i < s.a9.length
 ·have e0:((i:Int) < s.a9.length)=True:=eq_true (by omega)
  have bad (h:¬ X2 s i):¬ rh s:=fun e=>h (e.2.2.1 i hl)
  have hx:=hs _ (ri hl)
  have e1:=ab5 _ hx
  have e2:=ab6 _ hx
  have hR:X2 s i=(po (s.a9.getD i default)∧C7 (s.a9.getD i default)=0∧∀ k,k < i→s.a9.getD k default≠s.a9.getD i default):=rfl
  simp +contextual only [aC,e0,hl,sZ,Nat.reduceEqDiff,Nat.reduceAdd,↓reduceIte]
  refine fun _=>ae e1 ?_
  by_cases h1:po (s.a9.getD i default)
  ·rw [decide_eq_true h1]
   simp +contextual only [aC,hl,sZ,Nat.reduceEqDiff,Nat.reduceAdd,↓reduceIte]
   refine ae e2 ?_
   by_cases h2:C7 (s.a9.getD i default)=0
   ·rw [h2]
    have e9:(0 < ((0:Nat):Int))=False:=eq_false (by omega)
    simp +contextual only [e9,decide_false,sZ,Nat.reduceEqDiff,↓reduceIte]
    refine aB i (fun k=>∀ j,j < k→s.a9.getD j default≠s.a9.getD i default) (fun k=>[(1,.ah s.av),(3,.int .i64 i),(4,.int .i64 k)]) (fun i=>H) ⟨fun j h=>by omega,ax _ _ _⟩ fun k hk hK=>?_
    by_cases lY:k < i
    ·have e3:((k:Int) < i)=True:=eq_true (by omega)
     have zr:k < s.a9.length:=by omega
     by_cases h3:s.a9.getD k default=s.a9.getD i default
     ·simp +contextual only [aC,e3,hl,zr,qZ,h3,decide_true,sZ,Nat.reduceEqDiff,↓reduceIte,reduceCtorEq]
      exact kY _ (bad (by rw [hR];exact fun e=>e.2.2 k lY h3))
     ·simp +contextual only [aC,e3,hl,zr,qZ,h3,decide_false,sZ,Nat.reduceEqDiff,↓reduceIte]
      exact ⟨k + 1,⟨lY,gI hK h3⟩,by omega,aE (by rw [aq k (by omega)]) rfl⟩
    ·have e3:((k:Int) < i)=False:=eq_false (by omega)
     simp +contextual only [e3,sZ,Nat.reduceEqDiff,↓reduceIte]
     exact ⟨i + 1,⟨hl,gI hI (by rw [hR];exact ⟨h1,h2,fun j hj=>hK j (by omega)⟩)⟩,by omega,aE (by rw [aq i (by omega)]) rfl⟩
   ·have e3:(0 < ((C7 (s.a9.getD i default):Nat):Int))=True:=eq_true (by omega)
    simp +contextual only [e3,decide_true,sZ,Nat.reduceEqDiff,↓reduceIte,reduceCtorEq]
    exact kY _ (bad (by rw [hR];exact fun e=>h2 e.2.1))
  ·rw [decide_eq_false h1]
   simp +contextual only [sZ,Nat.reduceEqDiff,↓reduceIte,reduceCtorEq]
   exact kY _ (bad (by rw [hR];exact fun e=>h1 e.1))
 have e0:((i:Int) < s.a9.length)=False:=eq_false (by omega)
 have Pj:∀ i,i < s.a9.length→X2 s i:=fun j hj=>hI j (by omega)
 simp +contextual only [aC,e0,sZ,Nat.reduceEqDiff,↓reduceIte]
 refine fun _=>aB s.ops.length (fun i=>∀ j,j < i→OoR s j) (fun i=>[(1,.ah s.av),(5,.int .i64 i)]) (fun i=>H) ⟨fun j h=>by omega,ax _ _ _⟩ fun i hi hI=>?_
 by_cases hl:i < s.ops.length
 ·have e0:((i:Int) < s.ops.length)=True:=eq_true (by omega)
  have bad (h:¬ OoR s i):¬ rh s:=fun e=>h (e.2.2.2 i hl)
  have e1:=af3 s _ (ho _ (ri hl))
  have hR:OoR s i=(Pl s (s.ops.getD i default)∧∀ k,k < i→¬ X3 (s.ops.getD k default) (s.ops.getD i default)):=rfl
  simp +contextual only [aC,e0,hl,sZ,Nat.reduceEqDiff,↓reduceIte]
  refine fun _=>aF e1 ?_
  by_cases h1:Pl s (s.ops.getD i default)
  ·rw [decide_eq_true h1]
   simp +contextual only [sZ,Nat.reduceEqDiff,↓reduceIte]
   refine aB i (fun k=>∀ j,j < k→¬ X3 (s.ops.getD j default) (s.ops.getD i default)) (fun k=>[(1,.ah s.av),(5,.int .i64 i),(6,.int .i64 k)]) (fun i=>H) ⟨fun j h=>by omega,ax _ _ _⟩ fun k hk hK=>?_
   by_cases lY:k < i
   ·have e3:((k:Int) < i)=True:=eq_true (by omega)
    have zr:k < s.ops.length:=by omega
    have next (h:¬ X3 (s.ops.getD k default) (s.ops.getD i default)):∃ j,(j≤i∧∀ j_1,j_1 < j→¬ X3 (s.ops.getD j_1 default) (s.ops.getD i default))∧i - j < i - k∧sle H.length [(1,.ah s.av),(5,.int .i64 i),(6,.int .i64 (IntKind.i64.wrap ((k:Int) + 1)))] H [(1,.ah s.av),(5,.int .i64 i),(6,.int .i64 j)] H:=
     ⟨k + 1,⟨lY,gI hK h⟩,by omega,aE (by rw [aq k (by omega)]) rfl⟩
    by_cases h2:(s.ops.getD k default).name=(s.ops.getD i default).name
    ·by_cases h3:(s.ops.getD k default).AS=(s.ops.getD i default).AS
     ·simp +contextual only [aC,e3,hl,zr,qZ,h2,h3,decide_true,sZ,Nat.reduceEqDiff,↓reduceIte]
      refine aF (aej _ _ _ _) ?_
      by_cases h4:(s.ops.getD k default).args=(s.ops.getD i default).args
      ·simp +contextual only [h4,decide_true,sZ,Nat.reduceEqDiff,↓reduceIte,reduceCtorEq]
       exact kY _ (bad (by rw [hR];exact fun e=>e.2 k lY ⟨h2,h3,h4⟩))
      ·simp +contextual only [h4,decide_false,sZ,Nat.reduceEqDiff,↓reduceIte]
       exact next fun e=>h4 e.2.2
     ·simp +contextual only [aC,e3,hl,zr,qZ,h2,h3,decide_true,decide_false,sZ,Nat.reduceEqDiff,↓reduceIte]
      exact next fun e=>h3 e.2.1
    ·simp +contextual only [aC,e3,hl,zr,qZ,h2,decide_false,sZ,Nat.reduceEqDiff,↓reduceIte]
     exact next fun e=>h2 e.1
   ·have e3:((k:Int) < i)=False:=eq_false (by omega)
    simp +contextual only [e3,sZ,Nat.reduceEqDiff,↓reduceIte]
    exact ⟨i + 1,⟨hl,gI hI (by rw [hR];exact ⟨h1,fun j hj=>hK j (by omega)⟩)⟩,by omega,aE (by rw [aq i (by omega)]) rfl⟩
  ·rw [decide_eq_false h1]
   simp +contextual only [sZ,Nat.reduceEqDiff,↓reduceIte,reduceCtorEq]
   exact kY _ (bad (by rw [hR];exact fun e=>h1 e.1))
 ·have e0:((i:Int) < s.ops.length)=False:=eq_false (by omega)
  simp +contextual only [aC,e0,sZ,Nat.reduceEqDiff,↓reduceIte,reduceCtorEq]
  refine fun _=>aS rfl ?_
  have:rh s:=⟨by omega,by omega,Pj,fun j hj=>hI j (by omega)⟩
  simp [this]
end Go.aK
end
section
set_option maxRecDepth 100000
namespace Go.aK
open Go Go.Proofs Go.fo
open Classical in
theorem c82 (s:Sg) (ho:∀ o∈s.ops,Pk o) (hs:∀ x∈s.a9,x.size≤200) (h40:s.ops.length≤40) (h41:s.a9.length≤40):Pure Tryz.prog 82 [s.av] (.int .i64 (if rh s then 0 else 40)):=by
 refine fun H=>k82.2.calls rfl ?_
 simp only [k82,aH]
 simp +contextual only [aC,sZ,Nat.reduceEqDiff,Nat.reduceAdd,↓reduceIte]
 refine ae (af4 s ho hs h40 h41) ?_
 by_cases h:rh s
 ·rw [decide_eq_true h]
  simp +contextual only [sZ,↓reduceIte,reduceCtorEq]
  exact aS rfl (by rw [if_pos h])
 ·rw [decide_eq_false h]
  simp +contextual only [sZ,↓reduceIte,reduceCtorEq]
  exact aS rfl (by rw [if_neg h])
def OrR (ps ss:List Int) (i:Nat):Prop:=0≤ps.getD i 0∧ps.getD i 0≤255∧1≤ss.getD i 0∧ss.getD i 0≤3∧∀ k,k < i→¬ (ps.getD i 0=ps.getD k 0∧¬ ss.getD i 0=ss.getD k 0)
theorem Fv (ps ss:List Int) (n:Nat):Sa ps ss n↔∀ i,i < n→OrR ps ss i:=by
 constructor
 ·intro h i hi
  obtain ⟨a,b,c,d⟩:=h.SU i hi
  exact ⟨a,b,c,d,fun k hk e=>e.2 (h.st i k hi (by omega) e.1)⟩
 ·intro h
  refine ⟨fun j hj=>⟨(h j hj).1,(h j hj).2.1,(h j hj).2.2.1,(h j hj).2.2.2.1⟩,fun j k hj hk e=>?_⟩
  rcases af5 j k with g | g | g
  ·have:=(h k hk).2.2.2.2 j g
   by_cases x:ss.getD j 0=ss.getD k 0
   ·exact x
   ·exact absurd ⟨e.symm,fun y=>x y.symm⟩ this
  ·rw [g]
  ·have:=(h j hj).2.2.2.2 k g
   by_cases x:ss.getD j 0=ss.getD k 0
   ·exact x
   ·exact absurd ⟨e,x⟩ this
open Classical in
theorem c83 (s:Sg) (ps ss:List Int) (h40:s.ops.length≤40) (h3:ps.length≤80) (h4:ss.length≤80):Pure Tryz.prog 83 [s.av,eT ps ss] (.bool (decide (eY s ps ss))):=by
 refine fun H=>k83.2.calls rfl ?_
 simp only [k83,aH]
 obtain ⟨q1,q2,q3,q4,q5,q6⟩:=bt ps ss
 by_cases g1:ps.length=s.ops.length
 rotate_left
 ·have f1:((ps.length:Int)=s.ops.length)=False:=eq_false (by omega)
  simp +contextual only [aC,q1,yg,au,f1,sZ,Nat.reduceEqDiff,Nat.reduceAdd,↓reduceIte,reduceCtorEq]
  exact fun _ _=>kY _ fun e=>g1 e.1
 by_cases g2:ss.length=s.ops.length
 rotate_left
 ·have f1:((ps.length:Int)=s.ops.length)=True:=eq_true (by omega)
  have f2:((ss.length:Int)=s.ops.length)=False:=eq_false (by omega)
  simp +contextual only [aC,q1,yg,zp,au,f1,f2,decide_false,sZ,Nat.reduceEqDiff,Nat.reduceAdd,↓reduceIte,reduceCtorEq]
  exact fun _ _ _=>kY _ fun e=>g2 e.2.1
 have f1:((ps.length:Int)=s.ops.length)=True:=eq_true (by omega)
 have f2:((ss.length:Int)=s.ops.length)=True:=eq_true (by omega)
 simp +contextual only [aC,q1,yg,zp,au,f1,f2,sZ,Nat.reduceEqDiff,Nat.reduceAdd,↓reduceIte,reduceCtorEq]
 refine fun _ _ _=>aB s.ops.length (fun i=>∀ j,j < i→OrR ps ss j) (fun i=>[(2,.ah s.av),(3,.ah (eT ps ss)),(5,.int .i64 i)]) (fun i=>H) ⟨fun j h=>by omega,ax _ _ _⟩ fun i hi hI=>?_
 by_cases hl:i < s.ops.length
 ·have e0:((i:Int) < s.ops.length)=True:=eq_true (by omega)
  have hp:i < ps.length:=by omega
  have hq:i < ss.length:=by omega
  have bad (h:¬ OrR ps ss i):¬ eY s ps ss:=fun e=>h ((Fv _ _ _).1 e.2.2 i hp)
  have hR:OrR ps ss i=(0≤ps.getD i 0∧ps.getD i 0≤255∧1≤ss.getD i 0∧ss.getD i 0≤3∧∀ k,k < i→¬ (ps.getD i 0=ps.getD k 0∧¬ ss.getD i 0=ss.getD k 0)):=rfl
  by_cases h:0≤ps.getD i 0∧ps.getD i 0≤255∧1≤ss.getD i 0∧ss.getD i 0≤3
  ·have e1:(ps.getD i 0 < 0)=False:=eq_false (by omega)
   have e2:(255 < ps.getD i 0)=False:=eq_false (by omega)
   have e3:(ss.getD i 0 < 1)=False:=eq_false (by omega)
   have e4:(3 < ss.getD i 0)=False:=eq_false (by omega)
   simp +contextual only [aC,yg,zp,e0,e1,e2,e3,e4,hp,hq,decide_false,sZ,Nat.reduceEqDiff,↓reduceIte]
   refine fun _=>aB i (fun k=>∀ j,j < k→¬ (ps.getD i 0=ps.getD j 0∧¬ ss.getD i 0=ss.getD j 0)) (fun k=>[(2,.ah s.av),(3,.ah (eT ps ss)),(5,.int .i64 i),(6,.int .i64 k)]) (fun i=>H) ⟨fun j h=>by omega,ax _ _ _⟩ fun k hk hK=>?_
   by_cases lY:k < i
   ·have e3:((k:Int) < i)=True:=eq_true (by omega)
    have Xa:k < ps.length:=by omega
    have hq2:k < ss.length:=by omega
    have next (h:¬ (ps.getD i 0=ps.getD k 0∧¬ ss.getD i 0=ss.getD k 0)):∃ j,(j≤i∧∀ j_1,j_1 < j→¬ (ps.getD i 0=ps.getD j_1 0∧¬ ss.getD i 0=ss.getD j_1 0))∧i - j < i - k∧sle H.length [(2,.ah s.av),(3,.ah (eT ps ss)),(5,.int .i64 i),(6,.int .i64 (IntKind.i64.wrap ((k:Int) + 1)))] H [(2,.ah s.av),(3,.ah (eT ps ss)),(5,.int .i64 i),(6,.int .i64 j)] H:=
     ⟨k + 1,⟨lY,gI hK h⟩,by omega,aE (by rw [aq k (by omega)]) rfl⟩
    by_cases h2:ps.getD i 0=ps.getD k 0
    ·have e5:(ps.getD i 0=ps.getD k 0)=True:=eq_true h2
     by_cases h3:ss.getD i 0=ss.getD k 0
     ·have e6:(ss.getD i 0=ss.getD k 0)=True:=eq_true h3
      simp +contextual only [yg,zp,e3,hp,hq,Xa,hq2,e5,e6,decide_true,decide_false,not_true_eq_false,sZ,Nat.reduceEqDiff,↓reduceIte]
      exact next fun e=>e.2 h3
     ·simp +contextual only [yg,zp,e3,hp,hq,Xa,hq2,e5,h3,decide_true,not_false_eq_true,sZ,Nat.reduceEqDiff,↓reduceIte,reduceCtorEq]
      exact kY _ (bad (by rw [hR];exact fun e=>e.2.2.2.2 k lY ⟨h2,h3⟩))
    ·simp +contextual only [yg,e3,hp,Xa,h2,decide_true,decide_false,sZ,Nat.reduceEqDiff,↓reduceIte]
     exact next fun e=>h2 e.1
   ·have e3:((k:Int) < i)=False:=eq_false (by omega)
    simp +contextual only [e3,sZ,Nat.reduceEqDiff,↓reduceIte]
    exact ⟨i + 1,⟨hl,gI hI (by rw [hR];exact ⟨h.1,h.2.1,h.2.2.1,h.2.2.2,fun j hj=>hK j (by omega)⟩)⟩,by omega,aE (by rw [aq i (by omega)]) rfl⟩
  ·have bad:=bad (by rw [hR];exact fun e=>h ⟨e.1,e.2.1,e.2.2.1,e.2.2.2.1⟩)
   have fin:=kY (inferInstance:Decidable (eY s ps ss)) (H:=H) (s:=4) bad
   have hz:((ps.getD i 0 < 0)=True∧(True∧True)=True∧(True∧True)=True∧(True∧True)=True)∨((ps.getD i 0 < 0)=False∧(255 < ps.getD i 0)=True∧(True∧True)=True∧(True∧True)=True)∨((ps.getD i 0 < 0)=False∧(255 < ps.getD i 0)=False∧(ss.getD i 0 < 1)=True∧(True∧True)=True)∨((ps.getD i 0 < 0)=False∧(255 < ps.getD i 0)=False∧(ss.getD i 0 < 1)=False∧(3 < ss.getD i 0)=True):=by
    have y:=and_self True
    by_cases a:ps.getD i 0 < 0
    ·exact .inl ⟨eq_true a,y,y,y⟩
    by_cases b:255 < ps.getD i 0
    ·exact .inr (.inl ⟨eq_false a,eq_true b,y,y⟩)
    by_cases c:ss.getD i 0 < 1
    ·exact .inr (.inr (.inl ⟨eq_false a,eq_false b,eq_true c,y⟩))
    ·exact .inr (.inr (.inr ⟨eq_false a,eq_false b,eq_false c,eq_true (by omega)⟩))
   rcases hz with ⟨e1,e2,e3,e4⟩ | ⟨e1,e2,e3,e4⟩ | ⟨e1,e2,e3,e4⟩ | ⟨e1,e2,e3,e4⟩
   all_goals
    simp +contextual only [aC,yg,zp,e0,e1,e2,e3,e4,hp,hq,decide_false,decide_true,sZ,Nat.reduceEqDiff,↓reduceIte,reduceCtorEq]
    exact fun _=>fin
 ·have e0:((i:Int) < s.ops.length)=False:=eq_false (by omega)
  simp +contextual only [aC,e0,sZ,Nat.reduceEqDiff,↓reduceIte,reduceCtorEq]
  refine fun _=>aS rfl ?_
  have:eY s ps ss:=⟨g1,g2,(Fv _ _ _).2 fun j hj=>hI j (by omega)⟩
  simp [this]
open Classical in
theorem c25 (s:Sg) (ps ss:List Int) (hs:SmS s ps ss):Pure Tryz.prog 25 [s.av,eT ps ss] (.int .i64 (if rh s then (if eY s ps ss then 0 else 60) else 40)):=by
 refine fun H=>k25.2.calls rfl ?_
 simp only [k25,aH]
 obtain ⟨q1,q2,q3,q4,q5,q6⟩:=bt ps ss
 simp +contextual only [aC,q1,sZ,Nat.reduceEqDiff,Nat.reduceAdd,↓reduceIte,reduceCtorEq]
 refine ae (c82 s hs.h5 hs.h6 hs.h1 hs.h2) ?_
 by_cases h:rh s
 ·rw [if_pos h]
  simp +contextual only [aC,q4,cQ,sZ,Nat.reduceEqDiff,Nat.reduceAdd,↓reduceIte]
  refine ae (c83 s ps ss hs.h1 hs.h3 hs.h4) ?_
  by_cases h2:eY s ps ss
  ·rw [decide_eq_true h2]
   simp +contextual only [sZ,↓reduceIte,reduceCtorEq]
   exact aS rfl (by rw [if_pos h,if_pos h2])
  ·rw [decide_eq_false h2]
   simp +contextual only [sZ,↓reduceIte,reduceCtorEq]
   exact aS rfl (by rw [if_pos h,if_neg h2])
 ·rw [if_neg h]
  simp +contextual only [sZ,Nat.reduceEqDiff,↓reduceIte,reduceCtorEq,Int.reduceEq]
  exact aS rfl (by rw [if_neg h])
end Go.aK
end
section
set_option maxRecDepth 100000
namespace Go.aK
open Go Go.Proofs Go.fo
theorem af6 (x:T):Pure Tryz.prog 115 [x.av] (.int .i64 (if x.tree=true then 0 else 4)):=by
 refine fun H=>Y8.2.calls rfl ?_
 simp only [Y8,aH]
 simp +contextual only [sZ,Nat.reduceEqDiff,Nat.reduceAdd,↓reduceIte]
 refine ae (TB x) ?_
 cases h:x.tree with
 | true=>simp +contextual only [sZ,↓reduceIte,reduceCtorEq];exact aS rfl rfl
 | false=>simp +contextual only [sZ,↓reduceIte,reduceCtorEq];exact aS rfl rfl
theorem af7 (s:Sg):∀ t:T,t.shaped=true→Pure Tryz.prog 116 [s.av,t.av] (.bool (iP s t)):=by
 suffices h:∀ N t,wt t≤N→t.shaped=true→Pure Tryz.prog 116 [s.av,t.av] (.bool (iP s t)) from fun t ht=>h _ t (sU _) ht
 intro N
 induction N with
 | zero=>intro t h;have:=eF t;omega
 | succ N ih=>
 intro t hN hs H
 have hk:=bD hs
 have ih:∀ x∈t.l,Pure Tryz.prog 116 [s.av,x.av] (.bool (iP s x)):=fun x hx=>ih x (by have:=bM hx;omega) (hk.2 x hx)
 have hn:0≤t.n:=by
  rw [T.bP] at hs
  simp only [zB,abp,acx,decide_eq_false_iff_not] at hs
  have:=hs.1.1.1.1
  omega
 obtain ⟨m,hm⟩:=acW hn
 refine Y9.2.calls rfl ?_
 simp only [Y9,aH]
 have e:iP s t=(!(decide (t.k=2) && (decide ((s.ops.length:Int)≤t.n) || !decide ((t.l.length:Int)=((s.ops.getD t.n.toNat default).args.length:Nat)))) && !(t.l.any fun x=>!iP s x)):=by
  rw [← lD];cases t;rfl
 have fin:(!(decide (t.k=2) && (decide ((s.ops.length:Int)≤t.n) || !decide ((t.l.length:Int)=((s.ops.getD t.n.toNat default).args.length:Nat)))))=false→bT H.length [.t 4] [(4,.bool false)] H fun r H'=>r=.bool (iP s t)∧H'=H:=by
  intro h
  rw [e,h];exact aS rfl rfl
 by_cases hh:t.k=2∧(s.ops.length:Int)≤t.n
 ·simp +contextual only [aC,hh.1,hh.2,decide_true,sZ,Nat.reduceEqDiff,Nat.reduceAdd,↓reduceIte,reduceCtorEq]
  exact fin (by simp [hh.1,hh.2])
 have em:t.n.toNat=m:=by omega
 by_cases X4:t.k=2∧¬ (t.l.length:Int)=((s.ops.getD m default).args.length:Nat)
 ·have Hh:m < s.ops.length:=by omega
  have XH:¬ (s.ops.length:Int)≤(m:Int):=by omega
  simp +contextual only [aC,X4.1,XH,X4.2,hm,Hh,au,decide_true,decide_false,sZ,Nat.reduceEqDiff,Nat.reduceAdd,↓reduceIte,reduceCtorEq]
  exact fin (by rw [em,decide_eq_true X4.1,decide_eq_false X4.2,decide_eq_false (by omega:¬ (s.ops.length:Int)≤t.n)];rfl)
 have hd:(!(decide (t.k=2) && (decide ((s.ops.length:Int)≤t.n) || !decide ((t.l.length:Int)=((s.ops.getD t.n.toNat default).args.length:Nat)))))=true:=by
  rw [em]
  by_cases a:t.k=2
  ·rw [decide_eq_false (fun b=>hh ⟨a,b⟩),decide_eq_true (Classical.byContradiction fun b=>X4 ⟨a,b⟩)];simp
  ·rw [decide_eq_false a];rfl
 rw [hd] at e
 have hz:((t.k=2)=False∧(True∧True)=True∧(True∧True)=True∧(True∧True)=True)∨((t.k=2)=True∧(m < s.ops.length)=True∧((s.ops.length:Int)≤(m:Int))=False∧((t.l.length:Int)=((s.ops.getD m default).args.length:Nat))=True):=by
  have y:=and_self True
  by_cases a:t.k=2
  ·exact .inr ⟨eq_true a,eq_true (by omega),eq_false (by omega),eq_true (Classical.byContradiction fun b=>X4 ⟨a,b⟩)⟩
  ·exact .inl ⟨eq_false a,y,y,y⟩
 rcases hz with ⟨e1,e2,e3,e4⟩ | ⟨e1,e2,e3,e4⟩
 all_goals
  simp +contextual only [aC,e1,e2,e3,e4,hm,au,decide_true,decide_false,sZ,Nat.reduceEqDiff,Nat.reduceAdd,↓reduceIte,reduceCtorEq]
  refine aB t.l.length (fun i=>∀ j,j < i→iP s (t.l.getD j default)=true) (fun i=>[(2,.ah s.av),(3,.ah t.av),(5,.int .i64 i)]) (fun i=>H) ⟨fun j h=>by omega,ax _ _ _⟩ fun i hi hI=>?_
  by_cases hl:i < t.l.length
  ·have e5:((i:Int) < t.l.length)=True:=eq_true (by omega)
   simp +contextual only [aC,e5,hl,sZ,Nat.reduceEqDiff,↓reduceIte]
   refine fun _=>aF (ih _ (ri hl)) ?_
   cases hb:iP s (t.l.getD i default) with
   | false=>
     simp +contextual only [sZ,Nat.reduceEqDiff,↓reduceIte,reduceCtorEq]
     refine aS rfl ?_
     have:(t.l.any fun x=>!iP s x)=true:=agq.2 ⟨_,ri hl,by rw [hb];rfl⟩
     rw [e,this];rfl
   | true=>
     simp +contextual only [sZ,Nat.reduceEqDiff,↓reduceIte]
     exact ⟨i + 1,⟨hl,gI hI hb⟩,by omega,aE (by rw [aq i (by omega)]) rfl⟩
  ·have e5:((i:Int) < t.l.length)=False:=eq_false (by omega)
   simp +contextual only [e5,sZ,Nat.reduceEqDiff,↓reduceIte,reduceCtorEq]
   refine fun _=>aS rfl ?_
   have:(t.l.any fun x=>!iP s x)=false:=by
    rw [ac7]
    exact pn fun j hj=>by rw [hI j (by omega)];simp
   rw [e,this];rfl
theorem c55 (s:Sg) (t:T):Pure Tryz.prog 55 [s.av,t.av] (.bool (t.tree && iP s t)):=by
 refine fun H=>k55.2.calls rfl ?_
 simp only [k55,aH]
 simp +contextual only [aC,sZ,Nat.reduceEqDiff,Nat.reduceAdd,↓reduceIte,reduceCtorEq]
 refine ae (af6 t) ?_
 cases h:t.tree with
 | false=>
   simp +contextual only [acv,sZ,Nat.reduceEqDiff,↓reduceIte,reduceCtorEq,Int.reduceEq]
   exact aS rfl rfl
 | true=>
   simp +contextual only [aC,sZ,Nat.reduceEqDiff,Nat.reduceAdd,↓reduceIte]
   refine ae (af7 s t ((T.bg t).1 h).2.2) ?_
   simp +contextual only [sZ,Nat.reduceEqDiff,↓reduceIte,reduceCtorEq]
   exact aS rfl rfl
theorem af8 (s:Sg) (t:T):Pure Tryz.prog 107 ([t.av]++[.ah s.av]) (.bool (!(t.tree && iP s t))):=by
 refine fun H=>Y4.2.calls rfl ?_
 simp only [Y4,aH]
 simp +contextual only [aC,sZ,Nat.reduceEqDiff,Nat.reduceAdd,↓reduceIte,reduceCtorEq]
 refine ae (c55 s t) ?_
 simp +contextual only [sZ,↓reduceIte,reduceCtorEq]
 exact aS rfl rfl
open Classical in
theorem c42 (s:Sg) (ps ss:List Int) (n:Int) (l:List T) (H:List aa):aw Tryz.prog 42 [s.av,eT ps ss,.int .i64 n,.ak 0 (bk l)] H fun r H'=>(∃ b,r=.bool b∧(b=true→rh s∧eY s ps ss∧∀ t∈l,(t.tree && iP s t)=true))∧H'=H:=by
 refine k42.2.calls rfl ?_
 simp only [k42,aH]
 obtain ⟨q1,q2,q3,q4,q5,q6⟩:=bt ps ss
 have fin:∀ (b:Bool),(b=true→rh s∧eY s ps ss∧∀ t∈l,(t.tree && iP s t)=true)→bT H.length [.t 8] [(8,.bool b)] H fun r H'=>(∃ b,r=.bool b∧(b=true→rh s∧eY s ps ss∧∀ t∈l,(t.tree && iP s t)=true))∧H'=H:=fun b hb=>
  aP H.length (sU _) (by rw [ay,if_pos rfl];rfl) ⟨⟨b,by rw [ay,if_pos rfl],hb⟩,aby⟩
 have finf:=fin false (fun h=>by cases h)
 simp +contextual only [aC,q1,q4,cQ,sZ,Nat.reduceEqDiff,Nat.reduceAdd,↓reduceIte,reduceCtorEq]
 refine af (c18 s ps ss _) ?_
 rintro r G ⟨⟨b,rfl,hb⟩,rfl⟩
 cases b with
 | false=>simp +contextual only [sZ,Nat.reduceEqDiff,↓reduceIte,reduceCtorEq];exact finf
 | true=>
 have hb:=hb rfl
 simp +contextual only [sZ,Nat.reduceEqDiff,Nat.reduceAdd,↓reduceIte]
 refine af (c19 n l _) ?_
 rintro r G ⟨⟨b,rfl⟩,rfl⟩
 cases b with
 | false=>simp +contextual only [sZ,Nat.reduceEqDiff,↓reduceIte,reduceCtorEq];exact finf
 | true=>
 simp +contextual only [aC,q4,cQ,sZ,Nat.reduceEqDiff,Nat.reduceAdd,↓reduceIte]
 refine ae (c25 s ps ss hb) ?_
 by_cases h1:rh s
 rotate_left
 ·rw [if_neg h1];simp +contextual only [sZ,Nat.reduceEqDiff,↓reduceIte,reduceCtorEq,Int.reduceEq];exact finf
 by_cases h2:eY s ps ss
 rotate_left
 ·rw [if_pos h1,if_neg h2];simp +contextual only [sZ,Nat.reduceEqDiff,↓reduceIte,reduceCtorEq,Int.reduceEq];exact finf
 rw [if_pos h1,if_pos h2]
 simp +contextual only [sZ,Nat.reduceEqDiff,Nat.reduceAdd,↓reduceIte]
 refine ae (WY 107 [.ah s.av] rfl _ l fun x _=>af8 s x) ?_
 simp +contextual only [sZ,Nat.reduceEqDiff,↓reduceIte,reduceCtorEq]
 refine fin _ fun h=>⟨h1,h2,fun t ht=>?_⟩
 cases hc:t.tree && iP s t with
 | true=>rfl
 | false=>
   have:(l.any fun x=>!(x.tree && iP s x))=true:=agq.2 ⟨t,ht,by rw [hc];rfl⟩
   rw [this] at h;cases h
end Go.aK
end
section
set_option maxRecDepth 100000
namespace Go.aK
open Go Go.Proofs Go.fo
theorem yC (f:Int→UInt8→Int) (s:ByteArray) (stop:Nat) (h:stop≤s.size):∀ (i j:Nat) (b:Int),j + i=s.size→stop=s.size→(ByteArray.foldlM.loop (m:=_root_.Id) (fun x y=>pure (f x y)) s stop h i j b)=(s.data.toList.drop j).foldl f b
 | 0,j,b,e,e2=>by
   have:s.data.toList.drop j=[]:=aa9 (by show s.size≤j;omega)
   rw [this];unfold ByteArray.foldlM.loop
   rw [dif_neg (by omega)];rfl
 | i + 1,j,b,e,e2=>by
   have hj:j < s.data.toList.length:=by show j < s.size;omega
   unfold ByteArray.foldlM.loop
   rw [dif_pos (by omega),aba hj,List.foldl_cons]
   exact yC f s stop h i (j + 1) _ (by omega) e2
theorem Ss (s:ByteArray):om s 95=(C7 s:Int):=by
 have h1:om s 95=s.data.toList.foldl (fun (n:Int) x=>if x == (95:Int).toNat.toUInt8 then n + 1 else n) ((0:Nat):Int):=by
  unfold om ByteArray.foldl ByteArray.foldlM
  rw [dif_pos (sU _)]
  exact yC _ s _ _ s.size 0 _ (by omega) rfl
 have h2:∀ (l:List UInt8) (n:Nat),l.foldl (fun (n:Int) x=>if x == (95:Int).toNat.toUInt8 then n + 1 else n) (n:Int)=((n + l.countP (· == (95:UInt8)):Nat):Int):=by
  intro l
  induction l with
  | nil=>intro n;simp
  | cons x r ih=>
    intro n
    rw [List.foldl_cons,ae0]
    by_cases hx:x=95
    ·subst hx
     have:=ih (n + 1)
     exact (this.trans (by simp;omega))
    ·have h95:(x == (95:Int).toNat.toUInt8)=false:=by
      rw [beq_eq_false_iff_ne];exact hx
     have h96:(x == (95:UInt8))=false:=by
      rw [beq_eq_false_iff_ne];exact hx
     rw [h95,h96]
     exact (ih n).trans (by simp)
 rw [h1,h2];simp [C7]
theorem Su {c:UInt8} (h:Xl c):CC c=false:=by
 unfold Xl at h
 have e:(((c.toNat:Nat):Int).toNat.toUInt8)=c:=by simp
 unfold CC
 rw [e,firstIdx_nonneg]
 simp only [acx,decide_eq_false_iff_not,ac7]
 refine ⟨⟨by omega,by omega⟩,fun x hx hxc=>?_⟩
 rw [beq_iff_eq] at hxc
 subst hxc
 have hx:x=40∨x=41∨x=44:=by simpa using hx
 rcases hx with rfl | rfl | rfl <;> exact h (by decide)
theorem Jb {s:ByteArray} (h:po s):qw s=true:=by
 obtain ⟨h1,h2,h3⟩:=h
 unfold qw
 simp only [zB,abp,decide_eq_false_iff_not,abo]
 refine ⟨⟨by omega,by omega⟩,fun c hc=>?_⟩
 obtain ⟨i,hi,rfl⟩:=acZ hc
 have:=Su (h1 i hi)
 rw [sT,aaf hi] at this
 exact this
theorem Xm {s:ByteArray} (h:C7 s=0):¬ 0≤R9 s:=by
 have hm:∀ b∈s.data.toList,b≠95:=fun b hb e=>by
  have:=List.countP_eq_zero.1 h b hb
  rw [e] at this;exact this rfl
 unfold R9
 split
 ·rename_i e
  exact absurd rfl (hm 95 (by rw [e];simp [us]))
 ·rw [firstIdx_none s 95 hm];omega
theorem Fx {s:Sg} (h:∀ i,i < s.a9.length→X2 s i):∀ n i,i + n=s.a9.length→nO (s.a9.drop i) (s.a9.take i)=true
 | 0,i,e=>by rw [aa9 (by omega)];rfl
 | n + 1,i,e=>by
   have hl:i < s.a9.length:=by omega
   obtain ⟨h1,h2,h3⟩:=h i hl
   have hni:s.a9.getD i default∉s.a9.take i:=fun hm=>by
    obtain ⟨k,hk,e⟩:=acZ hm
    rw [acJ] at hk
    refine h3 k (by omega) ?_
    rw [List.getElem_take] at e
    rw [← e,sT,aaf (by omega)];try rfl
   rw [vq hl,if_pos ⟨Jb h1,Xm h2,hni⟩]
   have:s.a9.take i++[s.a9.getD i default]=s.a9.take (i + 1):=by
    rw [ade,sT,aaf hl];rfl
   rw [this]
   exact Fx h n (i + 1) (by omega)
theorem OF {s:Sg} {l:List Int} (h:lX s l):∀ a∈l,KH s.a9.length a=true:=fun a ha=>by
 obtain ⟨h1,h2⟩:=h a ha
 simp [KH,h1,h2]
theorem ab8 {s:Sg} {o:iK} (h:Pl s o):sH o s.a9.length=true:=by
 obtain ⟨h1,h2,h3,h4,h5,h6⟩:=h
 have hb:C7 o.name≤o.name.size:=agr (p:=(· == (95:UInt8))) (l:=o.name.data.toList)
 unfold sH
 rw [Ss]
 simp only [zB,acY,decide_eq_true_eq,abp,ac7]
 refine ⟨Jb h1,by omega,by omega,by omega,OF h6 _ (by simp),fun x hx=>?_⟩
 rw [OF h5 x hx];simp
theorem Sv {a b:Int} (ha:0≤a∧a < 64) (hb:0≤b∧b < 64) (h:KI a=KI b):a=b:=by
 have k:∀ a:Int,0≤a∧a < 64→(KI a).toNat=a.toNat:=by
  intro a ha
  unfold KI
  have:IntKind.u8.wrap a=a:=by
   simp only [IntKind.wrap]
   have h1:IntKind.u8.bits=8:=rfl
   have h2:IntKind.u8.signed=false:=rfl
   rw [h1,h2]
   simp
   omega
  rw [this,UInt8.toNat_ofNat']
  omega
 have:=congrArg UInt8.toNat h
 rw [k a ha,k b hb] at this
 omega
theorem vw:∀ {l m:List Int},(∀ a∈l,0≤a∧a < 64)→(∀ a∈m,0≤a∧a < 64)→l.map KI=m.map KI→l=m
 | [],[],_,_,_=>rfl
 | [],b::m,_,_,h=>by cases h
 | a::l,[],_,_,h=>by cases h
 | a::l,b::m,ha,hb,h=>by
   simp only [List.map_cons,List.cons.injEq] at h
   rw [Sv (ha a (by simp)) (hb b (by simp)) h.1,vw (fun x hx=>ha x (by simp [hx])) (fun x hx=>hb x (by simp [hx])) h.2]
theorem Jc:∀ {l m r t:List UInt8},(∀ x∈l,x≠40)→(∀ x∈m,x≠40)→l++40::r=m++40::t→l=m∧r=t
 | [],[],_,_,_,_,h=>by simpa using h
 | [],b::m,_,_,_,hb,h=>by
   simp only [List.nil_append,List.cons_append,List.cons.injEq] at h
   exact absurd h.1.symm (hb b (by simp))
 | a::l,[],_,_,ha,_,h=>by
   simp only [List.nil_append,List.cons_append,List.cons.injEq] at h
   exact absurd h.1 (ha a (by simp))
 | a::l,b::m,_,_,ha,hb,h=>by
   simp only [List.cons_append,List.cons.injEq] at h
   obtain ⟨h1,h2⟩:=Jc (fun x hx=>ha x (by simp [hx])) (fun x hx=>hb x (by simp [hx])) h.2
   exact ⟨by rw [h.1,h1],h2⟩
theorem ab9 {s:ByteArray} (h:po s):∀ x∈s.data.toList,x≠40:=fun x hx e=>by
 obtain ⟨i,hi,rfl⟩:=acZ hx
 have:=h.1 i hi
 rw [sT,aaf hi,Option.getD_some,e] at this
 exact this (by decide)
theorem key_inj {s:Sg} {o q:iK} (h64:s.a9.length≤64) (ho:Pl s o) (hq:Pl s q) (h:oo o=oo q):X3 o q:=by
 have h:KJ o=KJ q:=by
  have:=congrArg (fun b:ByteArray=>b.data.toList) h
  simpa [oo] using this
 have f:∀ o:iK,KJ o=o.name.data.toList++40::(o.args++[o.AS]).map KI:=fun o=>by
  unfold KJ;simp [ByteArray.data_append]
 rw [f,f] at h
 obtain ⟨h1,h2⟩:=Jc (ab9 ho.1) (ab9 hq.1) h
 have g:∀ o:iK,Pl s o→∀ a∈o.args++[o.AS],0≤a∧a < 64:=fun o ho a ha=>by
  rcases ab7.1 ha with ha | ha
  ·have:=ho.2.2.2.2.1 a ha;omega
  ·have:=ho.2.2.2.2.2 a ha;omega
 have h3:=vw (g o ho) (g q hq) h2
 have h4:=List.append_inj' h3 rfl
 refine ⟨?_,by simpa using h4.2,h4.1⟩
 have:=Array.toList_inj.1 h1
 cases K9:o.name;cases hq':q.name
 rw [K9,hq'] at this
 simpa using this
theorem OG {s:Sg} (h64:s.a9.length≤64) (h:∀ i,i < s.ops.length→OoR s i):∀ n i,i + n=s.ops.length→CD s.a9.length (s.ops.drop i) ((s.ops.take i).map oo)=true
 | 0,i,e=>by rw [aa9 (by omega)];rfl
 | n + 1,i,e=>by
   have hl:i < s.ops.length:=by omega
   obtain ⟨h1,h3⟩:=h i hl
   have hni:oo (s.ops.getD i default)∉(s.ops.take i).map oo:=fun hm=>by
    obtain ⟨q,hq,e⟩:=aaR.1 hm
    obtain ⟨k,hk,e2⟩:=acZ hq
    rw [acJ] at hk
    rw [List.getElem_take] at e2
    have eq:s.ops.getD k default=q:=by
     rw [← e2,sT,aaf (by omega)];try rfl
    have Uf:=h k (by omega)
    refine h3 k (by omega) ?_
    rw [eq]
    exact key_inj h64 (eq ▸ Uf.1) h1 e
   rw [AT hl,if_pos ⟨ab8 h1,hni⟩]
   have:(s.ops.take i).map oo++[oo (s.ops.getD i default)]=(s.ops.take (i + 1)).map oo:=by
    rw [ade,acL,sT,aaf hl];rfl
   rw [this]
   exact OG h64 h n (i + 1) (by omega)
theorem Xn {s:Sg} (h:rh s):mG s=true:=by
 obtain ⟨h1,h2,h3,h4⟩:=h
 unfold mG
 simp only [zB,decide_eq_true_eq]
 exact ⟨⟨⟨by omega,by omega⟩,Fx h3 s.a9.length 0 (by omega)⟩,OG h1 h4 s.ops.length 0 (by omega)⟩
theorem Xo {s:Sg} {ps ss:List Int} (h1:rh s) (h2:eY s ps ss) {l:List T} (h:∀ t∈l,(t.tree && iP s t)=true):gV s ps ss l=0:=by
 have:iO s ps ss=0:=by unfold iO;rw [if_pos (Xn h1),if_pos h2]
 unfold gV
 rw [if_pos this,if_pos (abo.2 h)]
end Go.aK
end
section
set_option maxRecDepth 100000
namespace Go.aK
open Go Go.Proofs Go.fo
theorem c45 {s:Sg} {ps ss:List Int} {a b:T} (h:gV s ps ss [a,b]=0):Pure Tryz.prog 45 [s.av,eT ps ss,a.av,b.av] (.tuple [.bool (IV ps ss a b),.bool true]):=by
 refine fun H=>k45.2.calls rfl ?_
 simp only [k45,aH]
 obtain ⟨q1,q2,q3,q4,q5,q6⟩:=bt ps ss
 have e:=c20 s ps ss a b
 rw [if_pos h,h] at e
 simp +contextual only [aC,q1,q4,cQ,sZ,Nat.reduceEqDiff,Nat.reduceAdd,↓reduceIte,reduceCtorEq]
 refine ae e ?_
 simp +contextual only [decide_true,sZ,Nat.reduceEqDiff,Nat.reduceAdd,Nat.reduceLT,↓reduceIte,reduceCtorEq]
 exact Aj (by decide) rfl rfl rfl rfl
end Go.aK
end
section
set_option maxRecDepth 100000
namespace Go.aK
open Go Go.Proofs Go.fo
def C8 (s:Sg) (t:T):Prop:=t.tree=true∧iP s t=true
theorem Jd {s:Sg} {t:T}:(t.tree && iP s t)=true↔C8 s t:=by simp [C8]
theorem Sw {s:Sg} {ps ss:List Int} (h1:rh s) (h2:eY s ps ss) {a b:T} (ha:C8 s a) (hb:C8 s b):gV s ps ss [a,b]=0:=Xo h1 h2 fun t ht=>Jd.2 (by
 rcases OU.1 ht with rfl | ht
 ·exact ha
 ·rw [aa4.1 ht];exact hb)
theorem Fy:∀ {l:List T} {y:T},y∈l→y.sz≤jR l
 | x::r,y,h=>by
   have h0:∀ l:List T,0≤jR l:=fun l=>by
    have:=nJ l 0 []
    omega
   have h1:0≤x.sz:=by have:=mw x [];omega
   have:=h0 r
   simp only [jR]
   rcases OU.1 h with rfl | h
   ·omega
   ·have:=Fy h;omega
theorem Fz {t y:T} (h:t.tree=true) (hy:y∈t.l):y.tree=true:=by
 obtain ⟨h1,h2,h3⟩:=(T.bg t).1 h
 have a:=Fy hy
 have b:=Cl hy
 refine (T.bg y).2 ⟨?_,?_,(bD h3).2 y hy⟩
 ·have:t.sz=1 + jR t.l:=by cases t;rfl
  omega
 ·have:=T.TH t;omega
theorem yD {s:Sg} {t y:T} (h:iP s t=true) (hy:y∈t.l):iP s y=true:=by
 cases t with
 | mk k n l=>
 simp only [iP,zB] at h
 have h2:=h.2
 rw [lD,abp,ac7] at h2
 simpa using h2 y hy
theorem Sx {s:Sg} {t y:T} (h:C8 s t) (hy:y∈t.l):C8 s y:=⟨Fz h.1 hy,yD h.2 hy⟩
theorem aca {t y:T} (h:t.tree=true) (hy:y∈t.l):t.k=2:=by
 have hs:=((T.bg t).1 h).2.2
 rw [T.bP] at hs
 simp only [zB,abp,acx,acS,decide_eq_false_iff_not] at hs
 have:=adS.2 (List.ne_nil_of_mem hy)
 obtain ⟨⟨⟨⟨_,h1⟩,h2⟩,_⟩,_⟩:=hs
 omega
theorem OH {s:Sg}:∀ (p:List Int) {t x:T},C8 s t→oB t p=some x→C8 s x
 | [],t,x,h,e=>by simp only [oB,Option.some.injEq] at e;exact e ▸ h
 | i::r,t,x,h,e=>by
   simp only [oB] at e
   split at e
   ·cases e
   ·rename_i hi
    exact OH r (Sx h (ri (by omega))) e
theorem Uc {O:Od} {a b:T} (h:R O a b):∀ (p:List Int) (t:T),t.tree=true→(oB t p).isSome=true→R O (jS t p a) (jS t p b)
 | [],t,_,_=>h
 | i::r,t,ht,e=>by
   simp only [oB] at e
   split at e
   ·cases e
   ·rename_i hi
    have hm:t.l.getD i.toNat default∈t.l:=ri (by omega)
    simp only [jS]
    exact aaE (aca ht hm) (by omega) (Uc h r _ (Fz ht hm) e)
theorem OI {s:Sg} {u:T} (hu:iP s u=true):∀ (p:List Int) (t:T),iP s t=true→(oB t p).isSome=true→iP s (jS t p u)=true
 | [],t,_,_=>hu
 | i::r,t,ht,e=>by
   simp only [oB] at e
   split at e
   ·cases e
   ·rename_i hi
    have hm:t.l.getD i.toNat default∈t.l:=ri (by omega)
    have ih:=OI hu r _ (yD ht hm) e
    have hk:∀ y∈t.l,iP s y=true:=fun y hy=>yD ht hy
    simp only [jS]
    cases t with
    | mk k n l=>
    simp only [iP,T.Wy,T.Wz,T.aau,zB,acI] at *
    refine ⟨ht.1,?_⟩
    rw [lD,abp,ac7]
    intro y hy
    rcases acH hy with hy | rfl
    ·rw [hk y hy];simp
    ·rw [ih];simp
mutual
def Xp (f:Int→T):T→T
 | .mk k n l=>if k=2 then .mk 2 n (gpL f l) else f n
def gpL (f:Int→T):List T→List T
 | []=>[]
 | x::r=>Xp f x::gpL f r
end
theorem C0 (f:Int→T):∀ l,gpL f l=l.map (Xp f)
 | []=>rfl
 | x::r=>by rw [gpL,C0 f r];rfl
theorem Sy (f:Int→T):WC (Xp f) f:=fun t=>by
 cases t with
 | mk k n l=>
 by_cases h:k=2
 ·rw [if_pos (show (T.mk k n l).k=2 from h)];simp only [Xp,if_pos h,C0];rfl
 ·rw [if_neg (show ¬ (T.mk k n l).k=2 from h)];simp only [Xp,if_neg h];rfl
theorem HO (f:Int→T):∀ (N:Nat) (t:T),wt t≤N→t.shaped=true→ju f t=Xp f t
 | 0,t,h,_=>by have:=eF t;omega
 | N + 1,.mk k n l,h,hs=>by
   have hk:=(bD hs).2
   have h12:k=1∨k=2:=by
    rw [T.bP] at hs
    simp only [zB,abp,acx,acS,decide_eq_false_iff_not] at hs
    obtain ⟨⟨⟨_,h2⟩,_⟩,_⟩:=hs
    simp only [T.Wz] at h2
    omega
   simp only [ju,Xp]
   rcases h12 with rfl | rfl
   ·rw [if_pos rfl,if_neg (by decide)]
   ·rw [if_neg (by decide),if_pos rfl,fc,C0]
    congr 1
    exact acT fun x hx=>HO f N x (by have:=bM (a:=.mk 2 n l) hx;omega) (hk x hx)
theorem acb {O:Od} {a b:T} {l:List T} (ha:a.tree=true) (hb:b.tree=true) (h:R O a b):R O (sub l a) (sub l b):=by
 unfold sub
 rw [HO _ _ a (sU _) ((T.bg a).1 ha).2.2,HO _ _ b (sU _) ((T.bg b).1 hb).2.2]
 exact WD (Sy _) h
theorem OJ {s:Sg} {l:List T} (hl:∀ x∈l,iP s x=true) (hd:iP s default=true):∀ (N:Nat) (t:T),wt t≤N→iP s t=true→iP s (sub l t)=true
 | 0,t,h,_=>by have:=eF t;omega
 | N + 1,t,h,ht=>by
   rw [sub_eq]
   by_cases hk:t.k=1
   ·rw [if_pos hk]
    by_cases hi:t.n.toNat < l.length
    ·exact hl _ (ri hi)
    ·rw [sT,acB (by omega)];exact hd
   ·rw [if_neg hk]
    have agb:∀ y∈t.l,iP s (sub l y)=true:=fun y hy=>OJ hl hd N y (by have:=bM hy;omega) (yD ht hy)
    cases t with
    | mk k n m=>
    have e:kP l m=m.map (sub l):=fc _ m
    simp only [iP,T.Wy,T.Wz,T.aau,zB] at *
    refine ⟨by simp only [e,ac1];exact ht.1,?_⟩
    rw [lD,abp,ac7,e]
    intro y hy
    obtain ⟨z,hz,rfl⟩:=aaR.1 hy
    rw [agb z hz];simp
end Go.aK
end
section
set_option maxRecDepth 100000
namespace Go.aK
open Go Go.Proofs Go.fo
theorem C1 (l:List (List Int)):(sW l).length=l.length:=by simp [sW]
theorem Je (e o:Nat) (l:List (List Int)) (k:IntKind) (i:Nat) (φ:AV→Prop):aA e (.ak o (sW l)) (.int k (i:Int)) φ=(i < l.length∧φ (.ah (.ak 0 (ints (l.getD i default))))):=by
 simp only [aA,C1,aad,eq_iff_iff]
 constructor
 ·rintro ⟨_,h,h2⟩;refine ⟨h,?_⟩;simpa [sW,h] using h2
 ·rintro ⟨h,h2⟩;refine ⟨by omega,h,?_⟩;simpa [sW,h] using h2
theorem FA (o:Nat) (l:List (List Int)):(∀ (own:Nat) (xs:List AV),AV.ak o (sW l)=AV.ak own xs→∀ z∈xs,z.cells.length=1)=True:=by
 simp only [eq_iff_iff,iff_true]
 intro own xs e z hz
 cases e
 obtain ⟨y,_,rfl⟩:=aaR.1 hz
 rfl
end Go.aK
end
section
set_option maxRecDepth 100000
set_option maxHeartbeats 0
namespace Go.aK
open Go Go.Proofs
end Go.aK
end
section
set_option maxRecDepth 100000
set_option maxHeartbeats 4000000
namespace Go.aK
open Go Go.Proofs Go.fo
theorem OK {t:T} {l:List T} (h:(fj t l).2=0):(fj t l).1=sub l t∧(sub l t).tree=true:=by
 unfold fj at *
 split at h
 ·rename_i h1
  split at h
  ·rename_i h2
   split at h
   ·rename_i h3
    rw [if_pos h1,if_pos h2,if_pos h3];exact ⟨rfl,h3⟩
   ·cases h
  ·cases h
 ·cases h
theorem Sz {t u:T} {p:List Int} (h:(qV t p u).2=0):(qV t p u).1=jS t p u∧(jS t p u).tree=true∧(oB t p).isSome=true:=by
 unfold qV lU at *
 split at h
 ·rename_i h1
  split at h
  ·rename_i h2
   split at h
   ·rename_i h3
    rw [if_pos h1,if_pos h2,if_pos h3];exact ⟨rfl,h3,h2⟩
   ·cases h
  ·cases h
 ·cases h
end Go.aK
end
section
set_option maxRecDepth 100000
namespace Go.aK
open Go Go.Proofs Go.fo
mutual
def qe (s:Sg) (vs:List Int):T→Option Int
 | .mk k n l=>if k=1 then (if (vs.length:Int)≤n then none else some (vs.getD n.toNat 0)) else if (s.ops.length:Int)≤n∨¬ (l.length:Int)=((s.ops.getD n.toNat default).args.length:Nat) then none else if KW s vs l (s.ops.getD n.toNat default).args=true then some (s.ops.getD n.toNat default).AS else none
def KW (s:Sg) (vs:List Int):List T→List Int→Bool
 | [],_=>true
 | x::r,a=>decide (qe s vs x=some (a.getD 0 0)) && KW s vs r (a.drop 1)
end
theorem FB {s:Sg} {vs:List Int} {l:List T} {a:List Int} {i:Nat} (h:i < l.length):KW s vs (l.drop i) (a.drop i)=(decide (qe s vs (l.getD i default)=some (a.getD i 0)) && KW s vs (l.drop (i + 1)) (a.drop (i + 1))):=by
 rw [aba h,KW]
 have e:l.getD i default=l[i]:=by rw [sT,aaf h];rfl
 have e2:(a.drop i).getD 0 0=a.getD i 0:=by simp
 rw [e,e2,agB]
def SA (o:Option Int):AV:=.tuple [.int .i64 (o.getD 0),.bool o.isSome]
theorem acd (s:Sg) (vs:List Int):∀ t:T,t.shaped=true→Pure Tryz.prog 218 [s.av,.ak 0 (ints vs),t.av] (SA (qe s vs t)):=by
 suffices h:∀ N t,wt t≤N→t.shaped=true→Pure Tryz.prog 218 [s.av,.ak 0 (ints vs),t.av] (SA (qe s vs t)) from fun t ht=>h _ t (sU _) ht
 intro N
 induction N with
 | zero=>intro t h;have:=eF t;omega
 | succ N ih=>
 intro t hN hs H
 have hk:=bD hs
 have ih:∀ x∈t.l,Pure Tryz.prog 218 [s.av,.ak 0 (ints vs),x.av] (SA (qe s vs x)):=fun x hx=>ih x (by have:=bM hx;omega) (hk.2 x hx)
 have hn:0≤t.n:=by
  rw [T.bP] at hs
  simp only [zB,abp,acx,decide_eq_false_iff_not] at hs
  have:=hs.1.1.1.1
  omega
 obtain ⟨m,hm⟩:=acW hn
 have em:t.n.toNat=m:=by omega
 refine Ry.2.calls rfl ?_
 simp only [Ry,aH]
 have e:qe s vs t=if t.k=1 then (if (vs.length:Int)≤t.n then none else some (vs.getD t.n.toNat 0)) else if (s.ops.length:Int)≤t.n∨¬ (t.l.length:Int)=((s.ops.getD t.n.toNat default).args.length:Nat) then none else if KW s vs t.l (s.ops.getD t.n.toNat default).args=true then some (s.ops.getD t.n.toNat default).AS else none:=by cases t;rfl
 have fin (o:Option Int) (x:List aa) (h:qe s vs t=o):bT H.length [.t 6,.t 7] [(6,.int .i64 (o.getD 0)),(7,.bool o.isSome)] (H++x) fun r H'=>r=SA (qe s vs t)∧H'=H:=by
  rw [h];exact u0 (e:=x) (by decide) rfl rfl rfl rfl
 have fin0 (o:Option Int) (h:qe s vs t=o):bT H.length [.t 6,.t 7] [(6,.int .i64 (o.getD 0)),(7,.bool o.isSome)] H fun r H'=>r=SA (qe s vs t)∧H'=H:=by
  have:=fin o [] h
  rwa [acA] at this
 by_cases k1:t.k=1
 ·rw [if_pos k1] at e
  by_cases k2:(vs.length:Int)≤t.n
  ·rw [if_pos k2] at e
   have k2':((vs.length:Int)≤(m:Int))=True:=eq_true (by omega)
   simp +contextual only [aC,k1,hm,k2',au,sZ,Nat.reduceEqDiff,Nat.reduceAdd,↓reduceIte,reduceCtorEq]
   exact fun _=>fin0 none e
  ·rw [if_neg k2,em] at e
   have k2':((vs.length:Int)≤(m:Int))=False:=eq_false (by omega)
   have k3:m < vs.length:=by omega
   simp +contextual only [aC,k1,hm,k2',k3,au,sZ,Nat.reduceEqDiff,Nat.reduceAdd,↓reduceIte,reduceCtorEq]
   exact fun _=>fin0 (some _) e
 rw [if_neg k1,em] at e
 by_cases k2:(s.ops.length:Int)≤t.n
 ·rw [if_pos (.inl k2)] at e
  have k2':((s.ops.length:Int)≤(m:Int))=True:=eq_true (by omega)
  simp +contextual only [aC,k1,hm,k2',decide_true,sZ,Nat.reduceEqDiff,Nat.reduceAdd,↓reduceIte,reduceCtorEq]
  exact fin0 none e
 have k2':((s.ops.length:Int)≤(m:Int))=False:=eq_false (by omega)
 have k3:m < s.ops.length:=by omega
 by_cases k4:(t.l.length:Int)=((s.ops.getD m default).args.length:Nat)
 rotate_left
 ·rw [if_pos (.inr k4)] at e
  simp +contextual only [aC,k1,hm,k2',k3,k4,au,decide_false,sZ,Nat.reduceEqDiff,Nat.reduceAdd,↓reduceIte,reduceCtorEq]
  exact fin0 none e
 rw [if_neg (by omega)] at e
 have k4':((t.l.length:Int)=((s.ops.getD m default).args.length:Nat))=True:=eq_true k4
 generalize ha:(s.ops.getD m default).args=as_ at *
 simp +contextual only [aC,k1,hm,k2',k3,k4',ha,au,decide_false,sZ,Nat.reduceEqDiff,Nat.reduceAdd,↓reduceIte,reduceCtorEq]
 intro _
 refine aB t.l.length (fun i=>KW s vs (t.l.drop i) (as_.drop i)=KW s vs t.l as_) (fun i=>[(1,.ak 0 (ints vs)),(3,.ah s.av),(5,.ah t.av),(46,.ak 0 (bk t.l)),(47,.int .i64 t.l.length),(48,.int .i64 i)]) (fun _=>H) ⟨rfl,ax _ _ _⟩ fun i hi hI=>?_
 by_cases hl:i < t.l.length
 ·have f1:((i:Int) < t.l.length)=True:=eq_true (by omega)
  have lY:i < as_.length:=by omega
  have dr (G:List aa) (h:decide (qe s vs (t.l.getD i default)=some (as_.getD i 0))=false):qe s vs t=none:=by
   rw [FB hl,h,agA] at hI
   rw [e,← hI];rfl
  simp +contextual only [aC,f1,hl,sZ,Nat.reduceEqDiff,Nat.reduceAdd,↓reduceIte]
  refine ae (ih _ (ri hl)) ?_
  cases ho:qe s vs (t.l.getD i default) with
  | none=>
    simp +contextual only [SA,agE,Option.getD_none,sZ,Nat.reduceEqDiff,Nat.reduceAdd,Nat.reduceLT,↓reduceIte,reduceCtorEq]
    exact fin none _ (dr H (by rw [ho];rfl))
  | some z=>
    by_cases hz:z=as_.getD i 0
    ·have FP:(z=as_.getD i 0)=True:=eq_true hz
     simp +contextual only [aC,SA,agG,Option.getD_some,hm,k3,ha,lY,FP,not_true_eq_false,sZ,Nat.reduceEqDiff,Nat.reduceAdd,Nat.reduceLT,↓reduceIte]
     refine ⟨i + 1,⟨hl,?_⟩,by omega,fK (by rw [aq i (by omega)]) (sU _) (by simp [jP,AV.aW,dy,aT,Sg.bW,T.bW]) _ rfl⟩
     rw [FB hl,ho,hz,decide_eq_true rfl,ad9] at hI
     exact hI
    ·have FP:(z=as_.getD i 0)=False:=eq_false hz
     simp +contextual only [aC,SA,agG,Option.getD_some,hm,k3,ha,lY,FP,not_false_eq_true,sZ,Nat.reduceEqDiff,Nat.reduceAdd,Nat.reduceLT,↓reduceIte,reduceCtorEq]
     exact fin none _ (dr H (by rw [ho];exact decide_eq_false fun h=>hz (Option.some.inj h)))
 ·have f1:((i:Int) < t.l.length)=False:=eq_false (by omega)
  rw [aa9 (by omega)] at hI
  have hI':KW s vs t.l as_=true:=hI.symm.trans rfl
  rw [if_pos hI'] at e
  simp +contextual only [aC,f1,hm,k3,sZ,Nat.reduceEqDiff,↓reduceIte,reduceCtorEq]
  exact fin0 (some _) e
end Go.aK
end
section
set_option maxRecDepth 100000
set_option maxHeartbeats 1000000
namespace Go.aK
open Go Go.Proofs Go.fo
theorem Ud (e:iW) (φ:AV→Prop):al 0 none (.ah e.av) φ=φ (.ah (.ak 0 (ints e.vs))):=by simp [al,apart,iW.av,AV.cells,AV.one]
def HP (s:Sg) (x:Int):Bool:=decide (x < 0) || decide ((s.a9.length:Int)≤x)
theorem agc (s:Sg) (x:Int):Pure Tryz.prog 216 ([.int .i64 x]++[.ah s.av]) (.bool (HP s x)):=by
 refine fun H=>Rw.2.calls rfl ?_
 simp only [Rw,aH]
 by_cases h:x < 0
 ·have f1:(x < 0)=True:=eq_true h
  simp +contextual only [f1,decide_true,sZ,Nat.reduceEqDiff,Nat.reduceAdd,↓reduceIte,reduceCtorEq]
  exact aS rfl (by simp [HP,h])
 ·have f1:(x < 0)=False:=eq_false h
  simp +contextual only [aC,f1,decide_false,sZ,Nat.reduceEqDiff,Nat.reduceAdd,↓reduceIte,reduceCtorEq]
  exact fun _=>aS rfl (by simp [HP,h])
def gJ (s:Sg) (vs:List Int) (a b:T):Bool:=a.tree && (b.tree && ((qe s vs a).isSome && ((qe s vs b).isSome && decide ((qe s vs a).getD 0=(qe s vs b).getD 0))))
theorem ace (s:Sg) (e:iW) (a b:T):Pure Tryz.prog 217 [a.av,b.av,.ah s.av,.ah e.av] (.bool (gJ s e.vs a b)):=by
 refine fun H=>Rx.2.calls rfl ?_
 simp only [Rx,aH]
 obtain ⟨g1,g2,g3,g4,g5,g6⟩:=e.facts
 simp +contextual only [sZ,Nat.reduceEqDiff,Nat.reduceAdd,↓reduceIte,reduceCtorEq]
 refine ae (WZ a) ?_
 cases ha:a.tree with
 | false=>simp +contextual only [acv,sZ,Nat.reduceEqDiff,↓reduceIte,reduceCtorEq,Int.reduceEq];exact aS rfl (by rw [gJ,ha];rfl)
 | true=>
 simp +contextual only [sZ,Nat.reduceEqDiff,Nat.reduceAdd,↓reduceIte]
 refine ae (WZ b) ?_
 cases hb:b.tree with
 | false=>simp +contextual only [acv,sZ,Nat.reduceEqDiff,↓reduceIte,reduceCtorEq,Int.reduceEq];exact aS rfl (by rw [gJ,ha,hb];rfl)
 | true=>
 have e1:=acd s e.vs a ((T.bg a).1 ha).2.2
 have e2:=acd s e.vs b ((T.bg b).1 hb).2.2
 unfold SA at e1 e2
 have hp:gJ s e.vs a b=((qe s e.vs a).isSome && ((qe s e.vs b).isSome && decide ((qe s e.vs a).getD 0=(qe s e.vs b).getD 0))):=by rw [gJ,ha,hb];rfl
 rw [hp]
 generalize qe s e.vs a=x at *
 generalize qe s e.vs b=y at *
 simp +contextual only [aC,Ud,sZ,Nat.reduceEqDiff,Nat.reduceAdd,↓reduceIte]
 refine ae e1 ?_
 simp +contextual only [aC,Ud,sZ,Nat.reduceEqDiff,Nat.reduceAdd,Nat.reduceLT,↓reduceIte]
 refine ae e2 ?_
 cases h1:x.isSome <;> cases h2:y.isSome
 all_goals
  simp +contextual only [sZ,Nat.reduceEqDiff,Nat.reduceAdd,Nat.reduceLT,↓reduceIte,reduceCtorEq]
  exact aS rfl rfl
theorem OL (n:Int):∀ (vs:List Int) (i:Nat),(∃ j,vs[j]?=some n∧dt 0 (.int .i64 n) (ents vs) i=some (some (i + j,.bool true)))∨(n∉vs∧dt 0 (.int .i64 n) (ents vs) i=some none)
 | [],i=>.inr ⟨(fun h=>by cases h),rfl⟩
 | a::r,i=>by
   have ih:=OL n r (i + 1)
   simp only [ents,List.map_cons,dt,cL,if_true]
   by_cases h:n=a
   ·subst h
    exact .inl ⟨0,rfl,by simp⟩
   ·simp only [decide_eq_false h]
    rcases ih with ⟨j,h1,h2⟩ | ⟨h1,h2⟩
    ·exact .inl ⟨j + 1,h1,by rw [show i + (j + 1)=i + 1 + j by omega];exact h2⟩
    ·exact .inr ⟨fun hm=>(OU.1 hm).elim h h1,h2⟩
def KX (vs:List Int) (n:Int):List Int:=if n∈vs then vs else vs++[n]
theorem OM {vs:List Int} {n x:Int}:x∈KX vs n↔x∈vs∨x=n:=by
 unfold KX
 split
 ·rename_i h;exact ⟨.inl,fun h'=>h'.elim _root_.id fun e=>e ▸ h⟩
 ·simp
theorem SC (n:Int) (vs:List Int) (id:Nat) (H:List aa) (K:List aa→Prop):fx (some (.map (ents vs))) 0 id (.int .i64 n) (.bool true) H K=K (H.set id (.map (ents (KX vs n)))):=by
 have ec:aR (.bool true)=.bool true:=rfl
 rcases OL n vs 0 with ⟨j,h1,h2⟩ | ⟨h1,h2⟩
 ·have hm:n∈vs:=abJ h1
  have e:(ents vs).set j (.int .i64 n,.bool true)=ents vs:=by
   refine acG fun k=>?_
   rw [acM]
   split
   ·rename_i hk;subst hk
    split
    ·simp [ents,h1]
    ·rename_i hl
     rw [acB (by omega)]
   ·rfl
  unfold fx KX
  rw [if_pos hm]
  simp only [h2,ec,acC,e]
  simp [eE,sf,wc]
 ·rw [IB h1];unfold KX;rw [if_neg h1]
def rj (s:Sg) (e:iW):Bool:=
 decide ((e.vs.length:Int)≤64) && (decide ((e.cs.length:Int)≤8) && (decide (e.a.k=2) && (!(e.vs.any (HP s)) && (gJ s e.vs e.a e.b && ((e.cs.all fun c=>gJ s e.vs c.a c.b) && ((e.b::qy e.cs).all fun t=>(kO [t]).all fun v=>decide (v∈kO [e.a])))))))
theorem age (s:Sg) (e:iW):Pure Tryz.prog 181 [s.av,e.av] (.bool (rj s e)):=by
 refine fun H=>Rk.2.calls rfl ?_
 simp only [Rk,aH]
 obtain ⟨g1,g2,g3,g4,g5,g6⟩:=e.facts
 have bad (G:List aa) (hG:G.take H.length=H) (h:rj s e=false):bT H.length [.t 4] [(4,.bool false)] G fun r H'=>r=.bool (rj s e)∧H'=H:=by
  rw [h];exact aP H.length (sU _) (by rw [ay,if_pos rfl];rfl) ⟨by rw [ay,if_pos rfl],hG⟩
 by_cases f1:(e.vs.length:Int)≤64
 rotate_left
 ·have f1':(64 < (e.vs.length:Int))=True:=eq_true (by omega)
  simp +contextual only [aC,g1,Ud,au,f1',decide_true,sZ,Nat.reduceEqDiff,Nat.reduceAdd,↓reduceIte,reduceCtorEq]
  exact fun _=>bad _ (by simp) (by unfold rj;rw [decide_eq_false f1];rfl)
 have f1':(64 < (e.vs.length:Int))=False:=eq_false (by omega)
 by_cases f2:(e.cs.length:Int)≤8
 rotate_left
 ·have f2':(8 < (e.cs.length:Int))=True:=eq_true (by omega)
  simp +contextual only [aC,g1,Ud,TT,au,iH,f1',f2',decide_true,decide_false,sZ,Nat.reduceEqDiff,Nat.reduceAdd,↓reduceIte,reduceCtorEq]
  exact fun _ _=>bad _ (by simp) (by unfold rj;rw [decide_eq_true f1,decide_eq_false f2];rfl)
 have f2':(8 < (e.cs.length:Int))=False:=eq_false (by omega)
 by_cases f3:e.a.k=2
 rotate_left
 ·simp +contextual only [aC,g1,Ud,TT,Sc,au,iH,f1',f2',f3,decide_true,decide_false,not_false_eq_true,sZ,Nat.reduceEqDiff,Nat.reduceAdd,↓reduceIte,reduceCtorEq]
  exact fun _ _=>bad _ (by simp) (by unfold rj;rw [decide_eq_true f1,decide_eq_true f2,decide_eq_false f3];rfl)
 have e0:rj s e=(!(e.vs.any (HP s)) && (gJ s e.vs e.a e.b && ((e.cs.all fun c=>gJ s e.vs c.a c.b) && ((e.b::qy e.cs).all fun t=>(kO [t]).all fun v=>decide (v∈kO [e.a]))))):=by
  unfold rj;rw [decide_eq_true f1,decide_eq_true f2,decide_eq_true f3];rfl
 simp +contextual only [aC,g1,Ud,TT,Sc,au,iH,f1',f2',f3,decide_false,not_true_eq_false,sZ,Nat.reduceEqDiff,Nat.reduceAdd,↓reduceIte,reduceCtorEq]
 refine fun _ _=>ae (aa0 216 [.ah s.av] rfl (by simp [aj,AV.aW,Sg.bW]) (HP s) e.vs fun x _=>agc s x) ?_
 cases f4:e.vs.any (HP s) with
 | true=>
   simp +contextual only [sZ,Nat.reduceEqDiff,↓reduceIte,reduceCtorEq]
   exact bad _ (by simp) (by rw [e0,f4];rfl)
 | false=>
 rw [f4,Bool.not_false,ad9] at e0
 simp +contextual only [Sc,W1,sZ,Nat.reduceEqDiff,Nat.reduceAdd,↓reduceIte,reduceCtorEq]
 refine ae (ace s e e.a e.b) ?_
 cases f5:gJ s e.vs e.a e.b with
 | false=>
   simp +contextual only [sZ,Nat.reduceEqDiff,↓reduceIte,reduceCtorEq]
   exact bad _ (by simp) (by rw [e0,f5];rfl)
 | true=>
 rw [f5,ad9] at e0
 have ta:e.a.tree=true:=by
  unfold gJ at f5
  simp only [zB] at f5
  exact f5.1
 have tb:e.b.tree=true:=by
  unfold gJ at f5
  simp only [zB] at f5
  exact f5.2.1
 have small (t:T) (h:t.tree=true):jR [t]≤1000000:=by
  have:=((T.bg t).1 h).1
  simp only [jR];omega
 simp +contextual only [Sc,sZ,Nat.reduceEqDiff,Nat.reduceAdd,↓reduceIte]
 refine ae (aah [e.a] (small _ ta)) ?_
 simp +contextual only [au,sZ,Nat.reduceEqDiff,↓reduceIte]
 intro rq
 generalize hva:kO [e.a]=va at *
 refine aD va.length (fun i (w:List Int)=>∀ x,x∈w↔x∈va.take i) (fun i w=>[(3,.ah e.av),(5,.map H.length),(6,.fn (.func 217) [] [.ah s.av,.ah e.av]),(48,.ak 0 (ints va)),(49,.int .i64 va.length),(50,.int .i64 i)]) (fun i w=>H++[.map (ents w)]) [] ⟨by simp,ax _ _ _⟩ fun i w hi hw=>?_
 by_cases hl:i < va.length
 ·have f6:((i:Int) < va.length)=True:=eq_true (by omega)
  simp +contextual only [f6,hl,SC,sZ,Nat.reduceEqDiff,↓reduceIte]
  refine ⟨i + 1,KX w (va.getD i 0),⟨hl,fun x=>?_⟩,by omega,aE (by rw [aq i (by omega)]) (by simp)⟩
  rw [OM,hw,ade,ab7,sT,aaf hl]
  simp
 have f6:((i:Int) < va.length)=False:=eq_false (by omega)
 rw [Ue (by omega)] at hw
 have e1:rj s e=((e.cs.all fun c=>gJ s e.vs c.a c.b) && ((e.b::qy e.cs).all fun t=>(kO [t]).all fun v=>decide (v∈w))):=by
  rw [e0];simp only [hw]
 clear e0
 simp +contextual only [TT,W1,iH,f6,sZ,Nat.reduceEqDiff,↓reduceIte]
 refine fun _=>aB e.cs.length (fun i=>∀ j,j < i→gJ s e.vs (e.cs.getD j default).a (e.cs.getD j default).b=true) (fun i=>[(5,.map H.length),(6,.fn (.func 217) [] [.ah s.av,.ah e.av]),(9,.ak 3 (bk (e.b::qy (e.cs.take i)))),(61,.ak 0 (sL e.cs)),(62,.int .i64 e.cs.length),(63,.int .i64 i)]) (fun _=>H++[.map (ents w)]) ⟨fun j h=>by omega,ax _ _ _⟩ fun i hi hI=>?_
 by_cases hl:i < e.cs.length
 ·have f7:((i:Int) < e.cs.length)=True:=eq_true (by omega)
  obtain ⟨c1,c2,c3,c4,c5,c6⟩:=(e.cs.getD i default).facts
  simp +contextual only [c1,c2,c3,fcA,fcB,Hz,CF,NU,f7,hl,sZ,Nat.reduceEqDiff,Nat.reduceAdd,↓reduceIte,reduceCtorEq]
  refine ae (ace s e _ _) ?_
  cases f8:gJ s e.vs (e.cs.getD i default).a (e.cs.getD i default).b with
  | false=>
    simp +contextual only [sZ,Nat.reduceEqDiff,↓reduceIte,reduceCtorEq]
    refine bad _ (by simp) ?_
    have:(e.cs.all fun c=>gJ s e.vs c.a c.b)=false:=aeq.2 ⟨_,ri hl,by rw [f8];simp⟩
    rw [e1,this];rfl
  | true=>
    simp +contextual only [fcA,fcB,kM,sZ,Nat.reduceEqDiff,Nat.reduceAdd,↓reduceIte]
    exact ⟨by rw [sM,acJ];omega,of_eq_true (Ch [_,_]),i + 1,⟨hl,gI hI f8⟩,by omega,aE (by rw [aq i (by omega),E4 hl,← List.cons_append,CG];rfl) rfl⟩
 have f7:((i:Int) < e.cs.length)=False:=eq_false (by omega)
 rw [Ue (by omega)]
 have jn:(e.cs.all fun c=>gJ s e.vs c.a c.b)=true:=abo.2 (pn fun j hj=>hI j (by omega))
 rw [jn,ad9] at e1
 have htr:∀ t∈e.b::qy e.cs,t.tree=true:=fun t ht=>by
  rcases OU.1 ht with rfl | ht
  ·exact tb
  ·obtain ⟨c,hc,ht⟩:=adJ.1 ht
   have hp:=abo.1 jn c hc
   unfold gJ at hp
   simp only [zB] at hp
   rcases OU.1 ht with rfl | ht
   ·exact hp.1
   ·rw [aa4.1 ht];exact hp.2.1
 have hlen:(e.b::qy e.cs).length≤100:=by rw [List.length_cons,sM];omega
 generalize e.b::qy e.cs=ts at *
 simp +contextual only [f7,sZ,Nat.reduceEqDiff,↓reduceIte]
 refine fun _=>aB ts.length (fun i=>∀ j,j < i→((kO [ts.getD j default]).all fun v=>decide (v∈w))=true) (fun i=>[(5,.map H.length),(82,.ak 0 (bk ts)),(83,.int .i64 ts.length),(84,.int .i64 i)]) (fun _=>H++[.map (ents w)]) ⟨fun j h=>by omega,ax _ _ _⟩ fun i hi hI=>?_
 by_cases hl:i < ts.length
 rotate_left
 ·have f8:((i:Int) < ts.length)=False:=eq_false (by omega)
  simp +contextual only [f8,sZ,Nat.reduceEqDiff,↓reduceIte,reduceCtorEq]
  have:(ts.all fun t=>(kO [t]).all fun v=>decide (v∈w))=true:=abo.2 (pn fun j hj=>hI j (by omega))
  refine aP H.length (sU _) (by rw [ay,if_pos rfl];rfl) ⟨by rw [ay,if_pos rfl,e1,this],by simp⟩
 have f8:((i:Int) < ts.length)=True:=eq_true (by omega)
 have hv:=aah [ts.getD i default] (small _ (htr _ (ri hl)))
 simp +contextual only [f8,hl,sZ,Nat.reduceEqDiff,Nat.reduceAdd,↓reduceIte]
 refine ae hv ?_
 have bad2 (h:((kO [ts.getD i default]).all fun v=>decide (v∈w))=false):rj s e=false:=by
  rw [e1];exact aeq.2 ⟨_,ri hl,by rw [h];simp⟩
 have good2 (h:((kO [ts.getD i default]).all fun v=>decide (v∈w))=true):=gI hI h
 generalize kO [ts.getD i default]=vt at *
 simp +contextual only [au,sZ,Nat.reduceEqDiff,↓reduceIte]
 refine fun _=>aB vt.length (fun m=>∀ j,j < m→vt.getD j 0∈w) (fun m=>[(5,.map H.length),(82,.ak 0 (bk ts)),(83,.int .i64 ts.length),(84,.int .i64 i),(90,.ak 0 (ints vt)),(91,.int .i64 vt.length),(92,.int .i64 m)]) (fun _=>H++[.map (ents w)]) ⟨fun j h=>by omega,ax _ _ _⟩ fun m hm hM=>?_
 by_cases Hh:m < vt.length
 ·have f9:((m:Int) < vt.length)=True:=eq_true (by omega)
  by_cases FJ:vt.getD m 0∈w
  ·simp +contextual only [f9,Hh,Ce,FJ,decide_true,sZ,Nat.reduceEqDiff,↓reduceIte]
   exact ⟨m + 1,⟨Hh,gI hM FJ⟩,by omega,aE (by rw [aq m (by omega)]) rfl⟩
  ·simp +contextual only [f9,Hh,Ce,FJ,decide_false,sZ,Nat.reduceEqDiff,↓reduceIte,reduceCtorEq]
   exact bad _ (by simp) (bad2 (aeq.2 ⟨_,aQ Hh,by simpa using FJ⟩))
 ·have f9:((m:Int) < vt.length)=False:=eq_false (by omega)
  have hal:(vt.all fun v=>decide (v∈w))=true:=abo.2 fun v hv=>by
   obtain ⟨j,hj,rfl⟩:=acZ hv
   have:=hM j (by omega)
   rw [sT,aaf hj] at this
   exact decide_eq_true this
  simp +contextual only [f9,sZ,Nat.reduceEqDiff,↓reduceIte]
  exact ⟨i + 1,⟨hl,good2 hal⟩,by omega,aE (by rw [aq i (by omega)]) rfl⟩
end Go.aK
end
section
set_option maxRecDepth 100000
set_option maxHeartbeats 1000000
namespace Go.aK
open Go Go.Proofs Go.fo
theorem agf (t:Ty) (e:iW):Pure Tryz.prog 180 ([e.av]++[.ah t.av]) (.bool (!rj t.s e)):=by
 refine fun H=>Rj.2.calls rfl ?_
 simp only [Rj,aH]
 obtain ⟨e1,e2,e3,e4,e5,e6⟩:=Ty.facts t
 obtain ⟨g1,g2,g3,g4,g5,g6⟩:=e.facts
 simp +contextual only [aC,g1,g4,FR,vu,sZ,Nat.reduceEqDiff,Nat.reduceAdd,↓reduceIte,reduceCtorEq]
 refine ae (age t.s e) ?_
 simp +contextual only [sZ,↓reduceIte,reduceCtorEq]
 exact aS rfl rfl
theorem acf (g:Nat) (cap:List AV) (cc:cap.map AV.ab=cap) (p:iW→Bool) (l:List iW) (hf:∀ x∈l,Pure Tryz.prog g ([x.av]++cap) (.bool (p x))):Pure Tryz.prog 161 [.ak 0 (nS l),.fn (.func g) [] cap] (.int .i64 (oz p l 0)):=by
 refine fun H=>Kr.2.calls rfl ?_
 simp only [Kr,aH]
 simp +contextual only [fO,sZ,Nat.reduceEqDiff,Nat.reduceAdd,↓reduceIte,reduceCtorEq]
 intro hl
 refine aB l.length (fun i=>oz p (l.drop i) i=oz p l 0) (fun i=>[(0,.ak 0 (nS l)),(1,.fn (.func g) [] cap),(7,.int .i64 l.length),(8,.int .i64 i)]) (fun _=>H) ⟨rfl,ax _ _ _⟩ fun i hi hI=>?_
 obtain ⟨e1,e2,e3,e4,e5,e6⟩:=iW.facts (l.getD i default)
 simp +contextual only [cc,nT,idx_eq,vu,e4,sZ,Nat.reduceEqDiff,Nat.reduceAdd,↓reduceIte,reduceCtorEq]
 refine ⟨fun aG=>?_,fun eW=>?_⟩
 ·have aG:=aY aG
  rw [ul aG] at hI
  refine ⟨aG,ae (hf _ (ri aG)) ?_⟩
  cases hb:p (l.getD i default) with
  | true=>
    rw [if_pos hb] at hI
    simp +contextual only [sZ,Nat.reduceEqDiff,↓reduceIte,reduceCtorEq]
    exact aS rfl (by rw [← hI])
  | false=>
    rw [if_neg (by rw [hb];simp)] at hI
    simp +contextual only [sZ,Nat.reduceEqDiff,↓reduceIte,reduceCtorEq]
    exact ⟨i + 1,⟨aG,hI⟩,by omega,aE (by rw [aq i (by omega)]) rfl⟩
 ·rw [aa9 (bN eW)] at hI
  exact aS rfl (by rw [← hI];rfl)
theorem agh (g:Nat) (cap:List AV) (cc:cap.map AV.ab=cap) (p:iW→Bool) (l:List iW) (hf:∀ x∈l,Pure Tryz.prog g ([x.av]++cap) (.bool (p x))):Pure Tryz.prog 179 [.ak 0 (nS l),.fn (.func g) [] cap] (.bool (l.any p)):=by
 refine fun H=>Ri.2.calls rfl ?_
 simp only [Ri,aH]
 simp +contextual only [sZ,Nat.reduceEqDiff,Nat.reduceAdd,↓reduceIte,reduceCtorEq]
 refine ae (acf g cap cc p l hf) ?_
 simp +contextual only [sZ,↓reduceIte,reduceCtorEq]
 refine aS rfl ?_
 congr 1
 rw [ac6,agq]
 simpa using wD l 0
def SE (t:Ty):Bool:=mG t.s && (decide ((t.es.length:Int)≤400) && t.es.all (rj t.s))
theorem agi (t:Ty):Pure Tryz.prog 126 [t.av] (.bool (SE t)):=by
 refine fun H=>Ra.2.calls rfl ?_
 simp only [Ra,aH]
 obtain ⟨e1,e2,e3,e4,e5,e6⟩:=Ty.facts t
 simp +contextual only [aC,e1,FR,sZ,Nat.reduceEqDiff,Nat.reduceAdd,↓reduceIte]
 refine ae (c81 t.s) ?_
 cases h:mG t.s with
 | false=>
   rw [if_neg (by simp)]
   simp +contextual only [sZ,Nat.reduceEqDiff,↓reduceIte,reduceCtorEq,Int.reduceEq]
   exact aS rfl (by rw [SE,h];rfl)
 | true=>
 rw [if_pos rfl]
 by_cases h2:(t.es.length:Int)≤400
 ·have f:(400 < (t.es.length:Int))=False:=eq_false (by omega)
  simp +contextual only [Ph,fO,f,decide_false,sZ,Nat.reduceEqDiff,Nat.reduceAdd,↓reduceIte]
  refine fun _=>ae (agh 180 [.ah t.av] rfl _ t.es fun x _=>agf t x) ?_
  simp +contextual only [sZ,↓reduceIte,reduceCtorEq]
  refine aS rfl ?_
  rw [SE,h,decide_eq_true h2]
  congr 1
  rw [ac6]
  simp
 ·have f:(400 < (t.es.length:Int))=True:=eq_true (by omega)
  simp +contextual only [Ph,fO,f,decide_true,sZ,Nat.reduceEqDiff,↓reduceIte,reduceCtorEq]
  exact fun _=>aS rfl (by rw [SE,h,decide_eq_false h2];rfl)
def FC (t:Ty):Int:=if SE t=true then 0 else 5
theorem c62 (t:Ty):Pure Tryz.prog 62 [t.av] (.int .i64 (FC t)):=by
 refine fun H=>k62.2.calls rfl ?_
 simp only [k62,aH]
 obtain ⟨e1,e2,e3,e4,e5,e6⟩:=Ty.facts t
 simp +contextual only [e1,e4,iI,sZ,Nat.reduceEqDiff,Nat.reduceAdd,↓reduceIte]
 refine ae (agi t) ?_
 cases h:SE t with
 | true=>simp +contextual only [sZ,↓reduceIte,reduceCtorEq];exact aS rfl (by rw [FC,h];rfl)
 | false=>simp +contextual only [sZ,↓reduceIte,reduceCtorEq];exact aS rfl (by rw [FC,h];rfl)
theorem C2 {s:Sg} {vs:List Int}:∀ (N:Nat) (t:T),wt t≤N→t.shaped=true→(qe s vs t).isSome=true→wx (fun n=>0≤n∧n < s.ops.length) t
 | 0,t,h,_,_=>by have:=eF t;omega
 | N + 1,.mk k n l,h,hs,ho=>by
   have hk:=(bD hs).2
   have hn:0≤n:=by
    rw [T.bP] at hs
    simp only [zB,abp,acx,decide_eq_false_iff_not] at hs
    exact Int.not_lt.1 hs.1.1.1.1
   simp only [qe] at ho
   by_cases AB:k=1
   ·subst AB
    have yQ:l=[]:=by
     rw [T.bP] at hs
     simp only [zB,abp,acx,acS,decide_eq_false_iff_not] at hs
     rcases hs.1.1.1.2 with h | h
     ·exact absurd rfl h
     ·exact acy.1 (Nat.eq_zero_of_not_pos h)
    subst yQ
    exact .mk _ _ _ (fun h=>absurd h (by decide)) (fun x hx=>by cases hx)
   ·rw [if_neg AB] at ho
    split at ho
    ·cases ho
    ·rename_i h1
     split at ho
     ·rename_i h2
      have key:∀ (l:List T) (a:List Int),KW s vs l a=true→∀ x∈l,(qe s vs x).isSome=true:=by
       intro l
       induction l with
       | nil=>intro a _ x hx;cases hx
       | cons y r FL=>
         intro a h x hx
         simp only [KW,zB,decide_eq_true_eq] at h
         rcases OU.1 hx with rfl | hx
         ·rw [h.1];rfl
         ·exact FL _ h.2 x hx
      exact .mk _ _ _ (fun _=>⟨hn,by omega⟩) (fun x hx=>C2 N x (by have:=bM (a:=.mk k n l) hx;omega) (hk x hx) (key l _ h2 x hx))
     ·cases ho
theorem acg {t:Ty} (h:FC t=0):zw t:=by
 unfold FC at h
 split at h
 ·rename_i hb
  unfold SE at hb
  simp only [zB,decide_eq_true_eq] at hb
  obtain ⟨h1,h2,h3⟩:=hb
  refine ⟨?_,fun e he ps oO=>?_⟩
  ·unfold mG at h1
   simp only [zB,decide_eq_true_eq] at h1
   omega
  ·have:=abo.1 h3 e he
   unfold rj at this
   simp only [zB,decide_eq_true_eq] at this
   obtain ⟨_,j2,_,_,j5,j6,_⟩:=this
   have two:∀ a b:T,gJ t.s e.vs a b=true→(a.tree=true∧wx (fun n=>0≤n∧n < ps.length) a)∧b.tree=true∧wx (fun n=>0≤n∧n < ps.length) b:=fun a b hp=>by
    unfold gJ at hp
    simp only [zB] at hp
    rw [oO]
    exact ⟨⟨hp.1,C2 _ a (sU _) ((T.bg a).1 hp.1).2.2 hp.2.2.1⟩,hp.2.1,C2 _ b (sU _) ((T.bg b).1 hp.2.1).2.2 hp.2.2.2.1⟩
   have all (x:T) (hx:x∈e.a::e.rest):x.tree=true∧wx (fun n=>0≤n∧n < ps.length) x:=by
    rcases OU.1 hx with rfl | hx
    ·exact (two _ _ j5).1
    ·rcases OU.1 hx with rfl | hx
     ·exact (two _ _ j5).2
     ·obtain ⟨c,hc,hx⟩:=adJ.1 hx
      have hp:=two _ _ (abo.1 j6 c hc)
      rcases OU.1 hx with rfl | hx
      ·exact hp.1
      ·rw [aa4.1 hx];exact hp.2
   exact ⟨by omega,fun x hx=>(all x hx).1,fun x hx=>(all x hx).2⟩
 ·cases h
end Go.aK
end
section
set_option maxRecDepth 100000
set_option maxHeartbeats 0
namespace Go.aK
open Go Go.Proofs
end Go.aK
end
section
set_option maxRecDepth 100000
set_option maxHeartbeats 1000000
namespace Go.aK
open Go Go.Proofs Go.fo
section
variable {e id i n cap:Nat}
end
end Go.aK
end
section
set_option maxRecDepth 100000
set_option maxHeartbeats 1000000
namespace Go.aK
open Go Go.Proofs Go.fo
theorem sS (b:Nat) (vs:List T) (n m:T) (o:Nat) (ψ:List AV→Prop):bp 3 b (nF vs) (.ak o [n.av,m.av]) ψ=((vs.length + 2) * b≤140737488355328∧ψ (bk (vs++[n,m]))):=by
 have jo:sV 3 [n.av,m.av]=True:=Ch [n,m]
 cases vs with
 | nil=>simp only [nF,ln,jo];simp [bk]
 | cons v r=>
   show bp 3 b (.ak 3 (bk (v::r))) _ ψ=_
   rw [kM,jo,pN,show bk (v::r)++[n.av,m.av]=bk ((v::r)++[n,m]) from (CG (v::r) [n,m]).symm]
   simp
theorem Jf (vs:List T) (n m:T):AV.ak 3 (bk (vs++[n,m]))=nF (vs++[n,m]):=by cases vs <;> rfl
theorem c30 (t:Ty) (H:List aa):aw Tryz.prog 30 [t.av] H fun r H'=>(∃ b,r=.bool b)∧H'=H:=by
 refine k30.2.calls rfl ?_
 simp only [k30,aH]
 obtain ⟨e1,e2,e3,e4,e5,e6⟩:=Ty.facts t
 have fin (G:List aa) (hG:G.take H.length=H) (b:Bool):bT H.length [.t 2] [(2,.bool b)] G fun r H'=>(∃ b,r=.bool b)∧H'=H:=
  aP H.length (sU _) (by rw [ay,if_pos rfl];rfl) ⟨⟨b,by rw [ay,if_pos rfl]⟩,hG⟩
 by_cases h1:(30:Int) < t.es.length
 ·have f:((30:Int) < t.es.length)=True:=eq_true h1
  simp +contextual only [e1,Ph,fO,f,sZ,Nat.reduceEqDiff,Nat.reduceAdd,↓reduceIte,reduceCtorEq]
  exact fun _=>fin _ (by simp) _
 have f:((30:Int) < t.es.length)=False:=eq_false h1
 simp +contextual only [e1,Ph,fO,f,sZ,Nat.reduceEqDiff,Nat.reduceAdd,↓reduceIte]
 refine fun _=>aD t.es.length (fun i (l:List T)=>l.length≤42 * i) (fun i l=>[(1,.ah t.av),(3,nF l),(13,.ak 0 (nS t.es)),(14,.int .i64 t.es.length),(15,.int .i64 i)]) (fun _ _=>H) [] ⟨by simp,ax _ _ _⟩ fun i l hi hI=>?_
 by_cases hl:i < t.es.length
 rotate_left
 ·have f1:((i:Int) < t.es.length)=False:=eq_false (by omega)
  simp +contextual only [aC,FR,f1,sZ,Nat.reduceEqDiff,Nat.reduceAdd,↓reduceIte]
  refine xB (c18 t.s [] [] H) (ys:=[t.s.av,eT [] []]) ⟨.inl rfl,.inr (.inr (.inr (.inr ⟨_,rfl,rfl⟩))),trivial⟩ ?_
  rintro r G ⟨⟨b,rfl,_⟩,rfl⟩
  cases b with
  | false=>simp +contextual only [sZ,Nat.reduceEqDiff,↓reduceIte,reduceCtorEq];exact fin _ (by simp) _
  | true=>
    have e7:(nF l).ab.ab.le (.ak 0 (bk l)):=by cases l with | nil=>exact .inr (.inr (.inr (.inl ⟨rfl,0,rfl⟩))) | cons x r=>exact .inl rfl
    simp +contextual only [sZ,Nat.reduceEqDiff,Nat.reduceAdd,↓reduceIte]
    refine xB (c19 600 l G) (ys:=[.int .i64 600,.ak 0 (bk l)]) ⟨.inl rfl,e7,trivial⟩ ?_
    rintro r G2 ⟨⟨b,rfl⟩,rfl⟩
    simp +contextual only [sZ,Nat.reduceEqDiff,↓reduceIte,reduceCtorEq]
    exact fin _ (by simp) _
 have f1:((i:Int) < t.es.length)=True:=eq_true (by omega)
 obtain ⟨q,hq⟩:∃ q,t.es.getD i default=q:=⟨_,rfl⟩
 obtain ⟨g1,g2,g3,g4,g5,g6⟩:=q.facts
 by_cases h2:(20:Int) < q.cs.length
 ·have f2:((20:Int) < q.cs.length)=True:=eq_true h2
  simp +contextual only [g1,g2,g3,nT,idx_eq,vu,Sc,W1,TT,hq,f1,f2,hl,iH,sS,Jf,decide_true,sZ,Nat.reduceEqDiff,↓reduceIte,reduceCtorEq]
  exact ⟨by omega,fun _=>fin _ (by simp) _⟩
 have f2:((20:Int) < q.cs.length)=False:=eq_false h2
 by_cases h3:(100:Int) < q.vs.length
 ·have f3:((100:Int) < q.vs.length)=True:=eq_true h3
  simp +contextual only [g1,g2,g3,nT,idx_eq,vu,Sc,W1,TT,Ud,hq,f1,f2,f3,hl,au,iH,sS,Jf,decide_true,decide_false,sZ,Nat.reduceEqDiff,↓reduceIte,reduceCtorEq]
  exact ⟨by omega,fun _ _=>fin _ (by simp) _⟩
 have f3:((100:Int) < q.vs.length)=False:=eq_false h3
 simp +contextual only [g1,g2,g3,nT,idx_eq,vu,Sc,W1,TT,Ud,hq,f1,f2,f3,hl,au,iH,sS,Jf,decide_false,sZ,Nat.reduceEqDiff,↓reduceIte]
 refine ⟨by omega,fun _ _=>aD q.cs.length (fun k (m:List T)=>m.length≤42 * i + 2 + 2 * k) (fun k m=>[(1,.ah t.av),(3,nF m),(13,.ak 0 (nS t.es)),(14,.int .i64 t.es.length),(15,.int .i64 i),(37,.ak 0 (sL q.cs)),(38,.int .i64 q.cs.length),(39,.int .i64 k)]) (fun _ _=>H) (l++[q.a,q.b]) ⟨by rw [aaz];show l.length + 2≤_;omega,ax _ _ _⟩ fun k m hk hK=>?_⟩
 by_cases Dy:k < q.cs.length
 ·have f4:((k:Int) < q.cs.length)=True:=eq_true (by omega)
  obtain ⟨c1,c2,c3,c4,c5,c6⟩:=(q.cs.getD k default).facts
  simp +contextual only [c1,c2,c3,fcA,fcB,Hz,CF,NU,f4,Dy,sS,Jf,sZ,Nat.reduceEqDiff,↓reduceIte]
  exact ⟨by omega,k + 1,m++[(q.cs.getD k default).a,(q.cs.getD k default).b],⟨Dy,by rw [aaz];show m.length + 2≤_;omega⟩,by omega,aE (by rw [aq k (by omega)]) rfl⟩
 ·have f4:((k:Int) < q.cs.length)=False:=eq_false (by omega)
  simp +contextual only [f4,sZ,Nat.reduceEqDiff,↓reduceIte]
  exact ⟨i + 1,m,⟨hl,by omega⟩,by omega,aE (by rw [aq i (by omega)]) rfl⟩
end Go.aK
end
section
set_option maxRecDepth 100000
set_option maxHeartbeats 0
namespace Go.aK
open Go Go.Proofs
noncomputable def ach:=aH Tryz.call63 Tryz.func63 Tryz.ntmps63 [(0,0,1),(0,1,1),(7,3,2000)] [(0,[2,3]),(1,[2,3,15]),(2,[4,5,6]),(3,[2,3,7]),(4,[2,3,7,20]),(5,[4,5,6]),(6,[2,3,8]),(7,[8,28]),(8,[4,5,6]),(9,[8,29,30,31]),(10,[8,29,30,31,32]),(11,[8,9,10,29,30,31]),(12,[8,9,10,29,30,31,38]),(13,[8,29,30,31]),(14,[8,29,30,31]),(15,[4,5,6])] []
end Go.aK
end
section
set_option maxRecDepth 100000
namespace Go.aK
open Go Go.Proofs
theorem aci (t:T) (n:Int) (hn:0≤n):nH [t] < n↔∀ v∈t.fv,v < n:=by
 rw [Ci n hn];simp only [vh,acA]
theorem rk:∀ (l:List T) (i:Nat),i < l.length→(flat (bk l)).drop (i * 3)=(l.getD i default).av.cells++flat (bk (l.drop (i + 1)))
 | [],i,h=>by simp at h
 | x::r,0,_=>by simp [cz]
 | x::r,i + 1,h=>by
   rw [cz,show (i + 1) * 3=x.av.cells.length + i * 3 by rw [T.ca];omega,ac8,List.getD_cons_succ,List.drop_succ_cons]
   have:=rk r i (by simpa using h)
   simp [this]
theorem HQ {l:List T} {i:Nat} (h:i < l.length) (φ:AV→Prop):cw (some (hZ l)) (some 3) (i * 3) φ=φ (l.getD i default).av:=by
 have e:List.take 3 ((flat (bk l)).drop (i * 3))=(l.getD i default).av.cells:=by
  rw [rk l i h,abc (by rw [T.ca];omega),Ue (by rw [T.ca];omega)]
 simp only [hZ,cw,e,T.xJ,T.km,kQ,eq_iff_iff]
 constructor
 ·exact fun h=>h.2
 ·exact fun h2=>⟨by omega,h2⟩
theorem Xq {l:List T} {i:Nat} (h:i < l.length) (φ:AV→Prop):cw (some (hZ l)) none (i * 3) φ=φ (.int .i64 (l.getD i default).k):=by
 have e:(flat (bk l)).getD (i * 3) .any=.int .i64 (l.getD i default).k:=by
  have:=rk l i h
  rw [sT,← List.head?_drop,this,T.Nc]
  rfl
 simp only [hZ,cw,e,kQ,nw,eq_iff_iff]
 constructor
 ·exact fun h=>h.2
 ·exact fun h2=>⟨by omega,h2⟩
theorem mkL (n:Nat) (H:List aa) (K:AV→List aa→Prop) (h:n * 40≤140737488355328):fG 3 40 (.agg [.int .i64 0,.int .i64 0,.ag]) (.int .i64 (n:Int)) H K=K (.ba H.length 0 n n) (H++[hZ (List.replicate n T0)]):=by
 have hb:aj (H.length + 1) (flat (bk (List.replicate n T0)))=true:=by
  generalize List.replicate n T0=l
  induction l with
  | nil=>rfl
  | cons x r ih=>rw [cz,a8,RI,ih];exact ⟨rfl,rfl⟩
 simp only [fG,aad,EC,hb,hZ,true_and,eq_iff_iff]
 constructor
 ·rintro ⟨_,_,h⟩;exact h
 ·exact fun k=>⟨by omega,h,k⟩
mutual
def ur:T→T→List T→Bool×List T
 | .mk k n ps,t,l=>
   if k=1 then
    (fun l':List T=>((l'.getD n.toNat default).same t,l')) (if (l.getD n.toNat default).k=0 then l.set n.toNat t else l)
   else if t.k=2∧n=t.n∧ps.length=t.l.length then iJ ps t.l l else (false,l)
def iJ:List T→List T→List T→Bool×List T
 | [],_,l=>(true,l)
 | _::_,[],l=>(true,l)
 | p::ps,t::ts,l=>(fun r:Bool×List T=>if r.1=true then iJ ps ts r.2 else (false,r.2)) (ur p t l)
end
mutual
theorem lE:∀ (p t:T) (l:List T),(ur p t l).2.length=l.length
 | .mk k n ps,t,l=>by
   simp only [ur]
   split
   ·split <;> simp
   ·split
    ·exact FD ps t.l l
    ·rfl
theorem FD:∀ (ps ts l:List T),(iJ ps ts l).2.length=l.length
 | [],_,l=>by simp [iJ]
 | _::_,[],l=>by simp [iJ]
 | p::ps,t::ts,l=>by
   simp only [iJ]
   split
   ·rw [FD ps _ _,lE p _ _]
   ·exact lE p _ _
end
theorem Xr (p t:T) (l:List T):ur p t l=if p.k=1 then
 (fun l':List T=>((l'.getD p.n.toNat default).same t,l')) (if (l.getD p.n.toNat default).k=0 then l.set p.n.toNat t else l)
 else if t.k=2∧p.n=t.n∧p.l.length=t.l.length then iJ p.l t.l l else (false,l):=by cases p;rw [ur];rfl
theorem KY {ps ts:List T} {i:Nat} (h:i < ps.length) (h2:i < ts.length) (l:List T):iJ (ps.drop i) (ts.drop i) l =
 (fun r:Bool×List T=>if r.1=true then iJ (ps.drop (i + 1)) (ts.drop (i + 1)) r.2 else (false,r.2)) (ur (ps.getD i default) (ts.getD i default) l):=by
 rw [aba h,aba h2,iJ]
 have e1:ts.getD i default=ts[i]:=by simp [h2]
 have e2:ps.getD i default=ps[i]:=by simp [h]
 rw [e1,e2]
theorem FN.yE {σ:Type} {S:σ→List aa} {p:Nat} {obj:σ→aa} {n:Nat} (F:FN S p obj n) (s:σ):(S s).take n=S s:=by
 rw [← F.len s];simp
theorem acj {S:List T→List aa} {id m:Nat} (F:FN S id hZ m) (p t:T) (l:List T) (hp:p.shaped=true) (hv:∀ v∈p.fv,v < (l.length:Int)) :
 aw Tryz.prog 127 [p.av,t.av,.ba id 0 l.length l.length] (S l) fun r H'=>r=.bool (ur p t l).1∧H'=S (ur p t l).2:=by
 have hkids:=bD hp
 have ih:∀ y∈p.l,∀ (t:T) (l:List T),(∀ v∈y.fv,v < (l.length:Int))→aw Tryz.prog 127 [y.av,t.av,.ba id 0 l.length l.length] (S l) fun r H'=>r=.bool (ur y t l).1∧H'=S (ur y t l).2:=
  fun y hy t l hv=>acj F y t l (hkids.2 y hy) hv
 have e:=Xr p t l
 refine Zg.2.calls rfl ?_
 rw [F.len]
 simp only [Zg,aH]
 by_cases hk:p.k=1
 ·have hn:p.n∈p.fv:=by cases p;simp only [T.k] at hk;simp [T.fv,T.n,hk]
  have LB:=mv p hp _ hn
  have Z8:=hv _ hn
  have hnn:p.n=((p.n.toNat:Nat):Int):=by omega
  have aG:p.n.toNat < l.length:=by omega
  rw [if_pos hk] at e
  rw [e]
  generalize p.n.toNat=i at *
  have mg:i < (l.set i t).length:=by simpa using aG
  have hse:(l.set i t).getD i default=t:=by simp [aG]
  have hss:t.same t=true:=(T.xS t t).2 rfl
  simp +contextual only [hk,hnn,F.get,F.set,wv,nI,aey,aG,HQ aG,HQ mg,Xq aG,Hg aG,hse,sZ,Nat.reduceEqDiff,Nat.reduceAdd,↓reduceIte,reduceCtorEq]
  refine ⟨fun h0=>aF (c49 _ _) ?_,fun h0=>aF (c49 _ _) ?_⟩
  ·simp +contextual only [hss,sZ,↓reduceIte,reduceCtorEq]
   exact xH (F.yE _) rfl rfl ⟨by rw [if_pos h0];simp only [hse,hss],by rw [if_pos h0]⟩
  ·simp +contextual only [sZ,↓reduceIte,reduceCtorEq]
   exact xH (F.yE _) rfl rfl ⟨by rw [if_neg h0],by rw [if_neg h0]⟩
 ·rw [if_neg hk] at e
  rw [e]
  simp +contextual only [hk,sZ,Nat.reduceEqDiff,Nat.reduceAdd,↓reduceIte,reduceCtorEq]
  refine ⟨fun h2=>⟨fun h3 _ _=>⟨fun h4=>?_,fun h4=>?_⟩,fun h3=>?_⟩,fun h2=>?_⟩
  ·rw [if_neg (by omega)]
   exact xH (F.yE _) rfl rfl ⟨rfl,rfl⟩
  ·rw [if_pos ⟨h2,h3,by omega⟩]
   have hlen:p.l.length=t.l.length:=by omega
   refine aD p.l.length (fun i (s:List T)=>s.length=l.length∧iJ (p.l.drop i) (t.l.drop i) s=iJ p.l t.l l)
    (fun i s=>[(2,.ba id 0 l.length l.length),(3,.ah p.av),(4,.ah t.av),(51,.int .i64 t.l.length),(52,.int .i64 i)]) (fun i s=>S s) l ⟨⟨rfl,rfl⟩,ax _ _ _⟩ fun i s hi hI=>?_
   obtain ⟨k1,hI⟩:=hI
   simp +contextual only [nI,sZ,Nat.reduceEqDiff,Nat.reduceAdd,↓reduceIte,reduceCtorEq]
   refine ⟨fun aG=>?_,fun eW=>?_⟩
   ·have sq:=aY aG
    have aG:i < p.l.length:=by omega
    rw [KY aG sq] at hI
    have hc:=ih _ (bU aG) (t.l.getD i default) s (fun v Ky=>by rw [k1];exact hv v (IF hk aG Ky))
    have lY:=lE (p.l.getD i default) (t.l.getD i default) s
    rw [k1] at hc lY
    refine ⟨aG,sq,af hc ?_⟩
    rintro r H' ⟨rfl,rfl⟩
    generalize ur (p.l.getD i default) (t.l.getD i default) s=r at *
    cases hr:r.1 with
    | false=>
      simp only [hr,acv,if_false] at hI
      simp +contextual only [sZ,Nat.reduceEqDiff,↓reduceIte,reduceCtorEq]
      exact xH (F.yE _) rfl rfl ⟨by rw [← hI],by rw [← hI]⟩
    | true=>
      simp only [hr,if_true] at hI
      simp +contextual only [sZ,Nat.reduceEqDiff,↓reduceIte]
      exact ⟨i + 1,r.2,⟨aG,lY,hI⟩,by omega,aE (by rw [aq i (by omega)]) rfl⟩
   ·rw [aa9 (by have:=bN eW;omega)] at hI
    simp only [iJ] at hI
    exact xH (F.yE _) rfl rfl ⟨by rw [← hI],by rw [← hI]⟩
  ·rw [if_neg (fun h=>h3 h.2.1)]
   exact xH (F.yE _) rfl rfl ⟨rfl,rfl⟩
  ·rw [if_neg (fun h=>h2 h.1)]
   exact xH (F.yE _) rfl rfl ⟨rfl,rfl⟩
termination_by SizeOf.sizeOf p
decreasing_by exact T.lt hy
mutual
theorem wG {P:T→Prop} (hP:∀ y,P y→∀ z∈y.l,P z):∀ (p t:T) (l:List T),P t→∀ x∈(ur p t l).2,x∈l∨P x
 | .mk k n ps,t,l,ht,x,hx=>by
   simp only [ur] at hx
   split at hx
   ·split at hx
    ·rcases acH hx with h | h
     ·exact .inl h
     ·exact .inr (h ▸ ht)
    ·exact .inl hx
   ·split at hx
    ·exact FE hP ps t.l l (hP t ht) x hx
    ·exact .inl hx
theorem FE {P:T→Prop} (hP:∀ y,P y→∀ z∈y.l,P z):∀ (ps ts l:List T),(∀ z∈ts,P z)→∀ x∈(iJ ps ts l).2,x∈l∨P x
 | [],_,l,_,x,hx=>by simp only [iJ] at hx;exact .inl hx
 | _::_,[],l,_,x,hx=>by simp only [iJ] at hx;exact .inl hx
 | p::ps,t::ts,l,ht,x,hx=>by
   simp only [iJ] at hx
   have h1:=wG hP p t l (ht t (by simp))
   split at hx
   ·rcases FE hP ps ts _ (fun z hz=>ht z (aa6 _ hz)) x hx with h | h
    ·exact h1 x h
    ·exact .inr h
   ·exact h1 x hx
end
theorem Ba {t:T} (h:t.tree=true):∀ y∈t.l,y.tree=true:=by
 intro y hy
 rw [T.bg] at h ⊢
 cases t with
 | mk k n l=>
   simp only [T.l] at hy
   simp only [T.sz,T.dp] at h
   have h1:∀ (l:List T),y∈l→y.sz≤jR l∧y.dp≤Ev l:=by
    intro l
    induction l with
    | nil=>intro h;cases h
    | cons x r ih=>
      intro hm
      simp only [jR,Ev]
      have:=fY r
      have:=x.tQ
      rcases OU.1 hm with rfl | hm
      ·omega
      ·have:=ih hm;omega
   have:=h1 l hy
   exact ⟨by omega,by omega,(bD h.2.2).2 y hy⟩
theorem ack (x:T):x.av.cells.getD 0 .any=.int .i64 x.k:=by cases x;rfl
theorem ON {Hs G:List aa} {n0 a b c:Nat} {u v w x y z:AV} {R:AV→List aa→Prop} (sX:b≠a∧c≠a∧c≠b) (hH:Hs.take n0=G) (hb:x.aW n0=true∧y.aW n0=true∧z.aW n0=true)
 (hx:u.ab.le x) (hy:v.ab.le y) (hz:w.ab.le z) (hR:R (.tuple [x,y,z]) G):bT n0 [.t a,.t b,.t c] [(a,u),(b,v),(c,w)] Hs R:=by
 subst hH
 refine ⟨n0,sU _,[x,y,z],?_,by simp only [aj,hb.1,hb.2.1,hb.2.2,ac0],hR⟩
 simp only [ay,if_neg sX.1,if_neg sX.2.1,if_neg sX.2.2,if_true,List.map]
 exact ⟨hx,hy,hz,trivial⟩
theorem acm {Hs G:List aa} {n0 a b c:Nat} (m:Nat) {u v w x y z:AV} {R:AV→List aa→Prop} (hm:n0≤m) (sX:b≠a∧c≠a∧c≠b) (hH:Hs.take m=G) (hb:x.aW m=true∧y.aW m=true∧z.aW m=true)
 (hx:u.ab.le x) (hy:v.ab.le y) (hz:w.ab.le z) (hR:R (.tuple [x,y,z]) G):bT n0 [.t a,.t b,.t c] [(a,u),(b,v),(c,w)] Hs R:=by
 subst hH
 refine ⟨m,hm,[x,y,z],?_,by simp only [aj,hb.1,hb.2.1,hb.2.2,ac0],hR⟩
 simp only [ay,if_neg sX.1,if_neg sX.2.1,if_neg sX.2.2,if_true,List.map]
 exact ⟨hx,hy,hz,trivial⟩
def oc (p t:T):Bool×List T:=ur p t (List.replicate (nH [p] + 1).toNat T0)
def HR (H:List aa) (p t:T) (r:AV) (H':List aa):Prop:=
 if p.tree=true∧t.tree=true then
  if nH [p]≤4000 then
   if (oc p t).1=true then r=.tuple [.ba H.length 0 (oc p t).2.length (oc p t).2.length,.bool true,.int .i64 0]∧H'=H++[hZ (oc p t).2]
   else r=.tuple [.ag,.bool false,.int .i64 0]∧H'=H
  else r=.tuple [.ag,.bool false,.int .i64 1]∧H'=H
 else r=.tuple [.ag,.bool false,.int .i64 4]∧H'=H
theorem agk (p t:T) (H:List aa):aw Tryz.prog 63 [p.av,t.av] H (HR H p t):=by
 refine ach.2.calls rfl ?_
 simp only [ach,aH]
 simp +contextual only [sZ,Nat.reduceEqDiff,Nat.reduceAdd,↓reduceIte,reduceCtorEq]
 refine ae (RK [p,t]) ?_
 have etb:fM [p,t]=(p.tree && t.tree):=by simp [fM]
 rw [etb]
 by_cases K7:p.tree=true∧t.tree=true
 ·have hpi:=(T.bg p).1 K7.1
  rw [K7.1,K7.2]
  simp +contextual only [sZ,Nat.reduceEqDiff,Nat.reduceAdd,↓reduceIte]
  refine ae (Wt [p]) ?_
  have hg:=Cg [p]
  simp +contextual only [sZ,Nat.reduceEqDiff,↓reduceIte,reduceCtorEq]
  refine ⟨fun hb=>?_,fun hb=>?_⟩
  ·refine ON (G:=H) (by decide) (by simp) ⟨rfl,rfl,rfl⟩ (.inl rfl) (.inl rfl) (.inl rfl) ?_
   rw [HR,if_pos K7,if_neg (by omega)]
   exact ⟨rfl,rfl⟩
  ·have hN:nH [p] + 1=((nH [p] + 1).toNat:Int):=by omega
   have hv:=(aci p (nH [p] + 1) (by omega)).1 (by omega)
   have w1:IntKind.i64.wrap (nH [p] + 1)=((nH [p] + 1).toNat:Int):=by rw [cZ _ (by omega)];omega
   have hR:∀ r H',HR H p t r H'=if (oc p t).1=true then r=.tuple [.ba H.length 0 (oc p t).2.length (oc p t).2.length,.bool true,.int .i64 0]∧H'=H++[hZ (oc p t).2]
    else r=.tuple [.ag,.bool false,.int .i64 0]∧H'=H:=by
    intro r H'
    rw [HR,if_pos K7,if_pos hb]
   have hRe:HR H p t=fun r H'=>if (oc p t).1=true then r=.tuple [.ba H.length 0 (oc p t).2.length (oc p t).2.length,.bool true,.int .i64 0]∧H'=H++[hZ (oc p t).2]
    else r=.tuple [.ag,.bool false,.int .i64 0]∧H'=H:=by funext r H';exact hR r H'
   rw [hRe]
   clear hR hRe
   have hm:=acj (FN.mk1 H hZ []) p t (List.replicate (nH [p] + 1).toNat T0) hpi.2.2 (fun v Ky=>by rw [acR,← hN];exact hv v Ky)
   have PF:=wG (P:=fun y=>y.tree=true) (fun y hy=>Ba hy) p t (List.replicate (nH [p] + 1).toNat T0) K7.2
   have Hh:=lE p t (List.replicate (nH [p] + 1).toNat T0)
   rw [acR] at hm Hh
   have eR:ur p t (List.replicate (nH [p] + 1).toNat T0)=oc p t:=rfl
   simp only [eR] at hm
   rw [eR] at PF Hh
   have hNb:(nH [p] + 1).toNat≤4001:=by omega
   rw [w1,mkL _ _ _ (by omega)]
   simp +contextual only [nI,sZ,Nat.reduceEqDiff,Nat.reduceAdd,↓reduceIte,reduceCtorEq]
   refine af hm ?_
   rintro r H' ⟨rfl,rfl⟩
   simp +contextual only [sZ,Nat.reduceEqDiff,↓reduceIte]
   clear hm
   generalize oc p t=R at *
   generalize (nH [p] + 1).toNat=N at *
   cases hr:R.1 with
   | false=>
     simp +contextual only [sZ,Nat.reduceEqDiff,↓reduceIte,reduceCtorEq]
     exact ON (G:=H) (by decide) (by simp) ⟨rfl,rfl,rfl⟩ (.inl rfl) (.inl rfl) (.inl rfl) ⟨rfl,rfl⟩
   | true=>
     simp +contextual only [nI,sZ,Nat.reduceEqDiff,↓reduceIte]
     refine aB N (fun i=>True)
      (fun i=>[(8,.ba H.length 0 N N),(29,.ba H.length 0 N N),(30,.int .i64 N),(31,.int .i64 i)]) (fun i=>H++[hZ R.2]) ⟨trivial,ax _ _ _⟩ fun i hi hI=>?_
     simp +contextual only [nI,sZ,Nat.reduceEqDiff,↓reduceIte,reduceCtorEq]
     refine ⟨fun aG=>?_,fun eW=>?_⟩
     ·have aG:=aY aG
      have sq:i < R.2.length:=by omega
      have hx:=PF _ (bU sq)
      simp +contextual only [nI,wv,HQ sq,ack,aG,sZ,Nat.reduceEqDiff,Nat.reduceAdd,Nat.reduceLT,↓reduceIte]
      refine ⟨fun FH=>ae (RQ _ ?_) ?_,fun FH=>?_⟩
      ·rcases hx with hx | hx
       ·exact absurd (by rw [acK hx];rfl) FH
       ·exact ((T.bg _).1 hx).2.2
      ·simp +contextual only [wv,aG,Hg sq,sZ,Nat.reduceEqDiff,↓reduceIte,reduceCtorEq]
       have es:R.2.set i (R.2.getD i default)=R.2:=Nm sq
       rw [es]
       exact ⟨i + 1,aG,by omega,fK (by rw [aq i (by omega)]) (by simp) (by simp only [we,B0,fJ,eE,aaz,List.length_cons,List.length_nil];simp) [.cells (R.2.getD i default).av.cells] (by rw [abb];rfl)⟩
      ·exact ⟨i + 1,aG,by omega,fK (by rw [aq i (by omega)]) (by simp) (by simp only [we,B0,fJ,eE,aaz,List.length_cons,List.length_nil];simp) [.cells (R.2.getD i default).av.cells] (by rw [abb];rfl)⟩
     ·refine acm (G:=H++[hZ R.2]) (H.length + 1) (by omega) (by decide) (Ue (by simp)) ⟨?_,rfl,rfl⟩ (.inl rfl) (.inl rfl) (.inl rfl) ?_
      ·rw [nI,fJ];simp
      ·rw [if_pos rfl,Hh]
       exact ⟨rfl,rfl⟩
 ·have e:(p.tree && t.tree)=false:=by
   cases h1:p.tree <;> cases h2:t.tree <;> simp_all
  rw [e]
  simp +contextual only [acv,sZ,Nat.reduceEqDiff,↓reduceIte,reduceCtorEq,Int.reduceEq]
  refine ON (G:=H) (by decide) (by simp) ⟨rfl,rfl,rfl⟩ (.inl rfl) (.inl rfl) (.inl rfl) ?_
  rw [HR,if_neg K7]
  exact ⟨rfl,rfl⟩
theorem KZ {l:List T} {i j:Nat} {x:T} (h:i < l.length):(l.set i x).getD j default=if i=j then x else l.getD j default:=by
 rw [sT,acM]
 split
 ·rename_i e
  subst e
  simp []
 ·rw [sT]
theorem keeps.refl (l:List T):keeps l l:=fun i _=>rfl
theorem K0 {l:List T} {i:Nat} {x:T} (h:i < l.length) (h0:(l.getD i default).k=0):keeps l (l.set i x):=fun j hj=>by
 rw [KZ h,if_neg (fun e:i=j=>hj (e ▸ h0))]
theorem Xs {l:List T} {k n:Int} {ps:List T} (hk:¬ k=1):sub l (.mk k n ps)=.mk k n (kP l ps):=by
 show ju _ _=_
 simp only [ju,if_neg hk]
 rfl
theorem SF {l:List T} {n:Int} {ps:List T}:sub l (.mk 1 n ps)=l.getD n.toNat default:=by
 show ju _ _=_
 simp only [ju,if_true]
mutual
theorem K3:∀ (p t:T) (l:List T),(p.k=1→p.shaped=true→True)→p.shaped=true→(∀ v∈p.fv,v < (l.length:Int))→keeps l (ur p t l).2
 | .mk k n ps,t,l,_,hs,hv=>by
   simp only [ur]
   by_cases hk:k=1
   ·rw [if_pos hk]
    have hn:n∈(T.mk k n ps).fv:=by simp [T.fv,hk]
    have h0:=mv _ hs n hn
    have h1:=hv n hn
    simp only
    split
    ·rename_i hz;exact K0 (by omega) hz
    ·exact keeps.refl _
   ·rw [if_neg hk]
    split
    ·simp only [T.fv,if_neg hk] at hv
     exact rn ps t.l l (qU hs) hv
    ·exact keeps.refl _
theorem rn:∀ (ps ts l:List T),cC ps=true→(∀ v∈vh ps,v < (l.length:Int))→keeps l (iJ ps ts l).2
 | [],_,l,_,_=>by simp only [iJ];exact keeps.refl _
 | _::_,[],l,_,_=>by simp only [iJ];exact keeps.refl _
 | p::ps,t::ts,l,hs,hv=>by
   simp only [cC,zB] at hs
   simp only [vh,ab7] at hv
   have h1:=K3 p t l (fun _ _=>trivial) hs.1 (fun v h=>hv v (.inl h))
   simp only [iJ]
   split
   ·exact h1.trans (rn ps ts _ hs.2 (fun v h=>by rw [lE];exact hv v (.inr h)))
   ·exact h1
end
theorem FF {t:T} (h:t.shaped=true):t.k=1∨t.k=2:=by
 rw [T.bP] at h
 simp only [zB,abp,acx,decide_eq_false_iff_not,acS] at h
 cases t with
 | mk k n l=>
   simp only [T.k] at h ⊢
   have h1:=h.1.1.2
   simp at h1
   omega
theorem K4 {l l':List T} (hk:keeps l l'):∀ {p:T},(∀ v∈p.fv,(l.getD v.toNat default).k≠0)→sub l' p=sub l p:=by
 intro p h
 exact ID p fun v hv=>hk _ (h v hv)
mutual
theorem Bb:∀ (p t:T) (l:List T),p.shaped=true→t.shaped=true→(∀ v∈p.fv,v < (l.length:Int))→(ur p t l).1=true→
 sub (ur p t l).2 p=t∧∀ v∈p.fv,((ur p t l).2.getD v.toNat default).k≠0
 | .mk k n ps,t,l,hs,ht,hv,h=>by
   have RS:=FF ht
   simp only [ur] at h ⊢
   by_cases hk:k=1
   ·rw [if_pos hk] at h ⊢
    have oO:=xU hs hk
    subst oO
    simp only at h ⊢
    generalize (if (l.getD n.toNat default).k=0 then l.set n.toNat t else l)=l' at *
    have e:l'.getD n.toNat default=t:=(T.xS _ _).1 h
    refine ⟨?_,?_⟩
    ·rw [hk,SF];exact e
    ·intro v Ky
     simp only [T.fv,hk,if_true,vh,aa4] at Ky
     subst Ky
     rw [e];omega
   ·rw [if_neg hk] at h ⊢
    simp only [T.fv,if_neg hk] at hv ⊢
    split at h
    ·rename_i hc
     rw [if_pos hc]
     have:=yF ps t.l l (qU hs) (bD ht).2 hv hc.2.2 h
     refine ⟨?_,this.2⟩
     have Gv:=(FF hs).resolve_left hk
     simp only [T.k] at Gv
     rw [Xs hk,this.1,Gv,hc.2.1,← hc.1]
     cases t;rfl
    ·cases h
theorem yF:∀ (ps ts l:List T),cC ps=true→(∀ y∈ts,y.shaped=true)→(∀ v∈vh ps,v < (l.length:Int))→ps.length=ts.length→(iJ ps ts l).1=true→
 kP (iJ ps ts l).2 ps=ts∧∀ v∈vh ps,((iJ ps ts l).2.getD v.toNat default).k≠0
 | [],[],l,_,_,_,_,_=>by simp [iJ,kP,eL,vh]
 | [],_::_,l,_,_,_,hl,_=>by simp at hl
 | _::_,[],l,_,_,_,hl,_=>by simp at hl
 | p::ps,t::ts,l,hs,ht,hv,hl,h=>by
   simp only [cC,zB] at hs
   simp only [vh,ab7] at hv ⊢
   have h1:=Bb p t l hs.1 (ht t (by simp)) (fun v h=>hv v (.inl h))
   simp only [iJ] at h ⊢
   split at h
   ·rename_i hc
    rw [if_pos hc]
    obtain ⟨a1,a2⟩:=h1 hc
    have hv2:∀ v∈vh ps,v < ((ur p t l).2.length:Int):=fun v h=>by rw [lE];exact hv v (.inr h)
    have h2:=yF ps ts (ur p t l).2 hs.2 (fun y hy=>ht y (aa6 _ hy)) hv2 (by simpa using hl) h
    have hk:=rn ps ts (ur p t l).2 hs.2 hv2
    refine ⟨?_,?_⟩
    ·show eL _ (p::ps)=_
     simp only [eL]
     have e1:sub (iJ ps ts (ur p t l).2).2 p=t:=by rw [K4 hk a2];exact a1
     rw [show ju (fun n=>(iJ ps ts (ur p t l).2).2.getD n.toNat default) p=t from e1]
     rw [show eL (fun n=>(iJ ps ts (ur p t l).2).2.getD n.toNat default) ps=ts from h2.1]
    ·rintro v (Ky | Ky)
     ·rw [hk _ (a2 v Ky)];exact a2 v Ky
     ·exact h2.2 v Ky
   ·cases h
end
theorem OO {p:T} (hp:p.tree=true) (n:Nat) (hn:n=(nH [p] + 1).toNat):∀ v∈p.fv,v < ((List.replicate n T0).length:Int):=by
 have hg:=Cg [p]
 have hv:=(aci p (nH [p] + 1) (by omega)).1 (by omega)
 intro v h
 have:=hv v h
 rw [acR]
 omega
theorem K5 {p t:T} (hp:p.tree=true) (ht:t.tree=true) (h:(oc p t).1=true):sub (oc p t).2 p=t∧∀ v∈p.fv,((oc p t).2.getD v.toNat default).tree=true:=by
 have hs:=Bb p t _ ((T.bg p).1 hp).2.2 ((T.bg t).1 ht).2.2 (OO hp _ rfl) h
 refine ⟨hs.1,fun v hv=>?_⟩
 have hk:=hs.2 v hv
 have XD:=mv p ((T.bg p).1 hp).2.2 v hv
 have aG:v.toNat < (oc p t).2.length:=by
  have:=OO hp _ rfl v hv
  unfold oc
  rw [lE]
  omega
 rcases wG (P:=fun y=>y.tree=true) (fun y hy=>Ba hy) p t _ ht _ (bU aG) with h2 | h2
 ·exact absurd (by rw [acK h2];rfl) hk
 ·exact h2
theorem SH (p t:T):(oc p t).2.length=(nH [p] + 1).toNat:=by unfold oc;rw [lE,acR]
end Go.aK
end
