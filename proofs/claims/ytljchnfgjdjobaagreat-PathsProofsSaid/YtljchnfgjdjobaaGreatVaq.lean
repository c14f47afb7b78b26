/- Part 17 of 20 of the proof. -/
import Derived.Test.YtljchnfgjdjobaaGreatVap
import Derived.Laws.Runes
import Derived.Test.YtljchnfgjdjobaaGreatVam
import Derived.Test.YtljchnfgjdjobaaGreatVan
set_option linter.unusedVariables false
set_option linter.unusedSimpArgs false
set_option linter.defProp false
set_option linter.unusedSectionVars false
section
set_option maxRecDepth 100000
namespace Go.aK
open Go Go.Proofs Go.eI
def OM (o:iP):Prop:=o.args.length≤20∧o.name.size≤200
theorem yE {α:Type} [Inhabited α] {p:α→Prop} {l:List α} (h:∀ j,j < l.length→p (l.getD j default)):∀ x∈l,p x:=fun x hx=>by
 obtain ⟨n,hn,rfl⟩:=acq hx
 have:=h n hn
 rwa [rB,Oq hn] at this
theorem c68 (o:iP):∃ b,Pure Tryz.prog 68 [o.av] (.bool b)∧(b=false→OM o):=by
 refine ⟨decide (20 < (o.args.length:Int)) || decide (200 < (o.name.size:Int)),fun H=>k68.2.calls rfl ?_,fun h=>by simp at h;exact ⟨by omega,by omega⟩⟩
 simp only [k68,aG]
 simp +contextual only [aF,sZ,Nat.reduceEqDiff,Nat.reduceAdd,↓reduceIte,reduceCtorEq]
 refine fun _=>⟨fun h=>a8 rfl ?_,fun h=>a8 rfl ?_⟩
 ·have h':¬ (20:Int) < o.args.length:=by omega
  rw [decide_eq_false h',Bool.false_or]
 ·rw [decide_eq_true h,Bool.true_or]
theorem c70 (s:ByteArray):∃ b,Pure Tryz.prog 70 [.str s] (.bool b)∧(b=false→s.size≤200):=by
 refine ⟨decide (200 < (s.size:Int)),fun H=>k70.2.calls rfl ?_,fun h=>by simp at h;omega⟩
 simp only [k70,aG]
 simp +contextual only [sZ,Nat.reduceAdd,↓reduceIte,reduceCtorEq]
 exact a8 rfl rfl
theorem abc (l:List iP):∀ H,ax Tryz.prog 128 [.al 0 (qg l),.fn (.func 68) [] []] H fun r H'=>(∃ n,r=.int .i64 n∧(n < 0→∀ o∈l,OM o))∧H'=H:=by
 refine fun H=>XZ.2.calls rfl ?_
 simp only [XZ,aG]
 simp +contextual only [aF,sZ,Nat.reduceEqDiff,Nat.reduceAdd,↓reduceIte,reduceCtorEq]
 intro hl
 have fin:∀ (n:Int),(n < 0→∀ o∈l,OM o)→bV H.length [.t 4] [(4,.int .i64 n)] H fun r H'=>(∃ n,r=.int .i64 n∧(n < 0→∀ o∈l,OM o))∧H'=H:=fun n hn=>
  aX H.length (rC _) (by rw [aA,if_pos rfl];rfl) ⟨⟨n,by rw [aA,if_pos rfl],hn⟩,abp⟩
 refine aD l.length (fun i=>∀ j,j < i→OM (l.getD j default)) (fun i=>[(0,.al 0 (qg l)),(1,.fn (.func 68) [] []),(7,.int .i64 l.length),(8,.int .i64 i)]) (fun _=>H) ⟨fun j h=>by omega,aB _ _ _⟩ fun i hi hI=>?_
 simp +contextual only [aF,sZ,Nat.reduceEqDiff,Nat.reduceAdd,↓reduceIte,reduceCtorEq]
 obtain ⟨b,hb,hq⟩:=c68 (l.getD i default)
 refine ⟨fun aS=>?_,fun jw=>fin _ fun _=>yE fun j hj=>hI j (by have:=dh jw;omega)⟩
 have aS:=bN aS
 refine ⟨aS,ae hb ?_⟩
 cases b with
 | true=>simp +contextual only [sZ,Nat.reduceEqDiff,↓reduceIte,reduceCtorEq];exact fin _ fun h=>by omega
 | false=>
   simp +contextual only [sZ,Nat.reduceEqDiff,↓reduceIte,reduceCtorEq]
   refine ⟨i + 1,⟨aS,fun j hj=>?_⟩,by omega,aE (by rw [au i (by omega)]) rfl⟩
   by_cases e:j < i
   ·exact hI j e
   ·have:j=i:=by omega
    subst this;exact hq rfl
theorem afa (l:List iP):∀ H,ax Tryz.prog 67 [.al 0 (qg l),.fn (.func 68) [] []] H fun r H'=>(∃ b,r=.bool b∧(b=false→∀ o∈l,OM o))∧H'=H:=by
 refine fun H=>k67.2.calls rfl ?_
 simp only [k67,aG]
 simp +contextual only [sZ,Nat.reduceEqDiff,Nat.reduceAdd,↓reduceIte,reduceCtorEq]
 refine af (abc l H) ?_
 rintro r G ⟨⟨n,rfl,hn⟩,rfl⟩
 simp +contextual only [sZ,↓reduceIte,reduceCtorEq]
 exact aX _ (rC _) (by rw [aA,if_pos rfl];rfl) ⟨⟨decide (0≤n),by rw [aA,if_pos rfl],fun h=>hn (by simpa using h)⟩,abp⟩
theorem abd (l:List ByteArray):∀ H,ax Tryz.prog 129 [.al 0 (strs l),.fn (.func 70) [] []] H fun r H'=>(∃ n,r=.int .i64 n∧(n < 0→∀ o∈l,o.size≤200))∧H'=H:=by
 refine fun H=>X0.2.calls rfl ?_
 simp only [X0,aG]
 simp +contextual only [aF,sZ,Nat.reduceEqDiff,Nat.reduceAdd,↓reduceIte,reduceCtorEq]
 intro hl
 have fin:∀ (n:Int),(n < 0→∀ o∈l,o.size≤200)→bV H.length [.t 4] [(4,.int .i64 n)] H fun r H'=>(∃ n,r=.int .i64 n∧(n < 0→∀ o∈l,o.size≤200))∧H'=H:=fun n hn=>
  aX H.length (rC _) (by rw [aA,if_pos rfl];rfl) ⟨⟨n,by rw [aA,if_pos rfl],hn⟩,abp⟩
 refine aD l.length (fun i=>∀ j,j < i→(l.getD j default).size≤200) (fun i=>[(0,.al 0 (strs l)),(1,.fn (.func 70) [] []),(7,.int .i64 l.length),(8,.int .i64 i)]) (fun _=>H) ⟨fun j h=>by omega,aB _ _ _⟩ fun i hi hI=>?_
 simp +contextual only [aF,sZ,Nat.reduceEqDiff,Nat.reduceAdd,↓reduceIte,reduceCtorEq]
 obtain ⟨b,hb,hq⟩:=c70 (l.getD i default)
 refine ⟨fun aS=>?_,fun jw=>fin _ fun _=>yE fun j hj=>hI j (by have:=dh jw;omega)⟩
 have aS:=bN aS
 refine ⟨aS,ae hb ?_⟩
 cases b with
 | true=>simp +contextual only [sZ,Nat.reduceEqDiff,↓reduceIte,reduceCtorEq];exact fin _ fun h=>by omega
 | false=>
   simp +contextual only [sZ,Nat.reduceEqDiff,↓reduceIte,reduceCtorEq]
   refine ⟨i + 1,⟨aS,fun j hj=>?_⟩,by omega,aE (by rw [au i (by omega)]) rfl⟩
   by_cases e:j < i
   ·exact hI j e
   ·have:j=i:=by omega
    subst this;exact hq rfl
theorem afb (l:List ByteArray):∀ H,ax Tryz.prog 69 [.al 0 (strs l),.fn (.func 70) [] []] H fun r H'=>(∃ b,r=.bool b∧(b=false→∀ o∈l,o.size≤200))∧H'=H:=by
 refine fun H=>k69.2.calls rfl ?_
 simp only [k69,aG]
 simp +contextual only [sZ,Nat.reduceEqDiff,Nat.reduceAdd,↓reduceIte,reduceCtorEq]
 refine af (abd l H) ?_
 rintro r G ⟨⟨n,rfl,hn⟩,rfl⟩
 simp +contextual only [sZ,↓reduceIte,reduceCtorEq]
 exact aX _ (rC _) (by rw [aA,if_pos rfl];rfl) ⟨⟨decide (0≤n),by rw [aA,if_pos rfl],fun h=>hn (by simpa using h)⟩,abp⟩
structure Tj (s:Sg) (ps ss:List Int):Prop where
 h1:s.ops.length≤40
 h2:s.aY.length≤40
 h3:ps.length≤80
 h4:ss.length≤80
 h5:∀ o∈s.ops,OM o
 h6:∀ x∈s.aY,x.size≤200
theorem c18 (s:Sg) (ps ss:List Int) (H:List aa):ax Tryz.prog 18 [s.av,dV ps ss] H fun r H'=>(∃ b,r=.bool b∧(b=true→Tj s ps ss))∧H'=H:=by
 refine k18.2.calls rfl ?_
 simp only [k18,aG]
 have fin:∀ (b:Bool),(b=true→Tj s ps ss)→bV H.length [.t 4] [(4,.bool b)] H fun r H'=>(∃ b,r=.bool b∧(b=true→Tj s ps ss))∧H'=H:=fun b hb=>
  aX H.length (rC _) (by rw [aA,if_pos rfl];rfl) ⟨⟨b,by rw [aA,if_pos rfl],hb⟩,abp⟩
 have finf:=fin false (fun h=>by cases h)
 obtain ⟨q1,q2,q3,q4,q5,q6⟩:=aQ ps ss
 simp +contextual only [aF,q1,sR,qh,aw,sZ,Nat.reduceEqDiff,Nat.reduceAdd,↓reduceIte,reduceCtorEq]
 refine fun _=>⟨fun h1 _=>⟨fun h2 _=>⟨fun h3 _=>⟨fun h4=>af (afa s.ops H) ?_,fun _=>finf⟩,fun _=>finf⟩,fun _=>finf⟩,fun _=>finf⟩
 rintro r G ⟨⟨b,rfl,hb⟩,rfl⟩
 cases b with
 | true=>simp +contextual only [sZ,Nat.reduceEqDiff,↓reduceIte,reduceCtorEq];exact finf
 | false=>
   simp +contextual only [aF,sZ,Nat.reduceEqDiff,Nat.reduceAdd,↓reduceIte]
   refine af (afb s.aY _) ?_
   rintro r G ⟨⟨d,rfl,hd⟩,rfl⟩
   simp +contextual only [sZ,Nat.reduceEqDiff,↓reduceIte,reduceCtorEq]
   exact fin _ fun h=>⟨by omega,by omega,by omega,by omega,hb rfl,hd (by simpa using h)⟩
end Go.aK
end
section
set_option maxRecDepth 100000
namespace Go.aK
open Go Go.Proofs
def RA (c:UInt8):Prop:=¬ ((c.toNat:Int) < 33∨126 < (c.toNat:Int)∨(c.toNat:Int)=40∨(c.toNat:Int)=41∨(c.toNat:Int)=44)
def nY (s:ByteArray):Prop:=(∀ i,i < s.size→RA (s.data.toList.getD i 0))∧1≤s.size∧s.size≤32
theorem lg {P:Prop} (h:Decidable P) {H:List aa} {s:Nat} (hp:¬ P):bV H.length [.t s] [(s,.bool false)] H fun r H'=>r=.bool (decide P)∧H'=H:=a8 rfl (by simp [hp])
open Classical in
theorem abe (s:ByteArray) (hs:s.size≤200):Pure Tryz.prog 195 [.str s] (.bool (decide (nY s))):=by
 refine fun H=>YF.2.calls rfl ?_
 simp only [YF,aG]
 simp +contextual only [sZ,Nat.reduceAdd,↓reduceIte,reduceCtorEq]
 refine aD s.size (fun i=>∀ j,j < i→RA (s.data.toList.getD j 0))
  (fun i=>[(0,.str s),(3,.int .i64 i)]) (fun i=>H) ⟨fun j h=>by omega,aB _ _ _⟩ fun i hi hI=>?_
 simp +contextual only [ixs,sZ,Nat.reduceEqDiff,↓reduceIte,reduceCtorEq,Int.reduceLT]
 have bad (hl:i < s.size) (h:¬ RA (s.data.toList.getD i 0)):¬ nY s:=fun e=>h (e.1 i hl)
 refine ⟨fun hl=>?_,fun hl=>⟨fun h1=>?_,fun h1=>?_⟩⟩
 ·have hl:=bN hl
  have bad:=bad hl
  unfold RA at bad
  refine ⟨hl,fun a=>⟨hl,fun b=>⟨hl,fun c=>⟨hl,fun d=>⟨hl,fun e=>?_,fun e=>?_⟩,fun d=>?_⟩,fun c=>?_⟩,fun b=>?_⟩,fun a=>?_⟩
  ·exact lg _ (bad (by omega))
  ·refine ⟨i + 1,⟨hl,fun j hj=>?_⟩,by omega,aE (by rw [au i (by omega)]) rfl⟩
   by_cases Ia:j < i
   ·exact hI j Ia
   ·have:j=i:=by omega
    subst this
    unfold RA;omega
  ·exact lg _ (bad (by omega))
  ·exact lg _ (bad (by omega))
  ·exact lg _ (bad (by omega))
  ·exact lg _ (bad (by omega))
 ·refine a8 rfl ?_
  have e:(((s.size:Nat):Int)≤32)=nY s:=propext ⟨fun h=>⟨fun j hj=>hI j (by omega),by omega,by omega⟩,fun h=>by have:=h.2.2;omega⟩
  simp only [e]
 ·exact lg _ fun e=>by have:=e.2.1;omega
def CU (s:ByteArray):Nat:=s.data.toList.countP (· == 95)
theorem abf (s:ByteArray) (hs:s.size≤200):Pure Tryz.prog 196 [.str s] (.int .i64 (CU s:Nat)):=by
 unfold CU
 refine fun H=>YG.2.calls rfl ?_
 simp only [YG,aG]
 simp +contextual only [sZ,Nat.reduceEqDiff,Nat.reduceAdd,↓reduceIte,reduceCtorEq]
 refine aD s.size (fun i=>True)
  (fun i=>[(0,.str s),(3,.int .i64 ((s.data.toList.take i).countP (· == 95):Nat)),(4,.int .i64 i)]) (fun i=>H) ⟨trivial,aB _ _ _⟩ fun i hi hI=>?_
 simp +contextual only [ixs,sZ,Nat.reduceEqDiff,↓reduceIte,reduceCtorEq]
 have hz:s.data.toList.length=s.size:=rfl
 have hc:=afG (p:=(· == (95:UInt8))) (l:=s.data.toList.take i)
 rw [ab0] at hc
 refine ⟨fun hl=>?_,fun hl=>?_⟩
 ·have hl:=bN hl
  have xh:i < s.data.toList.length:=hl
  have eg:s.data.toList.getD i 0=s.data.toList[i]:=by rw [rB,Oq xh];rfl
  have et:(s.data.toList.take (i + 1)).countP (· == 95)=(s.data.toList.take i).countP (· == 95) + if (s.data.toList.getD i 0 == 95)=true then 1 else 0:=by
   rw [acN,List.countP_append,eg,Oq xh];simp [aem]
  refine ⟨hl,fun a=>⟨i + 1,hl,by omega,aE ?_ rfl⟩,fun a=>⟨i + 1,hl,by omega,aE ?_ rfl⟩⟩
  ·have:(s.data.toList.getD i 0 == 95)=true:=by
    rw [beq_iff_eq];apply UInt8.toNat_inj.1;simpa using Int.ofNat.inj a
   rw [au i (by omega),au _ (by omega),et,if_pos this]
  ·have:¬ (s.data.toList.getD i 0 == 95)=true:=by
    rw [beq_iff_eq];intro h;rw [h] at a;exact a rfl
   rw [au i (by omega),et,if_neg this];rfl
 ·rw [aaw (by have:=dh hl;omega)]
  exact a8 rfl rfl
def kY (s:Sg) (l:List Int):Prop:=∀ x∈l,0≤x∧x < s.aY.length
open Classical in
theorem Tk (s:Sg) (l:List Int):Pure Tryz.prog 232 [s.av,.al 0 (ints l)] (.bool (decide (kY s l))):=by
 refine fun H=>Y8.2.calls rfl ?_
 simp only [Y8,aG]
 simp +contextual only [aF,sZ,Nat.reduceEqDiff,Nat.reduceAdd,↓reduceIte,reduceCtorEq]
 refine aD l.length (fun i=>∀ j,j < i→0≤l.getD j 0∧l.getD j 0 < s.aY.length)
  (fun i=>[(1,.al 0 (ints l)),(2,.ai s.av),(5,.int .i64 i)]) (fun i=>H) ⟨fun j h=>by omega,aB _ _ _⟩ fun i hi hI=>?_
 by_cases hl:i < l.length
 ·have bad (h:¬ (0≤l.getD i 0∧l.getD i 0 < s.aY.length)):¬ kY s l:=fun e=>h (e _ (aT hl))
  have e0:((i:Int) < l.length)=True:=eq_true (by omega)
  by_cases h1:l.getD i 0 < 0
  ·have e1:(l.getD i 0 < 0)=True:=eq_true h1
   simp +contextual only [e0,e1,hl,decide_true,sZ,Nat.reduceEqDiff,↓reduceIte,reduceCtorEq]
   exact fun _=>lg _ (bad (by omega))
  ·have e1:(l.getD i 0 < 0)=False:=eq_false h1
   by_cases h2:s.aY.length≤l.getD i 0
   ·have e2:((s.aY.length:Int)≤l.getD i 0)=True:=eq_true h2
    simp +contextual only [aF,e0,e1,e2,hl,decide_true,decide_false,sZ,Nat.reduceEqDiff,↓reduceIte,reduceCtorEq]
    exact fun _=>lg _ (bad (by omega))
   ·have e2:((s.aY.length:Int)≤l.getD i 0)=False:=eq_false h2
    simp +contextual only [aF,e0,e1,e2,hl,decide_true,decide_false,sZ,Nat.reduceEqDiff,↓reduceIte]
    refine fun _=>⟨i + 1,⟨hl,fun j hj=>?_⟩,by omega,aE (by rw [au i (by omega)]) rfl⟩
    by_cases Ia:j < i
    ·exact hI j Ia
    ·have:j=i:=by omega
     subst this
     exact ⟨by omega,by omega⟩
 ·have e0:((i:Int) < l.length)=False:=eq_false (by omega)
  simp +contextual only [e0,sZ,Nat.reduceEqDiff,↓reduceIte,reduceCtorEq]
  refine fun _=>a8 rfl ?_
  have:kY s l:=fun x hx=>by
   obtain ⟨n,hn,rfl⟩:=acq hx
   have:=hI n (by omega)
   rwa [rB,Oq hn] at this
  simp [this]
def N5 (s:Sg) (o:iP):Prop:=nY o.name∧CU o.name≠o.name.size∧(CU o.name=0∨CU o.name=o.args.length)∧o.args.length≤8∧kY s o.args∧kY s [o.C3]
theorem N6 (a:Int):[AV.int .i64 a]=ints [a]:=rfl
open Classical in
theorem afc (s:Sg) (o:iP) (ho:OM o):Pure Tryz.prog 197 [s.av,o.av] (.bool (decide (N5 s o))):=by
 have e1:=abf o.name ho.2
 have e2:=abe o.name ho.2
 have hb:CU o.name≤o.name.size:=afG (p:=(· == (95:UInt8))) (l:=o.name.data.toList)
 have e3:=Tk s o.args
 have e4:=Tk s [o.C3]
 have hR:N5 s o=(nY o.name∧CU o.name≠o.name.size∧(CU o.name=0∨CU o.name=o.args.length)∧o.args.length≤8∧kY s o.args∧kY s [o.C3]):=rfl
 refine fun H=>YH.2.calls rfl ?_
 simp only [YH,aG]
 simp +contextual only [aF,sZ,Nat.reduceEqDiff,Nat.reduceAdd,↓reduceIte,reduceCtorEq]
 refine ae e1 ?_
 simp +contextual only [aF,sZ,Nat.reduceEqDiff,Nat.reduceAdd,↓reduceIte]
 refine ae e2 ?_
 have ha:=ho.1
 generalize CU o.name=n at *
 by_cases hn:nY o.name
 ·rw [decide_eq_true hn]
  by_cases h1:n=o.name.size
  ·have f1:((n:Int)=o.name.size)=True:=eq_true (by omega)
   simp +contextual only [aF,f1,decide_true,sZ,Nat.reduceEqDiff,↓reduceIte,reduceCtorEq]
   exact lg _ (by rw [hR];exact fun e=>e.2.1 h1)
  have f1:((n:Int)=o.name.size)=False:=eq_false (by omega)
  by_cases h2:n=0∨n=o.args.length
  ·have hz:(0 < (n:Int))=False∧(True∧True)=True∨(0 < (n:Int))=True∧((n:Int)=o.args.length)=True:=by
    by_cases h0:n=0
    ·exact .inl ⟨eq_false (by omega),by simp⟩
    ·exact .inr ⟨eq_true (by omega),eq_true (by omega)⟩
   rcases hz with ⟨f2,f3⟩ | ⟨f2,f3⟩
   all_goals
    simp +contextual only [aF,f1,f2,f3,decide_false,decide_true,sZ,Nat.reduceEqDiff,Nat.reduceAdd,↓reduceIte,reduceCtorEq]
    refine fun _=>⟨fun h3=>ae e3 ?_,fun h3=>lg _ (by rw [hR];exact fun e=>by have:=e.2.2.2.1;omega)⟩
    by_cases h4:kY s o.args
    ·rw [decide_eq_true h4]
     simp +contextual only [aF,N6,sZ,Nat.reduceEqDiff,Nat.reduceAdd,↓reduceIte]
     refine ae e4 ?_
     simp +contextual only [sZ,Nat.reduceEqDiff,↓reduceIte,reduceCtorEq]
     refine a8 rfl ?_
     have:N5 s o=kY s [o.C3]:=by rw [hR];exact propext ⟨fun e=>e.2.2.2.2.2,fun e=>⟨hn,h1,h2,by omega,h4,e⟩⟩
     simp only [this]
    ·rw [decide_eq_false h4]
     simp +contextual only [sZ,Nat.reduceEqDiff,↓reduceIte,reduceCtorEq]
     exact lg _ (by rw [hR];exact fun e=>h4 e.2.2.2.2.1)
  ·have f2:(0 < (n:Int))=True:=eq_true (by omega)
   have f3:((n:Int)=o.args.length)=False:=eq_false (by omega)
   simp +contextual only [aF,f1,f2,f3,decide_false,decide_true,sZ,Nat.reduceEqDiff,↓reduceIte,reduceCtorEq]
   exact fun _=>lg _ (by rw [hR];exact fun e=>h2 e.2.2.1)
 ·rw [decide_eq_false hn]
  simp +contextual only [sZ,Nat.reduceEqDiff,↓reduceIte,reduceCtorEq]
  exact lg _ (by rw [hR];exact fun e=>hn e.1)
end Go.aK
end
section
set_option maxRecDepth 100000
namespace Go.aK
open Go Go.Proofs
def Wo (s:Sg) (i:Nat):Prop:=nY (s.aY.getD i default)∧CU (s.aY.getD i default)=0∧∀ k,k < i→s.aY.getD k default≠s.aY.getD i default
def W7 (a b:iP):Prop:=a.name=b.name∧a.C3=b.C3∧a.args=b.args
def W8 (s:Sg) (i:Nat):Prop:=N5 s (s.ops.getD i default)∧∀ k,k < i→¬ W7 (s.ops.getD k default) (s.ops.getD i default)
def zQ (s:Sg):Prop:=s.aY.length≤64∧s.ops.length≤256∧(∀ i,i < s.aY.length→Wo s i)∧∀ i,i < s.ops.length→W8 s i
theorem kZ {p:Nat→Prop} {i:Nat} (h:∀ j,j < i→p j) (h':p i):∀ j,j < i + 1→p j:=fun j hj=>by
 by_cases e:j < i
 ·exact h j e
 ·have:j=i:=by omega
  subst this;exact h'
theorem RB {α:Type} [Inhabited α] {l:List α} {i:Nat} (h:i < l.length):l.getD i default∈l:=by
 rw [rB,Oq h];exact acf h
open Classical in
theorem afd (s:Sg) (ho:∀ o∈s.ops,OM o) (hs:∀ x∈s.aY,x.size≤200) (h40:s.ops.length≤40) (h41:s.aY.length≤40):Pure Tryz.prog 145 [s.av] (.bool (decide (zQ s))):=by
 refine fun H=>X8.2.calls rfl ?_
 simp only [X8,aG]
 have f1:(64 < (s.aY.length:Int))=False:=eq_false (by omega)
 have f2:(256 < (s.ops.length:Int))=False:=eq_false (by omega)
 simp +contextual only [aF,f1,f2,decide_false,sZ,Nat.reduceEqDiff,Nat.reduceAdd,↓reduceIte]
 refine fun _ _=>aD s.aY.length (fun i=>∀ j,j < i→Wo s j) (fun i=>[(1,.ai s.av),(3,.int .i64 i)]) (fun i=>H) ⟨fun j h=>by omega,aB _ _ _⟩ fun i hi hI=>?_
 by_cases hl:i < s.aY.length
 ·have e0:((i:Int) < s.aY.length)=True:=eq_true (by omega)
  have bad (h:¬ Wo s i):¬ zQ s:=fun e=>h (e.2.2.1 i hl)
  have hx:=hs _ (RB hl)
  have e1:=abe _ hx
  have e2:=abf _ hx
  have hR:Wo s i=(nY (s.aY.getD i default)∧CU (s.aY.getD i default)=0∧∀ k,k < i→s.aY.getD k default≠s.aY.getD i default):=rfl
  simp +contextual only [aF,e0,hl,sZ,Nat.reduceEqDiff,Nat.reduceAdd,↓reduceIte]
  refine fun _=>ae e1 ?_
  by_cases h1:nY (s.aY.getD i default)
  ·rw [decide_eq_true h1]
   simp +contextual only [aF,hl,sZ,Nat.reduceEqDiff,Nat.reduceAdd,↓reduceIte]
   refine ae e2 ?_
   by_cases h2:CU (s.aY.getD i default)=0
   ·rw [h2]
    have e9:(0 < ((0:Nat):Int))=False:=eq_false (by omega)
    simp +contextual only [e9,decide_false,sZ,Nat.reduceEqDiff,↓reduceIte]
    refine aD i (fun k=>∀ j,j < k→s.aY.getD j default≠s.aY.getD i default) (fun k=>[(1,.ai s.av),(3,.int .i64 i),(4,.int .i64 k)]) (fun i=>H) ⟨fun j h=>by omega,aB _ _ _⟩ fun k hk hK=>?_
    by_cases pr:k < i
    ·have e3:((k:Int) < i)=True:=eq_true (by omega)
     have rJ:k < s.aY.length:=by omega
     by_cases h3:s.aY.getD k default=s.aY.getD i default
     ·simp +contextual only [aF,e3,hl,rJ,rh,h3,decide_true,sZ,Nat.reduceEqDiff,↓reduceIte,reduceCtorEq]
      exact lg _ (bad (by rw [hR];exact fun e=>e.2.2 k pr h3))
     ·simp +contextual only [aF,e3,hl,rJ,rh,h3,decide_false,sZ,Nat.reduceEqDiff,↓reduceIte]
      exact ⟨k + 1,⟨pr,kZ hK h3⟩,by omega,aE (by rw [au k (by omega)]) rfl⟩
    ·have e3:((k:Int) < i)=False:=eq_false (by omega)
     simp +contextual only [e3,sZ,Nat.reduceEqDiff,↓reduceIte]
     exact ⟨i + 1,⟨hl,kZ hI (by rw [hR];exact ⟨h1,h2,fun j hj=>hK j (by omega)⟩)⟩,by omega,aE (by rw [au i (by omega)]) rfl⟩
   ·have e3:(0 < ((CU (s.aY.getD i default):Nat):Int))=True:=eq_true (by omega)
    simp +contextual only [e3,decide_true,sZ,Nat.reduceEqDiff,↓reduceIte,reduceCtorEq]
    exact lg _ (bad (by rw [hR];exact fun e=>h2 e.2.1))
  ·rw [decide_eq_false h1]
   simp +contextual only [sZ,Nat.reduceEqDiff,↓reduceIte,reduceCtorEq]
   exact lg _ (bad (by rw [hR];exact fun e=>h1 e.1))
 have e0:((i:Int) < s.aY.length)=False:=eq_false (by omega)
 have Wg:∀ i,i < s.aY.length→Wo s i:=fun j hj=>hI j (by omega)
 simp +contextual only [aF,e0,sZ,Nat.reduceEqDiff,↓reduceIte]
 refine fun _=>aD s.ops.length (fun i=>∀ j,j < i→W8 s j) (fun i=>[(1,.ai s.av),(5,.int .i64 i)]) (fun i=>H) ⟨fun j h=>by omega,aB _ _ _⟩ fun i hi hI=>?_
 by_cases hl:i < s.ops.length
 ·have e0:((i:Int) < s.ops.length)=True:=eq_true (by omega)
  have bad (h:¬ W8 s i):¬ zQ s:=fun e=>h (e.2.2.2 i hl)
  have e1:=afc s _ (ho _ (RB hl))
  have hR:W8 s i=(N5 s (s.ops.getD i default)∧∀ k,k < i→¬ W7 (s.ops.getD k default) (s.ops.getD i default)):=rfl
  simp +contextual only [aF,e0,hl,sZ,Nat.reduceEqDiff,↓reduceIte]
  refine fun _=>ay e1 ?_
  by_cases h1:N5 s (s.ops.getD i default)
  ·rw [decide_eq_true h1]
   simp +contextual only [sZ,Nat.reduceEqDiff,↓reduceIte]
   refine aD i (fun k=>∀ j,j < k→¬ W7 (s.ops.getD j default) (s.ops.getD i default)) (fun k=>[(1,.ai s.av),(5,.int .i64 i),(6,.int .i64 k)]) (fun i=>H) ⟨fun j h=>by omega,aB _ _ _⟩ fun k hk hK=>?_
   by_cases pr:k < i
   ·have e3:((k:Int) < i)=True:=eq_true (by omega)
    have rJ:k < s.ops.length:=by omega
    have next (h:¬ W7 (s.ops.getD k default) (s.ops.getD i default)):∃ j,(j≤i∧∀ j_1,j_1 < j→¬ W7 (s.ops.getD j_1 default) (s.ops.getD i default))∧i - j < i - k∧sle H.length [(1,.ai s.av),(5,.int .i64 i),(6,.int .i64 (IntKind.i64.wrap ((k:Int) + 1)))] H [(1,.ai s.av),(5,.int .i64 i),(6,.int .i64 j)] H:=
     ⟨k + 1,⟨pr,kZ hK h⟩,by omega,aE (by rw [au k (by omega)]) rfl⟩
    by_cases h2:(s.ops.getD k default).name=(s.ops.getD i default).name
    ·by_cases h3:(s.ops.getD k default).C3=(s.ops.getD i default).C3
     ·simp +contextual only [aF,e3,hl,rJ,rh,h2,h3,decide_true,sZ,Nat.reduceEqDiff,↓reduceIte]
      refine ay (adl _ _ _ _) ?_
      by_cases h4:(s.ops.getD k default).args=(s.ops.getD i default).args
      ·simp +contextual only [h4,decide_true,sZ,Nat.reduceEqDiff,↓reduceIte,reduceCtorEq]
       exact lg _ (bad (by rw [hR];exact fun e=>e.2 k pr ⟨h2,h3,h4⟩))
      ·simp +contextual only [h4,decide_false,sZ,Nat.reduceEqDiff,↓reduceIte]
       exact next fun e=>h4 e.2.2
     ·simp +contextual only [aF,e3,hl,rJ,rh,h2,h3,decide_true,decide_false,sZ,Nat.reduceEqDiff,↓reduceIte]
      exact next fun e=>h3 e.2.1
    ·simp +contextual only [aF,e3,hl,rJ,rh,h2,decide_false,sZ,Nat.reduceEqDiff,↓reduceIte]
     exact next fun e=>h2 e.1
   ·have e3:((k:Int) < i)=False:=eq_false (by omega)
    simp +contextual only [e3,sZ,Nat.reduceEqDiff,↓reduceIte]
    exact ⟨i + 1,⟨hl,kZ hI (by rw [hR];exact ⟨h1,fun j hj=>hK j (by omega)⟩)⟩,by omega,aE (by rw [au i (by omega)]) rfl⟩
  ·rw [decide_eq_false h1]
   simp +contextual only [sZ,Nat.reduceEqDiff,↓reduceIte,reduceCtorEq]
   exact lg _ (bad (by rw [hR];exact fun e=>h1 e.1))
 ·have e0:((i:Int) < s.ops.length)=False:=eq_false (by omega)
  simp +contextual only [aF,e0,sZ,Nat.reduceEqDiff,↓reduceIte,reduceCtorEq]
  refine fun _=>a8 rfl ?_
  have:zQ s:=⟨by omega,by omega,Wg,fun j hj=>hI j (by omega)⟩
  simp [this]
end Go.aK
end
section
set_option maxRecDepth 100000
namespace Go.aK
open Go Go.Proofs Go.eI
open Classical in
theorem c82 (s:Sg) (ho:∀ o∈s.ops,OM o) (hs:∀ x∈s.aY,x.size≤200) (h40:s.ops.length≤40) (h41:s.aY.length≤40):Pure Tryz.prog 82 [s.av] (.int .i64 (if zQ s then 0 else 40)):=by
 refine fun H=>k82.2.calls rfl ?_
 simp only [k82,aG]
 simp +contextual only [aF,sZ,Nat.reduceEqDiff,Nat.reduceAdd,↓reduceIte]
 refine ae (afd s ho hs h40 h41) ?_
 by_cases h:zQ s
 ·rw [decide_eq_true h]
  simp +contextual only [sZ,↓reduceIte,reduceCtorEq]
  exact a8 rfl (by rw [if_pos h])
 ·rw [decide_eq_false h]
  simp +contextual only [sZ,↓reduceIte,reduceCtorEq]
  exact a8 rfl (by rw [if_neg h])
def OrR (ps ss:List Int) (i:Nat):Prop:=0≤ps.getD i 0∧ps.getD i 0≤255∧1≤ss.getD i 0∧ss.getD i 0≤3∧∀ k,k < i→¬ (ps.getD i 0=ps.getD k 0∧¬ ss.getD i 0=ss.getD k 0)
theorem Fe (ps ss:List Int) (n:Nat):Rg ps ss n↔∀ i,i < n→OrR ps ss i:=by
 constructor
 ·intro h i hi
  obtain ⟨a,b,c,d⟩:=h.RY i hi
  exact ⟨a,b,c,d,fun k hk e=>e.2 (h.st i k hi (by omega) e.1)⟩
 ·intro h
  refine ⟨fun j hj=>⟨(h j hj).1,(h j hj).2.1,(h j hj).2.2.1,(h j hj).2.2.2.1⟩,fun j k hj hk e=>?_⟩
  rcases afi j k with g | g | g
  ·have:=(h k hk).2.2.2.2 j g
   by_cases x:ss.getD j 0=ss.getD k 0
   ·exact x
   ·exact absurd ⟨e.symm,fun y=>x y.symm⟩ this
  ·rw [g]
  ·have:=(h j hj).2.2.2.2 k g
   by_cases x:ss.getD j 0=ss.getD k 0
   ·exact x
   ·exact absurd ⟨e,x⟩ this
open Classical in
theorem c83 (s:Sg) (ps ss:List Int) (h40:s.ops.length≤40) (h3:ps.length≤80) (h4:ss.length≤80):Pure Tryz.prog 83 [s.av,dV ps ss] (.bool (decide (iq s ps ss))):=by
 refine fun H=>k83.2.calls rfl ?_
 simp only [k83,aG]
 obtain ⟨q1,q2,q3,q4,q5,q6⟩:=aQ ps ss
 by_cases g1:ps.length=s.ops.length
 rotate_left
 ·have f1:((ps.length:Int)=s.ops.length)=False:=eq_false (by omega)
  simp +contextual only [aF,q1,sR,aw,f1,sZ,Nat.reduceEqDiff,Nat.reduceAdd,↓reduceIte,reduceCtorEq]
  exact fun _ _=>lg _ fun e=>g1 e.1
 by_cases g2:ss.length=s.ops.length
 rotate_left
 ·have f1:((ps.length:Int)=s.ops.length)=True:=eq_true (by omega)
  have f2:((ss.length:Int)=s.ops.length)=False:=eq_false (by omega)
  simp +contextual only [aF,q1,sR,qh,aw,f1,f2,decide_false,sZ,Nat.reduceEqDiff,Nat.reduceAdd,↓reduceIte,reduceCtorEq]
  exact fun _ _ _=>lg _ fun e=>g2 e.2.1
 have f1:((ps.length:Int)=s.ops.length)=True:=eq_true (by omega)
 have f2:((ss.length:Int)=s.ops.length)=True:=eq_true (by omega)
 simp +contextual only [aF,q1,sR,qh,aw,f1,f2,sZ,Nat.reduceEqDiff,Nat.reduceAdd,↓reduceIte,reduceCtorEq]
 refine fun _ _ _=>aD s.ops.length (fun i=>∀ j,j < i→OrR ps ss j) (fun i=>[(2,.ai s.av),(3,.ai (dV ps ss)),(5,.int .i64 i)]) (fun i=>H) ⟨fun j h=>by omega,aB _ _ _⟩ fun i hi hI=>?_
 by_cases hl:i < s.ops.length
 ·have e0:((i:Int) < s.ops.length)=True:=eq_true (by omega)
  have hp:i < ps.length:=by omega
  have hq:i < ss.length:=by omega
  have bad (h:¬ OrR ps ss i):¬ iq s ps ss:=fun e=>h ((Fe _ _ _).1 e.2.2 i hp)
  have hR:OrR ps ss i=(0≤ps.getD i 0∧ps.getD i 0≤255∧1≤ss.getD i 0∧ss.getD i 0≤3∧∀ k,k < i→¬ (ps.getD i 0=ps.getD k 0∧¬ ss.getD i 0=ss.getD k 0)):=rfl
  by_cases h:0≤ps.getD i 0∧ps.getD i 0≤255∧1≤ss.getD i 0∧ss.getD i 0≤3
  ·have e1:(ps.getD i 0 < 0)=False:=eq_false (by omega)
   have e2:(255 < ps.getD i 0)=False:=eq_false (by omega)
   have e3:(ss.getD i 0 < 1)=False:=eq_false (by omega)
   have e4:(3 < ss.getD i 0)=False:=eq_false (by omega)
   simp +contextual only [aF,sR,qh,e0,e1,e2,e3,e4,hp,hq,decide_false,sZ,Nat.reduceEqDiff,↓reduceIte]
   refine fun _=>aD i (fun k=>∀ j,j < k→¬ (ps.getD i 0=ps.getD j 0∧¬ ss.getD i 0=ss.getD j 0)) (fun k=>[(2,.ai s.av),(3,.ai (dV ps ss)),(5,.int .i64 i),(6,.int .i64 k)]) (fun i=>H) ⟨fun j h=>by omega,aB _ _ _⟩ fun k hk hK=>?_
   by_cases pr:k < i
   ·have e3:((k:Int) < i)=True:=eq_true (by omega)
    have Wd:k < ps.length:=by omega
    have hq2:k < ss.length:=by omega
    have next (h:¬ (ps.getD i 0=ps.getD k 0∧¬ ss.getD i 0=ss.getD k 0)):∃ j,(j≤i∧∀ j_1,j_1 < j→¬ (ps.getD i 0=ps.getD j_1 0∧¬ ss.getD i 0=ss.getD j_1 0))∧i - j < i - k∧sle H.length [(2,.ai s.av),(3,.ai (dV ps ss)),(5,.int .i64 i),(6,.int .i64 (IntKind.i64.wrap ((k:Int) + 1)))] H [(2,.ai s.av),(3,.ai (dV ps ss)),(5,.int .i64 i),(6,.int .i64 j)] H:=
     ⟨k + 1,⟨pr,kZ hK h⟩,by omega,aE (by rw [au k (by omega)]) rfl⟩
    by_cases h2:ps.getD i 0=ps.getD k 0
    ·have e5:(ps.getD i 0=ps.getD k 0)=True:=eq_true h2
     by_cases h3:ss.getD i 0=ss.getD k 0
     ·have e6:(ss.getD i 0=ss.getD k 0)=True:=eq_true h3
      simp +contextual only [sR,qh,e3,hp,hq,Wd,hq2,e5,e6,decide_true,decide_false,not_true_eq_false,sZ,Nat.reduceEqDiff,↓reduceIte]
      exact next fun e=>e.2 h3
     ·simp +contextual only [sR,qh,e3,hp,hq,Wd,hq2,e5,h3,decide_true,not_false_eq_true,sZ,Nat.reduceEqDiff,↓reduceIte,reduceCtorEq]
      exact lg _ (bad (by rw [hR];exact fun e=>e.2.2.2.2 k pr ⟨h2,h3⟩))
    ·simp +contextual only [sR,e3,hp,Wd,h2,decide_true,decide_false,sZ,Nat.reduceEqDiff,↓reduceIte]
     exact next fun e=>h2 e.1
   ·have e3:((k:Int) < i)=False:=eq_false (by omega)
    simp +contextual only [e3,sZ,Nat.reduceEqDiff,↓reduceIte]
    exact ⟨i + 1,⟨hl,kZ hI (by rw [hR];exact ⟨h.1,h.2.1,h.2.2.1,h.2.2.2,fun j hj=>hK j (by omega)⟩)⟩,by omega,aE (by rw [au i (by omega)]) rfl⟩
  ·have bad:=bad (by rw [hR];exact fun e=>h ⟨e.1,e.2.1,e.2.2.1,e.2.2.2.1⟩)
   have fin:=lg (inferInstance:Decidable (iq s ps ss)) (H:=H) (s:=4) bad
   have hz:((ps.getD i 0 < 0)=True∧(True∧True)=True∧(True∧True)=True∧(True∧True)=True)∨((ps.getD i 0 < 0)=False∧(255 < ps.getD i 0)=True∧(True∧True)=True∧(True∧True)=True)∨((ps.getD i 0 < 0)=False∧(255 < ps.getD i 0)=False∧(ss.getD i 0 < 1)=True∧(True∧True)=True)∨((ps.getD i 0 < 0)=False∧(255 < ps.getD i 0)=False∧(ss.getD i 0 < 1)=False∧(3 < ss.getD i 0)=True):=by
    have y:=and_self True
    by_cases a:ps.getD i 0 < 0
    ·exact .inl ⟨eq_true a,y,y,y⟩
    by_cases b:255 < ps.getD i 0
    ·exact .inr (.inl ⟨eq_false a,eq_true b,y,y⟩)
    by_cases c:ss.getD i 0 < 1
    ·exact .inr (.inr (.inl ⟨eq_false a,eq_false b,eq_true c,y⟩))
    ·exact .inr (.inr (.inr ⟨eq_false a,eq_false b,eq_false c,eq_true (by omega)⟩))
   rcases hz with ⟨e1,e2,e3,e4⟩ | ⟨e1,e2,e3,e4⟩ | ⟨e1,e2,e3,e4⟩ | ⟨e1,e2,e3,e4⟩
   all_goals
    simp +contextual only [aF,sR,qh,e0,e1,e2,e3,e4,hp,hq,decide_false,decide_true,sZ,Nat.reduceEqDiff,↓reduceIte,reduceCtorEq]
    exact fun _=>fin
 ·have e0:((i:Int) < s.ops.length)=False:=eq_false (by omega)
  simp +contextual only [aF,e0,sZ,Nat.reduceEqDiff,↓reduceIte,reduceCtorEq]
  refine fun _=>a8 rfl ?_
  have:iq s ps ss:=⟨g1,g2,(Fe _ _ _).2 fun j hj=>hI j (by omega)⟩
  simp [this]
open Classical in
theorem c25 (s:Sg) (ps ss:List Int) (hs:Tj s ps ss):Pure Tryz.prog 25 [s.av,dV ps ss] (.int .i64 (if zQ s then (if iq s ps ss then 0 else 60) else 40)):=by
 refine fun H=>k25.2.calls rfl ?_
 simp only [k25,aG]
 obtain ⟨q1,q2,q3,q4,q5,q6⟩:=aQ ps ss
 simp +contextual only [aF,q1,sZ,Nat.reduceEqDiff,Nat.reduceAdd,↓reduceIte,reduceCtorEq]
 refine ae (c82 s hs.h5 hs.h6 hs.h1 hs.h2) ?_
 by_cases h:zQ s
 ·rw [if_pos h]
  simp +contextual only [aF,q4,bm,sZ,Nat.reduceEqDiff,Nat.reduceAdd,↓reduceIte]
  refine ae (c83 s ps ss hs.h1 hs.h3 hs.h4) ?_
  by_cases h2:iq s ps ss
  ·rw [decide_eq_true h2]
   simp +contextual only [sZ,↓reduceIte,reduceCtorEq]
   exact a8 rfl (by rw [if_pos h,if_pos h2])
  ·rw [decide_eq_false h2]
   simp +contextual only [sZ,↓reduceIte,reduceCtorEq]
   exact a8 rfl (by rw [if_pos h,if_neg h2])
 ·rw [if_neg h]
  simp +contextual only [sZ,Nat.reduceEqDiff,↓reduceIte,reduceCtorEq,Int.reduceEq]
  exact a8 rfl (by rw [if_neg h])
end Go.aK
end
section
set_option maxRecDepth 100000
namespace Go.aK
open Go Go.Proofs Go.eI
theorem aff (x:T):Pure Tryz.prog 115 [x.av] (.int .i64 (if x.tree=true then 0 else 4)):=by
 refine fun H=>XR.2.calls rfl ?_
 simp only [XR,aG]
 simp +contextual only [sZ,Nat.reduceEqDiff,Nat.reduceAdd,↓reduceIte]
 refine ae (ZK x) ?_
 cases h:x.tree with
 | true=>simp +contextual only [sZ,↓reduceIte,reduceCtorEq];exact a8 rfl rfl
 | false=>simp +contextual only [sZ,↓reduceIte,reduceCtorEq];exact a8 rfl rfl
theorem afg (s:Sg):∀ t:T,t.shaped=true→Pure Tryz.prog 116 [s.av,t.av] (.bool (ri s t)):=by
 suffices h:∀ N t,wt t≤N→t.shaped=true→Pure Tryz.prog 116 [s.av,t.av] (.bool (ri s t)) from fun t ht=>h _ t (rC _) ht
 intro N
 induction N with
 | zero=>intro t h;have:=dH t;omega
 | succ N ih=>
 intro t hN hs H
 have hk:=fL hs
 have ih:∀ x∈t.l,Pure Tryz.prog 116 [s.av,x.av] (.bool (ri s x)):=fun x hx=>ih x (by have:=cR hx;omega) (hk.2 x hx)
 have hn:0≤t.n:=by
  rw [T.dU] at hs
  simp only [Ot,abG,ab1,decide_eq_false_iff_not] at hs
  have:=hs.1.1.1.1
  omega
 obtain ⟨m,hm⟩:=abV hn
 refine XS.2.calls rfl ?_
 simp only [XS,aG]
 have e:ri s t=(!(decide (t.k=2) && (decide ((s.ops.length:Int)≤t.n) || !decide ((t.l.length:Int)=((s.ops.getD t.n.toNat default).args.length:Nat)))) && !(t.l.any fun x=>!ri s x)):=by
  rw [← wF];cases t;rfl
 have fin:(!(decide (t.k=2) && (decide ((s.ops.length:Int)≤t.n) || !decide ((t.l.length:Int)=((s.ops.getD t.n.toNat default).args.length:Nat)))))=false→bV H.length [.t 4] [(4,.bool false)] H fun r H'=>r=.bool (ri s t)∧H'=H:=by
  intro h
  rw [e,h];exact a8 rfl rfl
 by_cases hh:t.k=2∧(s.ops.length:Int)≤t.n
 ·simp +contextual only [aF,hh.1,hh.2,decide_true,sZ,Nat.reduceEqDiff,Nat.reduceAdd,↓reduceIte,reduceCtorEq]
  exact fin (by simp [hh.1,hh.2])
 have em:t.n.toNat=m:=by omega
 by_cases W9:t.k=2∧¬ (t.l.length:Int)=((s.ops.getD m default).args.length:Nat)
 ·have hml:m < s.ops.length:=by omega
  have WQ:¬ (s.ops.length:Int)≤(m:Int):=by omega
  simp +contextual only [aF,W9.1,WQ,W9.2,hm,hml,aw,decide_true,decide_false,sZ,Nat.reduceEqDiff,Nat.reduceAdd,↓reduceIte,reduceCtorEq]
  exact fin (by rw [em,decide_eq_true W9.1,decide_eq_false W9.2,decide_eq_false (by omega:¬ (s.ops.length:Int)≤t.n)];rfl)
 have hd:(!(decide (t.k=2) && (decide ((s.ops.length:Int)≤t.n) || !decide ((t.l.length:Int)=((s.ops.getD t.n.toNat default).args.length:Nat)))))=true:=by
  rw [em]
  by_cases a:t.k=2
  ·rw [decide_eq_false (fun b=>hh ⟨a,b⟩),decide_eq_true (Classical.byContradiction fun b=>W9 ⟨a,b⟩)];simp
  ·rw [decide_eq_false a];rfl
 rw [hd] at e
 have hz:((t.k=2)=False∧(True∧True)=True∧(True∧True)=True∧(True∧True)=True)∨((t.k=2)=True∧(m < s.ops.length)=True∧((s.ops.length:Int)≤(m:Int))=False∧((t.l.length:Int)=((s.ops.getD m default).args.length:Nat))=True):=by
  have y:=and_self True
  by_cases a:t.k=2
  ·exact .inr ⟨eq_true a,eq_true (by omega),eq_false (by omega),eq_true (Classical.byContradiction fun b=>W9 ⟨a,b⟩)⟩
  ·exact .inl ⟨eq_false a,y,y,y⟩
 rcases hz with ⟨e1,e2,e3,e4⟩ | ⟨e1,e2,e3,e4⟩
 all_goals
  simp +contextual only [aF,e1,e2,e3,e4,hm,aw,decide_true,decide_false,sZ,Nat.reduceEqDiff,Nat.reduceAdd,↓reduceIte,reduceCtorEq]
  refine aD t.l.length (fun i=>∀ j,j < i→ri s (t.l.getD j default)=true) (fun i=>[(2,.ai s.av),(3,.ai t.av),(5,.int .i64 i)]) (fun i=>H) ⟨fun j h=>by omega,aB _ _ _⟩ fun i hi hI=>?_
  by_cases hl:i < t.l.length
  ·have e5:((i:Int) < t.l.length)=True:=eq_true (by omega)
   simp +contextual only [aF,e5,hl,sZ,Nat.reduceEqDiff,↓reduceIte]
   refine fun _=>ay (ih _ (RB hl)) ?_
   cases hb:ri s (t.l.getD i default) with
   | false=>
     simp +contextual only [sZ,Nat.reduceEqDiff,↓reduceIte,reduceCtorEq]
     refine a8 rfl ?_
     have:(t.l.any fun x=>!ri s x)=true:=List.any_eq_true.2 ⟨_,RB hl,by rw [hb];rfl⟩
     rw [e,this];rfl
   | true=>
     simp +contextual only [sZ,Nat.reduceEqDiff,↓reduceIte]
     exact ⟨i + 1,⟨hl,kZ hI hb⟩,by omega,aE (by rw [au i (by omega)]) rfl⟩
  ·have e5:((i:Int) < t.l.length)=False:=eq_false (by omega)
   simp +contextual only [e5,sZ,Nat.reduceEqDiff,↓reduceIte,reduceCtorEq]
   refine fun _=>a8 rfl ?_
   have:(t.l.any fun x=>!ri s x)=false:=by
    rw [adv]
    exact yE fun j hj=>by rw [hI j (by omega)];simp
   rw [e,this];rfl
theorem c55 (s:Sg) (t:T):Pure Tryz.prog 55 [s.av,t.av] (.bool (t.tree && ri s t)):=by
 refine fun H=>k55.2.calls rfl ?_
 simp only [k55,aG]
 simp +contextual only [aF,sZ,Nat.reduceEqDiff,Nat.reduceAdd,↓reduceIte,reduceCtorEq]
 refine ae (aff t) ?_
 cases h:t.tree with
 | false=>
   simp +contextual only [abO,sZ,Nat.reduceEqDiff,↓reduceIte,reduceCtorEq,Int.reduceEq]
   exact a8 rfl rfl
 | true=>
   simp +contextual only [aF,sZ,Nat.reduceEqDiff,Nat.reduceAdd,↓reduceIte]
   refine ae (afg s t ((T.fK t).1 h).2.2) ?_
   simp +contextual only [sZ,Nat.reduceEqDiff,↓reduceIte,reduceCtorEq]
   exact a8 rfl rfl
end Go.aK
end
section
set_option maxRecDepth 100000
namespace Go.aK
open Go Go.Proofs Go.eI
theorem yF (f:Int→UInt8→Int) (s:ByteArray) (stop:Nat) (h:stop≤s.size):∀ (i j:Nat) (b:Int),j + i=s.size→stop=s.size→(ByteArray.foldlM.loop (m:=_root_.Id) (fun x y=>pure (f x y)) s stop h i j b)=(s.data.toList.drop j).foldl f b
 | 0,j,b,e,e2=>by
   have:s.data.toList.drop j=[]:=abu (by show s.size≤j;omega)
   rw [this];unfold ByteArray.foldlM.loop
   rw [dif_neg (by omega)];rfl
 | i + 1,j,b,e,e2=>by
   have hj:j < s.data.toList.length:=by show j < s.size;omega
   unfold ByteArray.foldlM.loop
   rw [dif_pos (by omega),abr hj,List.foldl_cons]
   exact yF f s stop h i (j + 1) _ (by omega) e2
theorem I3 (s:ByteArray):oc s 95=(CU s:Int):=by
 have h1:oc s 95=s.data.toList.foldl (fun (n:Int) x=>if x == (95:Int).toNat.toUInt8 then n + 1 else n) ((0:Nat):Int):=by
  unfold oc ByteArray.foldl ByteArray.foldlM
  rw [dif_pos (rC _)]
  exact yF _ s _ _ s.size 0 _ (by omega) rfl
 have h2:∀ (l:List UInt8) (n:Nat),l.foldl (fun (n:Int) x=>if x == (95:Int).toNat.toUInt8 then n + 1 else n) (n:Int)=((n + l.countP (· == (95:UInt8)):Nat):Int):=by
  intro l
  induction l with
  | nil=>intro n;simp
  | cons x r ih=>
    intro n
    rw [List.foldl_cons,aem]
    by_cases hx:x=95
    ·subst hx
     have:=ih (n + 1)
     exact (this.trans (by simp;omega))
    ·have h95:(x == (95:Int).toNat.toUInt8)=false:=by
      rw [beq_eq_false_iff_ne];exact hx
     have h96:(x == (95:UInt8))=false:=by
      rw [beq_eq_false_iff_ne];exact hx
     rw [h95,h96]
     exact (ih n).trans (by simp)
 rw [h1,h2];simp [CU]
theorem RC {c:UInt8} (h:RA c):yc c=false:=by
 unfold RA at h
 have e:(((c.toNat:Nat):Int).toNat.toUInt8)=c:=by simp
 unfold yc
 rw [e,firstIdx_nonneg]
 simp only [ab1,decide_eq_false_iff_not,adv]
 refine ⟨⟨by omega,by omega⟩,fun x hx hxc=>?_⟩
 rw [beq_iff_eq] at hxc
 subst hxc
 have hx:x=40∨x=41∨x=44:=by simpa using hx
 rcases hx with rfl | rfl | rfl <;> exact h (by decide)
theorem I4 {s:ByteArray} (h:nY s):nW s=true:=by
 obtain ⟨h1,h2,h3⟩:=h
 unfold nW
 simp only [Ot,abG,decide_eq_false_iff_not,abF]
 refine ⟨⟨by omega,by omega⟩,fun c hc=>?_⟩
 obtain ⟨i,hi,rfl⟩:=acq hc
 have:=RC (h1 i hi)
 rw [rB,Oq hi] at this
 exact this
theorem Wp {s:ByteArray} (h:CU s=0):¬ 0≤Nm s:=by
 have hm:∀ b∈s.data.toList,b≠95:=fun b hb e=>by
  have:=List.countP_eq_zero.1 h b hb
  rw [e] at this;exact this rfl
 unfold Nm
 split
 ·rename_i e
  exact absurd rfl (hm 95 (by rw [e];simp [us]))
 ·rw [firstIdx_none s 95 hm];omega
theorem Ff {s:Sg} (h:∀ i,i < s.aY.length→Wo s i):∀ n i,i + n=s.aY.length→lX (s.aY.drop i) (s.aY.take i)=true
 | 0,i,e=>by rw [abu (by omega)];rfl
 | n + 1,i,e=>by
   have hl:i < s.aY.length:=by omega
   obtain ⟨h1,h2,h3⟩:=h i hl
   have hni:s.aY.getD i default∉s.aY.take i:=fun hm=>by
    obtain ⟨k,hk,e⟩:=acq hm
    rw [ab0] at hk
    refine h3 k (by omega) ?_
    rw [List.getElem_take] at e
    rw [← e,rB,Oq (by omega)];try rfl
   rw [pc hl,if_pos ⟨I4 h1,Wp h2,hni⟩]
   have:s.aY.take i++[s.aY.getD i default]=s.aY.take (i + 1):=by
    rw [acN,rB,Oq hl];rfl
   rw [this]
   exact Ff h n (i + 1) (by omega)
theorem N7 {s:Sg} {l:List Int} (h:kY s l):∀ a∈l,Hh s.aY.length a=true:=fun a ha=>by
 obtain ⟨h1,h2⟩:=h a ha
 simp [Hh,h1,h2]
theorem abg {s:Sg} {o:iP} (h:N5 s o):o8 o s.aY.length=true:=by
 obtain ⟨h1,h2,h3,h4,h5,h6⟩:=h
 have hb:CU o.name≤o.name.size:=afG (p:=(· == (95:UInt8))) (l:=o.name.data.toList)
 unfold o8
 rw [I3]
 simp only [Ot,ab8,decide_eq_true_eq,abG,adv]
 refine ⟨I4 h1,by omega,by omega,by omega,N7 h6 _ (by simp),fun x hx=>?_⟩
 rw [N7 h5 x hx];simp
theorem RE {a b:Int} (ha:0≤a∧a < 64) (hb:0≤b∧b < 64) (h:Kx a=Kx b):a=b:=by
 have k:∀ a:Int,0≤a∧a < 64→(Kx a).toNat=a.toNat:=by
  intro a ha
  unfold Kx
  have:IntKind.u8.wrap a=a:=by
   simp only [IntKind.wrap]
   have h1:IntKind.u8.bits=8:=rfl
   have h2:IntKind.u8.signed=false:=rfl
   rw [h1,h2]
   simp
   omega
  rw [this,UInt8.toNat_ofNat']
  omega
 have:=congrArg UInt8.toNat h
 rw [k a ha,k b hb] at this
 omega
theorem vG:∀ {l m:List Int},(∀ a∈l,0≤a∧a < 64)→(∀ a∈m,0≤a∧a < 64)→l.map Kx=m.map Kx→l=m
 | [],[],_,_,_=>rfl
 | [],b::m,_,_,h=>by cases h
 | a::l,[],_,_,h=>by cases h
 | a::l,b::m,ha,hb,h=>by
   simp only [List.map_cons,List.cons.injEq] at h
   rw [RE (ha a (by simp)) (hb b (by simp)) h.1,vG (fun x hx=>ha x (by simp [hx])) (fun x hx=>hb x (by simp [hx])) h.2]
theorem I5:∀ {l m r t:List UInt8},(∀ x∈l,x≠40)→(∀ x∈m,x≠40)→l++40::r=m++40::t→l=m∧r=t
 | [],[],_,_,_,_,h=>by simpa using h
 | [],b::m,_,_,_,hb,h=>by
   simp only [List.nil_append,List.cons_append,List.cons.injEq] at h
   exact absurd h.1.symm (hb b (by simp))
 | a::l,[],_,_,ha,_,h=>by
   simp only [List.nil_append,List.cons_append,List.cons.injEq] at h
   exact absurd h.1 (ha a (by simp))
 | a::l,b::m,_,_,ha,hb,h=>by
   simp only [List.cons_append,List.cons.injEq] at h
   obtain ⟨h1,h2⟩:=I5 (fun x hx=>ha x (by simp [hx])) (fun x hx=>hb x (by simp [hx])) h.2
   exact ⟨by rw [h.1,h1],h2⟩
theorem abh {s:ByteArray} (h:nY s):∀ x∈s.data.toList,x≠40:=fun x hx e=>by
 obtain ⟨i,hi,rfl⟩:=acq hx
 have:=h.1 i hi
 rw [rB,Oq hi,Option.getD_some,e] at this
 exact this (by decide)
theorem key_inj {s:Sg} {o q:iP} (h64:s.aY.length≤64) (ho:N5 s o) (hq:N5 s q) (h:jX o=jX q):W7 o q:=by
 have h:Hi o=Hi q:=by
  have:=congrArg (fun b:ByteArray=>b.data.toList) h
  simpa [jX] using this
 have f:∀ o:iP,Hi o=o.name.data.toList++40::(o.args++[o.C3]).map Kx:=fun o=>by
  unfold Hi;simp [ByteArray.data_append]
 rw [f,f] at h
 obtain ⟨h1,h2⟩:=I5 (abh ho.1) (abh hq.1) h
 have g:∀ o:iP,N5 s o→∀ a∈o.args++[o.C3],0≤a∧a < 64:=fun o ho a ha=>by
  rcases abJ.1 ha with ha | ha
  ·have:=ho.2.2.2.2.1 a ha;omega
  ·have:=ho.2.2.2.2.2 a ha;omega
 have h3:=vG (g o ho) (g q hq) h2
 have h4:=List.append_inj' h3 rfl
 refine ⟨?_,by simpa using h4.2,h4.1⟩
 have:=Array.toList_inj.1 h1
 cases TM:o.name;cases hq':q.name
 rw [TM,hq'] at this
 simpa using this
theorem N8 {s:Sg} (h64:s.aY.length≤64) (h:∀ i,i < s.ops.length→W8 s i):∀ n i,i + n=s.ops.length→zG s.aY.length (s.ops.drop i) ((s.ops.take i).map jX)=true
 | 0,i,e=>by rw [abu (by omega)];rfl
 | n + 1,i,e=>by
   have hl:i < s.ops.length:=by omega
   obtain ⟨h1,h3⟩:=h i hl
   have hni:jX (s.ops.getD i default)∉(s.ops.take i).map jX:=fun hm=>by
    obtain ⟨q,hq,e⟩:=aal.1 hm
    obtain ⟨k,hk,e2⟩:=acq hq
    rw [ab0] at hk
    rw [List.getElem_take] at e2
    have eq:s.ops.getD k default=q:=by
     rw [← e2,rB,Oq (by omega)];try rfl
    have OP:=h k (by omega)
    refine h3 k (by omega) ?_
    rw [eq]
    exact key_inj h64 (eq ▸ OP.1) h1 e
   rw [um hl,if_pos ⟨abg h1,hni⟩]
   have:(s.ops.take i).map jX++[jX (s.ops.getD i default)]=(s.ops.take (i + 1)).map jX:=by
    rw [acN,ab3,rB,Oq hl];rfl
   rw [this]
   exact N8 h64 h n (i + 1) (by omega)
theorem Wq {s:Sg} (h:zQ s):mJ s=true:=by
 obtain ⟨h1,h2,h3,h4⟩:=h
 unfold mJ
 simp only [Ot,decide_eq_true_eq]
 exact ⟨⟨⟨by omega,by omega⟩,Ff h3 s.aY.length 0 (by omega)⟩,N8 h1 h4 s.ops.length 0 (by omega)⟩
end Go.aK
end
section
set_option maxRecDepth 100000
namespace Go.aK
open Go Go.Proofs Go.eI
theorem Wr {c:UInt8} (h:yc c=false):RA c:=by
 have e:(((c.toNat:Nat):Int).toNat.toUInt8)=c:=by simp
 unfold yc at h
 rw [e,firstIdx_nonneg] at h
 simp only [ab1,decide_eq_false_iff_not,adv] at h
 obtain ⟨⟨h1,h2⟩,h3⟩:=h
 have k:∀ n:Nat,c.toNat=n→c=n.toUInt8:=fun n hn=>by rw [← hn];simp
 unfold RA
 intro hh
 rcases hh with hh | hh | hh | hh | hh
 ·exact h1 hh
 ·exact h2 hh
 ·have:=k 40 (by omega);subst this;simp at h3
 ·have:=k 41 (by omega);subst this;simp at h3
 ·have:=k 44 (by omega);subst this;simp at h3
theorem N9 {s:ByteArray} (h:nW s=true):nY s:=by
 unfold nW at h
 simp only [Ot,abG,decide_eq_false_iff_not,abF] at h
 obtain ⟨⟨h1,h2⟩,h3⟩:=h
 refine ⟨fun i hi=>Wr ?_,by omega,by omega⟩
 have hl:i < s.data.toList.length:=hi
 rw [rB,Oq hl]
 exact h3 _ (acf hl)
theorem Ws {s:ByteArray} (h:¬ 0≤Nm s):CU s=0:=by
 refine Classical.byContradiction fun dJ=>h ?_
 unfold Nm
 split
 ·exact afW _
 ·have:=firstIdx_nonneg s 95
  have hb:s.data.toList.any (· == (95:UInt8))=true:=by
   rw [List.any_eq_true]
   have hp:0 < s.data.toList.countP (· == (95:UInt8)):=Nat.pos_of_ne_zero dJ
   obtain ⟨x,hx,h2⟩:=List.countP_pos_iff.1 hp
   exact ⟨x,hx,h2⟩
  rw [hb] at this
  exact of_decide_eq_true this
theorem I6 {s:Sg}:∀ n i,i + n=s.aY.length→lX (s.aY.drop i) (s.aY.take i)=true→∀ j,i≤j→j < s.aY.length→Wo s j
 | 0,i,e,_,j,h1,h2=>by omega
 | n + 1,i,e,h,j,h1,h2=>by
   have hl:i < s.aY.length:=by omega
   have ht:s.aY.take i++[s.aY.getD i default]=s.aY.take (i + 1):=by
    rw [acN,rB,Oq hl];rfl
   rw [pc hl,ht] at h
   split at h
   ·rename_i hc
    obtain ⟨c1,c2,c3⟩:=hc
    by_cases e2:j=i
    ·subst e2
     refine ⟨N9 c1,Ws c2,fun k hk he=>c3 ?_⟩
     rw [← he,rB,Oq (by omega)]
     exact List.mem_take_iff_getElem.2 ⟨k,by omega,rfl⟩
    ·exact I6 n (i + 1) (by omega) h j (by omega) h2
   ·cases h
theorem Tl {s:Sg} {l:List Int} (h:∀ a∈l,Hh s.aY.length a=true):kY s l:=fun a ha=>by
 have:=h a ha
 simpa [Hh] using this
theorem afj {s:Sg} {o:iP} (h:o8 o s.aY.length=true):N5 s o:=by
 unfold o8 at h
 rw [I3] at h
 simp only [Ot,ab8,decide_eq_true_eq,abG,adv] at h
 obtain ⟨h1,h2,h3,h4,h5,h6⟩:=h
 exact ⟨N9 h1,by omega,by omega,by omega,Tl fun a ha=>by simpa using h6 a ha,Tl fun a ha=>by rw [aaB.1 ha];exact h5⟩
theorem Tm {s:Sg}:∀ n i,i + n=s.ops.length→zG s.aY.length (s.ops.drop i) ((s.ops.take i).map jX)=true→∀ j,i≤j→j < s.ops.length→W8 s j
 | 0,i,e,_,j,h1,h2=>by omega
 | n + 1,i,e,h,j,h1,h2=>by
   have hl:i < s.ops.length:=by omega
   have ht:(s.ops.take i).map jX++[jX (s.ops.getD i default)]=(s.ops.take (i + 1)).map jX:=by
    rw [acN,ab3,rB,Oq hl];rfl
   rw [um hl,ht] at h
   split at h
   ·rename_i hc
    obtain ⟨c1,c3⟩:=hc
    by_cases e2:j=i
    ·subst e2
     refine ⟨afj c1,fun k hk he=>c3 ?_⟩
     obtain ⟨m1,m2,m3⟩:=he
     have vf:jX (s.ops.getD k default)=jX (s.ops.getD j default):=by unfold jX Hi;rw [m1,m2,m3]
     rw [← vf,aal]
     refine ⟨_,?_,rfl⟩
     rw [rB,Oq (by omega)]
     exact List.mem_take_iff_getElem.2 ⟨k,by omega,rfl⟩
    ·exact Tm n (i + 1) (by omega) h j (by omega) h2
   ·cases h
theorem I7 {s:Sg}:zQ s↔mJ s=true:=by
 refine ⟨Wq,fun h=>?_⟩
 unfold mJ at h
 simp only [Ot,decide_eq_true_eq] at h
 obtain ⟨⟨⟨h1,h2⟩,h3⟩,h4⟩:=h
 exact ⟨by omega,by omega,fun i hi=>I6 s.aY.length 0 (by omega) h3 i (by omega) hi,fun i hi=>Tm s.ops.length 0 (by omega) h4 i (by omega) hi⟩
theorem afk (s:Sg) (ps ss:List Int) (hs:Tj s ps ss):Pure Tryz.prog 25 [s.av,dV ps ss] (.int .i64 (jF s ps ss)):=by
 have h:=c25 s ps ss hs
 unfold jF
 by_cases h1:mJ s=true
 ·rw [if_pos (I7.2 h1)] at h
  rw [if_pos h1]
  by_cases h2:iq s ps ss
  ·rw [if_pos h2] at h ⊢;exact h
  ·rw [if_neg h2] at h ⊢;exact h
 ·rw [if_neg (fun h2=>h1 (I7.1 h2))] at h
  rw [if_neg h1];exact h
end Go.aK
end
section
namespace Go.aK
open Go Go.eI
def nt (l:List Nd) (i:Int):T:=(l.getD i.toNat default).1
def nk (l:List Nd) (i:Int):List Int:=(l.getD i.toNat default).2
def gU:List T→Nat→List Int
 | [],_=>[]
 | x::r,i=>((i + wt x - 1:Nat):Int)::gU r (i + wt x)
mutual
def bH:T→Nat→List Nd
 | .mk k n l,i=>fc l i++[(.mk k n l,gU l i)]
def fc:List T→Nat→List Nd
 | [],_=>[]
 | x::r,i=>bH x i++fc r (i + wt x)
end
theorem Ob (t:T) (i:Nat):bH t i=fc t.l i++[(t,gU t.l i)]:=by cases t;rw [bH];rfl
mutual
theorem eM:∀ (t:T) (i:Nat),(bH t i).length=wt t
 | .mk k n l,i=>by rw [bH,aaf,mN,wt];simp;omega
theorem mN:∀ (l:List T) (i:Nat),(fc l i).length=fM l
 | [],_=>rfl
 | x::r,i=>by rw [fc,aaf,eM,mN,fM]
end
theorem yG:∀ (l:List T) (x:T) (i:Nat),fc (l++[x]) i=fc l i++bH x (i + fM l)
 | [],x,i=>by simp [fc,fM]
 | y::r,x,i=>by rw [List.cons_append,fc,fc,yG r x,abb,fM];congr 3;omega
theorem vH:∀ (l:List T) (x:T) (i:Nat),gU (l++[x]) i=gU l i++[((i + fM l + wt x - 1:Nat):Int)]
 | [],x,i=>by simp [gU,fM]
 | y::r,x,i=>by rw [List.cons_append,gU,gU,vH r x,fM];simp;omega
theorem yH:∀ (l:List T) (i:Nat),(gU l i).length=l.length
 | [],_=>rfl
 | x::r,i=>by rw [gU,List.length_cons,yH,List.length_cons]
def NP (l:List Nd):Prop:=∀ (i:Nat),i < l.length→(nk l i).map (nt l)=(nt l i).l∧∀ k∈nk l i,0≤k∧k < (i:Int)
theorem HE {p q:List Nd} {k:Int} (h0:0≤k) (h:k < p.length):nt (p++q) k=nt p k:=by
 unfold nt
 rw [rB,yO (by omega),← rB]
theorem Wt {p q:List Nd} {k:Int} (h0:0≤k) (h:k < p.length):nk (p++q) k=nk p k:=by
 unfold nk
 rw [rB,yO (by omega),← rB]
theorem yI {p q:List Nd} {ks:List Int} (h:∀ k∈ks,0≤k∧k < (p.length:Int)):ks.map (nt (p++q))=ks.map (nt p):=
 ab4 fun k hk=>HE (h k hk).1 (h k hk).2
theorem NP.snoc {p:List Nd} (h:NP p) {t:T} {ks:List Int} (h1:ks.map (nt p)=t.l) (h2:∀ k∈ks,0≤k∧k < (p.length:Int)):NP (p++[(t,ks)]):=by
 intro i hi
 rw [aaf,afF] at hi
 by_cases e:i=p.length
 ·subst e
  have e1:nt (p++[(t,ks)]) (p.length:Int)=t:=by simp [nt]
  have e2:nk (p++[(t,ks)]) (p.length:Int)=ks:=by simp [nk]
  rw [e1,e2,yI h2,h1]
  exact ⟨rfl,h2⟩
 ·have hl:i < p.length:=by omega
  obtain ⟨h3,h4⟩:=h i hl
  rw [HE (by omega) (by omega),Wt (by omega) (by omega),yI fun k hk=>⟨(h4 k hk).1,by have:=(h4 k hk).2;omega⟩]
  exact ⟨h3,h4⟩
mutual
theorem CV:∀ (t:T) (p:List Nd),NP p→NP (p++bH t p.length)∧nt (p++bH t p.length) ((p.length + wt t - 1:Nat):Int)=t
 | .mk k n l,p,h=>by
   obtain ⟨h1,h2,h3⟩:=Fg l p h
   rw [bH,← abb]
   refine ⟨h1.snoc h2 fun k hk=>by have:=h3 k hk;rw [aaf,mN];omega,?_⟩
   have e:p.length + wt (.mk k n l) - 1=(p++fc l p.length).length:=by rw [aaf,mN,wt];omega
   rw [e,abb,← abb]
   unfold nt
   rw [yP,rB,abt (rC _),adj];rfl
theorem Fg:∀ (l:List T) (p:List Nd),NP p→NP (p++fc l p.length)∧(gU l p.length).map (nt (p++fc l p.length))=l∧∀ k∈gU l p.length,0≤k∧k < ((p.length + fM l:Nat):Int)
 | [],p,h=>⟨by rw [fc,abQ];exact h,rfl,fun k hk=>by cases hk⟩
 | x::r,p,h=>by
   obtain ⟨h1,h2⟩:=CV x p h
   have hl:(p++bH x p.length).length=p.length + wt x:=by rw [aaf,eM]
   obtain ⟨h3,h4,h5⟩:=Fg r (p++bH x p.length) h1
   rw [hl] at h3 h4 h5
   rw [fc,← abb,fM]
   have hw:=dH x
   refine ⟨h3,?_,fun k hk=>?_⟩
   ·rw [gU,List.map_cons,h4,HE (by omega) (by rw [hl];omega),h2]
   ·rw [gU] at hk
    rcases aai.1 hk with rfl | hk
    ·constructor <;> omega
    ·have:=h5 k hk;constructor <;> omega
end
mutual
theorem Fh {p:T→Prop} (hp:∀ t,p t→∀ x∈t.l,p x):∀ (t:T) (i:Nat),p t→∀ q∈bH t i,p q.1
 | .mk k n l,i,h,q,hq=>by
   rw [bH] at hq
   rcases abJ.1 hq with hq | hq
   ·exact Ba hp l i (fun x hx=>hp _ h x hx) q hq
   ·rw [aaB.1 hq];exact h
theorem Ba {p:T→Prop} (hp:∀ t,p t→∀ x∈t.l,p x):∀ (l:List T) (i:Nat),(∀ x∈l,p x)→∀ q∈fc l i,p q.1
 | [],i,h,q,hq=>by cases hq
 | x::r,i,h,q,hq=>by
   rw [fc] at hq
   rcases abJ.1 hq with hq | hq
   ·exact Fh hp x i (h x (by simp)) q hq
   ·exact Ba hp r _ (fun y hy=>h y (by simp [hy])) q hq
end
def ej (q:Int→Int→Bool):List Int→List Int→List Int×List Int
 | [],b=>([],b)
 | x::r,b=>if b.findIdx (q x) < b.length then ej q r (b.eraseIdx (b.findIdx (q x))) else (x::(ej q r b).1,(ej q r b).2)
theorem vI {f:Int→T}:∀ {b:List Int} {j:Nat},j < b.length→(b.map f).Perm (f (b.getD j 0)::(b.eraseIdx j).map f)
 | [],j,h=>by cases h
 | y::r,0,h=>by simp
 | y::r,j + 1,h=>by
   have ih:=vI (f:=f) (b:=r) (j:=j) (by simpa using h)
   simp only [List.eraseIdx_cons_succ,List.map_cons,List.getD_cons_succ] at ih ⊢
   exact (ih.cons _).trans (List.Perm.swap _ _ _)
theorem pW {q:Int→Int→Bool}:∀ (a b:List Int),(∀ x∈(ej q a b).1,x∈a)∧∀ y∈(ej q a b).2,y∈b
 | [],b=>⟨fun x hx=>hx,fun y hy=>hy⟩
 | x::r,b=>by
   rw [ej]
   split
   ·obtain ⟨i1,i2⟩:=pW (q:=q) r (b.eraseIdx (b.findIdx (q x)))
    exact ⟨fun u hu=>by simp [i1 u hu],fun y hy=>acK (i2 y hy)⟩
   ·obtain ⟨i1,i2⟩:=pW (q:=q) r b
    refine ⟨fun u hu=>?_,i2⟩
    rcases aai.1 hu with rfl | hu
    ·simp
    ·simp [i1 u hu]
theorem lH {q:Int→Int→Bool} {f g:Int→T}:∀ (a b:List Int),(∀ x∈a,∀ y∈b,q x y=true↔f x=g y)→
 ∃ C,(a.map f).Perm ((ej q a b).1.map f++C)∧(b.map g).Perm ((ej q a b).2.map g++C)∧Q5 ((ej q a b).1.map f) ((ej q a b).2.map g)
 | [],b,h=>⟨[],by simp [ej],by simp [ej],fun z hz=>by simp [ej] at hz⟩
 | x::r,b,h=>by
   rw [ej]
   split
   ·rename_i aS
    have hq:=afR (xs:=b) (p:=q x) (w:=aS)
    have hb:b.getD (b.findIdx (q x)) 0=b[b.findIdx (q x)]:=by simp [aS]
    have hm:b.getD (b.findIdx (q x)) 0∈b:=by rw [hb];exact acf aS
    have hfg:f x=g (b.getD (b.findIdx (q x)) 0):=(h x (by simp) _ hm).1 (by rw [hb];exact hq)
    obtain ⟨C,i1,i2,i3⟩:=lH (q:=q) (f:=f) (g:=g) r (b.eraseIdx (b.findIdx (q x))) fun u hu y hy=>h u (by simp [hu]) y (acK hy)
    refine ⟨f x::C,?_,?_,i3⟩
    ·exact (i1.cons _).trans List.perm_middle.symm
    ·refine (vI aS).trans ?_
     rw [← hfg]
     exact (i2.cons _).trans List.perm_middle.symm
   ·rename_i jy
    have hn:∀ y∈b,¬ q x y=true:=fun y hy hq=>jy (afD ⟨y,hy,hq⟩)
    obtain ⟨C,i1,i2,i3⟩:=lH (q:=q) (f:=f) (g:=g) r b fun u hu y hy=>h u (by simp [hu]) y hy
    refine ⟨C,i1.cons _,i2,fun z hz EN=>?_⟩
    rcases aai.1 hz with rfl | hz
    ·obtain ⟨y,hy,e⟩:=aal.1 EN
     have hyb:=(pW (q:=q) r b).2 y hy
     exact hn y hyb ((h x (by simp) y hyb).2 e.symm)
    ·exact i3 z hz EN
theorem HF {q:Int→Int→Bool} {f g:Int→T} {a b:List Int} (h:∀ x∈a,∀ y∈b,q x y=true↔f x=g y) (hl:a.length=b.length):(ej q a b).1=[]↔(a.map f).Perm (b.map g):=by
 obtain ⟨C,h1,h2,h3⟩:=lH a b h
 rw [qD h1 h2 h3,acp,acp]
 refine ⟨fun h0=>⟨h0,?_⟩,fun h0=>h0.1⟩
 have e1:=h1.length_eq
 have e2:=h2.length_eq
 rw [h0] at e1
 simp only [aaf,ace,List.length_nil] at e1 e2
 exact aby.1 (by omega)
theorem Oe {q:Int→Int→Bool} {f g:Int→T} {G:T→T→Prop} {a b:List Int} (h:∀ x∈a,∀ y∈b,q x y=true↔f x=g y) :
 Mu G (a.map f) (b.map g)↔(ej q a b).1≠[]∧∀ y∈(ej q a b).2,∃ x∈(ej q a b).1,G (f x) (g y):=by
 obtain ⟨C,h1,h2,h3⟩:=lH a b h
 rw [M6 h1 h2 h3,Ne,acp]
 refine and_congr Iff.rfl ⟨fun hh y hy=>?_,fun hh y hy=>?_⟩
 ·obtain ⟨x,hx,hg⟩:=hh (g y) (aal.2 ⟨y,hy,rfl⟩)
  obtain ⟨u,hu,rfl⟩:=aal.1 hx
  exact ⟨u,hu,hg⟩
 ·obtain ⟨v,hv,rfl⟩:=aal.1 hy
  obtain ⟨u,hu,hg⟩:=hh v hv
  exact ⟨f u,aal.2 ⟨u,hu,rfl⟩,hg⟩
end Go.aK
end
section
set_option maxRecDepth 100000
namespace Go.aK
open Go Go.Proofs Go.eI
def kj (p:Nd):AV:=.agg [.int .i64 p.1.k,.int .i64 p.1.n,.al 0 (cJ p.1.l),.al 0 (ints p.2)]
def dy (l:List Nd):List AV:=l.map kj
def km:List Nd→AV
 | []=>.ag
 | p::r=>.al 4 (dy (p::r))
theorem eN (l:List Nd):(dy l).length=l.length:=by simp [dy]
theorem uz (p:Nd):(kj p).cells.length=4:=rfl
theorem Fi (p:Nd):(kj p).cells.all AV.one=true:=rfl
theorem KI (l:List Nd):rE 4 (dy l)=True:=by
 simp only [rE,eq_iff_iff,iff_true]
 intro y hy
 obtain ⟨z,_,rfl⟩:=aal.1 hy
 exact ⟨rfl,rfl⟩
theorem Fj (p:Nd):rE 4 [kj p]=True:=KI [p]
theorem HG (l:List Nd) (p:Nd):dy l++[kj p]=dy (l++[p]):=by simp [dy]
theorem pX (n:Nat) (l:List Nd):aj n (dy l)=true:=
 (a9 _ _).2 fun x hx=>by
   obtain ⟨p,_,rfl⟩:=aal.1 hx
   simp [kj,AV.bc,dq,bf,aj]
theorem RF (vs:List Nd) (p:Nd) (o:Nat) (ψ:List AV→Prop):bF 4 64 (km vs) (.al o [kj p]) ψ=((vs.length + 1) * 64≤140737488355328∧ψ (dy (vs++[p]))):=by
 cases vs with
 | nil=>simp [km,nB,Fj,dy]
 | cons v r=>
   show bF 4 64 (.al 4 (dy (v::r))) _ ψ=_
   rw [nC,Fj,eN,HG]
   simp
theorem RG {l:List Nd} (h:l≠[]):AV.al 4 (dy l)=km l:=by
 cases l with
 | nil=>exact absurd rfl h
 | cons _ _=>rfl
theorem ru (l:List Nd):(km l).one=true∧(km l).val=true∧(km l).cells=[km l]∧(∀ n,(km l).bc n=true)∧aO 1 (km l)=True∧∀ (H:List aa) (φ:AV→Prop),fg (km l) H φ=(l.length < 9223372036854775808→φ (.int .i64 l.length)):=by
 cases l with
 | nil=>exact ⟨rfl,rfl,rfl,fun _=>rfl,by simp [km,aO],fun _ φ=>by show φ _=_;simp⟩
 | cons p r=>exact ⟨rfl,rfl,rfl,fun n=>by rw [km,bW];exact pX n _,by simp [km,aO],fun _ φ=>by show (_→φ _)=_;rw [eN]⟩
theorem RH (l:List Nd):aO 1 (km l).ab=True∧∀ (H:List aa) (φ:AV→Prop),fg (km l).ab H φ=(l.length < 9223372036854775808→φ (.int .i64 l.length)):=by
 cases l with
 | nil=>exact ⟨by simp [km,AV.ab,aO],fun _ φ=>by show φ _=_;simp⟩
 | cons p r=>exact ⟨by simp [km,AV.ab,aO],fun _ φ=>by show (_→φ _)=_;rw [eN]⟩
theorem Of (t:T) (ks:List Int) (φ:AV→Prop):dd (some (.cells [.int .i64 t.k,.int .i64 t.n,.al 0 (cJ t.l),iW ks])) (some 4) 0 φ=φ (kj (t,ks)):=by
 cases ks <;> simp [dd,kj,iW,AV.drop,ints]
theorem RI (p:Nd):a7 (kj p)=kj p:=rfl
theorem CW (p:Nd):(kj p).val=true:=rfl
theorem abi:∀ (N:Nat) (t:T),wt t≤N→∀ (xs:List Nd) (H:List aa),(xs.length + wt t) * 64≤140737488355328→
 ax Tryz.prog 187 [km xs,t.av] H fun r H'=>r=km (xs++bH t xs.length)∧H'=H:=by
 intro N
 induction N with
 | zero=>intro t ht;have:=dH t;omega
 | succ N ih=>
 intro t ht xs H hb
 have hw:=xZ t
 have ZS:=gI t.l
 refine YC.2.calls rfl ?_
 simp only [YC,aG]
 simp +contextual only [bdN,sZ,Nat.reduceEqDiff,Nat.reduceAdd,↓reduceIte,reduceCtorEq]
 have eS:∀ i,(xs++fc (t.l.take i) xs.length).length=xs.length + fM (t.l.take i):=fun i=>by rw [aaf,mN]
 refine aD t.l.length (fun i=>True) (fun i=>[(0,km (xs++fc (t.l.take i) xs.length)),(3,.ai t.av),(5,.ptr H.length 0),(6,.int .i64 i)])
  (fun i=>H++[.cells [.int .i64 t.k,.int .i64 t.n,.al 0 (cJ t.l),iW (gU (t.l.take i) xs.length)]]) ⟨trivial,aE (by simp [fc]) rfl⟩ fun i hi hI=>?_
 have hle:=cZ t.l i
 have FY:=yH (t.l.take i) xs.length
 have Q9:(t.l.take i).length≤t.l.length:=by simp;omega
 obtain ⟨f1,f2,f3,f4,f5,f6⟩:=ru (xs++fc (t.l.take i) xs.length)
 simp +contextual only [sZ,Nat.reduceEqDiff,Nat.reduceAdd,↓reduceIte,reduceCtorEq]
 refine fun _=>⟨fun aS=>⟨bN aS,?_⟩,fun jw=>?_⟩
 ·have aS:=bN aS
  have hwt:=mE aS
  have hnext:=cZ t.l (i + 1)
  have e2:t.l.take (i + 1)=t.l.take i++[t.l.getD i default]:=by rw [abT aS];simp [aS]
  have hwp:=dH (t.l.getD i default)
  refine af (ih (t.l.getD i default) (by have:=cR (fa aS);omega) _ _ (by rw [eS];omega)) ?_
  rintro r G' ⟨rfl,rfl⟩
  have e3:xs++fc (t.l.take i) xs.length++bH (t.l.getD i default) (xs++fc (t.l.take i) xs.length).length=xs++fc (t.l.take (i + 1)) xs.length:=by
   rw [eS,e2,yG,abb]
  rw [e3]
  obtain ⟨f5,f6⟩:=RH (xs++fc (t.l.take (i + 1)) xs.length)
  have vW:=eS (i + 1)
  simp +contextual only [f5,f6,vW,MT,MU,oZ,g9,List.getD_cons_succ,List.getD_cons_zero,afY,afe,sZ,Nat.reduceEqDiff,Nat.reduceAdd,Nat.reduceLT,↓reduceIte,reduceCtorEq]
  refine fun _=>⟨by omega,i + 1,aS,by omega,aE (by rw [au i (by omega)]) ?_⟩
  have e4:IntKind.i64.wrap (((xs.length + fM (t.l.take (i + 1)):Nat):Int) - 1)=((xs.length + fM (t.l.take i) + wt (t.l.getD i default) - 1:Nat):Int):=by
   rw [cr _ (by omega)];omega
  rw [e4,e2,vH]
 ·have k9:i=t.l.length:=by have:=dh jw;omega
  subst k9
  have vW:=eS t.l.length
  rw [abp] at vW hle ⊢
  simp +contextual only [Of,RI,CW,uz,RF,vW,sZ,Nat.reduceEqDiff,↓reduceIte,reduceCtorEq]
  refine ⟨by omega,aX H.length (rC _) (by rw [aA,if_pos rfl,bW];exact pX _ _) ⟨?_,by simp⟩⟩
  rw [aA,if_pos rfl,RG (by simp),Ob,abb]
end Go.aK
end
section
set_option maxRecDepth 100000
namespace Go.aK
open Go Go.Proofs Go.eI
structure Wu (ps:List Int) (l:List Nd):Prop where
 ne:l≠[]
 len:l.length≤100000000
 np:NP l
 kl:∀ i:Nat,i < l.length→(nk l i).length≤100000000
 kd:∀ i:Nat,i < l.length→(nt l i).k=1∨(nt l i).k=2
 op:∀ i:Nat,i < l.length→(nt l i).k=2→0≤(nt l i).n∧(nt l i).n < ps.length
structure Tb where
 ps:List Int
 ss:List Int
 a:List Nd
 b:List Nd
def Tb.O (c:Tb):Od:=b9 c.ps c.ss
def Tb.f (c:Tb) (x:Int):T:=norm c.O (nt c.a x)
def Tb.g (c:Tb) (y:Int):T:=norm c.O (nt c.b y)
def Tb.tE (c:Tb) (i k:Int):Prop:=c.f i=c.g k
def Tb.tR (c:Tb) (i k:Int):Prop:=Gt c.O.sp (c.f i) (c.g k)
structure Tb.Ok (c:Tb):Prop where
 va:Va c.ps c.ss
 a:Wu c.ps c.a
 b:Wu c.ps c.b
theorem Wu.kids {ps:List Int} {l:List Nd} (h:Wu ps l) {i:Int} (h0:0≤i) (h1:i < l.length):(nk l i).map (nt l)=(nt l i).l∧(∀ k∈nk l i,0≤k∧k < i)∧(nk l i).length≤100000000:=by
 obtain ⟨n,rfl⟩:=abV h0
 obtain ⟨h2,h3⟩:=h.np n (by omega)
 exact ⟨h2,h3,h.kl n (by omega)⟩
theorem Wu.kind {ps:List Int} {l:List Nd} (h:Wu ps l) {i:Int} (h0:0≤i) (h1:i < l.length):((nt l i).k=1∨(nt l i).k=2)∧((nt l i).k=2→0≤(nt l i).n∧(nt l i).n < ps.length):=by
 obtain ⟨n,rfl⟩:=abV h0
 exact ⟨h.kd n (by omega),h.op n (by omega)⟩
def Row (es:List AV) (H:List aa) (nb:Nat) (j m:Int) (Q:Prop):Prop:=
 ∃ r bs x,es.getD j.toNat .any=.aZ r 0 nb nb∧j.toNat < es.length∧H[r]?=some (.cells bs)∧m.toNat < bs.length∧bs.getD m.toNat .any=.bool x∧(x=true↔Q)
structure TbX (c:Tb) (x:Nat) (i k:Int) (H:List aa) (ie ne ce:Nat) (ese:List AV) (ig ng cg:Nat) (esg:List AV):Prop where
 x:H[x]?=some (.cells [.al 0 (ints c.ps),.al 0 (ints c.ss),.al 0 (dy c.a),.al 0 (dy c.b),.aZ ie 0 ne ce,.aZ ig 0 ng cg])
 e:H[ie]?=some (.cells ese)
 g:H[ig]?=some (.cells esg)
 ne:i < ne
 ng:i < ng
 rows:∀ j m:Int,0≤j→0≤m→m < c.b.length→(j < i∨j=i∧m < k)→Row ese H c.b.length j m (c.tE j m)∧Row esg H c.b.length j m (c.tR j m)
def Tn (c:Tb) (x:Nat) (i k:Int) (H:List aa):Prop:=∃ ie ne ce ese ig ng cg esg,TbX c x i k H ie ne ce ese ig ng cg esg
theorem I8 (e o:Nat) (l:List Nd) (k:IntKind) (i:Int) (φ:AV→Prop):aC e (.al o (dy l)) (.int k i) φ=((0≤i∧i < l.length)∧φ (.ai (kj (l.getD i.toNat default)))):=by
 simp only [aC,eN,eq_iff_iff]
 constructor
 ·rintro ⟨h0,h,h2⟩;refine ⟨by omega,?_⟩;simpa [dy,h] using h2
 ·rintro ⟨⟨h0,h⟩,h2⟩;have h:i.toNat < l.length:=by omega
  refine ⟨h0,h,?_⟩;simpa [dy,h] using h2
theorem pY (o:Nat) (l:List Nd):(∀ (own:Nat) (xs:List AV),AV.al o (dy l)=AV.al own xs→∀ z∈xs,z.cells.length=4)=True:=by
 simp only [eq_iff_iff,iff_true]
 intro own xs e z hz
 cases e
 obtain ⟨p,_,rfl⟩:=aal.1 hz
 rfl
theorem sX (e id N c:Nat) (k:IntKind) (i:Int) (φ:AV→Prop):aC e (.aZ id 0 N c) (.int k i) φ=((0≤i∧i < N)∧φ (.ptr id (i.toNat * e))):=by
 simp only [aC,abM,eq_iff_iff]
 constructor
 ·rintro ⟨h0,h,h2⟩;exact ⟨by omega,h2⟩
 ·rintro ⟨⟨h0,h⟩,h2⟩;exact ⟨h0,by omega,h2⟩
theorem RJ (p:Nd) (φ:AV→Prop):ap 0 (some 3) (.ai (kj p)) φ=φ (.ai p.1.av):=by
 obtain ⟨⟨k,n,l⟩,ks⟩:=p
 simp [ap,kj,apart,AV.cells,T.av,T.k,T.n,T.l]
theorem KX (p:Nd) (φ:AV→Prop):ap 3 none (.ai (kj p)) φ=φ (.ai (.al 0 (ints p.2))):=by
 simp [ap,kj,apart,AV.cells,AV.one]
theorem gK (l:List Nd) (i:Int):(l.getD i.toNat default).2=nk l i:=rfl
theorem ko (l:List Nd) (i:Int):(l.getD i.toNat default).1=nt l i:=rfl
theorem cu {l:List Int} {n:Nat} (h:n < l.length):l.getD n 0∈l:=by simp [h]
theorem pZ {l:List Int} {y:Int} (h:y∈l):∃ m,m < l.length∧l.getD m 0=y:=by
 obtain ⟨m,hm,e⟩:=List.mem_iff_getElem.1 h
 exact ⟨m,hm,by simp [hm,e]⟩
theorem fq {H:List aa} {s:Nat} {b:Bool} {Q:AV→Prop} (h:Q (.bool b)):bV H.length [.t s] [(s,.bool b)] H fun r H'=>Q r∧H'=H:=
 aX H.length (rC _) (by rw [aA,if_pos rfl];rfl) ⟨by rw [aA,if_pos rfl];exact h,abp⟩
theorem Wv (ps ss:List Int) (a b:T) (ha:0≤a.n∧a.n < ps.length) (hb:0≤b.n∧b.n < ps.length):Pure Tryz.prog 158 [dV ps ss,a.av,b.av] (.bool (decide ((b9 ps ss).pl a.n=(b9 ps ss).pl b.n))):=by
 refine fun H=>Yk.2.calls rfl ?_
 simp only [Yk,aG]
 obtain ⟨q1,q2,q3,q4,q5,q6⟩:=aQ ps ss
 simp +contextual only [q1,sR,aM,sZ,Nat.reduceEqDiff,Nat.reduceAdd,↓reduceIte,reduceCtorEq]
 exact ⟨ha,hb,a8 rfl rfl⟩
theorem HH (l:List Int) {i:Nat} (h:i < l.length):(l.drop (l.length - i)).reverse++[l.getD (l.length - 1 - i) 0]=(l.drop (l.length - (i + 1))).reverse:=by
 have e:l.drop (l.length - (i + 1))=l.getD (l.length - 1 - i) 0::l.drop (l.length - i):=by
  rw [abr (by omega)]
  have e1:l.length - (i + 1) + 1=l.length - i:=by omega
  have e2:l.length - (i + 1)=l.length - 1 - i:=by omega
  rw [e1];congr 1
  have h3:l.length - 1 - i < l.length:=by omega
  simp [h3,e2]
 rw [e,af3]
theorem Fk (vs:List Int):(iW vs).ab.ab.le (.al 0 (ints vs)):=by
 have:=GV vs
 cases vs <;> exact this
theorem abj (ps ss:List Int) (a:T) (l:List Int) (H7:l.length≤100000000) (ha:0≤a.n∧a.n < ss.length):Pure Tryz.prog 227 [dV ps ss,a.av,.al 0 (ints l)] (.al 0 (ints (bt (ss.getD a.n.toNat 0) l))):=by
 refine fun H=>Y6.2.calls rfl ?_
 simp only [Y6,aG]
 obtain ⟨q1,q2,q3,q4,q5,q6⟩:=aQ ps ss
 simp +contextual only [q1,qh,aM,sZ,Nat.reduceEqDiff,Nat.reduceAdd,↓reduceIte,reduceCtorEq]
 refine ⟨ha,fun h=>?_,fun h=>?_⟩
 ·refine a8 (by rw [bW,bf]) ?_
  rw [bt,if_neg h]
 ·intro hl
  refine aD l.length (fun i=>True) (fun i=>[(2,.al 0 (ints l)),(7,iW (l.drop (l.length - i)).reverse),(8,.int .i64 ((l.length:Int) - 1 - i))]) (fun i=>H) ⟨trivial,aE ?_ rfl⟩ fun i hi _=>?_
  ·rw [cr _ (by omega)];simp [iW]
  have hlen:(l.drop (l.length - i)).reverse.length=i:=by simp;omega
  have OK:0≤(i:Int):=by omega
  simp +contextual only [aM,oZ,g9,hlen,sZ,Nat.reduceEqDiff,Nat.reduceAdd,↓reduceIte,reduceCtorEq]
  clear hlen
  refine ⟨fun h1=>?_,fun h1=>?_⟩
  ·refine ⟨by omega,by omega,i + 1,by omega,by omega,aE ?_ rfl⟩
   have e:((l.length:Int) - 1 - i).toNat=l.length - 1 - i:=by omega
   have e5:(l.length:Int) - 1 - i - 1=l.length - 1 - ((i + 1:Nat):Int):=by omega
   rw [cr _ (by omega),e,HH l (by omega),e5]
  ·have k9:i=l.length:=by omega
   subst k9
   refine ⟨H.length,rC _,_,Fk _,by rw [bW,bf],?_,abp⟩
   rw [adj,List.drop_zero,bt,if_pos h]
theorem afm {c:Tb} (hc:c.Ok) {x:Nat} {i k:Int} {H:List aa} (hT:Tn c x i k H) (hi:0≤i∧i < c.a.length) (hk:0≤k∧k < c.b.length) :
 ax Tryz.prog 224 [.ptr x 0,.int .i64 i,.int .i64 k] H fun r H'=>(∃ b:Bool,r=.bool b∧(b=true↔∀ y∈nk c.b k,c.tR i y))∧H'=H:=by
 obtain ⟨ie,ne,ce,ese,ig,ng,cg,esg,h⟩:=hT
 refine Y3.2.calls rfl ?_
 simp only [Y3,aG]
 simp +contextual only [sZ,Nat.reduceEqDiff,Nat.reduceAdd,↓reduceIte,reduceCtorEq]
 obtain ⟨pn,qm,Xo⟩:=hc.b.kids hk.1 hk.2
 refine aD (nk c.b k).length (fun n=>∀ m,m < n→c.tR i ((nk c.b k).getD m 0)) (fun n=>[(0,.ptr x 0),(1,.int .i64 i),(2,.int .i64 k),(7,.int .i64 n)]) (fun _=>H) ⟨fun m hm=>(by cases hm),aB _ _ _⟩ fun n hn hI=>?_
 by_cases aS:n < (nk c.b k).length
 ·obtain ⟨y0,yk⟩:=qm _ (cu aS)
  obtain ⟨_,r,bs,xb,e1,e2,e3,e4,e5,e6⟩:=h.rows i ((nk c.b k).getD n 0) hi.1 y0 (by omega) (.inr ⟨rfl,yk⟩)
  have l1:decide ((n:Int) < (nk c.b k).length)=true:=decide_eq_true (by omega)
  simp +contextual only [h.x,h.g,I8,pY,KX,gK,aM,sX,e1,e3,e5,l1,List.getD_cons_succ,List.getD_cons_zero,abR,yP,sZ,Nat.reduceEqDiff,Nat.reduceAdd,Nat.reduceLT,↓reduceIte,reduceCtorEq]
  refine ⟨hk,fun _=>⟨⟨hi.1,h.ng⟩,e2,hk,⟨by omega,by omega⟩,⟨y0,by omega⟩,e4,?_⟩⟩
  simp +contextual only [sZ]
  cases xb with
  | false=>
    simp +contextual only [sZ,↓reduceIte,reduceCtorEq]
    exact fq ⟨false,rfl,fun h=>absurd h (by simp),fun hh=>absurd (e6.2 (hh _ (cu aS))) (by simp)⟩
  | true=>
    simp +contextual only [sZ,Nat.reduceEqDiff,↓reduceIte,reduceCtorEq]
    refine ⟨n + 1,⟨aS,fun m hm=>?_⟩,by omega,aE (by rw [au n (by omega)]) rfl⟩
    by_cases e:m=n
    ·subst e;exact e6.1 rfl
    ·exact hI m (by omega)
 ·have l1:decide ((n:Int) < (nk c.b k).length)=false:=decide_eq_false (by omega)
  simp +contextual only [h.x,I8,pY,KX,gK,l1,List.getD_cons_succ,List.getD_cons_zero,sZ,Nat.reduceEqDiff,Nat.reduceAdd,Nat.reduceLT,↓reduceIte,reduceCtorEq]
  refine ⟨hk,fun _=>fq ⟨true,rfl,fun _ y hy=>?_,fun _=>rfl⟩⟩
  obtain ⟨m,hm,rfl⟩:=pZ hy
  exact hI m (by omega)
end Go.aK
end
section
set_option maxRecDepth 100000
namespace Go.aK
open Go Go.Proofs Go.eI
structure KY (c:Tb) (i:Int) (a b:List Int):Prop where
 ia:∀ x∈a,0≤x∧x < i
 ib:∀ y∈b,0≤y∧y < c.b.length
 la:a.length≤100000000
 lb:b.length≤100000000
theorem TbX.cell {c:Tb} {x:Nat} {i k:Int} {H:List aa} {ie ne ce:Nat} {ese:List AV} {ig ng cg:Nat} {esg:List AV} (h:TbX c x i k H ie ne ce ese ig ng cg esg) {a b:List Int} (hI:KY c i a b) {n m:Nat} (hn:n < a.length) (hm:m < b.length) :
 Row ese H c.b.length (a.getD n 0) (b.getD m 0) (c.tE (a.getD n 0) (b.getD m 0))∧Row esg H c.b.length (a.getD n 0) (b.getD m 0) (c.tR (a.getD n 0) (b.getD m 0)):=
 h.rows _ _ (hI.ia _ (cu hn)).1 (hI.ib _ (cu hm)).1 (hI.ib _ (cu hm)).2 (.inl (hI.ia _ (cu hn)).2)
theorem RK {f g:Int→T} {G:T→T→Prop} (irr:∀ x,¬ G x x) {l m:List Int} {n:Nat} (hl:n < l.length) (hm:n < m.length) :
 Lx G ((l.drop n).map f) ((m.drop n).map g)↔if f (l.getD n 0)=g (m.getD n 0) then Lx G ((l.drop (n + 1)).map f) ((m.drop (n + 1)).map g) else G (f (l.getD n 0)) (g (m.getD n 0)):=by
 have e1:l[n]=l.getD n 0:=by simp [hl]
 have e2:m[n]=m.getD n 0:=by simp [hm]
 rw [abr hl,abr hm,e1,e2,List.map_cons,List.map_cons,Lx]
 split
 ·rename_i e
  rw [e]
  exact ⟨fun h=>by rcases h with h | h;exact h.2;exact absurd h (irr _),fun h=>.inl ⟨rfl,h⟩⟩
 ·rename_i e
  exact ⟨fun h=>by rcases h with h | h;exact absurd h.1 e;exact h,.inr⟩
noncomputable def Tb.rest (c:Tb) (a b:List Int):List Int×List Int:=ej (fun x y=>decide (c.f x=c.g y)) a b
theorem findIdx_le {q:Int→Bool} {b:List Int} {m:Nat} (hm:m < b.length) (h1:q (b.getD m 0)=true) (h2:∀ j,j < m→q (b.getD j 0)=false):b.findIdx q=m:=by
 have e:∀ j,(h:j < b.length)→b.getD j 0=b[j]:=fun j h=>by simp [h]
 rw [List.findIdx_eq hm]
 exact ⟨by rw [← e m hm];exact h1,fun j hj=>by rw [← e j (by omega)];exact h2 j hj⟩
theorem CX {q:Int→Bool} {b:List Int} (h:∀ j,j < b.length→q (b.getD j 0)=false):¬ b.findIdx q < b.length:=fun aS=>by
 have h1:=afR (xs:=b) (p:=q) (w:=aS)
 have:=h _ aS
 simp [aS,h1] at this
theorem ox1 (env:Env) (i:IX):gQ env (some i)=some (aq env i):=rfl
theorem ox2 (env:Env):gQ env none=none:=rfl
theorem slD (l:List Int) (n:Int) (h:0≤n∧n≤l.length) (φ:AV→Prop):bA 1 (.al 0 (ints l)) (some (.int .i64 n)) none none φ=φ (.al 0 (ints (l.drop n.toNat))):=by
 have er:dB (AV.al 0 (ints l))=some (ints l):=rfl
 have e2:((ints l).take (ints l).length).drop n.toNat=ints (l.drop n.toNat):=by rw [abp];simp [ints]
 simp only [bA,fD,er,eo,e2,eq_iff_iff]
 constructor
 ·intro h;exact h.2.2.2.2
 ·intro h'
  refine ⟨fun own xs he z hz=>?_,by omega,by have:=aw l;omega,rC _,h'⟩
  cases he
  obtain ⟨y,_,rfl⟩:=aal.1 hz
  rfl
theorem abk {H:List aa} {a b:Nat} {u v x y:AV} (vA:b≠a) (hx:u.ab=x) (hy:v.ab=y) (bx:x.bc H.length=true) (tc:y.bc H.length=true):bV H.length [.t a,.t b] [(a,u),(b,v)] H fun r H'=>r=.tuple [x,y]∧H'=H:=by
 subst hx;subst hy
 refine ⟨H.length,rC _,[u.ab,v.ab],?_,by simp only [aj,bx,tc,aco],rfl,abp⟩
 simp only [aA,if_neg vA,if_true,List.map]
 exact b8 _
theorem abl {c:Tb} {x:Nat} {i k:Int} {H:List aa} (hT:Tn c x i k H) {a b:List Int} (vA:KY c i a b) :
 ax Tryz.prog 223 [.ptr x 0,.al 0 (ints a),.al 0 (ints b)] H fun r H'=>r=.tuple [bu (c.rest a b).1,.al 0 (ints (c.rest a b).2)]∧H'=H:=by
 obtain ⟨ie,ne,ce,ese,ig,ng,cg,esg,h⟩:=hT
 have S2:=vA.la
 have OK:=vA.lb
 refine Y2.2.calls rfl ?_
 simp only [Y2,aG]
 simp +contextual only [sZ,Nat.reduceEqDiff,Nat.reduceAdd,↓reduceIte,reduceCtorEq]
 refine aJ a.length (fun n (p:List Int×List Int)=>KY c i a p.2∧p.1.length≤n∧c.rest a b=(p.1++(c.rest (a.drop n) p.2).1,(c.rest (a.drop n) p.2).2))
  (fun n p=>[(0,.ptr x 0),(1,.al 0 (ints a)),(8,iW p.1),(9,.al 0 (ints p.2)),(10,.int .i64 n)]) (fun _ _=>H) ([],b) ⟨⟨vA,rC _,rfl⟩,aB _ _ _⟩ fun n p hn hI=>?_
 obtain ⟨l,m⟩:=p
 obtain ⟨k8,H7,hI⟩:=hI
 simp only at k8 H7 hI
 by_cases h1:n < a.length
 ·have l1:decide ((n:Int) < a.length)=true:=decide_eq_true (by omega)
  simp +contextual only [l1,sZ,Nat.reduceEqDiff,↓reduceIte,reduceCtorEq]
  intro _
  obtain ⟨a0,a1⟩:=k8.ia _ (cu h1)
  have O5:=k8.lb
  have dJ:=h.ne
  have hrest (Q:List Int×List Int) (hQ:ej (fun x y=>decide (c.f x=c.g y)) (a.drop n) m=Q):c.rest (a.drop n) m=Q:=hQ
  have edrop:a.drop n=a.getD n 0::a.drop (n + 1):=by rw [abr h1];simp [h1]
  refine aJ m.length (fun j (q:Int)=>(q=-1∧∀ s,s < j→¬ c.tE (a.getD n 0) (m.getD s 0))∨∃ s:Nat,q=s∧s < j∧c.tE (a.getD n 0) (m.getD s 0)∧∀ u,u < s→¬ c.tE (a.getD n 0) (m.getD u 0))
   (fun j q=>[(0,.ptr x 0),(1,.al 0 (ints a)),(8,iW l),(9,.al 0 (ints m)),(10,.int .i64 n),(11,.int .i64 q),(12,.int .i64 j)]) (fun _ _=>H) (-1) ⟨.inl ⟨rfl,fun s hs=>(by cases hs)⟩,aB _ _ _⟩ fun j q hj hJ=>?_
  by_cases h2:j < m.length
  ·have l2:decide ((j:Int) < m.length)=true:=decide_eq_true (by omega)
   obtain ⟨⟨r,bs,xb,e1,e2,e3,e4,e5,e6⟩,_⟩:=h.cell k8 h1 h2
   obtain ⟨b0,b1⟩:=k8.ib _ (cu h2)
   rcases hJ with ⟨rfl,hJ⟩ | ⟨s,rfl,hs,hJ,hJ2⟩
   ·cases xb with
    | false=>
      simp +contextual only [h.x,h.e,aM,sX,e1,e3,e5,l2,List.getD_cons_succ,List.getD_cons_zero,abR,yP,sZ,Nat.reduceEqDiff,Nat.reduceAdd,Nat.reduceLT,↓reduceIte,reduceCtorEq,Int.reduceLT]
      refine fun _=>⟨⟨by omega,by omega⟩,⟨a0,by omega⟩,e2,⟨by omega,by omega⟩,⟨b0,b1⟩,e4,j + 1,-1,⟨h2,.inl ⟨rfl,fun u hu=>?_⟩⟩,by omega,aE (by rw [au j (by omega)]) rfl⟩
      by_cases e:u=j
      ·subst e;exact fun hh=>absurd (e6.2 hh) (by simp)
      ·exact hJ u (by omega)
    | true=>
      simp +contextual only [h.x,h.e,aM,sX,e1,e3,e5,l2,List.getD_cons_succ,List.getD_cons_zero,abR,yP,sZ,Nat.reduceEqDiff,Nat.reduceAdd,Nat.reduceLT,↓reduceIte,reduceCtorEq,Int.reduceLT]
      exact fun _=>⟨⟨by omega,by omega⟩,⟨a0,by omega⟩,e2,⟨by omega,by omega⟩,⟨b0,b1⟩,e4,j + 1,j,⟨h2,.inr ⟨j,rfl,by omega,e6.1 rfl,hJ⟩⟩,by omega,aE (by rw [au j (by omega)]) rfl⟩
   ·have l3:decide ((s:Int) < 0)=false:=decide_eq_false (by omega)
    simp +contextual only [l2,l3,sZ,Nat.reduceEqDiff,↓reduceIte,reduceCtorEq]
    exact fun _=>⟨j + 1,s,⟨h2,.inr ⟨s,rfl,by omega,hJ,hJ2⟩⟩,by omega,aE (by rw [au j (by omega)]) rfl⟩
  ·have l2:decide ((j:Int) < m.length)=false:=decide_eq_false (by omega)
   have hjm:j=m.length:=by omega
   subst hjm
   rcases hJ with ⟨rfl,hJ⟩ | ⟨s,rfl,hs,hJ,hJ2⟩
   ·simp +contextual only [l2,aM,oZ,g9,yP,sZ,Nat.reduceEqDiff,Nat.reduceAdd,↓reduceIte,reduceCtorEq,Int.reduceLT]
    have e1:c.rest (a.drop n) m=(a.getD n 0::(c.rest (a.drop (n + 1)) m).1,(c.rest (a.drop (n + 1)) m).2):=by
     refine hrest _ ?_
     rw [edrop,ej,if_neg (CX fun u hu=>decide_eq_false (show ¬ c.f _=c.g _ from hJ u hu))];rfl
    refine fun _=>⟨⟨by omega,by omega⟩,by omega,n + 1,(l++[a.getD n 0],m),⟨h1,k8,by simp;omega,?_⟩,by omega,aE (by rw [au n (by omega)]) rfl⟩
    rw [hI,e1];simp
   ·have l3:decide ((s:Int) < 0)=false:=decide_eq_false (by omega)
    have w1:=au s (by omega)
    simp +contextual only [l2,l3,w1,ox1,ox2,slT m s ⟨by omega,by omega⟩,slD m ((s + 1:Nat):Int) ⟨by omega,by omega⟩,yP,sZ,Nat.reduceEqDiff,↓reduceIte,reduceCtorEq]
    have e2:m.eraseIdx s=m.take s++m.drop (s + 1):=acI m s
    have e1:c.rest (a.drop n) m=c.rest (a.drop (n + 1)) (m.eraseIdx s):=by
     refine hrest _ ?_
     have ef:m.findIdx (fun y=>decide (c.f (a.getD n 0)=c.g y))=s:=findIdx_le hs (decide_eq_true (show c.f _=c.g _ from hJ)) fun u hu=>decide_eq_false (show ¬ c.f _=c.g _ from hJ2 u hu)
     rw [edrop,ej,ef,if_pos hs];rfl
    have R5:(m.eraseIdx s).length≤m.length:=by rw [List.length_eraseIdx];split <;> omega
    refine fun _=>⟨by simp;omega,by simp;omega,n + 1,(l,m.eraseIdx s),⟨h1,⟨k8.ia,fun y hy=>k8.ib y (acK hy),k8.la,by show (m.eraseIdx s).length≤_;omega⟩,by show l.length≤_;omega,?_⟩,by omega,aE (by rw [au n (by omega),e2];simp [ints]) rfl⟩
    rw [hI,e1]
 ·have l1:decide ((n:Int) < a.length)=false:=decide_eq_false (by omega)
  simp +contextual only [l1,sZ,Nat.reduceEqDiff,↓reduceIte,reduceCtorEq]
  intro _
  have wc:n=a.length:=by omega
  subst wc
  rw [List.drop_length] at hI
  have e0:c.rest [] m=([],m):=rfl
  rw [e0,abQ] at hI
  rw [hI]
  refine abk (by decide) ?_ rfl ((aI l).2.2.1 _) (by rw [bW,bf])
  rw [(eV l).2.1,(aI l).2.1];exact (aI l).2.1
theorem afo {c:Tb} {x:Nat} {i k:Int} {H:List aa} (hT:Tn c x i k H) {l m:List Int} (O5:KY c i l m) :
 ax Tryz.prog 226 [.ptr x 0,.al 0 (ints l),.al 0 (ints m)] H fun r H'=>(∃ b:Bool,r=.bool b∧(b=true↔Lx (Gt c.O.sp) (l.map c.f) (m.map c.g)))∧H'=H:=by
 obtain ⟨ie,ne,ce,ese,ig,ng,cg,esg,h⟩:=hT
 have S2:=O5.la
 have OK:=O5.lb
 refine Y5.2.calls rfl ?_
 simp only [Y5,aG]
 simp +contextual only [sZ,Nat.reduceEqDiff,Nat.reduceAdd,↓reduceIte,reduceCtorEq]
 refine aD l.length (fun n=>n≤m.length∧(Lx (Gt c.O.sp) (l.map c.f) (m.map c.g)↔Lx (Gt c.O.sp) ((l.drop n).map c.f) ((m.drop n).map c.g))) (fun n=>[(0,.ptr x 0),(1,.al 0 (ints l)),(2,.al 0 (ints m)),(7,.int .i64 n)]) (fun _=>H) ⟨⟨by omega,Iff.rfl⟩,aB _ _ _⟩ fun n hn hI=>?_
 obtain ⟨R3,hI⟩:=hI
 by_cases h1:n < l.length
 ·have l1:decide ((n:Int) < l.length)=true:=decide_eq_true (by omega)
  by_cases h2:n < m.length
  ·have l2:decide ((m.length:Int)≤n)=false:=decide_eq_false (by omega)
   obtain ⟨⟨r,bs,xb,e1,e2,e3,e4,e5,e6⟩,r',bs',xb',e1',e2',e3',e4',e5',e6'⟩:=h.cell O5 h1 h2
   obtain ⟨a0,a1⟩:=O5.ia _ (cu h1)
   obtain ⟨b0,b1⟩:=O5.ib _ (cu h2)
   have dJ:=h.ne
   have hng:=h.ng
   rw [RK (fun x=>xW x) h1 h2] at hI
   cases xb with
   | true=>
     rw [if_pos (show c.f _=c.g _ from e6.1 rfl)] at hI
     simp +contextual only [h.x,h.e,aM,sX,e1,e3,e5,l1,l2,List.getD_cons_succ,List.getD_cons_zero,abR,yP,sZ,Nat.reduceEqDiff,Nat.reduceAdd,Nat.reduceLT,↓reduceIte,reduceCtorEq]
     refine fun _ _=>⟨by omega,by omega,e2,by omega,⟨b0,b1⟩,e4,?_⟩
     exact ⟨n + 1,⟨h1,by omega,hI⟩,by omega,aE (by rw [au n (by omega)]) rfl⟩
   | false=>
     rw [if_neg (show ¬ c.f _=c.g _ from fun hh=>absurd (e6.2 hh) (by simp))] at hI
     simp +contextual only [h.x,h.e,h.g,aM,sX,e1,e3,e5,e1',e3',e5',l1,l2,List.getD_cons_succ,List.getD_cons_zero,abR,yP,sZ,Nat.reduceEqDiff,Nat.reduceAdd,Nat.reduceLT,↓reduceIte,reduceCtorEq]
     refine fun _ _=>⟨by omega,by omega,e2,by omega,⟨b0,b1⟩,e4,by omega,by omega,e2',⟨by omega,by omega⟩,⟨b0,b1⟩,e4',fq ⟨xb',rfl,?_⟩⟩
     rw [hI];exact e6'
  ·have l2:decide ((m.length:Int)≤n)=true:=decide_eq_true (by omega)
   simp +contextual only [l1,l2,sZ,Nat.reduceEqDiff,↓reduceIte,reduceCtorEq]
   refine fun _ _=>fq ⟨true,rfl,fun _=>hI.2 ?_,fun _=>rfl⟩
   rw [abr h1,abu (show m.length≤n by omega)]
   exact trivial
 ·have l1:decide ((n:Int) < l.length)=false:=decide_eq_false (by omega)
  simp +contextual only [l1,sZ,Nat.reduceEqDiff,↓reduceIte,reduceCtorEq]
  refine fun _=>fq ⟨false,rfl,fun h=>absurd h (by simp),fun hh=>?_⟩
  have:=hI.1 hh
  rw [abu (by omega)] at this
  exact absurd this (fun h=>h)
end Go.aK
end
section
set_option maxRecDepth 100000
namespace Go.aK
open Go Go.Proofs Go.eI
theorem KY.rest {c:Tb} {i:Int} {a b:List Int} (h:KY c i a b):KY c i (c.rest a b).1 (c.rest a b).2:=by
 obtain ⟨h1,h2⟩:=pW (q:=fun x y=>decide (c.f x=c.g y)) a b
 have hl:∀ (a b:List Int),(ej (fun x y=>decide (c.f x=c.g y)) a b).1.length≤a.length∧(ej (fun x y=>decide (c.f x=c.g y)) a b).2.length≤b.length:=by
  intro a
  induction a with
  | nil=>intro b;simp [ej]
  | cons x r ih=>
    intro b
    rw [ej]
    split
    ·have:=ih (b.eraseIdx (b.findIdx fun y=>decide (c.f x=c.g y)))
     have h3:(b.eraseIdx (b.findIdx fun y=>decide (c.f x=c.g y))).length≤b.length:=by rw [List.length_eraseIdx];split <;> omega
     simp only [List.length_cons];omega
    ·have:=ih b
     simp only [List.length_cons];omega
 exact ⟨fun x hx=>h.ia x (h1 x hx),fun y hy=>h.ib y (h2 y hy),by have:=(hl a b).1;have:=h.la;unfold Tb.rest;omega,by have:=(hl a b).2;have:=h.lb;unfold Tb.rest;omega⟩
theorem Og {l:List Int} (h:l≠[]):bu l=.al 0 (ints l):=by cases l;exact absurd rfl h;rfl
theorem abm (l:List Int):aO 1 (bu l)=True∧(∀ (H:List aa) (φ:AV→Prop),fg (bu l) H φ=(l.length < 9223372036854775808→φ (.int .i64 l.length)))∧(bu l).ab=bu l:=by
 cases l with
 | nil=>exact ⟨by simp [bu,aO],fun _ φ=>by show φ _=_;simp,rfl⟩
 | cons p r=>exact ⟨by simp [bu,aO],fun _ φ=>by show (_→φ _)=_;rw [aw],rfl⟩
theorem afp {c:Tb} {x:Nat} {i k:Int} {H:List aa} (hT:Tn c x i k H) {a b:List Int} (vA:KY c i a b) :
 ax Tryz.prog 225 [.ptr x 0,.al 0 (ints a),.al 0 (ints b)] H fun r H'=>(∃ u:Bool,r=.bool u∧(u=true↔Mu (Gt c.O.sp) (a.map c.f) (b.map c.g)))∧H'=H:=by
 have hr:=vA.rest
 have VU:=Oe (q:=fun x y=>decide (c.f x=c.g y)) (f:=c.f) (g:=c.g) (G:=Gt c.O.sp) (a:=a) (b:=b) (fun x _ y _=>by simp)
 have hc:=abl hT vA
 obtain ⟨ie,ne,ce,ese,ig,ng,cg,esg,h⟩:=hT
 rw [show ej (fun x y=>decide (c.f x=c.g y)) a b=c.rest a b from rfl] at VU
 rw [VU]
 refine Y4.2.calls rfl ?_
 simp only [Y4,aG]
 simp +contextual only [sZ,Nat.reduceEqDiff,Nat.reduceAdd,↓reduceIte,reduceCtorEq]
 refine af hc ?_
 rintro r G ⟨rfl,rfl⟩
 generalize c.rest a b=q at hr ⊢
 obtain ⟨l,m⟩:=q
 simp only at hr ⊢
 have S2:=hr.la
 have OK:=hr.lb
 have hng:=h.ng
 obtain ⟨kf1,kf2,kf3⟩:=abm l
 simp +contextual only [kf1,kf2,kf3,sZ,Nat.reduceEqDiff,Nat.reduceAdd,Nat.reduceLT,↓reduceIte,reduceCtorEq]
 refine fun _=>⟨fun h0=>fq ⟨false,rfl,fun h=>absurd h (by simp),fun hh=>absurd (aby.1 (by omega)) hh.1⟩,fun h0=>?_⟩
 ·have hl:l≠[]:=fun e=>h0 (by rw [e];rfl)
  rw [Og hl]
  refine aD m.length (fun n=>∀ s,s < n→∃ x∈l,Gt c.O.sp (c.f x) (c.g (m.getD s 0))) (fun n=>[(0,.ptr x 0),(7,.al 0 (ints l)),(8,.al 0 (ints m)),(9,.int .i64 n)]) (fun _=>G) ⟨fun s hs=>(by cases hs),aB _ _ _⟩ fun n hn hI=>?_
  by_cases h1:n < m.length
  ·have l1:decide ((n:Int) < m.length)=true:=decide_eq_true (by omega)
   simp +contextual only [l1,sZ,Nat.reduceEqDiff,↓reduceIte,reduceCtorEq]
   intro _
   refine aJ l.length (fun j (q:Bool)=>(q=true→∃ x∈l,Gt c.O.sp (c.f x) (c.g (m.getD n 0)))∧(q=false→∀ s,s < j→¬ Gt c.O.sp (c.f (l.getD s 0)) (c.g (m.getD n 0))))
    (fun j q=>[(0,.ptr x 0),(7,.al 0 (ints l)),(8,.al 0 (ints m)),(9,.int .i64 n),(10,.bool q),(11,.int .i64 j)]) (fun _ _=>G) false ⟨⟨fun h=>by simp at h,fun _ s hs=>(by cases hs)⟩,aB _ _ _⟩ fun j q hj hJ=>?_
   by_cases h2:j < l.length
   ·have l2:decide ((j:Int) < l.length)=true:=decide_eq_true (by omega)
    obtain ⟨_,r,bs,xb,e1,e2,e3,e4,e5,e6⟩:=h.cell hr h2 h1
    obtain ⟨a0,a1⟩:=hr.ia _ (cu h2)
    obtain ⟨b0,b1⟩:=hr.ib _ (cu h1)
    cases q with
    | true=>
      simp +contextual only [l2,sZ,Nat.reduceEqDiff,↓reduceIte,reduceCtorEq]
      refine fun _=>⟨n + 1,⟨h1,fun s hs=>?_⟩,by omega,aE (by rw [au n (by omega)]) rfl⟩
      by_cases e:s=n
      ·subst e;exact hJ.1 rfl
      ·exact hI s (by omega)
    | false=>
      simp +contextual only [h.x,h.g,aM,sX,e1,e3,e5,l2,List.getD_cons_succ,List.getD_cons_zero,abR,yP,sZ,Nat.reduceEqDiff,Nat.reduceAdd,Nat.reduceLT,↓reduceIte,reduceCtorEq]
      refine fun _=>⟨⟨by omega,by omega⟩,⟨a0,by omega⟩,e2,⟨by omega,by omega⟩,⟨b0,b1⟩,e4,j + 1,xb,⟨h2,fun hx=>⟨_,cu h2,e6.1 hx⟩,fun hx s hs=>?_⟩,by omega,aE (by rw [au j (by omega)]) rfl⟩
      by_cases e:s=j
      ·subst e;exact fun hh=>absurd (e6.2 hh) (by rw [hx];simp)
      ·exact hJ.2 rfl s (by omega)
   ·have l2:decide ((j:Int) < l.length)=false:=decide_eq_false (by omega)
    cases q with
    | true=>
      simp +contextual only [l2,sZ,Nat.reduceEqDiff,↓reduceIte,reduceCtorEq]
      refine fun _=>⟨n + 1,⟨h1,fun s hs=>?_⟩,by omega,aE (by rw [au n (by omega)]) rfl⟩
      by_cases e:s=n
      ·subst e;exact hJ.1 rfl
      ·exact hI s (by omega)
    | false=>
      simp +contextual only [l2,sZ,Nat.reduceEqDiff,↓reduceIte,reduceCtorEq]
      refine fun _=>fq ⟨false,rfl,fun h=>absurd h (by simp),fun hh=>?_⟩
      obtain ⟨x,hx,hg⟩:=hh.2 _ (cu h1)
      obtain ⟨s,hs,rfl⟩:=pZ hx
      exact absurd hg (hJ.2 rfl s (by omega))
  ·have l1:decide ((n:Int) < m.length)=false:=decide_eq_false (by omega)
   simp +contextual only [l1,sZ,Nat.reduceEqDiff,↓reduceIte,reduceCtorEq]
   refine fun _=>fq ⟨true,rfl,fun _=>⟨hl,fun y hy=>?_⟩,fun _=>rfl⟩
   obtain ⟨s,hs,rfl⟩:=pZ hy
   exact hI s (by omega)
end Go.aK
end
section
set_option maxRecDepth 100000
namespace Go.aK
open Go Go.Proofs Go.eI
theorem Tb.Ok.ins {c:Tb} (hc:c.Ok) {i k:Int} (hi:0≤i∧i < c.a.length) (hk:0≤k∧k < c.b.length):KY c i (nk c.a i) (nk c.b k):=by
 obtain ⟨_,a2,a3⟩:=hc.a.kids hi.1 hi.2
 obtain ⟨_,b2,b3⟩:=hc.b.kids hk.1 hk.2
 exact ⟨a2,fun y hy=>by have:=b2 y hy;omega,a3,b3⟩
theorem Tb.Ok.abn {c:Tb} (hc:c.Ok) {i:Int} (hi:0≤i∧i < c.a.length):(nt c.a i).l.map (norm c.O)=(nk c.a i).map c.f:=by
 rw [← (hc.a.kids hi.1 hi.2).1,acs];rfl
theorem Tb.Ok.abo {c:Tb} (hc:c.Ok) {k:Int} (hk:0≤k∧k < c.b.length):(nt c.b k).l.map (norm c.O)=(nk c.b k).map c.g:=by
 rw [← (hc.b.kids hk.1 hk.2).1,acs];rfl
theorem I9 (p:Nd) (H:List aa) (φ:AV→Prop):aV (some 4) (.ai (kj p)) H φ=φ (kj p):=by
 simp [aV,kj,AV.cells]
theorem sY (ps ss:List Int) (a b e g:AV) (φ:AV→Prop):dd (some (.cells [.al 0 (ints ps),.al 0 (ints ss),a,b,e,g])) (some 2) 0 φ=φ (dV ps ss):=by
 simp [dd,dV,AV.drop]
theorem afq {c:Tb} (hc:c.Ok) {x:Nat} {i k:Int} {H:List aa} (hT:Tn c x i k H) (hi:0≤i∧i < c.a.length) (hk:0≤k∧k < c.b.length) :
 ax Tryz.prog 188 [.ptr x 0,.int .i64 i,.int .i64 k] H fun r H'=>(∃ u:Bool,r=.bool u∧(u=true↔c.tE i k))∧H'=H:=by
 have hE:c.tE i k↔E c.O (nt c.a i) (nt c.b k):=Iff.rfl
 rw [SS,hc.abn hi,hc.abo hk] at hE
 have k8:=hc.ins hi hk
 have hrest:=abl hT k8
 have Pa:=HF (q:=fun x y=>decide (c.f x=c.g y)) (f:=c.f) (g:=c.g) (a:=nk c.a i) (b:=nk c.b k) (fun x _ y _=>by simp)
 rw [show ej (fun x y=>decide (c.f x=c.g y)) (nk c.a i) (nk c.b k)=c.rest (nk c.a i) (nk c.b k) from rfl] at Pa
 have hrl:=k8.rest.la
 obtain ⟨ak,ao⟩:=hc.a.kind hi.1 hi.2
 obtain ⟨bk,bo⟩:=hc.b.kind hk.1 hk.2
 obtain ⟨ie,ne,ce,ese,ig,ng,cg,esg,h⟩:=hT
 have S2:=k8.la
 have OK:=k8.lb
 refine YD.2.calls rfl ?_
 simp only [YD,aG]
 simp +contextual only [h.x,I8,pY,I9,Fi,CW,uz,RJ,ko,List.getD_cons_succ,List.getD_cons_zero,sZ,Nat.reduceEqDiff,Nat.reduceAdd,Nat.reduceLT,↓reduceIte,reduceCtorEq]
 refine ⟨hi,hk,fun dJ=>fq ⟨false,rfl,fun h=>absurd h (by simp),fun hh=>?_⟩,fun hq=>⟨fun h1=>fq ⟨_,rfl,?_⟩,fun h1=>?_⟩⟩
 ·rcases hE.1 hh with h | h
  ·exact absurd (h.1.trans h.2.1.symm) dJ
  ·exact absurd (by omega) dJ
 ·rw [hE,decide_eq_true_eq]
  exact ⟨fun h=>.inr ⟨by omega,by omega,h⟩,fun h=>by rcases h with h | h;omega;exact h.2.2⟩
 have vf:(nt c.b k).k=2:=by omega
 have ON:(nt c.a i).k=2:=by omega
 have hE:c.tE i k↔_:=hE.trans ⟨fun h=>(by rcases h with h | h;exact h.2.2;exact absurd ON h.1),fun h=>.inl ⟨ON,vf,h⟩⟩
 have hss:c.ss.length=c.ps.length:=hc.va.len
 have HP:=hc.va.sp (i:=(nt c.a i).n.toNat) (by have:=ao ON;omega)
 have ta:c.O.pl (nt c.a i).n=c.ps.getD (nt c.a i).n.toNat 0:=rfl
 rw [show c.O.sp (c.O.pl (nt c.a i).n)=c.ss.getD (nt c.a i).n.toNat 0 from HP] at hE
 obtain ⟨q1,q2,q3,q4,q5,q6⟩:=aQ c.ps c.ss
 simp +contextual only [sY,q4,RJ,ko,sZ,Nat.reduceEqDiff,↓reduceIte,reduceCtorEq]
 refine ay (Wv c.ps c.ss _ _ (ao ON) (bo vf)) ?_
 rw [show (b9 c.ps c.ss)=c.O from rfl]
 by_cases hp:c.O.pl (nt c.a i).n=c.O.pl (nt c.b k).n
 rotate_left
 ·simp +contextual only [decide_eq_false hp,sZ,Nat.reduceEqDiff,↓reduceIte,reduceCtorEq]
  exact fq ⟨false,rfl,fun h=>absurd h (by simp),fun hh=>absurd (hE.1 hh).1 hp⟩
 have wc:¬ (nk c.a i).length=(nk c.b k).length→¬ c.tE i k:=fun hl hh=>by
  have:=(hE.1 hh).2
  split at this
  ·exact hl (by simpa using this.length_eq)
  ·exact hl (by simpa using congrArg List.length this)
 simp +contextual only [decide_eq_true hp,h.x,KX,gK,RJ,ko,aM,List.getD_cons_succ,List.getD_cons_zero,sZ,Nat.reduceEqDiff,Nat.reduceAdd,Nat.reduceLT,↓reduceIte,reduceCtorEq]
 refine ⟨fun hl=>fq ⟨false,rfl,fun h=>absurd h (by simp),fun hh=>absurd hh (wc (by omega))⟩,fun hl=>⟨⟨(ao ON).1,by have:=(ao ON).2;omega⟩,fun h3=>?_,fun h3=>?_⟩⟩
 ·refine af hrest ?_
  rintro r G ⟨rfl,rfl⟩
  obtain ⟨kf1,kf2,kf3⟩:=abm (c.rest (nk c.a i) (nk c.b k)).1
  simp +contextual only [kf1,kf2,kf3,sZ,Nat.reduceEqDiff,Nat.reduceAdd,Nat.reduceLT,↓reduceIte,reduceCtorEq]
  refine fun _=>fq ⟨_,rfl,?_⟩
  rw [hE,if_pos h3,← Pa (by omega),decide_eq_true_eq]
  exact ⟨fun h=>⟨hp,aby.1 (by omega)⟩,fun h=>by rw [h.2];rfl⟩
 ·rw [if_neg h3] at hE
  refine aD (nk c.a i).length (fun n=>∀ s,s < n→c.tE ((nk c.a i).getD s 0) ((nk c.b k).getD s 0)) (fun n=>[(0,.ptr x 0),(7,.ai (kj (c.a.getD i.toNat default))),(8,.ai (kj (c.b.getD k.toNat default))),(11,.int .i64 n)]) (fun _=>H) ⟨fun s hs=>(by cases hs),aB _ _ _⟩ fun n hn hI=>?_
  by_cases h1:n < (nk c.a i).length
  ·have l1:decide ((n:Int) < (nk c.a i).length)=true:=decide_eq_true (by omega)
   have h2:n < (nk c.b k).length:=by omega
   obtain ⟨⟨r,bs,xb,e1,e2,e3,e4,e5,e6⟩,_⟩:=h.cell k8 h1 h2
   obtain ⟨a0,a1⟩:=k8.ia _ (cu h1)
   obtain ⟨b0,b1⟩:=k8.ib _ (cu h2)
   have dJ:=h.ne
   cases xb with
   | false=>
     simp +contextual only [h.x,h.e,KX,gK,aM,sX,e1,e3,e5,l1,List.getD_cons_succ,List.getD_cons_zero,abR,yP,sZ,Nat.reduceEqDiff,Nat.reduceAdd,Nat.reduceLT,↓reduceIte,reduceCtorEq]
     refine fun _=>⟨⟨by omega,by omega⟩,⟨a0,by omega⟩,e2,⟨by omega,by omega⟩,⟨b0,b1⟩,e4,fq ⟨false,rfl,fun h=>absurd h (by simp),fun hh=>?_⟩⟩
     have hm:=(hE.1 hh).2
     have:=congrArg (fun l=>l.getD n default) hm
     simp only [rB,abW,Oq h1,Oq h2,Option.map_some,Option.getD_some] at this
     refine absurd (e6.2 ?_) (by simp)
     unfold Tb.tE
     simpa [h1,h2] using this
   | true=>
     simp +contextual only [h.x,h.e,KX,gK,aM,sX,e1,e3,e5,l1,List.getD_cons_succ,List.getD_cons_zero,abR,yP,sZ,Nat.reduceEqDiff,Nat.reduceAdd,Nat.reduceLT,↓reduceIte,reduceCtorEq]
     refine fun _=>⟨⟨by omega,by omega⟩,⟨a0,by omega⟩,e2,⟨by omega,by omega⟩,⟨b0,b1⟩,e4,n + 1,⟨h1,fun s hs=>?_⟩,by omega,aE (by rw [au n (by omega)]) rfl⟩
     by_cases e:s=n
     ·subst e;exact e6.1 rfl
     ·exact hI s (by omega)
  ·have l1:decide ((n:Int) < (nk c.a i).length)=false:=decide_eq_false (by omega)
   simp +contextual only [KX,gK,l1,sZ,Nat.reduceEqDiff,↓reduceIte,reduceCtorEq]
   refine fun _=>fq ⟨true,rfl,fun _=>hE.2 ⟨hp,?_⟩,fun _=>rfl⟩
   refine adV (by simp;omega) fun s hs TD=>?_
   have:=hI s (by simp at hs;omega)
   unfold Tb.tE at this
   have q1:s < (nk c.a i).length:=by simpa using hs
   have q2:s < (nk c.b k).length:=by simpa using TD
   simpa [q1,q2] using this
end Go.aK
end
