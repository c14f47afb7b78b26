/- Part 17 of 19 of the proof. -/
import Derived.Test.YtljchnfgjdjobaaGreatUap
import Derived.Laws.Runes
import Derived.Test.YtljchnfgjdjobaaGreatUam
import Derived.Test.YtljchnfgjdjobaaGreatUan
set_option linter.unusedVariables false
set_option linter.unusedSimpArgs false
set_option linter.defProp false
set_option linter.unusedSectionVars false
section
set_option maxRecDepth 100000
namespace Go.aI
open Go Go.Proofs Go.eJ
def NL (o:iG):Prop:=o.args.length≤20∧o.name.size≤200
theorem xR {α:Type} [Inhabited α] {p:α→Prop} {l:List α} (h:∀ j,j < l.length→p (l.getD j default)):∀ x∈l,p x:=fun x hx=>by
 obtain ⟨n,hn,rfl⟩:=abW hx
 have:=h n hn
 rwa [oM,Nq hn] at this
theorem c68 (o:iG):∃ b,Pure Tryz.prog 68 [o.av] (.bool b)∧(b=false→NL o):=by
 refine ⟨decide (20 < (o.args.length:Int)) || decide (200 < (o.name.size:Int)),fun H=>k68.2.calls rfl ?_,fun h=>by simp at h;exact ⟨by omega,by omega⟩⟩
 simp only [k68,aJ]
 simp +contextual only [aF,sZ,Nat.reduceEqDiff,Nat.reduceAdd,↓reduceIte,reduceCtorEq]
 refine fun _=>⟨fun h=>bc rfl ?_,fun h=>bc rfl ?_⟩
 ·have h':¬ (20:Int) < o.args.length:=by omega
  rw [decide_eq_false h',Bool.false_or]
 ·rw [decide_eq_true h,Bool.true_or]
theorem c70 (s:ByteArray):∃ b,Pure Tryz.prog 70 [.str s] (.bool b)∧(b=false→s.size≤200):=by
 refine ⟨decide (200 < (s.size:Int)),fun H=>k70.2.calls rfl ?_,fun h=>by simp at h;omega⟩
 simp only [k70,aJ]
 simp +contextual only [sZ,Nat.reduceAdd,↓reduceIte,reduceCtorEq]
 exact bc rfl rfl
theorem Z8 (l:List iG):∀ H,aw Tryz.prog 128 [.ap 0 (pE l),.fn (.func 68) [] []] H fun r H'=>(∃ n,r=.int .i64 n∧(n < 0→∀ o∈l,NL o))∧H'=H:=by
 refine fun H=>W0.2.calls rfl ?_
 simp only [W0,aJ]
 simp +contextual only [aF,sZ,Nat.reduceEqDiff,Nat.reduceAdd,↓reduceIte,reduceCtorEq]
 intro hl
 have fin:∀ (n:Int),(n < 0→∀ o∈l,NL o)→b8 H.length [.t 4] [(4,.int .i64 n)] H fun r H'=>(∃ n,r=.int .i64 n∧(n < 0→∀ o∈l,NL o))∧H'=H:=fun n hn=>
  ba H.length (oN _) (by rw [aA,if_pos rfl];rfl) ⟨⟨n,by rw [aA,if_pos rfl],hn⟩,aaC⟩
 refine aC l.length (fun i=>∀ j,j < i→NL (l.getD j default)) (fun i=>[(0,.ap 0 (pE l)),(1,.fn (.func 68) [] []),(7,.int .i64 l.length),(8,.int .i64 i)]) (fun _=>H) ⟨fun j h=>by omega,aB _ _ _⟩ fun i hi hI=>?_
 simp +contextual only [aF,sZ,Nat.reduceEqDiff,Nat.reduceAdd,↓reduceIte,reduceCtorEq]
 obtain ⟨b,hb,hq⟩:=c68 (l.getD i default)
 refine ⟨fun aX=>?_,fun jV=>fin _ fun _=>xR fun j hj=>hI j (by have:=dl jV;omega)⟩
 have aX:=b9 aX
 refine ⟨aX,ae hb ?_⟩
 cases b with
 | true=>simp +contextual only [sZ,Nat.reduceEqDiff,↓reduceIte,reduceCtorEq];exact fin _ fun h=>by omega
 | false=>
   simp +contextual only [sZ,Nat.reduceEqDiff,↓reduceIte,reduceCtorEq]
   refine ⟨i + 1,⟨aX,fun j hj=>?_⟩,by omega,aD (by rw [au i (by omega)]) rfl⟩
   by_cases e:j < i
   ·exact hI j e
   ·have:j=i:=by omega
    subst this;exact hq rfl
theorem adT (l:List iG):∀ H,aw Tryz.prog 67 [.ap 0 (pE l),.fn (.func 68) [] []] H fun r H'=>(∃ b,r=.bool b∧(b=false→∀ o∈l,NL o))∧H'=H:=by
 refine fun H=>k67.2.calls rfl ?_
 simp only [k67,aJ]
 simp +contextual only [sZ,Nat.reduceEqDiff,Nat.reduceAdd,↓reduceIte,reduceCtorEq]
 refine af (Z8 l H) ?_
 rintro r G ⟨⟨n,rfl,hn⟩,rfl⟩
 simp +contextual only [sZ,↓reduceIte,reduceCtorEq]
 exact ba _ (oN _) (by rw [aA,if_pos rfl];rfl) ⟨⟨decide (0≤n),by rw [aA,if_pos rfl],fun h=>hn (by simpa using h)⟩,aaC⟩
theorem Z9 (l:List ByteArray):∀ H,aw Tryz.prog 129 [.ap 0 (strs l),.fn (.func 70) [] []] H fun r H'=>(∃ n,r=.int .i64 n∧(n < 0→∀ o∈l,o.size≤200))∧H'=H:=by
 refine fun H=>W1.2.calls rfl ?_
 simp only [W1,aJ]
 simp +contextual only [aF,sZ,Nat.reduceEqDiff,Nat.reduceAdd,↓reduceIte,reduceCtorEq]
 intro hl
 have fin:∀ (n:Int),(n < 0→∀ o∈l,o.size≤200)→b8 H.length [.t 4] [(4,.int .i64 n)] H fun r H'=>(∃ n,r=.int .i64 n∧(n < 0→∀ o∈l,o.size≤200))∧H'=H:=fun n hn=>
  ba H.length (oN _) (by rw [aA,if_pos rfl];rfl) ⟨⟨n,by rw [aA,if_pos rfl],hn⟩,aaC⟩
 refine aC l.length (fun i=>∀ j,j < i→(l.getD j default).size≤200) (fun i=>[(0,.ap 0 (strs l)),(1,.fn (.func 70) [] []),(7,.int .i64 l.length),(8,.int .i64 i)]) (fun _=>H) ⟨fun j h=>by omega,aB _ _ _⟩ fun i hi hI=>?_
 simp +contextual only [aF,sZ,Nat.reduceEqDiff,Nat.reduceAdd,↓reduceIte,reduceCtorEq]
 obtain ⟨b,hb,hq⟩:=c70 (l.getD i default)
 refine ⟨fun aX=>?_,fun jV=>fin _ fun _=>xR fun j hj=>hI j (by have:=dl jV;omega)⟩
 have aX:=b9 aX
 refine ⟨aX,ae hb ?_⟩
 cases b with
 | true=>simp +contextual only [sZ,Nat.reduceEqDiff,↓reduceIte,reduceCtorEq];exact fin _ fun h=>by omega
 | false=>
   simp +contextual only [sZ,Nat.reduceEqDiff,↓reduceIte,reduceCtorEq]
   refine ⟨i + 1,⟨aX,fun j hj=>?_⟩,by omega,aD (by rw [au i (by omega)]) rfl⟩
   by_cases e:j < i
   ·exact hI j e
   ·have:j=i:=by omega
    subst this;exact hq rfl
theorem adU (l:List ByteArray):∀ H,aw Tryz.prog 69 [.ap 0 (strs l),.fn (.func 70) [] []] H fun r H'=>(∃ b,r=.bool b∧(b=false→∀ o∈l,o.size≤200))∧H'=H:=by
 refine fun H=>k69.2.calls rfl ?_
 simp only [k69,aJ]
 simp +contextual only [sZ,Nat.reduceEqDiff,Nat.reduceAdd,↓reduceIte,reduceCtorEq]
 refine af (Z9 l H) ?_
 rintro r G ⟨⟨n,rfl,hn⟩,rfl⟩
 simp +contextual only [sZ,↓reduceIte,reduceCtorEq]
 exact ba _ (oN _) (by rw [aA,if_pos rfl];rfl) ⟨⟨decide (0≤n),by rw [aA,if_pos rfl],fun h=>hn (by simpa using h)⟩,aaC⟩
structure Sj (s:Sg) (ps ss:List Int):Prop where
 h1:s.ops.length≤40
 h2:s.aR.length≤40
 h3:ps.length≤80
 h4:ss.length≤80
 h5:∀ o∈s.ops,NL o
 h6:∀ x∈s.aR,x.size≤200
theorem c18 (s:Sg) (ps ss:List Int) (H:List aa):aw Tryz.prog 18 [s.av,eD ps ss] H fun r H'=>(∃ b,r=.bool b∧(b=true→Sj s ps ss))∧H'=H:=by
 refine k18.2.calls rfl ?_
 simp only [k18,aJ]
 have fin:∀ (b:Bool),(b=true→Sj s ps ss)→b8 H.length [.t 4] [(4,.bool b)] H fun r H'=>(∃ b,r=.bool b∧(b=true→Sj s ps ss))∧H'=H:=fun b hb=>
  ba H.length (oN _) (by rw [aA,if_pos rfl];rfl) ⟨⟨b,by rw [aA,if_pos rfl],hb⟩,aaC⟩
 have finf:=fin false (fun h=>by cases h)
 obtain ⟨q1,q2,q3,q4,q5,q6⟩:=aS ps ss
 simp +contextual only [aF,q1,u0,xx,ay,sZ,Nat.reduceEqDiff,Nat.reduceAdd,↓reduceIte,reduceCtorEq]
 refine fun _=>⟨fun h1 _=>⟨fun h2 _=>⟨fun h3 _=>⟨fun h4=>af (adT s.ops H) ?_,fun _=>finf⟩,fun _=>finf⟩,fun _=>finf⟩,fun _=>finf⟩
 rintro r G ⟨⟨b,rfl,hb⟩,rfl⟩
 cases b with
 | true=>simp +contextual only [sZ,Nat.reduceEqDiff,↓reduceIte,reduceCtorEq];exact finf
 | false=>
   simp +contextual only [aF,sZ,Nat.reduceEqDiff,Nat.reduceAdd,↓reduceIte]
   refine af (adU s.aR _) ?_
   rintro r G ⟨⟨d,rfl,hd⟩,rfl⟩
   simp +contextual only [sZ,Nat.reduceEqDiff,↓reduceIte,reduceCtorEq]
   exact fin _ fun h=>⟨by omega,by omega,by omega,by omega,hb rfl,hd (by simpa using h)⟩
end Go.aI
end
section
set_option maxRecDepth 100000
namespace Go.aI
open Go Go.Proofs
def QF (c:UInt8):Prop:=¬ ((c.toNat:Int) < 33∨126 < (c.toNat:Int)∨(c.toNat:Int)=40∨(c.toNat:Int)=41∨(c.toNat:Int)=44)
def nB (s:ByteArray):Prop:=(∀ i,i < s.size→QF (s.data.toList.getD i 0))∧1≤s.size∧s.size≤32
theorem kK {P:Prop} (h:Decidable P) {H:List aa} {s:Nat} (hp:¬ P):b8 H.length [.t s] [(s,.bool false)] H fun r H'=>r=.bool (decide P)∧H'=H:=bc rfl (by simp [hp])
open Classical in
theorem aaa (s:ByteArray) (hs:s.size≤200):Pure Tryz.prog 195 [.str s] (.bool (decide (nB s))):=by
 refine fun H=>XA.2.calls rfl ?_
 simp only [XA,aJ]
 simp +contextual only [sZ,Nat.reduceAdd,↓reduceIte,reduceCtorEq]
 refine aC s.size (fun i=>∀ j,j < i→QF (s.data.toList.getD j 0))
  (fun i=>[(0,.str s),(3,.int .i64 i)]) (fun i=>H) ⟨fun j h=>by omega,aB _ _ _⟩ fun i hi hI=>?_
 simp +contextual only [ixs,sZ,Nat.reduceEqDiff,↓reduceIte,reduceCtorEq,Int.reduceLT]
 have bad (hl:i < s.size) (h:¬ QF (s.data.toList.getD i 0)):¬ nB s:=fun e=>h (e.1 i hl)
 refine ⟨fun hl=>?_,fun hl=>⟨fun h1=>?_,fun h1=>?_⟩⟩
 ·have hl:=b9 hl
  have bad:=bad hl
  unfold QF at bad
  refine ⟨hl,fun a=>⟨hl,fun b=>⟨hl,fun c=>⟨hl,fun d=>⟨hl,fun e=>?_,fun e=>?_⟩,fun d=>?_⟩,fun c=>?_⟩,fun b=>?_⟩,fun a=>?_⟩
  ·exact kK _ (bad (by omega))
  ·refine ⟨i + 1,⟨hl,fun j hj=>?_⟩,by omega,aD (by rw [au i (by omega)]) rfl⟩
   by_cases Hb:j < i
   ·exact hI j Hb
   ·have:j=i:=by omega
    subst this
    unfold QF;omega
  ·exact kK _ (bad (by omega))
  ·exact kK _ (bad (by omega))
  ·exact kK _ (bad (by omega))
  ·exact kK _ (bad (by omega))
 ·refine bc rfl ?_
  have e:(((s.size:Nat):Int)≤32)=nB s:=propext ⟨fun h=>⟨fun j hj=>hI j (by omega),by omega,by omega⟩,fun h=>by have:=h.2.2;omega⟩
  simp only [e]
 ·exact kK _ fun e=>by have:=e.2.1;omega
def B2 (s:ByteArray):Nat:=s.data.toList.countP (· == 95)
theorem aab (s:ByteArray) (hs:s.size≤200):Pure Tryz.prog 196 [.str s] (.int .i64 (B2 s:Nat)):=by
 unfold B2
 refine fun H=>XB.2.calls rfl ?_
 simp only [XB,aJ]
 simp +contextual only [sZ,Nat.reduceEqDiff,Nat.reduceAdd,↓reduceIte,reduceCtorEq]
 refine aC s.size (fun i=>True)
  (fun i=>[(0,.str s),(3,.int .i64 ((s.data.toList.take i).countP (· == 95):Nat)),(4,.int .i64 i)]) (fun i=>H) ⟨trivial,aB _ _ _⟩ fun i hi hI=>?_
 simp +contextual only [ixs,sZ,Nat.reduceEqDiff,↓reduceIte,reduceCtorEq]
 have hz:s.data.toList.length=s.size:=rfl
 have hc:=aeH (p:=(· == (95:UInt8))) (l:=s.data.toList.take i)
 rw [aa3] at hc
 refine ⟨fun hl=>?_,fun hl=>?_⟩
 ·have hl:=b9 hl
  have wA:i < s.data.toList.length:=hl
  have eg:s.data.toList.getD i 0=s.data.toList[i]:=by rw [oM,Nq wA];rfl
  have et:(s.data.toList.take (i + 1)).countP (· == 95)=(s.data.toList.take i).countP (· == 95) + if (s.data.toList.getD i 0 == 95)=true then 1 else 0:=by
   rw [ada,List.countP_append,eg,Nq wA];simp [aeo]
  refine ⟨hl,fun a=>⟨i + 1,hl,by omega,aD ?_ rfl⟩,fun a=>⟨i + 1,hl,by omega,aD ?_ rfl⟩⟩
  ·have:(s.data.toList.getD i 0 == 95)=true:=by
    rw [beq_iff_eq];apply UInt8.toNat_inj.1;simpa using Int.ofNat.inj a
   rw [au i (by omega),au _ (by omega),et,if_pos this]
  ·have:¬ (s.data.toList.getD i 0 == 95)=true:=by
    rw [beq_iff_eq];intro h;rw [h] at a;exact a rfl
   rw [au i (by omega),et,if_neg this];rfl
 ·rw [aaw (by have:=dl hl;omega)]
  exact bc rfl rfl
def kH (s:Sg) (l:List Int):Prop:=∀ x∈l,0≤x∧x < s.aR.length
open Classical in
theorem Sk (s:Sg) (l:List Int):Pure Tryz.prog 232 [s.av,.ap 0 (ints l)] (.bool (decide (kH s l))):=by
 refine fun H=>X1.2.calls rfl ?_
 simp only [X1,aJ]
 simp +contextual only [aF,sZ,Nat.reduceEqDiff,Nat.reduceAdd,↓reduceIte,reduceCtorEq]
 refine aC l.length (fun i=>∀ j,j < i→0≤l.getD j 0∧l.getD j 0 < s.aR.length)
  (fun i=>[(1,.ap 0 (ints l)),(2,.ai s.av),(5,.int .i64 i)]) (fun i=>H) ⟨fun j h=>by omega,aB _ _ _⟩ fun i hi hI=>?_
 by_cases hl:i < l.length
 ·have bad (h:¬ (0≤l.getD i 0∧l.getD i 0 < s.aR.length)):¬ kH s l:=fun e=>h (e _ (aP hl))
  have e0:((i:Int) < l.length)=True:=eq_true (by omega)
  by_cases h1:l.getD i 0 < 0
  ·have e1:(l.getD i 0 < 0)=True:=eq_true h1
   simp +contextual only [e0,e1,hl,decide_true,sZ,Nat.reduceEqDiff,↓reduceIte,reduceCtorEq]
   exact fun _=>kK _ (bad (by omega))
  ·have e1:(l.getD i 0 < 0)=False:=eq_false h1
   by_cases h2:s.aR.length≤l.getD i 0
   ·have e2:((s.aR.length:Int)≤l.getD i 0)=True:=eq_true h2
    simp +contextual only [aF,e0,e1,e2,hl,decide_true,decide_false,sZ,Nat.reduceEqDiff,↓reduceIte,reduceCtorEq]
    exact fun _=>kK _ (bad (by omega))
   ·have e2:((s.aR.length:Int)≤l.getD i 0)=False:=eq_false h2
    simp +contextual only [aF,e0,e1,e2,hl,decide_true,decide_false,sZ,Nat.reduceEqDiff,↓reduceIte]
    refine fun _=>⟨i + 1,⟨hl,fun j hj=>?_⟩,by omega,aD (by rw [au i (by omega)]) rfl⟩
    by_cases Hb:j < i
    ·exact hI j Hb
    ·have:j=i:=by omega
     subst this
     exact ⟨by omega,by omega⟩
 ·have e0:((i:Int) < l.length)=False:=eq_false (by omega)
  simp +contextual only [e0,sZ,Nat.reduceEqDiff,↓reduceIte,reduceCtorEq]
  refine fun _=>bc rfl ?_
  have:kH s l:=fun x hx=>by
   obtain ⟨n,hn,rfl⟩:=abW hx
   have:=hI n (by omega)
   rwa [oM,Nq hn] at this
  simp [this]
def M8 (s:Sg) (o:iG):Prop:=nB o.name∧B2 o.name≠o.name.size∧(B2 o.name=0∨B2 o.name=o.args.length)∧o.args.length≤8∧kH s o.args∧kH s [o.Cc]
theorem M9 (a:Int):[AV.int .i64 a]=ints [a]:=rfl
open Classical in
theorem adV (s:Sg) (o:iG) (ho:NL o):Pure Tryz.prog 197 [s.av,o.av] (.bool (decide (M8 s o))):=by
 have e1:=aab o.name ho.2
 have e2:=aaa o.name ho.2
 have hb:B2 o.name≤o.name.size:=aeH (p:=(· == (95:UInt8))) (l:=o.name.data.toList)
 have e3:=Sk s o.args
 have e4:=Sk s [o.Cc]
 have hR:M8 s o=(nB o.name∧B2 o.name≠o.name.size∧(B2 o.name=0∨B2 o.name=o.args.length)∧o.args.length≤8∧kH s o.args∧kH s [o.Cc]):=rfl
 refine fun H=>XC.2.calls rfl ?_
 simp only [XC,aJ]
 simp +contextual only [aF,sZ,Nat.reduceEqDiff,Nat.reduceAdd,↓reduceIte,reduceCtorEq]
 refine ae e1 ?_
 simp +contextual only [aF,sZ,Nat.reduceEqDiff,Nat.reduceAdd,↓reduceIte]
 refine ae e2 ?_
 have ha:=ho.1
 generalize B2 o.name=n at *
 by_cases hn:nB o.name
 ·rw [decide_eq_true hn]
  by_cases h1:n=o.name.size
  ·have f1:((n:Int)=o.name.size)=True:=eq_true (by omega)
   simp +contextual only [aF,f1,decide_true,sZ,Nat.reduceEqDiff,↓reduceIte,reduceCtorEq]
   exact kK _ (by rw [hR];exact fun e=>e.2.1 h1)
  have f1:((n:Int)=o.name.size)=False:=eq_false (by omega)
  by_cases h2:n=0∨n=o.args.length
  ·have hz:(0 < (n:Int))=False∧(True∧True)=True∨(0 < (n:Int))=True∧((n:Int)=o.args.length)=True:=by
    by_cases h0:n=0
    ·exact .inl ⟨eq_false (by omega),by simp⟩
    ·exact .inr ⟨eq_true (by omega),eq_true (by omega)⟩
   rcases hz with ⟨f2,f3⟩ | ⟨f2,f3⟩
   all_goals
    simp +contextual only [aF,f1,f2,f3,decide_false,decide_true,sZ,Nat.reduceEqDiff,Nat.reduceAdd,↓reduceIte,reduceCtorEq]
    refine fun _=>⟨fun h3=>ae e3 ?_,fun h3=>kK _ (by rw [hR];exact fun e=>by have:=e.2.2.2.1;omega)⟩
    by_cases h4:kH s o.args
    ·rw [decide_eq_true h4]
     simp +contextual only [aF,M9,sZ,Nat.reduceEqDiff,Nat.reduceAdd,↓reduceIte]
     refine ae e4 ?_
     simp +contextual only [sZ,Nat.reduceEqDiff,↓reduceIte,reduceCtorEq]
     refine bc rfl ?_
     have:M8 s o=kH s [o.Cc]:=by rw [hR];exact propext ⟨fun e=>e.2.2.2.2.2,fun e=>⟨hn,h1,h2,by omega,h4,e⟩⟩
     simp only [this]
    ·rw [decide_eq_false h4]
     simp +contextual only [sZ,Nat.reduceEqDiff,↓reduceIte,reduceCtorEq]
     exact kK _ (by rw [hR];exact fun e=>h4 e.2.2.2.2.1)
  ·have f2:(0 < (n:Int))=True:=eq_true (by omega)
   have f3:((n:Int)=o.args.length)=False:=eq_false (by omega)
   simp +contextual only [aF,f1,f2,f3,decide_false,decide_true,sZ,Nat.reduceEqDiff,↓reduceIte,reduceCtorEq]
   exact fun _=>kK _ (by rw [hR];exact fun e=>h2 e.2.2.1)
 ·rw [decide_eq_false hn]
  simp +contextual only [sZ,Nat.reduceEqDiff,↓reduceIte,reduceCtorEq]
  exact kK _ (by rw [hR];exact fun e=>hn e.1)
end Go.aI
end
section
set_option maxRecDepth 100000
namespace Go.aI
open Go Go.Proofs
def VA (s:Sg) (i:Nat):Prop:=nB (s.aR.getD i default)∧B2 (s.aR.getD i default)=0∧∀ k,k < i→s.aR.getD k default≠s.aR.getD i default
def Wa (a b:iG):Prop:=a.name=b.name∧a.Cc=b.Cc∧a.args=b.args
def Wb (s:Sg) (i:Nat):Prop:=M8 s (s.ops.getD i default)∧∀ k,k < i→¬ Wa (s.ops.getD k default) (s.ops.getD i default)
def yO (s:Sg):Prop:=s.aR.length≤64∧s.ops.length≤256∧(∀ i,i < s.aR.length→VA s i)∧∀ i,i < s.ops.length→Wb s i
theorem kI {p:Nat→Prop} {i:Nat} (h:∀ j,j < i→p j) (h':p i):∀ j,j < i + 1→p j:=fun j hj=>by
 by_cases e:j < i
 ·exact h j e
 ·have:j=i:=by omega
  subst this;exact h'
theorem QG {α:Type} [Inhabited α] {l:List α} {i:Nat} (h:i < l.length):l.getD i default∈l:=by
 rw [oM,Nq h];exact abC h
open Classical in
theorem adW (s:Sg) (ho:∀ o∈s.ops,NL o) (hs:∀ x∈s.aR,x.size≤200) (h40:s.ops.length≤40) (h41:s.aR.length≤40):Pure Tryz.prog 145 [s.av] (.bool (decide (yO s))):=by
 refine fun H=>W9.2.calls rfl ?_
 simp only [W9,aJ]
 have f1:(64 < (s.aR.length:Int))=False:=eq_false (by omega)
 have f2:(256 < (s.ops.length:Int))=False:=eq_false (by omega)
 simp +contextual only [aF,f1,f2,decide_false,sZ,Nat.reduceEqDiff,Nat.reduceAdd,↓reduceIte]
 refine fun _ _=>aC s.aR.length (fun i=>∀ j,j < i→VA s j) (fun i=>[(1,.ai s.av),(3,.int .i64 i)]) (fun i=>H) ⟨fun j h=>by omega,aB _ _ _⟩ fun i hi hI=>?_
 by_cases hl:i < s.aR.length
 ·have e0:((i:Int) < s.aR.length)=True:=eq_true (by omega)
  have bad (h:¬ VA s i):¬ yO s:=fun e=>h (e.2.2.1 i hl)
  have hx:=hs _ (QG hl)
  have e1:=aaa _ hx
  have e2:=aab _ hx
  have hR:VA s i=(nB (s.aR.getD i default)∧B2 (s.aR.getD i default)=0∧∀ k,k < i→s.aR.getD k default≠s.aR.getD i default):=rfl
  simp +contextual only [aF,e0,hl,sZ,Nat.reduceEqDiff,Nat.reduceAdd,↓reduceIte]
  refine fun _=>ae e1 ?_
  by_cases h1:nB (s.aR.getD i default)
  ·rw [decide_eq_true h1]
   simp +contextual only [aF,hl,sZ,Nat.reduceEqDiff,Nat.reduceAdd,↓reduceIte]
   refine ae e2 ?_
   by_cases h2:B2 (s.aR.getD i default)=0
   ·rw [h2]
    have e9:(0 < ((0:Nat):Int))=False:=eq_false (by omega)
    simp +contextual only [e9,decide_false,sZ,Nat.reduceEqDiff,↓reduceIte]
    refine aC i (fun k=>∀ j,j < k→s.aR.getD j default≠s.aR.getD i default) (fun k=>[(1,.ai s.av),(3,.int .i64 i),(4,.int .i64 k)]) (fun i=>H) ⟨fun j h=>by omega,aB _ _ _⟩ fun k hk hK=>?_
    by_cases oU:k < i
    ·have e3:((k:Int) < i)=True:=eq_true (by omega)
     have qT:k < s.aR.length:=by omega
     by_cases h3:s.aR.getD k default=s.aR.getD i default
     ·simp +contextual only [aF,e3,hl,qT,qB,h3,decide_true,sZ,Nat.reduceEqDiff,↓reduceIte,reduceCtorEq]
      exact kK _ (bad (by rw [hR];exact fun e=>e.2.2 k oU h3))
     ·simp +contextual only [aF,e3,hl,qT,qB,h3,decide_false,sZ,Nat.reduceEqDiff,↓reduceIte]
      exact ⟨k + 1,⟨oU,kI hK h3⟩,by omega,aD (by rw [au k (by omega)]) rfl⟩
    ·have e3:((k:Int) < i)=False:=eq_false (by omega)
     simp +contextual only [e3,sZ,Nat.reduceEqDiff,↓reduceIte]
     exact ⟨i + 1,⟨hl,kI hI (by rw [hR];exact ⟨h1,h2,fun j hj=>hK j (by omega)⟩)⟩,by omega,aD (by rw [au i (by omega)]) rfl⟩
   ·have e3:(0 < ((B2 (s.aR.getD i default):Nat):Int))=True:=eq_true (by omega)
    simp +contextual only [e3,decide_true,sZ,Nat.reduceEqDiff,↓reduceIte,reduceCtorEq]
    exact kK _ (bad (by rw [hR];exact fun e=>h2 e.2.1))
  ·rw [decide_eq_false h1]
   simp +contextual only [sZ,Nat.reduceEqDiff,↓reduceIte,reduceCtorEq]
   exact kK _ (bad (by rw [hR];exact fun e=>h1 e.1))
 have e0:((i:Int) < s.aR.length)=False:=eq_false (by omega)
 have Vr:∀ i,i < s.aR.length→VA s i:=fun j hj=>hI j (by omega)
 simp +contextual only [aF,e0,sZ,Nat.reduceEqDiff,↓reduceIte]
 refine fun _=>aC s.ops.length (fun i=>∀ j,j < i→Wb s j) (fun i=>[(1,.ai s.av),(5,.int .i64 i)]) (fun i=>H) ⟨fun j h=>by omega,aB _ _ _⟩ fun i hi hI=>?_
 by_cases hl:i < s.ops.length
 ·have e0:((i:Int) < s.ops.length)=True:=eq_true (by omega)
  have bad (h:¬ Wb s i):¬ yO s:=fun e=>h (e.2.2.2 i hl)
  have e1:=adV s _ (ho _ (QG hl))
  have hR:Wb s i=(M8 s (s.ops.getD i default)∧∀ k,k < i→¬ Wa (s.ops.getD k default) (s.ops.getD i default)):=rfl
  simp +contextual only [aF,e0,hl,sZ,Nat.reduceEqDiff,↓reduceIte]
  refine fun _=>aE e1 ?_
  by_cases h1:M8 s (s.ops.getD i default)
  ·rw [decide_eq_true h1]
   simp +contextual only [sZ,Nat.reduceEqDiff,↓reduceIte]
   refine aC i (fun k=>∀ j,j < k→¬ Wa (s.ops.getD j default) (s.ops.getD i default)) (fun k=>[(1,.ai s.av),(5,.int .i64 i),(6,.int .i64 k)]) (fun i=>H) ⟨fun j h=>by omega,aB _ _ _⟩ fun k hk hK=>?_
   by_cases oU:k < i
   ·have e3:((k:Int) < i)=True:=eq_true (by omega)
    have qT:k < s.ops.length:=by omega
    have next (h:¬ Wa (s.ops.getD k default) (s.ops.getD i default)):∃ j,(j≤i∧∀ j_1,j_1 < j→¬ Wa (s.ops.getD j_1 default) (s.ops.getD i default))∧i - j < i - k∧sle H.length [(1,.ai s.av),(5,.int .i64 i),(6,.int .i64 (IntKind.i64.wrap ((k:Int) + 1)))] H [(1,.ai s.av),(5,.int .i64 i),(6,.int .i64 j)] H:=
     ⟨k + 1,⟨oU,kI hK h⟩,by omega,aD (by rw [au k (by omega)]) rfl⟩
    by_cases h2:(s.ops.getD k default).name=(s.ops.getD i default).name
    ·by_cases h3:(s.ops.getD k default).Cc=(s.ops.getD i default).Cc
     ·simp +contextual only [aF,e3,hl,qT,qB,h2,h3,decide_true,sZ,Nat.reduceEqDiff,↓reduceIte]
      refine aE (ab6 _ _ _ _) ?_
      by_cases h4:(s.ops.getD k default).args=(s.ops.getD i default).args
      ·simp +contextual only [h4,decide_true,sZ,Nat.reduceEqDiff,↓reduceIte,reduceCtorEq]
       exact kK _ (bad (by rw [hR];exact fun e=>e.2 k oU ⟨h2,h3,h4⟩))
      ·simp +contextual only [h4,decide_false,sZ,Nat.reduceEqDiff,↓reduceIte]
       exact next fun e=>h4 e.2.2
     ·simp +contextual only [aF,e3,hl,qT,qB,h2,h3,decide_true,decide_false,sZ,Nat.reduceEqDiff,↓reduceIte]
      exact next fun e=>h3 e.2.1
    ·simp +contextual only [aF,e3,hl,qT,qB,h2,decide_false,sZ,Nat.reduceEqDiff,↓reduceIte]
     exact next fun e=>h2 e.1
   ·have e3:((k:Int) < i)=False:=eq_false (by omega)
    simp +contextual only [e3,sZ,Nat.reduceEqDiff,↓reduceIte]
    exact ⟨i + 1,⟨hl,kI hI (by rw [hR];exact ⟨h1,fun j hj=>hK j (by omega)⟩)⟩,by omega,aD (by rw [au i (by omega)]) rfl⟩
  ·rw [decide_eq_false h1]
   simp +contextual only [sZ,Nat.reduceEqDiff,↓reduceIte,reduceCtorEq]
   exact kK _ (bad (by rw [hR];exact fun e=>h1 e.1))
 ·have e0:((i:Int) < s.ops.length)=False:=eq_false (by omega)
  simp +contextual only [aF,e0,sZ,Nat.reduceEqDiff,↓reduceIte,reduceCtorEq]
  refine fun _=>bc rfl ?_
  have:yO s:=⟨by omega,by omega,Vr,fun j hj=>hI j (by omega)⟩
  simp [this]
end Go.aI
end
section
set_option maxRecDepth 100000
namespace Go.aI
open Go Go.Proofs Go.eJ
open Classical in
theorem c82 (s:Sg) (ho:∀ o∈s.ops,NL o) (hs:∀ x∈s.aR,x.size≤200) (h40:s.ops.length≤40) (h41:s.aR.length≤40):Pure Tryz.prog 82 [s.av] (.int .i64 (if yO s then 0 else 40)):=by
 refine fun H=>k82.2.calls rfl ?_
 simp only [k82,aJ]
 simp +contextual only [aF,sZ,Nat.reduceEqDiff,Nat.reduceAdd,↓reduceIte]
 refine ae (adW s ho hs h40 h41) ?_
 by_cases h:yO s
 ·rw [decide_eq_true h]
  simp +contextual only [sZ,↓reduceIte,reduceCtorEq]
  exact bc rfl (by rw [if_pos h])
 ·rw [decide_eq_false h]
  simp +contextual only [sZ,↓reduceIte,reduceCtorEq]
  exact bc rfl (by rw [if_neg h])
def OrR (ps ss:List Int) (i:Nat):Prop:=0≤ps.getD i 0∧ps.getD i 0≤255∧1≤ss.getD i 0∧ss.getD i 0≤3∧∀ k,k < i→¬ (ps.getD i 0=ps.getD k 0∧¬ ss.getD i 0=ss.getD k 0)
theorem Eo (ps ss:List Int) (n:Nat):Ql ps ss n↔∀ i,i < n→OrR ps ss i:=by
 constructor
 ·intro h i hi
  obtain ⟨a,b,c,d⟩:=h.QV i hi
  exact ⟨a,b,c,d,fun k hk e=>e.2 (h.st i k hi (by omega) e.1)⟩
 ·intro h
  refine ⟨fun j hj=>⟨(h j hj).1,(h j hj).2.1,(h j hj).2.2.1,(h j hj).2.2.2.1⟩,fun j k hj hk e=>?_⟩
  rcases aez j k with g | g | g
  ·have:=(h k hk).2.2.2.2 j g
   by_cases x:ss.getD j 0=ss.getD k 0
   ·exact x
   ·exact absurd ⟨e.symm,fun y=>x y.symm⟩ this
  ·rw [g]
  ·have:=(h j hj).2.2.2.2 k g
   by_cases x:ss.getD j 0=ss.getD k 0
   ·exact x
   ·exact absurd ⟨e,x⟩ this
open Classical in
theorem c83 (s:Sg) (ps ss:List Int) (h40:s.ops.length≤40) (h3:ps.length≤80) (h4:ss.length≤80):Pure Tryz.prog 83 [s.av,eD ps ss] (.bool (decide (gS s ps ss))):=by
 refine fun H=>k83.2.calls rfl ?_
 simp only [k83,aJ]
 obtain ⟨q1,q2,q3,q4,q5,q6⟩:=aS ps ss
 by_cases g1:ps.length=s.ops.length
 rotate_left
 ·have f1:((ps.length:Int)=s.ops.length)=False:=eq_false (by omega)
  simp +contextual only [aF,q1,u0,ay,f1,sZ,Nat.reduceEqDiff,Nat.reduceAdd,↓reduceIte,reduceCtorEq]
  exact fun _ _=>kK _ fun e=>g1 e.1
 by_cases g2:ss.length=s.ops.length
 rotate_left
 ·have f1:((ps.length:Int)=s.ops.length)=True:=eq_true (by omega)
  have f2:((ss.length:Int)=s.ops.length)=False:=eq_false (by omega)
  simp +contextual only [aF,q1,u0,xx,ay,f1,f2,decide_false,sZ,Nat.reduceEqDiff,Nat.reduceAdd,↓reduceIte,reduceCtorEq]
  exact fun _ _ _=>kK _ fun e=>g2 e.2.1
 have f1:((ps.length:Int)=s.ops.length)=True:=eq_true (by omega)
 have f2:((ss.length:Int)=s.ops.length)=True:=eq_true (by omega)
 simp +contextual only [aF,q1,u0,xx,ay,f1,f2,sZ,Nat.reduceEqDiff,Nat.reduceAdd,↓reduceIte,reduceCtorEq]
 refine fun _ _ _=>aC s.ops.length (fun i=>∀ j,j < i→OrR ps ss j) (fun i=>[(2,.ai s.av),(3,.ai (eD ps ss)),(5,.int .i64 i)]) (fun i=>H) ⟨fun j h=>by omega,aB _ _ _⟩ fun i hi hI=>?_
 by_cases hl:i < s.ops.length
 ·have e0:((i:Int) < s.ops.length)=True:=eq_true (by omega)
  have hp:i < ps.length:=by omega
  have hq:i < ss.length:=by omega
  have bad (h:¬ OrR ps ss i):¬ gS s ps ss:=fun e=>h ((Eo _ _ _).1 e.2.2 i hp)
  have hR:OrR ps ss i=(0≤ps.getD i 0∧ps.getD i 0≤255∧1≤ss.getD i 0∧ss.getD i 0≤3∧∀ k,k < i→¬ (ps.getD i 0=ps.getD k 0∧¬ ss.getD i 0=ss.getD k 0)):=rfl
  by_cases h:0≤ps.getD i 0∧ps.getD i 0≤255∧1≤ss.getD i 0∧ss.getD i 0≤3
  ·have e1:(ps.getD i 0 < 0)=False:=eq_false (by omega)
   have e2:(255 < ps.getD i 0)=False:=eq_false (by omega)
   have e3:(ss.getD i 0 < 1)=False:=eq_false (by omega)
   have e4:(3 < ss.getD i 0)=False:=eq_false (by omega)
   simp +contextual only [aF,u0,xx,e0,e1,e2,e3,e4,hp,hq,decide_false,sZ,Nat.reduceEqDiff,↓reduceIte]
   refine fun _=>aC i (fun k=>∀ j,j < k→¬ (ps.getD i 0=ps.getD j 0∧¬ ss.getD i 0=ss.getD j 0)) (fun k=>[(2,.ai s.av),(3,.ai (eD ps ss)),(5,.int .i64 i),(6,.int .i64 k)]) (fun i=>H) ⟨fun j h=>by omega,aB _ _ _⟩ fun k hk hK=>?_
   by_cases oU:k < i
   ·have e3:((k:Int) < i)=True:=eq_true (by omega)
    have Vo:k < ps.length:=by omega
    have hq2:k < ss.length:=by omega
    have next (h:¬ (ps.getD i 0=ps.getD k 0∧¬ ss.getD i 0=ss.getD k 0)):∃ j,(j≤i∧∀ j_1,j_1 < j→¬ (ps.getD i 0=ps.getD j_1 0∧¬ ss.getD i 0=ss.getD j_1 0))∧i - j < i - k∧sle H.length [(2,.ai s.av),(3,.ai (eD ps ss)),(5,.int .i64 i),(6,.int .i64 (IntKind.i64.wrap ((k:Int) + 1)))] H [(2,.ai s.av),(3,.ai (eD ps ss)),(5,.int .i64 i),(6,.int .i64 j)] H:=
     ⟨k + 1,⟨oU,kI hK h⟩,by omega,aD (by rw [au k (by omega)]) rfl⟩
    by_cases h2:ps.getD i 0=ps.getD k 0
    ·have e5:(ps.getD i 0=ps.getD k 0)=True:=eq_true h2
     by_cases h3:ss.getD i 0=ss.getD k 0
     ·have e6:(ss.getD i 0=ss.getD k 0)=True:=eq_true h3
      simp +contextual only [u0,xx,e3,hp,hq,Vo,hq2,e5,e6,decide_true,decide_false,not_true_eq_false,sZ,Nat.reduceEqDiff,↓reduceIte]
      exact next fun e=>e.2 h3
     ·simp +contextual only [u0,xx,e3,hp,hq,Vo,hq2,e5,h3,decide_true,not_false_eq_true,sZ,Nat.reduceEqDiff,↓reduceIte,reduceCtorEq]
      exact kK _ (bad (by rw [hR];exact fun e=>e.2.2.2.2 k oU ⟨h2,h3⟩))
    ·simp +contextual only [u0,e3,hp,Vo,h2,decide_true,decide_false,sZ,Nat.reduceEqDiff,↓reduceIte]
     exact next fun e=>h2 e.1
   ·have e3:((k:Int) < i)=False:=eq_false (by omega)
    simp +contextual only [e3,sZ,Nat.reduceEqDiff,↓reduceIte]
    exact ⟨i + 1,⟨hl,kI hI (by rw [hR];exact ⟨h.1,h.2.1,h.2.2.1,h.2.2.2,fun j hj=>hK j (by omega)⟩)⟩,by omega,aD (by rw [au i (by omega)]) rfl⟩
  ·have bad:=bad (by rw [hR];exact fun e=>h ⟨e.1,e.2.1,e.2.2.1,e.2.2.2.1⟩)
   have fin:=kK (inferInstance:Decidable (gS s ps ss)) (H:=H) (s:=4) bad
   have hz:((ps.getD i 0 < 0)=True∧(True∧True)=True∧(True∧True)=True∧(True∧True)=True)∨((ps.getD i 0 < 0)=False∧(255 < ps.getD i 0)=True∧(True∧True)=True∧(True∧True)=True)∨((ps.getD i 0 < 0)=False∧(255 < ps.getD i 0)=False∧(ss.getD i 0 < 1)=True∧(True∧True)=True)∨((ps.getD i 0 < 0)=False∧(255 < ps.getD i 0)=False∧(ss.getD i 0 < 1)=False∧(3 < ss.getD i 0)=True):=by
    have y:=and_self True
    by_cases a:ps.getD i 0 < 0
    ·exact .inl ⟨eq_true a,y,y,y⟩
    by_cases b:255 < ps.getD i 0
    ·exact .inr (.inl ⟨eq_false a,eq_true b,y,y⟩)
    by_cases c:ss.getD i 0 < 1
    ·exact .inr (.inr (.inl ⟨eq_false a,eq_false b,eq_true c,y⟩))
    ·exact .inr (.inr (.inr ⟨eq_false a,eq_false b,eq_false c,eq_true (by omega)⟩))
   rcases hz with ⟨e1,e2,e3,e4⟩ | ⟨e1,e2,e3,e4⟩ | ⟨e1,e2,e3,e4⟩ | ⟨e1,e2,e3,e4⟩
   all_goals
    simp +contextual only [aF,u0,xx,e0,e1,e2,e3,e4,hp,hq,decide_false,decide_true,sZ,Nat.reduceEqDiff,↓reduceIte,reduceCtorEq]
    exact fun _=>fin
 ·have e0:((i:Int) < s.ops.length)=False:=eq_false (by omega)
  simp +contextual only [aF,e0,sZ,Nat.reduceEqDiff,↓reduceIte,reduceCtorEq]
  refine fun _=>bc rfl ?_
  have:gS s ps ss:=⟨g1,g2,(Eo _ _ _).2 fun j hj=>hI j (by omega)⟩
  simp [this]
open Classical in
theorem c25 (s:Sg) (ps ss:List Int) (hs:Sj s ps ss):Pure Tryz.prog 25 [s.av,eD ps ss] (.int .i64 (if yO s then (if gS s ps ss then 0 else 60) else 40)):=by
 refine fun H=>k25.2.calls rfl ?_
 simp only [k25,aJ]
 obtain ⟨q1,q2,q3,q4,q5,q6⟩:=aS ps ss
 simp +contextual only [aF,q1,sZ,Nat.reduceEqDiff,Nat.reduceAdd,↓reduceIte,reduceCtorEq]
 refine ae (c82 s hs.h5 hs.h6 hs.h1 hs.h2) ?_
 by_cases h:yO s
 ·rw [if_pos h]
  simp +contextual only [aF,q4,bX,sZ,Nat.reduceEqDiff,Nat.reduceAdd,↓reduceIte]
  refine ae (c83 s ps ss hs.h1 hs.h3 hs.h4) ?_
  by_cases h2:gS s ps ss
  ·rw [decide_eq_true h2]
   simp +contextual only [sZ,↓reduceIte,reduceCtorEq]
   exact bc rfl (by rw [if_pos h,if_pos h2])
  ·rw [decide_eq_false h2]
   simp +contextual only [sZ,↓reduceIte,reduceCtorEq]
   exact bc rfl (by rw [if_pos h,if_neg h2])
 ·rw [if_neg h]
  simp +contextual only [sZ,Nat.reduceEqDiff,↓reduceIte,reduceCtorEq,Int.reduceEq]
  exact bc rfl (by rw [if_neg h])
end Go.aI
end
section
set_option maxRecDepth 100000
namespace Go.aI
open Go Go.Proofs Go.eJ
theorem adY (x:T):Pure Tryz.prog 115 [x.av] (.int .i64 (if x.tree=true then 0 else 4)):=by
 refine fun H=>WV.2.calls rfl ?_
 simp only [WV,aJ]
 simp +contextual only [sZ,Nat.reduceEqDiff,Nat.reduceAdd,↓reduceIte]
 refine ae (YC x) ?_
 cases h:x.tree with
 | true=>simp +contextual only [sZ,↓reduceIte,reduceCtorEq];exact bc rfl rfl
 | false=>simp +contextual only [sZ,↓reduceIte,reduceCtorEq];exact bc rfl rfl
theorem adZ (s:Sg):∀ t:T,t.shaped=true→Pure Tryz.prog 116 [s.av,t.av] (.bool (qC s t)):=by
 suffices h:∀ N t,wt t≤N→t.shaped=true→Pure Tryz.prog 116 [s.av,t.av] (.bool (qC s t)) from fun t ht=>h _ t (oN _) ht
 intro N
 induction N with
 | zero=>intro t h;have:=dx t;omega
 | succ N ih=>
 intro t hN hs H
 have hk:=kU hs
 have ih:∀ x∈t.l,Pure Tryz.prog 116 [s.av,x.av] (.bool (qC s x)):=fun x hx=>ih x (by have:=cH hx;omega) (hk.2 x hx)
 have hn:0≤t.n:=by
  rw [T.fI] at hs
  simp only [Sr,aaN,abz,decide_eq_false_iff_not] at hs
  have:=hs.1.1.1.1
  omega
 obtain ⟨m,hm⟩:=abu hn
 refine WW.2.calls rfl ?_
 simp only [WW,aJ]
 have e:qC s t=(!(decide (t.k=2) && (decide ((s.ops.length:Int)≤t.n) || !decide ((t.l.length:Int)=((s.ops.getD t.n.toNat default).args.length:Nat)))) && !(t.l.any fun x=>!qC s x)):=by
  rw [← vK];cases t;rfl
 have fin:(!(decide (t.k=2) && (decide ((s.ops.length:Int)≤t.n) || !decide ((t.l.length:Int)=((s.ops.getD t.n.toNat default).args.length:Nat)))))=false→b8 H.length [.t 4] [(4,.bool false)] H fun r H'=>r=.bool (qC s t)∧H'=H:=by
  intro h
  rw [e,h];exact bc rfl rfl
 by_cases hh:t.k=2∧(s.ops.length:Int)≤t.n
 ·simp +contextual only [aF,hh.1,hh.2,decide_true,sZ,Nat.reduceEqDiff,Nat.reduceAdd,↓reduceIte,reduceCtorEq]
  exact fin (by simp [hh.1,hh.2])
 have em:t.n.toNat=m:=by omega
 by_cases Wc:t.k=2∧¬ (t.l.length:Int)=((s.ops.getD m default).args.length:Nat)
 ·have hml:m < s.ops.length:=by omega
  have VT:¬ (s.ops.length:Int)≤(m:Int):=by omega
  simp +contextual only [aF,Wc.1,VT,Wc.2,hm,hml,ay,decide_true,decide_false,sZ,Nat.reduceEqDiff,Nat.reduceAdd,↓reduceIte,reduceCtorEq]
  exact fin (by rw [em,decide_eq_true Wc.1,decide_eq_false Wc.2,decide_eq_false (by omega:¬ (s.ops.length:Int)≤t.n)];rfl)
 have hd:(!(decide (t.k=2) && (decide ((s.ops.length:Int)≤t.n) || !decide ((t.l.length:Int)=((s.ops.getD t.n.toNat default).args.length:Nat)))))=true:=by
  rw [em]
  by_cases a:t.k=2
  ·rw [decide_eq_false (fun b=>hh ⟨a,b⟩),decide_eq_true (Classical.byContradiction fun b=>Wc ⟨a,b⟩)];simp
  ·rw [decide_eq_false a];rfl
 rw [hd] at e
 have hz:((t.k=2)=False∧(True∧True)=True∧(True∧True)=True∧(True∧True)=True)∨((t.k=2)=True∧(m < s.ops.length)=True∧((s.ops.length:Int)≤(m:Int))=False∧((t.l.length:Int)=((s.ops.getD m default).args.length:Nat))=True):=by
  have y:=and_self True
  by_cases a:t.k=2
  ·exact .inr ⟨eq_true a,eq_true (by omega),eq_false (by omega),eq_true (Classical.byContradiction fun b=>Wc ⟨a,b⟩)⟩
  ·exact .inl ⟨eq_false a,y,y,y⟩
 rcases hz with ⟨e1,e2,e3,e4⟩ | ⟨e1,e2,e3,e4⟩
 all_goals
  simp +contextual only [aF,e1,e2,e3,e4,hm,ay,decide_true,decide_false,sZ,Nat.reduceEqDiff,Nat.reduceAdd,↓reduceIte,reduceCtorEq]
  refine aC t.l.length (fun i=>∀ j,j < i→qC s (t.l.getD j default)=true) (fun i=>[(2,.ai s.av),(3,.ai t.av),(5,.int .i64 i)]) (fun i=>H) ⟨fun j h=>by omega,aB _ _ _⟩ fun i hi hI=>?_
  by_cases hl:i < t.l.length
  ·have e5:((i:Int) < t.l.length)=True:=eq_true (by omega)
   simp +contextual only [aF,e5,hl,sZ,Nat.reduceEqDiff,↓reduceIte]
   refine fun _=>aE (ih _ (QG hl)) ?_
   cases hb:qC s (t.l.getD i default) with
   | false=>
     simp +contextual only [sZ,Nat.reduceEqDiff,↓reduceIte,reduceCtorEq]
     refine bc rfl ?_
     have:(t.l.any fun x=>!qC s x)=true:=List.any_eq_true.2 ⟨_,QG hl,by rw [hb];rfl⟩
     rw [e,this];rfl
   | true=>
     simp +contextual only [sZ,Nat.reduceEqDiff,↓reduceIte]
     exact ⟨i + 1,⟨hl,kI hI hb⟩,by omega,aD (by rw [au i (by omega)]) rfl⟩
  ·have e5:((i:Int) < t.l.length)=False:=eq_false (by omega)
   simp +contextual only [e5,sZ,Nat.reduceEqDiff,↓reduceIte,reduceCtorEq]
   refine fun _=>bc rfl ?_
   have:(t.l.any fun x=>!qC s x)=false:=by
    rw [adi]
    exact xR fun j hj=>by rw [hI j (by omega)];simp
   rw [e,this];rfl
theorem c55 (s:Sg) (t:T):Pure Tryz.prog 55 [s.av,t.av] (.bool (t.tree && qC s t)):=by
 refine fun H=>k55.2.calls rfl ?_
 simp only [k55,aJ]
 simp +contextual only [aF,sZ,Nat.reduceEqDiff,Nat.reduceAdd,↓reduceIte,reduceCtorEq]
 refine ae (adY t) ?_
 cases h:t.tree with
 | false=>
   simp +contextual only [aaT,sZ,Nat.reduceEqDiff,↓reduceIte,reduceCtorEq,Int.reduceEq]
   exact bc rfl rfl
 | true=>
   simp +contextual only [aF,sZ,Nat.reduceEqDiff,Nat.reduceAdd,↓reduceIte]
   refine ae (adZ s t ((T.iD t).1 h).2.2) ?_
   simp +contextual only [sZ,Nat.reduceEqDiff,↓reduceIte,reduceCtorEq]
   exact bc rfl rfl
end Go.aI
end
section
set_option maxRecDepth 100000
namespace Go.aI
open Go Go.Proofs Go.eJ
theorem xS (f:Int→UInt8→Int) (s:ByteArray) (stop:Nat) (h:stop≤s.size):∀ (i j:Nat) (b:Int),j + i=s.size→stop=s.size→(ByteArray.foldlM.loop (m:=_root_.Id) (fun x y=>pure (f x y)) s stop h i j b)=(s.data.toList.drop j).foldl f b
 | 0,j,b,e,e2=>by
   have:s.data.toList.drop j=[]:=aaF (by show s.size≤j;omega)
   rw [this];unfold ByteArray.foldlM.loop
   rw [dif_neg (by omega)];rfl
 | i + 1,j,b,e,e2=>by
   have hj:j < s.data.toList.length:=by show j < s.size;omega
   unfold ByteArray.foldlM.loop
   rw [dif_pos (by omega),aaG hj,List.foldl_cons]
   exact xS f s stop h i (j + 1) _ (by omega) e2
theorem HZ (s:ByteArray):nI s 95=(B2 s:Int):=by
 have h1:nI s 95=s.data.toList.foldl (fun (n:Int) x=>if x == (95:Int).toNat.toUInt8 then n + 1 else n) ((0:Nat):Int):=by
  unfold nI ByteArray.foldl ByteArray.foldlM
  rw [dif_pos (oN _)]
  exact xS _ s _ _ s.size 0 _ (by omega) rfl
 have h2:∀ (l:List UInt8) (n:Nat),l.foldl (fun (n:Int) x=>if x == (95:Int).toNat.toUInt8 then n + 1 else n) (n:Int)=((n + l.countP (· == (95:UInt8)):Nat):Int):=by
  intro l
  induction l with
  | nil=>intro n;simp
  | cons x r ih=>
    intro n
    rw [List.foldl_cons,aeo]
    by_cases hx:x=95
    ·subst hx
     have:=ih (n + 1)
     exact (this.trans (by simp;omega))
    ·have h95:(x == (95:Int).toNat.toUInt8)=false:=by
      rw [beq_eq_false_iff_ne];exact hx
     have h96:(x == (95:UInt8))=false:=by
      rw [beq_eq_false_iff_ne];exact hx
     rw [h95,h96]
     exact (ih n).trans (by simp)
 rw [h1,h2];simp [B2]
theorem QH {c:UInt8} (h:QF c):xt c=false:=by
 unfold QF at h
 have e:(((c.toNat:Nat):Int).toNat.toUInt8)=c:=by simp
 unfold xt
 rw [e,firstIdx_nonneg]
 simp only [abz,decide_eq_false_iff_not,adi]
 refine ⟨⟨by omega,by omega⟩,fun x hx hxc=>?_⟩
 rw [beq_iff_eq] at hxc
 subst hxc
 have hx:x=40∨x=41∨x=44:=by simpa using hx
 rcases hx with rfl | rfl | rfl <;> exact h (by decide)
theorem H5 {s:ByteArray} (h:nB s):nz s=true:=by
 obtain ⟨h1,h2,h3⟩:=h
 unfold nz
 simp only [Sr,aaN,decide_eq_false_iff_not,aaJ]
 refine ⟨⟨by omega,by omega⟩,fun c hc=>?_⟩
 obtain ⟨i,hi,rfl⟩:=abW hc
 have:=QH (h1 i hi)
 rw [oM,Nq hi] at this
 exact this
theorem VB {s:ByteArray} (h:B2 s=0):¬ 0≤Mi s:=by
 have hm:∀ b∈s.data.toList,b≠95:=fun b hb e=>by
  have:=List.countP_eq_zero.1 h b hb
  rw [e] at this;exact this rfl
 unfold Mi
 split
 ·rename_i e
  exact absurd rfl (hm 95 (by rw [e];simp [us]))
 ·rw [firstIdx_none s 95 hm];omega
theorem Ep {s:Sg} (h:∀ i,i < s.aR.length→VA s i):∀ n i,i + n=s.aR.length→lE (s.aR.drop i) (s.aR.take i)=true
 | 0,i,e=>by rw [aaF (by omega)];rfl
 | n + 1,i,e=>by
   have hl:i < s.aR.length:=by omega
   obtain ⟨h1,h2,h3⟩:=h i hl
   have hni:s.aR.getD i default∉s.aR.take i:=fun hm=>by
    obtain ⟨k,hk,e⟩:=abW hm
    rw [aa3] at hk
    refine h3 k (by omega) ?_
    rw [List.getElem_take] at e
    rw [← e,oM,Nq (by omega)];try rfl
   rw [oG hl,if_pos ⟨H5 h1,VB h2,hni⟩]
   have:s.aR.take i++[s.aR.getD i default]=s.aR.take (i + 1):=by
    rw [ada,oM,Nq hl];rfl
   rw [this]
   exact Ep h n (i + 1) (by omega)
theorem Na {s:Sg} {l:List Int} (h:kH s l):∀ a∈l,Gf s.aR.length a=true:=fun a ha=>by
 obtain ⟨h1,h2⟩:=h a ha
 simp [Gf,h1,h2]
theorem aac {s:Sg} {o:iG} (h:M8 s o):oE o s.aR.length=true:=by
 obtain ⟨h1,h2,h3,h4,h5,h6⟩:=h
 have hb:B2 o.name≤o.name.size:=aeH (p:=(· == (95:UInt8))) (l:=o.name.data.toList)
 unfold oE
 rw [HZ]
 simp only [Sr,abm,decide_eq_true_eq,aaN,adi]
 refine ⟨H5 h1,by omega,by omega,by omega,Na h6 _ (by simp),fun x hx=>?_⟩
 rw [Na h5 x hx];simp
theorem QI {a b:Int} (ha:0≤a∧a < 64) (hb:0≤b∧b < 64) (h:JE a=JE b):a=b:=by
 have k:∀ a:Int,0≤a∧a < 64→(JE a).toNat=a.toNat:=by
  intro a ha
  unfold JE
  have:IntKind.u8.wrap a=a:=by
   simp only [IntKind.wrap]
   have h1:IntKind.u8.bits=8:=rfl
   have h2:IntKind.u8.signed=false:=rfl
   rw [h1,h2]
   simp
   omega
  rw [this,UInt8.toNat_ofNat']
  omega
 have:=congrArg UInt8.toNat h
 rw [k a ha,k b hb] at this
 omega
theorem uI:∀ {l m:List Int},(∀ a∈l,0≤a∧a < 64)→(∀ a∈m,0≤a∧a < 64)→l.map JE=m.map JE→l=m
 | [],[],_,_,_=>rfl
 | [],b::m,_,_,h=>by cases h
 | a::l,[],_,_,h=>by cases h
 | a::l,b::m,ha,hb,h=>by
   simp only [List.map_cons,List.cons.injEq] at h
   rw [QI (ha a (by simp)) (hb b (by simp)) h.1,uI (fun x hx=>ha x (by simp [hx])) (fun x hx=>hb x (by simp [hx])) h.2]
theorem H6:∀ {l m r t:List UInt8},(∀ x∈l,x≠40)→(∀ x∈m,x≠40)→l++40::r=m++40::t→l=m∧r=t
 | [],[],_,_,_,_,h=>by simpa using h
 | [],b::m,_,_,_,hb,h=>by
   simp only [List.nil_append,List.cons_append,List.cons.injEq] at h
   exact absurd h.1.symm (hb b (by simp))
 | a::l,[],_,_,ha,_,h=>by
   simp only [List.nil_append,List.cons_append,List.cons.injEq] at h
   exact absurd h.1 (ha a (by simp))
 | a::l,b::m,_,_,ha,hb,h=>by
   simp only [List.cons_append,List.cons.injEq] at h
   obtain ⟨h1,h2⟩:=H6 (fun x hx=>ha x (by simp [hx])) (fun x hx=>hb x (by simp [hx])) h.2
   exact ⟨by rw [h.1,h1],h2⟩
theorem aad {s:ByteArray} (h:nB s):∀ x∈s.data.toList,x≠40:=fun x hx e=>by
 obtain ⟨i,hi,rfl⟩:=abW hx
 have:=h.1 i hi
 rw [oM,Nq hi,Option.getD_some,e] at this
 exact this (by decide)
theorem key_inj {s:Sg} {o q:iG} (h64:s.aR.length≤64) (ho:M8 s o) (hq:M8 s q) (h:jG o=jG q):Wa o q:=by
 have h:Gg o=Gg q:=by
  have:=congrArg (fun b:ByteArray=>b.data.toList) h
  simpa [jG] using this
 have f:∀ o:iG,Gg o=o.name.data.toList++40::(o.args++[o.Cc]).map JE:=fun o=>by
  unfold Gg;simp [ByteArray.data_append]
 rw [f,f] at h
 obtain ⟨h1,h2⟩:=H6 (aad ho.1) (aad hq.1) h
 have g:∀ o:iG,M8 s o→∀ a∈o.args++[o.Cc],0≤a∧a < 64:=fun o ho a ha=>by
  rcases aaO.1 ha with ha | ha
  ·have:=ho.2.2.2.2.1 a ha;omega
  ·have:=ho.2.2.2.2.2 a ha;omega
 have h3:=uI (g o ho) (g q hq) h2
 have h4:=List.append_inj' h3 rfl
 refine ⟨?_,by simpa using h4.2,h4.1⟩
 have:=Array.toList_inj.1 h1
 cases SQ:o.name;cases hq':q.name
 rw [SQ,hq'] at this
 simpa using this
theorem Nb {s:Sg} (h64:s.aR.length≤64) (h:∀ i,i < s.ops.length→Wb s i):∀ n i,i + n=s.ops.length→yH s.aR.length (s.ops.drop i) ((s.ops.take i).map jG)=true
 | 0,i,e=>by rw [aaF (by omega)];rfl
 | n + 1,i,e=>by
   have hl:i < s.ops.length:=by omega
   obtain ⟨h1,h3⟩:=h i hl
   have hni:jG (s.ops.getD i default)∉(s.ops.take i).map jG:=fun hm=>by
    obtain ⟨q,hq,e⟩:=aaq.1 hm
    obtain ⟨k,hk,e2⟩:=abW hq
    rw [aa3] at hk
    rw [List.getElem_take] at e2
    have eq:s.ops.getD k default=q:=by
     rw [← e2,oM,Nq (by omega)];try rfl
    have NO:=h k (by omega)
    refine h3 k (by omega) ?_
    rw [eq]
    exact key_inj h64 (eq ▸ NO.1) h1 e
   rw [tu hl,if_pos ⟨aac h1,hni⟩]
   have:(s.ops.take i).map jG++[jG (s.ops.getD i default)]=(s.ops.take (i + 1)).map jG:=by
    rw [ada,abf,oM,Nq hl];rfl
   rw [this]
   exact Nb h64 h n (i + 1) (by omega)
theorem VC {s:Sg} (h:yO s):mc s=true:=by
 obtain ⟨h1,h2,h3,h4⟩:=h
 unfold mc
 simp only [Sr,decide_eq_true_eq]
 exact ⟨⟨⟨by omega,by omega⟩,Ep h3 s.aR.length 0 (by omega)⟩,Nb h1 h4 s.ops.length 0 (by omega)⟩
end Go.aI
end
section
set_option maxRecDepth 100000
namespace Go.aI
open Go Go.Proofs Go.eJ
theorem VD {c:UInt8} (h:xt c=false):QF c:=by
 have e:(((c.toNat:Nat):Int).toNat.toUInt8)=c:=by simp
 unfold xt at h
 rw [e,firstIdx_nonneg] at h
 simp only [abz,decide_eq_false_iff_not,adi] at h
 obtain ⟨⟨h1,h2⟩,h3⟩:=h
 have k:∀ n:Nat,c.toNat=n→c=n.toUInt8:=fun n hn=>by rw [← hn];simp
 unfold QF
 intro hh
 rcases hh with hh | hh | hh | hh | hh
 ·exact h1 hh
 ·exact h2 hh
 ·have:=k 40 (by omega);subst this;simp at h3
 ·have:=k 41 (by omega);subst this;simp at h3
 ·have:=k 44 (by omega);subst this;simp at h3
theorem Nc {s:ByteArray} (h:nz s=true):nB s:=by
 unfold nz at h
 simp only [Sr,aaN,decide_eq_false_iff_not,aaJ] at h
 obtain ⟨⟨h1,h2⟩,h3⟩:=h
 refine ⟨fun i hi=>VD ?_,by omega,by omega⟩
 have hl:i < s.data.toList.length:=hi
 rw [oM,Nq hl]
 exact h3 _ (abC hl)
theorem VE {s:ByteArray} (h:¬ 0≤Mi s):B2 s=0:=by
 refine Classical.byContradiction fun dG=>h ?_
 unfold Mi
 split
 ·exact aeU _
 ·have:=firstIdx_nonneg s 95
  have hb:s.data.toList.any (· == (95:UInt8))=true:=by
   rw [List.any_eq_true]
   have hp:0 < s.data.toList.countP (· == (95:UInt8)):=Nat.pos_of_ne_zero dG
   obtain ⟨x,hx,h2⟩:=List.countP_pos_iff.1 hp
   exact ⟨x,hx,h2⟩
  rw [hb] at this
  exact of_decide_eq_true this
theorem H7 {s:Sg}:∀ n i,i + n=s.aR.length→lE (s.aR.drop i) (s.aR.take i)=true→∀ j,i≤j→j < s.aR.length→VA s j
 | 0,i,e,_,j,h1,h2=>by omega
 | n + 1,i,e,h,j,h1,h2=>by
   have hl:i < s.aR.length:=by omega
   have ht:s.aR.take i++[s.aR.getD i default]=s.aR.take (i + 1):=by
    rw [ada,oM,Nq hl];rfl
   rw [oG hl,ht] at h
   split at h
   ·rename_i hc
    obtain ⟨c1,c2,c3⟩:=hc
    by_cases e2:j=i
    ·subst e2
     refine ⟨Nc c1,VE c2,fun k hk he=>c3 ?_⟩
     rw [← he,oM,Nq (by omega)]
     exact List.mem_take_iff_getElem.2 ⟨k,by omega,rfl⟩
    ·exact H7 n (i + 1) (by omega) h j (by omega) h2
   ·cases h
theorem Sl {s:Sg} {l:List Int} (h:∀ a∈l,Gf s.aR.length a=true):kH s l:=fun a ha=>by
 have:=h a ha
 simpa [Gf] using this
theorem ad2 {s:Sg} {o:iG} (h:oE o s.aR.length=true):M8 s o:=by
 unfold oE at h
 rw [HZ] at h
 simp only [Sr,abm,decide_eq_true_eq,aaN,adi] at h
 obtain ⟨h1,h2,h3,h4,h5,h6⟩:=h
 exact ⟨Nc h1,by omega,by omega,by omega,Sl fun a ha=>by simpa using h6 a ha,Sl fun a ha=>by rw [aav.1 ha];exact h5⟩
theorem Sm {s:Sg}:∀ n i,i + n=s.ops.length→yH s.aR.length (s.ops.drop i) ((s.ops.take i).map jG)=true→∀ j,i≤j→j < s.ops.length→Wb s j
 | 0,i,e,_,j,h1,h2=>by omega
 | n + 1,i,e,h,j,h1,h2=>by
   have hl:i < s.ops.length:=by omega
   have ht:(s.ops.take i).map jG++[jG (s.ops.getD i default)]=(s.ops.take (i + 1)).map jG:=by
    rw [ada,abf,oM,Nq hl];rfl
   rw [tu hl,ht] at h
   split at h
   ·rename_i hc
    obtain ⟨c1,c3⟩:=hc
    by_cases e2:j=i
    ·subst e2
     refine ⟨ad2 c1,fun k hk he=>c3 ?_⟩
     obtain ⟨m1,m2,m3⟩:=he
     have ul:jG (s.ops.getD k default)=jG (s.ops.getD j default):=by unfold jG Gg;rw [m1,m2,m3]
     rw [← ul,aaq]
     refine ⟨_,?_,rfl⟩
     rw [oM,Nq (by omega)]
     exact List.mem_take_iff_getElem.2 ⟨k,by omega,rfl⟩
    ·exact Sm n (i + 1) (by omega) h j (by omega) h2
   ·cases h
theorem H8 {s:Sg}:yO s↔mc s=true:=by
 refine ⟨VC,fun h=>?_⟩
 unfold mc at h
 simp only [Sr,decide_eq_true_eq] at h
 obtain ⟨⟨⟨h1,h2⟩,h3⟩,h4⟩:=h
 exact ⟨by omega,by omega,fun i hi=>H7 s.aR.length 0 (by omega) h3 i (by omega) hi,fun i hi=>Sm s.ops.length 0 (by omega) h4 i (by omega) hi⟩
theorem aae (s:Sg) (ps ss:List Int) (hs:Sj s ps ss):Pure Tryz.prog 25 [s.av,eD ps ss] (.int .i64 (jl s ps ss)):=by
 have h:=c25 s ps ss hs
 unfold jl
 by_cases h1:mc s=true
 ·rw [if_pos (H8.2 h1)] at h
  rw [if_pos h1]
  by_cases h2:gS s ps ss
  ·rw [if_pos h2] at h ⊢;exact h
  ·rw [if_neg h2] at h ⊢;exact h
 ·rw [if_neg (fun h2=>h1 (H8.1 h2))] at h
  rw [if_neg h1];exact h
end Go.aI
end
section
namespace Go.aI
open Go Go.eJ
def nt (l:List Nd) (i:Int):T:=(l.getD i.toNat default).1
def nk (l:List Nd) (i:Int):List Int:=(l.getD i.toNat default).2
def gI:List T→Nat→List Int
 | [],_=>[]
 | x::r,i=>((i + wt x - 1:Nat):Int)::gI r (i + wt x)
mutual
def bF:T→Nat→List Nd
 | .mk k n l,i=>eR l i++[(.mk k n l,gI l i)]
def eR:List T→Nat→List Nd
 | [],_=>[]
 | x::r,i=>bF x i++eR r (i + wt x)
end
theorem Nf (t:T) (i:Nat):bF t i=eR t.l i++[(t,gI t.l i)]:=by cases t;rw [bF];rfl
mutual
theorem ep:∀ (t:T) (i:Nat),(bF t i).length=wt t
 | .mk k n l,i=>by rw [bF,aap,mi,wt];simp;omega
theorem mi:∀ (l:List T) (i:Nat),(eR l i).length=fw l
 | [],_=>rfl
 | x::r,i=>by rw [eR,aap,ep,mi,fw]
end
theorem xT:∀ (l:List T) (x:T) (i:Nat),eR (l++[x]) i=eR l i++bF x (i + fw l)
 | [],x,i=>by simp [eR,fw]
 | y::r,x,i=>by rw [List.cons_append,eR,eR,xT r x,aaD,fw];congr 3;omega
theorem uJ:∀ (l:List T) (x:T) (i:Nat),gI (l++[x]) i=gI l i++[((i + fw l + wt x - 1:Nat):Int)]
 | [],x,i=>by simp [gI,fw]
 | y::r,x,i=>by rw [List.cons_append,gI,gI,uJ r x,fw];simp;omega
theorem xU:∀ (l:List T) (i:Nat),(gI l i).length=l.length
 | [],_=>rfl
 | x::r,i=>by rw [gI,List.length_cons,xU,List.length_cons]
def NP (l:List Nd):Prop:=∀ (i:Nat),i < l.length→(nk l i).map (nt l)=(nt l i).l∧∀ k∈nk l i,0≤k∧k < (i:Int)
theorem GC {p q:List Nd} {k:Int} (h0:0≤k) (h:k < p.length):nt (p++q) k=nt p k:=by
 unfold nt
 rw [oM,tK (by omega),← oM]
theorem VF {p q:List Nd} {k:Int} (h0:0≤k) (h:k < p.length):nk (p++q) k=nk p k:=by
 unfold nk
 rw [oM,tK (by omega),← oM]
theorem xV {p q:List Nd} {ks:List Int} (h:∀ k∈ks,0≤k∧k < (p.length:Int)):ks.map (nt (p++q))=ks.map (nt p):=
 aa5 fun k hk=>GC (h k hk).1 (h k hk).2
theorem NP.snoc {p:List Nd} (h:NP p) {t:T} {ks:List Int} (h1:ks.map (nt p)=t.l) (h2:∀ k∈ks,0≤k∧k < (p.length:Int)):NP (p++[(t,ks)]):=by
 intro i hi
 rw [aap,aeG] at hi
 by_cases e:i=p.length
 ·subst e
  have e1:nt (p++[(t,ks)]) (p.length:Int)=t:=by simp [nt]
  have e2:nk (p++[(t,ks)]) (p.length:Int)=ks:=by simp [nk]
  rw [e1,e2,xV h2,h1]
  exact ⟨rfl,h2⟩
 ·have hl:i < p.length:=by omega
  obtain ⟨h3,h4⟩:=h i hl
  rw [GC (by omega) (by omega),VF (by omega) (by omega),xV fun k hk=>⟨(h4 k hk).1,by have:=(h4 k hk).2;omega⟩]
  exact ⟨h3,h4⟩
mutual
theorem B3:∀ (t:T) (p:List Nd),NP p→NP (p++bF t p.length)∧nt (p++bF t p.length) ((p.length + wt t - 1:Nat):Int)=t
 | .mk k n l,p,h=>by
   obtain ⟨h1,h2,h3⟩:=Er l p h
   rw [bF,← aaD]
   refine ⟨h1.snoc h2 fun k hk=>by have:=h3 k hk;rw [aap,mi];omega,?_⟩
   have e:p.length + wt (.mk k n l) - 1=(p++eR l p.length).length:=by rw [aap,mi,wt];omega
   rw [e,aaD,← aaD]
   unfold nt
   rw [tN,oM,aaE (oN _),ado];rfl
theorem Er:∀ (l:List T) (p:List Nd),NP p→NP (p++eR l p.length)∧(gI l p.length).map (nt (p++eR l p.length))=l∧∀ k∈gI l p.length,0≤k∧k < ((p.length + fw l:Nat):Int)
 | [],p,h=>⟨by rw [eR,aaV];exact h,rfl,fun k hk=>by cases hk⟩
 | x::r,p,h=>by
   obtain ⟨h1,h2⟩:=B3 x p h
   have hl:(p++bF x p.length).length=p.length + wt x:=by rw [aap,ep]
   obtain ⟨h3,h4,h5⟩:=Er r (p++bF x p.length) h1
   rw [hl] at h3 h4 h5
   rw [eR,← aaD,fw]
   have hw:=dx x
   refine ⟨h3,?_,fun k hk=>?_⟩
   ·rw [gI,List.map_cons,h4,GC (by omega) (by rw [hl];omega),h2]
   ·rw [gI] at hk
    rcases aan.1 hk with rfl | hk
    ·constructor <;> omega
    ·have:=h5 k hk;constructor <;> omega
end
mutual
theorem Es {p:T→Prop} (hp:∀ t,p t→∀ x∈t.l,p x):∀ (t:T) (i:Nat),p t→∀ q∈bF t i,p q.1
 | .mk k n l,i,h,q,hq=>by
   rw [bF] at hq
   rcases aaO.1 hq with hq | hq
   ·exact Aj hp l i (fun x hx=>hp _ h x hx) q hq
   ·rw [aav.1 hq];exact h
theorem Aj {p:T→Prop} (hp:∀ t,p t→∀ x∈t.l,p x):∀ (l:List T) (i:Nat),(∀ x∈l,p x)→∀ q∈eR l i,p q.1
 | [],i,h,q,hq=>by cases hq
 | x::r,i,h,q,hq=>by
   rw [eR] at hq
   rcases aaO.1 hq with hq | hq
   ·exact Es hp x i (h x (by simp)) q hq
   ·exact Aj hp r _ (fun y hy=>h y (by simp [hy])) q hq
end
def dQ (q:Int→Int→Bool):List Int→List Int→List Int×List Int
 | [],b=>([],b)
 | x::r,b=>if b.findIdx (q x) < b.length then dQ q r (b.eraseIdx (b.findIdx (q x))) else (x::(dQ q r b).1,(dQ q r b).2)
theorem uK {f:Int→T}:∀ {b:List Int} {j:Nat},j < b.length→(b.map f).Perm (f (b.getD j 0)::(b.eraseIdx j).map f)
 | [],j,h=>by cases h
 | y::r,0,h=>by simp
 | y::r,j + 1,h=>by
   have ih:=uK (f:=f) (b:=r) (j:=j) (by simpa using h)
   simp only [List.eraseIdx_cons_succ,List.map_cons,List.getD_cons_succ] at ih ⊢
   exact (ih.cons _).trans (List.Perm.swap _ _ _)
theorem pv {q:Int→Int→Bool}:∀ (a b:List Int),(∀ x∈(dQ q a b).1,x∈a)∧∀ y∈(dQ q a b).2,y∈b
 | [],b=>⟨fun x hx=>hx,fun y hy=>hy⟩
 | x::r,b=>by
   rw [dQ]
   split
   ·obtain ⟨i1,i2⟩:=pv (q:=q) r (b.eraseIdx (b.findIdx (q x)))
    exact ⟨fun u hu=>by simp [i1 u hu],fun y hy=>acs (i2 y hy)⟩
   ·obtain ⟨i1,i2⟩:=pv (q:=q) r b
    refine ⟨fun u hu=>?_,i2⟩
    rcases aan.1 hu with rfl | hu
    ·simp
    ·simp [i1 u hu]
theorem kY {q:Int→Int→Bool} {f g:Int→T}:∀ (a b:List Int),(∀ x∈a,∀ y∈b,q x y=true↔f x=g y)→
 ∃ C,(a.map f).Perm ((dQ q a b).1.map f++C)∧(b.map g).Perm ((dQ q a b).2.map g++C)∧Qb ((dQ q a b).1.map f) ((dQ q a b).2.map g)
 | [],b,h=>⟨[],by simp [dQ],by simp [dQ],fun z hz=>by simp [dQ] at hz⟩
 | x::r,b,h=>by
   rw [dQ]
   split
   ·rename_i aX
    have hq:=aeO (xs:=b) (p:=q x) (w:=aX)
    have hb:b.getD (b.findIdx (q x)) 0=b[b.findIdx (q x)]:=by simp [aX]
    have hm:b.getD (b.findIdx (q x)) 0∈b:=by rw [hb];exact abC aX
    have hfg:f x=g (b.getD (b.findIdx (q x)) 0):=(h x (by simp) _ hm).1 (by rw [hb];exact hq)
    obtain ⟨C,i1,i2,i3⟩:=kY (q:=q) (f:=f) (g:=g) r (b.eraseIdx (b.findIdx (q x))) fun u hu y hy=>h u (by simp [hu]) y (acs hy)
    refine ⟨f x::C,?_,?_,i3⟩
    ·exact (i1.cons _).trans List.perm_middle.symm
    ·refine (uK aX).trans ?_
     rw [← hfg]
     exact (i2.cons _).trans List.perm_middle.symm
   ·rename_i jN
    have hn:∀ y∈b,¬ q x y=true:=fun y hy hq=>jN (aeF ⟨y,hy,hq⟩)
    obtain ⟨C,i1,i2,i3⟩:=kY (q:=q) (f:=f) (g:=g) r b fun u hu y hy=>h u (by simp [hu]) y hy
    refine ⟨C,i1.cons _,i2,fun z hz Gb=>?_⟩
    rcases aan.1 hz with rfl | hz
    ·obtain ⟨y,hy,e⟩:=aaq.1 Gb
     have hyb:=(pv (q:=q) r b).2 y hy
     exact hn y hyb ((h x (by simp) y hyb).2 e.symm)
    ·exact i3 z hz Gb
theorem GD {q:Int→Int→Bool} {f g:Int→T} {a b:List Int} (h:∀ x∈a,∀ y∈b,q x y=true↔f x=g y) (hl:a.length=b.length):(dQ q a b).1=[]↔(a.map f).Perm (b.map g):=by
 obtain ⟨C,h1,h2,h3⟩:=kY a b h
 rw [pT h1 h2 h3,abL,abL]
 refine ⟨fun h0=>⟨h0,?_⟩,fun h0=>h0.1⟩
 have e1:=h1.length_eq
 have e2:=h2.length_eq
 rw [h0] at e1
 simp only [aap,abx,List.length_nil] at e1 e2
 exact aaK.1 (by omega)
theorem Ng {q:Int→Int→Bool} {f g:Int→T} {G:T→T→Prop} {a b:List Int} (h:∀ x∈a,∀ y∈b,q x y=true↔f x=g y) :
 Mu G (a.map f) (b.map g)↔(dQ q a b).1≠[]∧∀ y∈(dQ q a b).2,∃ x∈(dQ q a b).1,G (f x) (g y):=by
 obtain ⟨C,h1,h2,h3⟩:=kY a b h
 rw [L4 h1 h2 h3,Ne,abL]
 refine and_congr Iff.rfl ⟨fun hh y hy=>?_,fun hh y hy=>?_⟩
 ·obtain ⟨x,hx,hg⟩:=hh (g y) (aaq.2 ⟨y,hy,rfl⟩)
  obtain ⟨u,hu,rfl⟩:=aaq.1 hx
  exact ⟨u,hu,hg⟩
 ·obtain ⟨v,hv,rfl⟩:=aaq.1 hy
  obtain ⟨u,hu,hg⟩:=hh v hv
  exact ⟨f u,aaq.2 ⟨u,hu,rfl⟩,hg⟩
end Go.aI
end
section
set_option maxRecDepth 100000
namespace Go.aI
open Go Go.Proofs Go.eJ
def jR (p:Nd):AV:=.agg [.int .i64 p.1.k,.int .i64 p.1.n,.ap 0 (cQ p.1.l),.ap 0 (ints p.2)]
def dj (l:List Nd):List AV:=l.map jR
def jS:List Nd→AV
 | []=>.ag
 | p::r=>.ap 4 (dj (p::r))
theorem ew (l:List Nd):(dj l).length=l.length:=by simp [dj]
theorem tF (p:Nd):(jR p).cells.length=4:=rfl
theorem Et (p:Nd):(jR p).cells.all AV.one=true:=rfl
theorem JQ (l:List Nd):qP 4 (dj l)=True:=by
 simp only [qP,eq_iff_iff,iff_true]
 intro y hy
 obtain ⟨z,_,rfl⟩:=aaq.1 hy
 exact ⟨rfl,rfl⟩
theorem Eu (p:Nd):qP 4 [jR p]=True:=JQ [p]
theorem GF (l:List Nd) (p:Nd):dj l++[jR p]=dj (l++[p]):=by simp [dj]
theorem pw (n:Nat) (l:List Nd):aj n (dj l)=true:=
 (aY _ _).2 fun x hx=>by
   obtain ⟨p,_,rfl⟩:=aaq.1 hx
   simp [jR,AV.a9,dT,bb,aj]
theorem QJ (vs:List Nd) (p:Nd) (o:Nat) (ψ:List AV→Prop):bE 4 64 (jS vs) (.ap o [jR p]) ψ=((vs.length + 1) * 64≤140737488355328∧ψ (dj (vs++[p]))):=by
 cases vs with
 | nil=>simp [jS,mT,Eu,dj]
 | cons v r=>
   show bE 4 64 (.ap 4 (dj (v::r))) _ ψ=_
   rw [mU,Eu,ew,GF]
   simp
theorem QK {l:List Nd} (h:l≠[]):AV.ap 4 (dj l)=jS l:=by
 cases l with
 | nil=>exact absurd rfl h
 | cons _ _=>rfl
theorem qJ (l:List Nd):(jS l).one=true∧(jS l).val=true∧(jS l).cells=[jS l]∧(∀ n,(jS l).a9 n=true)∧aL 1 (jS l)=True∧∀ (H:List aa) (φ:AV→Prop),eU (jS l) H φ=(l.length < 9223372036854775808→φ (.int .i64 l.length)):=by
 cases l with
 | nil=>exact ⟨rfl,rfl,rfl,fun _=>rfl,by simp [jS,aL],fun _ φ=>by show φ _=_;simp⟩
 | cons p r=>exact ⟨rfl,rfl,rfl,fun n=>by rw [jS,cc];exact pw n _,by simp [jS,aL],fun _ φ=>by show (_→φ _)=_;rw [ew]⟩
theorem QL (l:List Nd):aL 1 (jS l).ab=True∧∀ (H:List aa) (φ:AV→Prop),eU (jS l).ab H φ=(l.length < 9223372036854775808→φ (.int .i64 l.length)):=by
 cases l with
 | nil=>exact ⟨by simp [jS,AV.ab,aL],fun _ φ=>by show φ _=_;simp⟩
 | cons p r=>exact ⟨by simp [jS,AV.ab,aL],fun _ φ=>by show (_→φ _)=_;rw [ew]⟩
theorem Nh (t:T) (ks:List Int) (φ:AV→Prop):cV (some (.cells [.int .i64 t.k,.int .i64 t.n,.ap 0 (cQ t.l),iK ks])) (some 4) 0 φ=φ (jR (t,ks)):=by
 cases ks <;> simp [cV,jR,iK,AV.drop,ints]
theorem QM (p:Nd):aV (jR p)=jR p:=rfl
theorem B4 (p:Nd):(jR p).val=true:=rfl
theorem aaf:∀ (N:Nat) (t:T),wt t≤N→∀ (xs:List Nd) (H:List aa),(xs.length + wt t) * 64≤140737488355328→
 aw Tryz.prog 187 [jS xs,t.av] H fun r H'=>r=jS (xs++bF t xs.length)∧H'=H:=by
 intro N
 induction N with
 | zero=>intro t ht;have:=dx t;omega
 | succ N ih=>
 intro t ht xs H hb
 have hw:=xm t
 have YK:=gh t.l
 refine Xx.2.calls rfl ?_
 simp only [Xx,aJ]
 simp +contextual only [bdN,sZ,Nat.reduceEqDiff,Nat.reduceAdd,↓reduceIte,reduceCtorEq]
 have gC:∀ i,(xs++eR (t.l.take i) xs.length).length=xs.length + fw (t.l.take i):=fun i=>by rw [aap,mi]
 refine aC t.l.length (fun i=>True) (fun i=>[(0,jS (xs++eR (t.l.take i) xs.length)),(3,.ai t.av),(5,.ptr H.length 0),(6,.int .i64 i)])
  (fun i=>H++[.cells [.int .i64 t.k,.int .i64 t.n,.ap 0 (cQ t.l),iK (gI (t.l.take i) xs.length)]]) ⟨trivial,aD (by simp [eR]) rfl⟩ fun i hi hI=>?_
 have hle:=cN t.l i
 have E2:=xU (t.l.take i) xs.length
 have Qf:(t.l.take i).length≤t.l.length:=by simp;omega
 obtain ⟨f1,f2,f3,f4,f5,f6⟩:=qJ (xs++eR (t.l.take i) xs.length)
 simp +contextual only [sZ,Nat.reduceEqDiff,Nat.reduceAdd,↓reduceIte,reduceCtorEq]
 refine fun _=>⟨fun aX=>⟨b9 aX,?_⟩,fun jV=>?_⟩
 ·have aX:=b9 aX
  have hwt:=lZ aX
  have hnext:=cN t.l (i + 1)
  have e2:t.l.take (i + 1)=t.l.take i++[t.l.getD i default]:=by rw [aaY aX];simp [aX]
  have hwp:=dx (t.l.getD i default)
  refine af (ih (t.l.getD i default) (by have:=cH (iB aX);omega) _ _ (by rw [gC];omega)) ?_
  rintro r G' ⟨rfl,rfl⟩
  have e3:xs++eR (t.l.take i) xs.length++bF (t.l.getD i default) (xs++eR (t.l.take i) xs.length).length=xs++eR (t.l.take (i + 1)) xs.length:=by
   rw [gC,e2,xT,aaD]
  rw [e3]
  obtain ⟨f5,f6⟩:=QL (xs++eR (t.l.take (i + 1)) xs.length)
  have uY:=gC (i + 1)
  simp +contextual only [f5,f6,uY,LS,LU,oB,gO,List.getD_cons_succ,List.getD_cons_zero,aeW,aey,sZ,Nat.reduceEqDiff,Nat.reduceAdd,Nat.reduceLT,↓reduceIte,reduceCtorEq]
  refine fun _=>⟨by omega,i + 1,aX,by omega,aD (by rw [au i (by omega)]) ?_⟩
  have e4:IntKind.i64.wrap (((xs.length + fw (t.l.take (i + 1)):Nat):Int) - 1)=((xs.length + fw (t.l.take i) + wt (t.l.getD i default) - 1:Nat):Int):=by
   rw [cR _ (by omega)];omega
  rw [e4,e2,uJ]
 ·have lM:i=t.l.length:=by have:=dl jV;omega
  subst lM
  have uY:=gC t.l.length
  rw [aaC] at uY hle ⊢
  simp +contextual only [Nh,QM,B4,tF,QJ,uY,sZ,Nat.reduceEqDiff,↓reduceIte,reduceCtorEq]
  refine ⟨by omega,ba H.length (oN _) (by rw [aA,if_pos rfl,cc];exact pw _ _) ⟨?_,by simp⟩⟩
  rw [aA,if_pos rfl,QK (by simp),Nf,aaD]
end Go.aI
end
section
set_option maxRecDepth 100000
namespace Go.aI
open Go Go.Proofs Go.eJ
structure VG (ps:List Int) (l:List Nd):Prop where
 ne:l≠[]
 len:l.length≤100000000
 np:NP l
 kl:∀ i:Nat,i < l.length→(nk l i).length≤100000000
 kd:∀ i:Nat,i < l.length→(nt l i).k=1∨(nt l i).k=2
 op:∀ i:Nat,i < l.length→(nt l i).k=2→0≤(nt l i).n∧(nt l i).n < ps.length
structure Tb where
 ps:List Int
 ss:List Int
 a:List Nd
 b:List Nd
def Tb.O (c:Tb):Od:=iW c.ps c.ss
def Tb.f (c:Tb) (x:Int):T:=norm c.O (nt c.a x)
def Tb.g (c:Tb) (y:Int):T:=norm c.O (nt c.b y)
def Tb.tE (c:Tb) (i k:Int):Prop:=c.f i=c.g k
def Tb.tR (c:Tb) (i k:Int):Prop:=Gt c.O.sp (c.f i) (c.g k)
structure Tb.Ok (c:Tb):Prop where
 va:Va c.ps c.ss
 a:VG c.ps c.a
 b:VG c.ps c.b
theorem VG.kids {ps:List Int} {l:List Nd} (h:VG ps l) {i:Int} (h0:0≤i) (h1:i < l.length):(nk l i).map (nt l)=(nt l i).l∧(∀ k∈nk l i,0≤k∧k < i)∧(nk l i).length≤100000000:=by
 obtain ⟨n,rfl⟩:=abu h0
 obtain ⟨h2,h3⟩:=h.np n (by omega)
 exact ⟨h2,h3,h.kl n (by omega)⟩
theorem VG.kind {ps:List Int} {l:List Nd} (h:VG ps l) {i:Int} (h0:0≤i) (h1:i < l.length):((nt l i).k=1∨(nt l i).k=2)∧((nt l i).k=2→0≤(nt l i).n∧(nt l i).n < ps.length):=by
 obtain ⟨n,rfl⟩:=abu h0
 exact ⟨h.kd n (by omega),h.op n (by omega)⟩
def Row (es:List AV) (H:List aa) (nb:Nat) (j m:Int) (Q:Prop):Prop:=
 ∃ r bs x,es.getD j.toNat .any=.aW r 0 nb nb∧j.toNat < es.length∧H[r]?=some (.cells bs)∧m.toNat < bs.length∧bs.getD m.toNat .any=.bool x∧(x=true↔Q)
structure TbX (c:Tb) (x:Nat) (i k:Int) (H:List aa) (ie ne ce:Nat) (ese:List AV) (ig ng cg:Nat) (esg:List AV):Prop where
 x:H[x]?=some (.cells [.ap 0 (ints c.ps),.ap 0 (ints c.ss),.ap 0 (dj c.a),.ap 0 (dj c.b),.aW ie 0 ne ce,.aW ig 0 ng cg])
 e:H[ie]?=some (.cells ese)
 g:H[ig]?=some (.cells esg)
 ne:i < ne
 ng:i < ng
 rows:∀ j m:Int,0≤j→0≤m→m < c.b.length→(j < i∨j=i∧m < k)→Row ese H c.b.length j m (c.tE j m)∧Row esg H c.b.length j m (c.tR j m)
def Sn (c:Tb) (x:Nat) (i k:Int) (H:List aa):Prop:=∃ ie ne ce ese ig ng cg esg,TbX c x i k H ie ne ce ese ig ng cg esg
theorem H9 (e o:Nat) (l:List Nd) (k:IntKind) (i:Int) (φ:AV→Prop):ax e (.ap o (dj l)) (.int k i) φ=((0≤i∧i < l.length)∧φ (.ai (jR (l.getD i.toNat default)))):=by
 simp only [ax,ew,eq_iff_iff]
 constructor
 ·rintro ⟨h0,h,h2⟩;refine ⟨by omega,?_⟩;simpa [dj,h] using h2
 ·rintro ⟨⟨h0,h⟩,h2⟩;have h:i.toNat < l.length:=by omega
  refine ⟨h0,h,?_⟩;simpa [dj,h] using h2
theorem px (o:Nat) (l:List Nd):(∀ (own:Nat) (xs:List AV),AV.ap o (dj l)=AV.ap own xs→∀ z∈xs,z.cells.length=4)=True:=by
 simp only [eq_iff_iff,iff_true]
 intro own xs e z hz
 cases e
 obtain ⟨p,_,rfl⟩:=aaq.1 hz
 rfl
theorem sm (e id N c:Nat) (k:IntKind) (i:Int) (φ:AV→Prop):ax e (.aW id 0 N c) (.int k i) φ=((0≤i∧i < N)∧φ (.ptr id (i.toNat * e))):=by
 simp only [ax,aaQ,eq_iff_iff]
 constructor
 ·rintro ⟨h0,h,h2⟩;exact ⟨by omega,h2⟩
 ·rintro ⟨⟨h0,h⟩,h2⟩;exact ⟨h0,by omega,h2⟩
theorem QN (p:Nd) (φ:AV→Prop):al 0 (some 3) (.ai (jR p)) φ=φ (.ai p.1.av):=by
 obtain ⟨⟨k,n,l⟩,ks⟩:=p
 simp [al,jR,apart,AV.cells,T.av,T.k,T.n,T.l]
theorem J3 (p:Nd) (φ:AV→Prop):al 3 none (.ai (jR p)) φ=φ (.ai (.ap 0 (ints p.2))):=by
 simp [al,jR,apart,AV.cells,AV.one]
theorem gl (l:List Nd) (i:Int):(l.getD i.toNat default).2=nk l i:=rfl
theorem jT (l:List Nd) (i:Int):(l.getD i.toNat default).1=nt l i:=rfl
theorem ca {l:List Int} {n:Nat} (h:n < l.length):l.getD n 0∈l:=by simp [h]
theorem py {l:List Int} {y:Int} (h:y∈l):∃ m,m < l.length∧l.getD m 0=y:=by
 obtain ⟨m,hm,e⟩:=List.mem_iff_getElem.1 h
 exact ⟨m,hm,by simp [hm,e]⟩
theorem fa {H:List aa} {s:Nat} {b:Bool} {Q:AV→Prop} (h:Q (.bool b)):b8 H.length [.t s] [(s,.bool b)] H fun r H'=>Q r∧H'=H:=
 ba H.length (oN _) (by rw [aA,if_pos rfl];rfl) ⟨by rw [aA,if_pos rfl];exact h,aaC⟩
theorem aag (ps ss:List Int) (a b:T) (ha:0≤a.n∧a.n < ps.length) (hb:0≤b.n∧b.n < ps.length):Pure Tryz.prog 158 [eD ps ss,a.av,b.av] (.bool (decide ((iW ps ss).pl a.n=(iW ps ss).pl b.n))):=by
 refine fun H=>Xj.2.calls rfl ?_
 simp only [Xj,aJ]
 obtain ⟨q1,q2,q3,q4,q5,q6⟩:=aS ps ss
 simp +contextual only [q1,u0,a7,sZ,Nat.reduceEqDiff,Nat.reduceAdd,↓reduceIte,reduceCtorEq]
 exact ⟨ha,hb,bc rfl rfl⟩
theorem GG (l:List Int) {i:Nat} (h:i < l.length):(l.drop (l.length - i)).reverse++[l.getD (l.length - 1 - i) 0]=(l.drop (l.length - (i + 1))).reverse:=by
 have e:l.drop (l.length - (i + 1))=l.getD (l.length - 1 - i) 0::l.drop (l.length - i):=by
  rw [aaG (by omega)]
  have e1:l.length - (i + 1) + 1=l.length - i:=by omega
  have e2:l.length - (i + 1)=l.length - 1 - i:=by omega
  rw [e1];congr 1
  have h3:l.length - 1 - i < l.length:=by omega
  simp [h3,e2]
 rw [e,List.reverse_cons]
theorem Ni (vs:List Int):(iK vs).ab.ab.le (.ap 0 (ints vs)):=by
 have:=FZ vs
 cases vs <;> exact this
theorem aah (ps ss:List Int) (a:T) (l:List Int) (IB:l.length≤100000000) (ha:0≤a.n∧a.n < ss.length):Pure Tryz.prog 227 [eD ps ss,a.av,.ap 0 (ints l)] (.ap 0 (ints (bp (ss.getD a.n.toNat 0) l))):=by
 refine fun H=>XZ.2.calls rfl ?_
 simp only [XZ,aJ]
 obtain ⟨q1,q2,q3,q4,q5,q6⟩:=aS ps ss
 simp +contextual only [q1,xx,a7,sZ,Nat.reduceEqDiff,Nat.reduceAdd,↓reduceIte,reduceCtorEq]
 refine ⟨ha,fun h=>?_,fun h=>?_⟩
 ·refine bc (by rw [cc,bb]) ?_
  rw [bp,if_neg h]
 ·intro hl
  refine aC l.length (fun i=>True) (fun i=>[(2,.ap 0 (ints l)),(7,iK (l.drop (l.length - i)).reverse),(8,.int .i64 ((l.length:Int) - 1 - i))]) (fun i=>H) ⟨trivial,aD ?_ rfl⟩ fun i hi _=>?_
  ·rw [cR _ (by omega)];simp [iK]
  have hlen:(l.drop (l.length - i)).reverse.length=i:=by simp;omega
  have NJ:0≤(i:Int):=by omega
  simp +contextual only [a7,oB,gO,hlen,sZ,Nat.reduceEqDiff,Nat.reduceAdd,↓reduceIte,reduceCtorEq]
  clear hlen
  refine ⟨fun h1=>?_,fun h1=>?_⟩
  ·refine ⟨by omega,by omega,i + 1,by omega,by omega,aD ?_ rfl⟩
   have e:((l.length:Int) - 1 - i).toNat=l.length - 1 - i:=by omega
   have e5:(l.length:Int) - 1 - i - 1=l.length - 1 - ((i + 1:Nat):Int):=by omega
   rw [cR _ (by omega),e,GG l (by omega),e5]
  ·have lM:i=l.length:=by omega
   subst lM
   refine ⟨H.length,oN _,_,Ni _,by rw [cc,bb],?_,aaC⟩
   rw [ado,List.drop_zero,bp,if_pos h]
theorem ad4 {c:Tb} (hc:c.Ok) {x:Nat} {i k:Int} {H:List aa} (hT:Sn c x i k H) (hi:0≤i∧i < c.a.length) (hk:0≤k∧k < c.b.length) :
 aw Tryz.prog 224 [.ptr x 0,.int .i64 i,.int .i64 k] H fun r H'=>(∃ b:Bool,r=.bool b∧(b=true↔∀ y∈nk c.b k,c.tR i y))∧H'=H:=by
 obtain ⟨ie,ne,ce,ese,ig,ng,cg,esg,h⟩:=hT
 refine XV.2.calls rfl ?_
 simp only [XV,aJ]
 simp +contextual only [sZ,Nat.reduceEqDiff,Nat.reduceAdd,↓reduceIte,reduceCtorEq]
 obtain ⟨oQ,pI,Wq⟩:=hc.b.kids hk.1 hk.2
 refine aC (nk c.b k).length (fun n=>∀ m,m < n→c.tR i ((nk c.b k).getD m 0)) (fun n=>[(0,.ptr x 0),(1,.int .i64 i),(2,.int .i64 k),(7,.int .i64 n)]) (fun _=>H) ⟨fun m hm=>(by cases hm),aB _ _ _⟩ fun n hn hI=>?_
 by_cases aX:n < (nk c.b k).length
 ·obtain ⟨y0,yk⟩:=pI _ (ca aX)
  obtain ⟨_,r,bs,xb,e1,e2,e3,e4,e5,e6⟩:=h.rows i ((nk c.b k).getD n 0) hi.1 y0 (by omega) (.inr ⟨rfl,yk⟩)
  have l1:decide ((n:Int) < (nk c.b k).length)=true:=decide_eq_true (by omega)
  simp +contextual only [h.x,h.g,H9,px,J3,gl,a7,sm,e1,e3,e5,l1,List.getD_cons_succ,List.getD_cons_zero,aaW,tN,sZ,Nat.reduceEqDiff,Nat.reduceAdd,Nat.reduceLT,↓reduceIte,reduceCtorEq]
  refine ⟨hk,fun _=>⟨⟨hi.1,h.ng⟩,e2,hk,⟨by omega,by omega⟩,⟨y0,by omega⟩,e4,?_⟩⟩
  simp +contextual only [sZ]
  cases xb with
  | false=>
    simp +contextual only [sZ,↓reduceIte,reduceCtorEq]
    exact fa ⟨false,rfl,fun h=>absurd h (by simp),fun hh=>absurd (e6.2 (hh _ (ca aX))) (by simp)⟩
  | true=>
    simp +contextual only [sZ,Nat.reduceEqDiff,↓reduceIte,reduceCtorEq]
    refine ⟨n + 1,⟨aX,fun m hm=>?_⟩,by omega,aD (by rw [au n (by omega)]) rfl⟩
    by_cases e:m=n
    ·subst e;exact e6.1 rfl
    ·exact hI m (by omega)
 ·have l1:decide ((n:Int) < (nk c.b k).length)=false:=decide_eq_false (by omega)
  simp +contextual only [h.x,H9,px,J3,gl,l1,List.getD_cons_succ,List.getD_cons_zero,sZ,Nat.reduceEqDiff,Nat.reduceAdd,Nat.reduceLT,↓reduceIte,reduceCtorEq]
  refine ⟨hk,fun _=>fa ⟨true,rfl,fun _ y hy=>?_,fun _=>rfl⟩⟩
  obtain ⟨m,hm,rfl⟩:=py hy
  exact hI m (by omega)
end Go.aI
end
section
set_option maxRecDepth 100000
namespace Go.aI
open Go Go.Proofs Go.eJ
structure J4 (c:Tb) (i:Int) (a b:List Int):Prop where
 ia:∀ x∈a,0≤x∧x < i
 ib:∀ y∈b,0≤y∧y < c.b.length
 la:a.length≤100000000
 lb:b.length≤100000000
theorem TbX.cell {c:Tb} {x:Nat} {i k:Int} {H:List aa} {ie ne ce:Nat} {ese:List AV} {ig ng cg:Nat} {esg:List AV} (h:TbX c x i k H ie ne ce ese ig ng cg esg) {a b:List Int} (hI:J4 c i a b) {n m:Nat} (hn:n < a.length) (hm:m < b.length) :
 Row ese H c.b.length (a.getD n 0) (b.getD m 0) (c.tE (a.getD n 0) (b.getD m 0))∧Row esg H c.b.length (a.getD n 0) (b.getD m 0) (c.tR (a.getD n 0) (b.getD m 0)):=
 h.rows _ _ (hI.ia _ (ca hn)).1 (hI.ib _ (ca hm)).1 (hI.ib _ (ca hm)).2 (.inl (hI.ia _ (ca hn)).2)
theorem QO {f g:Int→T} {G:T→T→Prop} (irr:∀ x,¬ G x x) {l m:List Int} {n:Nat} (hl:n < l.length) (hm:n < m.length) :
 Lx G ((l.drop n).map f) ((m.drop n).map g)↔if f (l.getD n 0)=g (m.getD n 0) then Lx G ((l.drop (n + 1)).map f) ((m.drop (n + 1)).map g) else G (f (l.getD n 0)) (g (m.getD n 0)):=by
 have e1:l[n]=l.getD n 0:=by simp [hl]
 have e2:m[n]=m.getD n 0:=by simp [hm]
 rw [aaG hl,aaG hm,e1,e2,List.map_cons,List.map_cons,Lx]
 split
 ·rename_i e
  rw [e]
  exact ⟨fun h=>by rcases h with h | h;exact h.2;exact absurd h (irr _),fun h=>.inl ⟨rfl,h⟩⟩
 ·rename_i e
  exact ⟨fun h=>by rcases h with h | h;exact absurd h.1 e;exact h,.inr⟩
noncomputable def Tb.rest (c:Tb) (a b:List Int):List Int×List Int:=dQ (fun x y=>decide (c.f x=c.g y)) a b
theorem findIdx_le {q:Int→Bool} {b:List Int} {m:Nat} (hm:m < b.length) (h1:q (b.getD m 0)=true) (h2:∀ j,j < m→q (b.getD j 0)=false):b.findIdx q=m:=by
 have e:∀ j,(h:j < b.length)→b.getD j 0=b[j]:=fun j h=>by simp [h]
 rw [List.findIdx_eq hm]
 exact ⟨by rw [← e m hm];exact h1,fun j hj=>by rw [← e j (by omega)];exact h2 j hj⟩
theorem B5 {q:Int→Bool} {b:List Int} (h:∀ j,j < b.length→q (b.getD j 0)=false):¬ b.findIdx q < b.length:=fun aX=>by
 have h1:=aeO (xs:=b) (p:=q) (w:=aX)
 have:=h _ aX
 simp [aX,h1] at this
theorem ox1 (env:Env) (i:IX):gE env (some i)=some (aq env i):=rfl
theorem ox2 (env:Env):gE env none=none:=rfl
theorem slD (l:List Int) (n:Int) (h:0≤n∧n≤l.length) (φ:AV→Prop):bA 1 (.ap 0 (ints l)) (some (.int .i64 n)) none none φ=φ (.ap 0 (ints (l.drop n.toNat))):=by
 have er:dn (AV.ap 0 (ints l))=some (ints l):=rfl
 have e2:((ints l).take (ints l).length).drop n.toNat=ints (l.drop n.toNat):=by rw [aaC];simp [ints]
 simp only [bA,fm,er,dR,e2,eq_iff_iff]
 constructor
 ·intro h;exact h.2.2.2.2
 ·intro h'
  refine ⟨fun own xs he z hz=>?_,by omega,by have:=ay l;omega,oN _,h'⟩
  cases he
  obtain ⟨y,_,rfl⟩:=aaq.1 hz
  rfl
theorem aai {H:List aa} {a b:Nat} {u v x y:AV} (uC:b≠a) (hx:u.ab=x) (hy:v.ab=y) (bx:x.a9 H.length=true) (sq:y.a9 H.length=true):b8 H.length [.t a,.t b] [(a,u),(b,v)] H fun r H'=>r=.tuple [x,y]∧H'=H:=by
 subst hx;subst hy
 refine ⟨H.length,oN _,[u.ab,v.ab],?_,by simp only [aj,bx,sq,ab7],rfl,aaC⟩
 simp only [aA,if_neg uC,if_true,List.map]
 exact bW _
theorem aaj {c:Tb} {x:Nat} {i k:Int} {H:List aa} (hT:Sn c x i k H) {a b:List Int} (uC:J4 c i a b) :
 aw Tryz.prog 223 [.ptr x 0,.ap 0 (ints a),.ap 0 (ints b)] H fun r H'=>r=.tuple [bt (c.rest a b).1,.ap 0 (ints (c.rest a b).2)]∧H'=H:=by
 obtain ⟨ie,ne,ce,ese,ig,ng,cg,esg,h⟩:=hT
 have R3:=uC.la
 have NJ:=uC.lb
 refine XU.2.calls rfl ?_
 simp only [XU,aJ]
 simp +contextual only [sZ,Nat.reduceEqDiff,Nat.reduceAdd,↓reduceIte,reduceCtorEq]
 refine aM a.length (fun n (p:List Int×List Int)=>J4 c i a p.2∧p.1.length≤n∧c.rest a b=(p.1++(c.rest (a.drop n) p.2).1,(c.rest (a.drop n) p.2).2))
  (fun n p=>[(0,.ptr x 0),(1,.ap 0 (ints a)),(8,iK p.1),(9,.ap 0 (ints p.2)),(10,.int .i64 n)]) (fun _ _=>H) ([],b) ⟨⟨uC,oN _,rfl⟩,aB _ _ _⟩ fun n p hn hI=>?_
 obtain ⟨l,m⟩:=p
 obtain ⟨nF,IB,hI⟩:=hI
 simp only at nF IB hI
 by_cases h1:n < a.length
 ·have l1:decide ((n:Int) < a.length)=true:=decide_eq_true (by omega)
  simp +contextual only [l1,sZ,Nat.reduceEqDiff,↓reduceIte,reduceCtorEq]
  intro _
  obtain ⟨a0,a1⟩:=nF.ia _ (ca h1)
  have N2:=nF.lb
  have dG:=h.ne
  have hrest (Q:List Int×List Int) (hQ:dQ (fun x y=>decide (c.f x=c.g y)) (a.drop n) m=Q):c.rest (a.drop n) m=Q:=hQ
  have edrop:a.drop n=a.getD n 0::a.drop (n + 1):=by rw [aaG h1];simp [h1]
  refine aM m.length (fun j (q:Int)=>(q=-1∧∀ s,s < j→¬ c.tE (a.getD n 0) (m.getD s 0))∨∃ s:Nat,q=s∧s < j∧c.tE (a.getD n 0) (m.getD s 0)∧∀ u,u < s→¬ c.tE (a.getD n 0) (m.getD u 0))
   (fun j q=>[(0,.ptr x 0),(1,.ap 0 (ints a)),(8,iK l),(9,.ap 0 (ints m)),(10,.int .i64 n),(11,.int .i64 q),(12,.int .i64 j)]) (fun _ _=>H) (-1) ⟨.inl ⟨rfl,fun s hs=>(by cases hs)⟩,aB _ _ _⟩ fun j q hj hJ=>?_
  by_cases h2:j < m.length
  ·have l2:decide ((j:Int) < m.length)=true:=decide_eq_true (by omega)
   obtain ⟨⟨r,bs,xb,e1,e2,e3,e4,e5,e6⟩,_⟩:=h.cell nF h1 h2
   obtain ⟨b0,b1⟩:=nF.ib _ (ca h2)
   rcases hJ with ⟨rfl,hJ⟩ | ⟨s,rfl,hs,hJ,hJ2⟩
   ·cases xb with
    | false=>
      simp +contextual only [h.x,h.e,a7,sm,e1,e3,e5,l2,List.getD_cons_succ,List.getD_cons_zero,aaW,tN,sZ,Nat.reduceEqDiff,Nat.reduceAdd,Nat.reduceLT,↓reduceIte,reduceCtorEq,Int.reduceLT]
      refine fun _=>⟨⟨by omega,by omega⟩,⟨a0,by omega⟩,e2,⟨by omega,by omega⟩,⟨b0,b1⟩,e4,j + 1,-1,⟨h2,.inl ⟨rfl,fun u hu=>?_⟩⟩,by omega,aD (by rw [au j (by omega)]) rfl⟩
      by_cases e:u=j
      ·subst e;exact fun hh=>absurd (e6.2 hh) (by simp)
      ·exact hJ u (by omega)
    | true=>
      simp +contextual only [h.x,h.e,a7,sm,e1,e3,e5,l2,List.getD_cons_succ,List.getD_cons_zero,aaW,tN,sZ,Nat.reduceEqDiff,Nat.reduceAdd,Nat.reduceLT,↓reduceIte,reduceCtorEq,Int.reduceLT]
      exact fun _=>⟨⟨by omega,by omega⟩,⟨a0,by omega⟩,e2,⟨by omega,by omega⟩,⟨b0,b1⟩,e4,j + 1,j,⟨h2,.inr ⟨j,rfl,by omega,e6.1 rfl,hJ⟩⟩,by omega,aD (by rw [au j (by omega)]) rfl⟩
   ·have l3:decide ((s:Int) < 0)=false:=decide_eq_false (by omega)
    simp +contextual only [l2,l3,sZ,Nat.reduceEqDiff,↓reduceIte,reduceCtorEq]
    exact fun _=>⟨j + 1,s,⟨h2,.inr ⟨s,rfl,by omega,hJ,hJ2⟩⟩,by omega,aD (by rw [au j (by omega)]) rfl⟩
  ·have l2:decide ((j:Int) < m.length)=false:=decide_eq_false (by omega)
   have ZG:j=m.length:=by omega
   subst ZG
   rcases hJ with ⟨rfl,hJ⟩ | ⟨s,rfl,hs,hJ,hJ2⟩
   ·simp +contextual only [l2,a7,oB,gO,tN,sZ,Nat.reduceEqDiff,Nat.reduceAdd,↓reduceIte,reduceCtorEq,Int.reduceLT]
    have e1:c.rest (a.drop n) m=(a.getD n 0::(c.rest (a.drop (n + 1)) m).1,(c.rest (a.drop (n + 1)) m).2):=by
     refine hrest _ ?_
     rw [edrop,dQ,if_neg (B5 fun u hu=>decide_eq_false (show ¬ c.f _=c.g _ from hJ u hu))];rfl
    refine fun _=>⟨⟨by omega,by omega⟩,by omega,n + 1,(l++[a.getD n 0],m),⟨h1,nF,by simp;omega,?_⟩,by omega,aD (by rw [au n (by omega)]) rfl⟩
    rw [hI,e1];simp
   ·have l3:decide ((s:Int) < 0)=false:=decide_eq_false (by omega)
    have w1:=au s (by omega)
    simp +contextual only [l2,l3,w1,ox1,ox2,slT m s ⟨by omega,by omega⟩,slD m ((s + 1:Nat):Int) ⟨by omega,by omega⟩,tN,sZ,Nat.reduceEqDiff,↓reduceIte,reduceCtorEq]
    have e2:m.eraseIdx s=m.take s++m.drop (s + 1):=acq m s
    have e1:c.rest (a.drop n) m=c.rest (a.drop (n + 1)) (m.eraseIdx s):=by
     refine hrest _ ?_
     have ef:m.findIdx (fun y=>decide (c.f (a.getD n 0)=c.g y))=s:=findIdx_le hs (decide_eq_true (show c.f _=c.g _ from hJ)) fun u hu=>decide_eq_false (show ¬ c.f _=c.g _ from hJ2 u hu)
     rw [edrop,dQ,ef,if_pos hs];rfl
    have Sz:(m.eraseIdx s).length≤m.length:=by rw [List.length_eraseIdx];split <;> omega
    refine fun _=>⟨by simp;omega,by simp;omega,n + 1,(l,m.eraseIdx s),⟨h1,⟨nF.ia,fun y hy=>nF.ib y (acs hy),nF.la,by show (m.eraseIdx s).length≤_;omega⟩,by show l.length≤_;omega,?_⟩,by omega,aD (by rw [au n (by omega),e2];simp [ints]) rfl⟩
    rw [hI,e1]
 ·have l1:decide ((n:Int) < a.length)=false:=decide_eq_false (by omega)
  simp +contextual only [l1,sZ,Nat.reduceEqDiff,↓reduceIte,reduceCtorEq]
  intro _
  have vn:n=a.length:=by omega
  subst vn
  rw [List.drop_length] at hI
  have e0:c.rest [] m=([],m):=rfl
  rw [e0,aaV] at hI
  rw [hI]
  refine aai (by decide) ?_ rfl ((aG l).2.2.1 _) (by rw [cc,bb])
  rw [(eG l).2.1,(aG l).2.1];exact (aG l).2.1
theorem ad6 {c:Tb} {x:Nat} {i k:Int} {H:List aa} (hT:Sn c x i k H) {l m:List Int} (N2:J4 c i l m) :
 aw Tryz.prog 226 [.ptr x 0,.ap 0 (ints l),.ap 0 (ints m)] H fun r H'=>(∃ b:Bool,r=.bool b∧(b=true↔Lx (Gt c.O.sp) (l.map c.f) (m.map c.g)))∧H'=H:=by
 obtain ⟨ie,ne,ce,ese,ig,ng,cg,esg,h⟩:=hT
 have R3:=N2.la
 have NJ:=N2.lb
 refine XX.2.calls rfl ?_
 simp only [XX,aJ]
 simp +contextual only [sZ,Nat.reduceEqDiff,Nat.reduceAdd,↓reduceIte,reduceCtorEq]
 refine aC l.length (fun n=>n≤m.length∧(Lx (Gt c.O.sp) (l.map c.f) (m.map c.g)↔Lx (Gt c.O.sp) ((l.drop n).map c.f) ((m.drop n).map c.g))) (fun n=>[(0,.ptr x 0),(1,.ap 0 (ints l)),(2,.ap 0 (ints m)),(7,.int .i64 n)]) (fun _=>H) ⟨⟨by omega,Iff.rfl⟩,aB _ _ _⟩ fun n hn hI=>?_
 obtain ⟨Q0,hI⟩:=hI
 by_cases h1:n < l.length
 ·have l1:decide ((n:Int) < l.length)=true:=decide_eq_true (by omega)
  by_cases h2:n < m.length
  ·have l2:decide ((m.length:Int)≤n)=false:=decide_eq_false (by omega)
   obtain ⟨⟨r,bs,xb,e1,e2,e3,e4,e5,e6⟩,r',bs',xb',e1',e2',e3',e4',e5',e6'⟩:=h.cell N2 h1 h2
   obtain ⟨a0,a1⟩:=N2.ia _ (ca h1)
   obtain ⟨b0,b1⟩:=N2.ib _ (ca h2)
   have dG:=h.ne
   have hng:=h.ng
   rw [QO (fun x=>xj x) h1 h2] at hI
   cases xb with
   | true=>
     rw [if_pos (show c.f _=c.g _ from e6.1 rfl)] at hI
     simp +contextual only [h.x,h.e,a7,sm,e1,e3,e5,l1,l2,List.getD_cons_succ,List.getD_cons_zero,aaW,tN,sZ,Nat.reduceEqDiff,Nat.reduceAdd,Nat.reduceLT,↓reduceIte,reduceCtorEq]
     refine fun _ _=>⟨by omega,by omega,e2,by omega,⟨b0,b1⟩,e4,?_⟩
     exact ⟨n + 1,⟨h1,by omega,hI⟩,by omega,aD (by rw [au n (by omega)]) rfl⟩
   | false=>
     rw [if_neg (show ¬ c.f _=c.g _ from fun hh=>absurd (e6.2 hh) (by simp))] at hI
     simp +contextual only [h.x,h.e,h.g,a7,sm,e1,e3,e5,e1',e3',e5',l1,l2,List.getD_cons_succ,List.getD_cons_zero,aaW,tN,sZ,Nat.reduceEqDiff,Nat.reduceAdd,Nat.reduceLT,↓reduceIte,reduceCtorEq]
     refine fun _ _=>⟨by omega,by omega,e2,by omega,⟨b0,b1⟩,e4,by omega,by omega,e2',⟨by omega,by omega⟩,⟨b0,b1⟩,e4',fa ⟨xb',rfl,?_⟩⟩
     rw [hI];exact e6'
  ·have l2:decide ((m.length:Int)≤n)=true:=decide_eq_true (by omega)
   simp +contextual only [l1,l2,sZ,Nat.reduceEqDiff,↓reduceIte,reduceCtorEq]
   refine fun _ _=>fa ⟨true,rfl,fun _=>hI.2 ?_,fun _=>rfl⟩
   rw [aaG h1,aaF (show m.length≤n by omega)]
   exact trivial
 ·have l1:decide ((n:Int) < l.length)=false:=decide_eq_false (by omega)
  simp +contextual only [l1,sZ,Nat.reduceEqDiff,↓reduceIte,reduceCtorEq]
  refine fun _=>fa ⟨false,rfl,fun h=>absurd h (by simp),fun hh=>?_⟩
  have:=hI.1 hh
  rw [aaF (by omega)] at this
  exact absurd this (fun h=>h)
end Go.aI
end
section
set_option maxRecDepth 100000
namespace Go.aI
open Go Go.Proofs Go.eJ
theorem J4.rest {c:Tb} {i:Int} {a b:List Int} (h:J4 c i a b):J4 c i (c.rest a b).1 (c.rest a b).2:=by
 obtain ⟨h1,h2⟩:=pv (q:=fun x y=>decide (c.f x=c.g y)) a b
 have hl:∀ (a b:List Int),(dQ (fun x y=>decide (c.f x=c.g y)) a b).1.length≤a.length∧(dQ (fun x y=>decide (c.f x=c.g y)) a b).2.length≤b.length:=by
  intro a
  induction a with
  | nil=>intro b;simp [dQ]
  | cons x r ih=>
    intro b
    rw [dQ]
    split
    ·have:=ih (b.eraseIdx (b.findIdx fun y=>decide (c.f x=c.g y)))
     have h3:(b.eraseIdx (b.findIdx fun y=>decide (c.f x=c.g y))).length≤b.length:=by rw [List.length_eraseIdx];split <;> omega
     simp only [List.length_cons];omega
    ·have:=ih b
     simp only [List.length_cons];omega
 exact ⟨fun x hx=>h.ia x (h1 x hx),fun y hy=>h.ib y (h2 y hy),by have:=(hl a b).1;have:=h.la;unfold Tb.rest;omega,by have:=(hl a b).2;have:=h.lb;unfold Tb.rest;omega⟩
theorem Nj {l:List Int} (h:l≠[]):bt l=.ap 0 (ints l):=by cases l;exact absurd rfl h;rfl
theorem aak (l:List Int):aL 1 (bt l)=True∧(∀ (H:List aa) (φ:AV→Prop),eU (bt l) H φ=(l.length < 9223372036854775808→φ (.int .i64 l.length)))∧(bt l).ab=bt l:=by
 cases l with
 | nil=>exact ⟨by simp [bt,aL],fun _ φ=>by show φ _=_;simp,rfl⟩
 | cons p r=>exact ⟨by simp [bt,aL],fun _ φ=>by show (_→φ _)=_;rw [ay],rfl⟩
theorem ad7 {c:Tb} {x:Nat} {i k:Int} {H:List aa} (hT:Sn c x i k H) {a b:List Int} (uC:J4 c i a b) :
 aw Tryz.prog 225 [.ptr x 0,.ap 0 (ints a),.ap 0 (ints b)] H fun r H'=>(∃ u:Bool,r=.bool u∧(u=true↔Mu (Gt c.O.sp) (a.map c.f) (b.map c.g)))∧H'=H:=by
 have hr:=uC.rest
 have U2:=Ng (q:=fun x y=>decide (c.f x=c.g y)) (f:=c.f) (g:=c.g) (G:=Gt c.O.sp) (a:=a) (b:=b) (fun x _ y _=>by simp)
 have hc:=aaj hT uC
 obtain ⟨ie,ne,ce,ese,ig,ng,cg,esg,h⟩:=hT
 rw [show dQ (fun x y=>decide (c.f x=c.g y)) a b=c.rest a b from rfl] at U2
 rw [U2]
 refine XW.2.calls rfl ?_
 simp only [XW,aJ]
 simp +contextual only [sZ,Nat.reduceEqDiff,Nat.reduceAdd,↓reduceIte,reduceCtorEq]
 refine af hc ?_
 rintro r G ⟨rfl,rfl⟩
 generalize c.rest a b=q at hr ⊢
 obtain ⟨l,m⟩:=q
 simp only at hr ⊢
 have R3:=hr.la
 have NJ:=hr.lb
 have hng:=h.ng
 obtain ⟨kf1,kf2,kf3⟩:=aak l
 simp +contextual only [kf1,kf2,kf3,sZ,Nat.reduceEqDiff,Nat.reduceAdd,Nat.reduceLT,↓reduceIte,reduceCtorEq]
 refine fun _=>⟨fun h0=>fa ⟨false,rfl,fun h=>absurd h (by simp),fun hh=>absurd (aaK.1 (by omega)) hh.1⟩,fun h0=>?_⟩
 ·have hl:l≠[]:=fun e=>h0 (by rw [e];rfl)
  rw [Nj hl]
  refine aC m.length (fun n=>∀ s,s < n→∃ x∈l,Gt c.O.sp (c.f x) (c.g (m.getD s 0))) (fun n=>[(0,.ptr x 0),(7,.ap 0 (ints l)),(8,.ap 0 (ints m)),(9,.int .i64 n)]) (fun _=>G) ⟨fun s hs=>(by cases hs),aB _ _ _⟩ fun n hn hI=>?_
  by_cases h1:n < m.length
  ·have l1:decide ((n:Int) < m.length)=true:=decide_eq_true (by omega)
   simp +contextual only [l1,sZ,Nat.reduceEqDiff,↓reduceIte,reduceCtorEq]
   intro _
   refine aM l.length (fun j (q:Bool)=>(q=true→∃ x∈l,Gt c.O.sp (c.f x) (c.g (m.getD n 0)))∧(q=false→∀ s,s < j→¬ Gt c.O.sp (c.f (l.getD s 0)) (c.g (m.getD n 0))))
    (fun j q=>[(0,.ptr x 0),(7,.ap 0 (ints l)),(8,.ap 0 (ints m)),(9,.int .i64 n),(10,.bool q),(11,.int .i64 j)]) (fun _ _=>G) false ⟨⟨fun h=>by simp at h,fun _ s hs=>(by cases hs)⟩,aB _ _ _⟩ fun j q hj hJ=>?_
   by_cases h2:j < l.length
   ·have l2:decide ((j:Int) < l.length)=true:=decide_eq_true (by omega)
    obtain ⟨_,r,bs,xb,e1,e2,e3,e4,e5,e6⟩:=h.cell hr h2 h1
    obtain ⟨a0,a1⟩:=hr.ia _ (ca h2)
    obtain ⟨b0,b1⟩:=hr.ib _ (ca h1)
    cases q with
    | true=>
      simp +contextual only [l2,sZ,Nat.reduceEqDiff,↓reduceIte,reduceCtorEq]
      refine fun _=>⟨n + 1,⟨h1,fun s hs=>?_⟩,by omega,aD (by rw [au n (by omega)]) rfl⟩
      by_cases e:s=n
      ·subst e;exact hJ.1 rfl
      ·exact hI s (by omega)
    | false=>
      simp +contextual only [h.x,h.g,a7,sm,e1,e3,e5,l2,List.getD_cons_succ,List.getD_cons_zero,aaW,tN,sZ,Nat.reduceEqDiff,Nat.reduceAdd,Nat.reduceLT,↓reduceIte,reduceCtorEq]
      refine fun _=>⟨⟨by omega,by omega⟩,⟨a0,by omega⟩,e2,⟨by omega,by omega⟩,⟨b0,b1⟩,e4,j + 1,xb,⟨h2,fun hx=>⟨_,ca h2,e6.1 hx⟩,fun hx s hs=>?_⟩,by omega,aD (by rw [au j (by omega)]) rfl⟩
      by_cases e:s=j
      ·subst e;exact fun hh=>absurd (e6.2 hh) (by rw [hx];simp)
      ·exact hJ.2 rfl s (by omega)
   ·have l2:decide ((j:Int) < l.length)=false:=decide_eq_false (by omega)
    cases q with
    | true=>
      simp +contextual only [l2,sZ,Nat.reduceEqDiff,↓reduceIte,reduceCtorEq]
      refine fun _=>⟨n + 1,⟨h1,fun s hs=>?_⟩,by omega,aD (by rw [au n (by omega)]) rfl⟩
      by_cases e:s=n
      ·subst e;exact hJ.1 rfl
      ·exact hI s (by omega)
    | false=>
      simp +contextual only [l2,sZ,Nat.reduceEqDiff,↓reduceIte,reduceCtorEq]
      refine fun _=>fa ⟨false,rfl,fun h=>absurd h (by simp),fun hh=>?_⟩
      obtain ⟨x,hx,hg⟩:=hh.2 _ (ca h1)
      obtain ⟨s,hs,rfl⟩:=py hx
      exact absurd hg (hJ.2 rfl s (by omega))
  ·have l1:decide ((n:Int) < m.length)=false:=decide_eq_false (by omega)
   simp +contextual only [l1,sZ,Nat.reduceEqDiff,↓reduceIte,reduceCtorEq]
   refine fun _=>fa ⟨true,rfl,fun _=>⟨hl,fun y hy=>?_⟩,fun _=>rfl⟩
   obtain ⟨s,hs,rfl⟩:=py hy
   exact hI s (by omega)
end Go.aI
end
section
set_option maxRecDepth 100000
namespace Go.aI
open Go Go.Proofs Go.eJ
theorem Tb.Ok.ins {c:Tb} (hc:c.Ok) {i k:Int} (hi:0≤i∧i < c.a.length) (hk:0≤k∧k < c.b.length):J4 c i (nk c.a i) (nk c.b k):=by
 obtain ⟨_,a2,a3⟩:=hc.a.kids hi.1 hi.2
 obtain ⟨_,b2,b3⟩:=hc.b.kids hk.1 hk.2
 exact ⟨a2,fun y hy=>by have:=b2 y hy;omega,a3,b3⟩
theorem Tb.Ok.aal {c:Tb} (hc:c.Ok) {i:Int} (hi:0≤i∧i < c.a.length):(nt c.a i).l.map (norm c.O)=(nk c.a i).map c.f:=by
 rw [← (hc.a.kids hi.1 hi.2).1,ab9];rfl
theorem Tb.Ok.aam {c:Tb} (hc:c.Ok) {k:Int} (hk:0≤k∧k < c.b.length):(nt c.b k).l.map (norm c.O)=(nk c.b k).map c.g:=by
 rw [← (hc.b.kids hk.1 hk.2).1,ab9];rfl
theorem Ia (p:Nd) (H:List aa) (φ:AV→Prop):aU (some 4) (.ai (jR p)) H φ=φ (jR p):=by
 simp [aU,jR,AV.cells]
theorem sn (ps ss:List Int) (a b e g:AV) (φ:AV→Prop):cV (some (.cells [.ap 0 (ints ps),.ap 0 (ints ss),a,b,e,g])) (some 2) 0 φ=φ (eD ps ss):=by
 simp [cV,eD,AV.drop]
theorem ad8 {c:Tb} (hc:c.Ok) {x:Nat} {i k:Int} {H:List aa} (hT:Sn c x i k H) (hi:0≤i∧i < c.a.length) (hk:0≤k∧k < c.b.length) :
 aw Tryz.prog 188 [.ptr x 0,.int .i64 i,.int .i64 k] H fun r H'=>(∃ u:Bool,r=.bool u∧(u=true↔c.tE i k))∧H'=H:=by
 have hE:c.tE i k↔E c.O (nt c.a i) (nt c.b k):=Iff.rfl
 rw [RR,hc.aal hi,hc.aam hk] at hE
 have nF:=hc.ins hi hk
 have hrest:=aaj hT nF
 have N7:=GD (q:=fun x y=>decide (c.f x=c.g y)) (f:=c.f) (g:=c.g) (a:=nk c.a i) (b:=nk c.b k) (fun x _ y _=>by simp)
 rw [show dQ (fun x y=>decide (c.f x=c.g y)) (nk c.a i) (nk c.b k)=c.rest (nk c.a i) (nk c.b k) from rfl] at N7
 have hrl:=nF.rest.la
 obtain ⟨ak,ao⟩:=hc.a.kind hi.1 hi.2
 obtain ⟨bk,bo⟩:=hc.b.kind hk.1 hk.2
 obtain ⟨ie,ne,ce,ese,ig,ng,cg,esg,h⟩:=hT
 have R3:=nF.la
 have NJ:=nF.lb
 refine Xy.2.calls rfl ?_
 simp only [Xy,aJ]
 simp +contextual only [h.x,H9,px,Ia,Et,B4,tF,QN,jT,List.getD_cons_succ,List.getD_cons_zero,sZ,Nat.reduceEqDiff,Nat.reduceAdd,Nat.reduceLT,↓reduceIte,reduceCtorEq]
 refine ⟨hi,hk,fun dG=>fa ⟨false,rfl,fun h=>absurd h (by simp),fun hh=>?_⟩,fun hq=>⟨fun h1=>fa ⟨_,rfl,?_⟩,fun h1=>?_⟩⟩
 ·rcases hE.1 hh with h | h
  ·exact absurd (h.1.trans h.2.1.symm) dG
  ·exact absurd (by omega) dG
 ·rw [hE,decide_eq_true_eq]
  exact ⟨fun h=>.inr ⟨by omega,by omega,h⟩,fun h=>by rcases h with h | h;omega;exact h.2.2⟩
 have ul:(nt c.b k).k=2:=by omega
 have NM:(nt c.a i).k=2:=by omega
 have hE:c.tE i k↔_:=hE.trans ⟨fun h=>(by rcases h with h | h;exact h.2.2;exact absurd NM h.1),fun h=>.inl ⟨NM,ul,h⟩⟩
 have hss:c.ss.length=c.ps.length:=hc.va.len
 have GL:=hc.va.sp (i:=(nt c.a i).n.toNat) (by have:=ao NM;omega)
 have vi:c.O.pl (nt c.a i).n=c.ps.getD (nt c.a i).n.toNat 0:=rfl
 rw [show c.O.sp (c.O.pl (nt c.a i).n)=c.ss.getD (nt c.a i).n.toNat 0 from GL] at hE
 obtain ⟨q1,q2,q3,q4,q5,q6⟩:=aS c.ps c.ss
 simp +contextual only [sn,q4,QN,jT,sZ,Nat.reduceEqDiff,↓reduceIte,reduceCtorEq]
 refine aE (aag c.ps c.ss _ _ (ao NM) (bo ul)) ?_
 rw [show (iW c.ps c.ss)=c.O from rfl]
 by_cases hp:c.O.pl (nt c.a i).n=c.O.pl (nt c.b k).n
 rotate_left
 ·simp +contextual only [decide_eq_false hp,sZ,Nat.reduceEqDiff,↓reduceIte,reduceCtorEq]
  exact fa ⟨false,rfl,fun h=>absurd h (by simp),fun hh=>absurd (hE.1 hh).1 hp⟩
 have vn:¬ (nk c.a i).length=(nk c.b k).length→¬ c.tE i k:=fun hl hh=>by
  have:=(hE.1 hh).2
  split at this
  ·exact hl (by simpa using this.length_eq)
  ·exact hl (by simpa using congrArg List.length this)
 simp +contextual only [decide_eq_true hp,h.x,J3,gl,QN,jT,a7,List.getD_cons_succ,List.getD_cons_zero,sZ,Nat.reduceEqDiff,Nat.reduceAdd,Nat.reduceLT,↓reduceIte,reduceCtorEq]
 refine ⟨fun hl=>fa ⟨false,rfl,fun h=>absurd h (by simp),fun hh=>absurd hh (vn (by omega))⟩,fun hl=>⟨⟨(ao NM).1,by have:=(ao NM).2;omega⟩,fun h3=>?_,fun h3=>?_⟩⟩
 ·refine af hrest ?_
  rintro r G ⟨rfl,rfl⟩
  obtain ⟨kf1,kf2,kf3⟩:=aak (c.rest (nk c.a i) (nk c.b k)).1
  simp +contextual only [kf1,kf2,kf3,sZ,Nat.reduceEqDiff,Nat.reduceAdd,Nat.reduceLT,↓reduceIte,reduceCtorEq]
  refine fun _=>fa ⟨_,rfl,?_⟩
  rw [hE,if_pos h3,← N7 (by omega),decide_eq_true_eq]
  exact ⟨fun h=>⟨hp,aaK.1 (by omega)⟩,fun h=>by rw [h.2];rfl⟩
 ·rw [if_neg h3] at hE
  refine aC (nk c.a i).length (fun n=>∀ s,s < n→c.tE ((nk c.a i).getD s 0) ((nk c.b k).getD s 0)) (fun n=>[(0,.ptr x 0),(7,.ai (jR (c.a.getD i.toNat default))),(8,.ai (jR (c.b.getD k.toNat default))),(11,.int .i64 n)]) (fun _=>H) ⟨fun s hs=>(by cases hs),aB _ _ _⟩ fun n hn hI=>?_
  by_cases h1:n < (nk c.a i).length
  ·have l1:decide ((n:Int) < (nk c.a i).length)=true:=decide_eq_true (by omega)
   have h2:n < (nk c.b k).length:=by omega
   obtain ⟨⟨r,bs,xb,e1,e2,e3,e4,e5,e6⟩,_⟩:=h.cell nF h1 h2
   obtain ⟨a0,a1⟩:=nF.ia _ (ca h1)
   obtain ⟨b0,b1⟩:=nF.ib _ (ca h2)
   have dG:=h.ne
   cases xb with
   | false=>
     simp +contextual only [h.x,h.e,J3,gl,a7,sm,e1,e3,e5,l1,List.getD_cons_succ,List.getD_cons_zero,aaW,tN,sZ,Nat.reduceEqDiff,Nat.reduceAdd,Nat.reduceLT,↓reduceIte,reduceCtorEq]
     refine fun _=>⟨⟨by omega,by omega⟩,⟨a0,by omega⟩,e2,⟨by omega,by omega⟩,⟨b0,b1⟩,e4,fa ⟨false,rfl,fun h=>absurd h (by simp),fun hh=>?_⟩⟩
     have hm:=(hE.1 hh).2
     have:=congrArg (fun l=>l.getD n default) hm
     simp only [oM,aa0,Nq h1,Nq h2,Option.map_some,Option.getD_some] at this
     refine absurd (e6.2 ?_) (by simp)
     unfold Tb.tE
     simpa [h1,h2] using this
   | true=>
     simp +contextual only [h.x,h.e,J3,gl,a7,sm,e1,e3,e5,l1,List.getD_cons_succ,List.getD_cons_zero,aaW,tN,sZ,Nat.reduceEqDiff,Nat.reduceAdd,Nat.reduceLT,↓reduceIte,reduceCtorEq]
     refine fun _=>⟨⟨by omega,by omega⟩,⟨a0,by omega⟩,e2,⟨by omega,by omega⟩,⟨b0,b1⟩,e4,n + 1,⟨h1,fun s hs=>?_⟩,by omega,aD (by rw [au n (by omega)]) rfl⟩
     by_cases e:s=n
     ·subst e;exact e6.1 rfl
     ·exact hI s (by omega)
  ·have l1:decide ((n:Int) < (nk c.a i).length)=false:=decide_eq_false (by omega)
   simp +contextual only [J3,gl,l1,sZ,Nat.reduceEqDiff,↓reduceIte,reduceCtorEq]
   refine fun _=>fa ⟨true,rfl,fun _=>hE.2 ⟨hp,?_⟩,fun _=>rfl⟩
   refine adF (by simp;omega) fun s hs SF=>?_
   have:=hI s (by simp at hs;omega)
   unfold Tb.tE at this
   have q1:s < (nk c.a i).length:=by simpa using hs
   have q2:s < (nk c.b k).length:=by simpa using SF
   simpa [q1,q2] using this
end Go.aI
end
