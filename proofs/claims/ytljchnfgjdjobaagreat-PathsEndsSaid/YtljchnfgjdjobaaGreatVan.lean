/- Part 14 of 15 of the proof. -/
import Derived.Test.YtljchnfgjdjobaaGreatVam
import Derived.Laws.Runes
import Derived.Test.YtljchnfgjdjobaaGreatVah
import Derived.Test.YtljchnfgjdjobaaGreatProg
import Derived.KernelRfl
import Derived.Test.YtljchnfgjdjobaaGreatVaf
import Derived.Test.YtljchnfgjdjobaaGreatVag
import Derived.Test.YtljchnfgjdjobaaGreatVak
import Derived.Test.YtljchnfgjdjobaaGreatRows
import Derived.ProofKit
set_option linter.unusedVariables false
set_option linter.unusedSimpArgs false
set_option linter.defProp false
set_option linter.unusedSectionVars false
section
set_option maxRecDepth 100000
namespace Go.aL
open Go Go.Proofs Go.fN
theorem adR (n:Int) (o:Nat) (xs:List AV) (φ:AV→Prop):cA [.int .i64 0,.int .i64 0,.ah] [(0,1,.int .i64 2),(1,1,.int .i64 n),(2,1,.al o xs)] φ=φ (.agg [.int .i64 2,.int .i64 n,.al 0 xs]):=by
 simp only [cA,gO,eq_iff_iff]
 exact ⟨fun h=>h.2.2.2.2.2.2.2.2.2,fun h=>⟨rfl,rfl,by simp,rfl,rfl,by simp [ag,AV.cells],rfl,rfl,by simp [ag,AV.cells],h⟩⟩
theorem aab (n:Int) (φ:AV→Prop):cA [.int .i64 0,.int .i64 0,.ah] [(0,1,.int .i64 2),(1,1,.int .i64 n),(2,1,.ah)] φ=φ (.agg [.int .i64 2,.int .i64 n,.ah]):=by
 simp only [cA,gO,eq_iff_iff]
 exact ⟨fun h=>h.2.2.2.2.2.2.2.2.2,fun h=>⟨rfl,rfl,by simp,rfl,rfl,by simp [ag,AV.cells],rfl,rfl,by simp [ag,AV.cells],h⟩⟩
theorem adS (a b c d e f:Int) (o o':Nat) (φ:AV→Prop):cA [.ah,.ah] [(0,1,.al o [.int .i64 a,.int .i64 b,.int .i64 c]),(1,1,.al o' [.int .i64 d,.int .i64 e,.int .i64 f])] φ=φ (eX [a,b,c] [d,e,f]):=by
 simp only [cA,gO,eq_iff_iff]
 exact ⟨fun h=>h.2.2.2.2.2.2,fun h=>⟨rfl,rfl,by simp,rfl,rfl,by simp [ag,AV.cells],h⟩⟩
theorem Nc (t:T):aT t.av=t.av:=by cases t;rfl
theorem bs4 (a b c d:T) (φ:List AV→Prop):bj (List.replicate 4 (aT (.agg [.int .i64 0,.int .i64 0,.ah]))) 3 [(0,a.av),(1,b.av),(2,c.av),(3,d.av)] φ=φ [a.av,b.av,c.av,d.av]:=by
 have hv:∀ t:T,t.av.val=true:=fun t=>by cases t;rfl
 have hl:∀ t:T,t.av.cells.length=3:=fun t=>(xx t).len
 simp only [bj,Nc,hv,hl,List.replicate,List.set,List.length_cons,List.length_nil,eq_iff_iff]
 constructor
 ·intro h;simpa using h
 ·intro h;simpa using h
theorem NG (n:Int):Pure Tryz.prog 59 [.int .i64 n] (vT n).av:=by
 refine fun H=>k59.2.calls rfl ?_
 simp only [k59,aF]
 simp +contextual only [sZ,Nat.reduceEqDiff,Nat.reduceAdd,↓reduceIte,reduceCtorEq]
 exact rn rfl rfl
theorem c65 (n:Int) (l:List T):Pure Tryz.prog 65 [.int .i64 n,.al 0 (bC l)] (oT n l).av:=by
 refine fun H=>V1.2.calls rfl ?_
 simp only [V1,aF]
 simp +contextual only [adR,sZ,Nat.reduceEqDiff,Nat.reduceAdd,↓reduceIte,reduceCtorEq]
 exact rn (by simp [og,bH,cP,fM,b9,dq]) rfl
theorem QF (n:Int):Pure Tryz.prog 65 [.int .i64 n,.ah] (oT n []).av:=by
 refine fun H=>V1.2.calls rfl ?_
 simp only [V1,aF]
 simp +contextual only [aab,sZ,Nat.reduceEqDiff,Nat.reduceAdd,↓reduceIte,reduceCtorEq]
 exact rn rfl rfl
theorem Nf (t:T) (φ:AV→Prop):ak 1 none (.ai t.av) φ=φ (.ai (.int .i64 t.n)):=by cases t;simp [ak,T.av,apart,AV.cells,AV.one,T.n]
theorem aac (o:Nat) (a b c d:T):(∀ (own:Nat) (xs:List AV),AV.al o [a.av,b.av,c.av,d.av]=AV.al own xs→∀ z∈xs,z.cells.length=3)=True:=by
 simp only [eq_iff_iff,iff_true]
 intro own xs e z hz
 cases e
 have:z=a.av∨z=b.av∨z=c.av∨z=d.av:=by simpa using hz
 rcases this with rfl | rfl | rfl | rfl <;> exact (xx _).len
theorem ix4 (o:Nat) (a b c d:AV) (φ:AV→Prop):ax 3 (.al o [a,b,c,d]) (.int .i64 0) φ=φ (.ai a)∧ax 3 (.al o [a,b,c,d]) (.int .i64 1) φ=φ (.ai b)∧ax 3 (.al o [a,b,c,d]) (.int .i64 2) φ=φ (.ai c)∧ax 3 (.al o [a,b,c,d]) (.int .i64 3) φ=φ (.ai d):=by
 simp [ax]
theorem sg1:Pure Tryz.prog 20 [cU.s.av,eX [0,0,1] [1,1,1],cC.a.av,cC.b.av] (.tuple [.bool true,.int .i64 0]):=by
 have:=c20 fZ gb nB cC.a cC.b
 rw [jb,Vy,if_pos rfl,BU,gr1] at this
 exact this
theorem sg2:Pure Tryz.prog 20 [cU.s.av,eX [0,0,1] [1,1,1],cC.b.av,cC.a.av] (.tuple [.bool false,.int .i64 0]):=by
 have:=c20 fZ gb nB cC.b cC.a
 rw [jb,Z8,if_pos rfl,BU,gr2] at this
 exact this
theorem p1 (H:List aa):aq Tryz.prog 27 [cU.s.av,eX [0,0,1] [1,1,1],cC.a.av,cC.b.av] H fun r H'=>(∃ p,Sh (ky gb nB) p cC.a cC.b∧r=.tuple [eC p,.bool true,.int .i64 0])∧H'=H:=by
 refine (c27 fZ gb nB cC.a cC.b H).mono ?_
 rintro r H' ⟨h,rfl⟩
 refine ⟨?_,rfl⟩
 rcases h with ⟨h,_⟩ | ⟨_,h,_⟩ | ⟨_,h⟩
 ·rw [jb,Vy] at h;exact absurd rfl h
 ·exact absurd (BT.1 gr1) h
 ·exact h
theorem v1 {p:PP} (hp:Sh (ky gb nB) p cC.a cC.b):Pure Tryz.prog 28 [cU.s.av,eX [0,0,1] [1,1,1],cC.a.av,cC.b.av,eC p] (.int .i64 0):=by
 have:=c28 fZ gb nB cC.a cC.b p
 have e:D9 fZ gb nB cC.a cC.b p=0:=by unfold D9;rw [if_pos (by rw [jb,Vy]),if_pos hp]
 rw [e] at this
 exact this
theorem v2 (p:PP):Pure Tryz.prog 28 [cU.s.av,eX [0,0,1] [1,1,1],cC.b.av,cC.a.av,eC p] (.int .i64 61):=by
 have:=c28 fZ gb nB cC.b cC.a p
 have hn:¬ Sh (ky gb nB) p cC.b cC.a:=fun h=>by
  have:=BT.2 h.gt
  rw [gr2] at this;cases this
 have e:D9 fZ gb nB cC.b cC.a p=61:=by unfold D9;rw [if_pos (by rw [jb,Z8]),if_neg hn]
 rw [e] at this
 exact this
theorem q1:Pure Tryz.prog 22 [cU.s.av,eX [0,0,1] [1,1,3],(oT 2 [vT 0,vT 1]).av,(oT 2 [vT 1,vT 0]).av] (.tuple [.bool true,.int .i64 0]):=by
 have:=c22 fZ gb stM (oT 2 [vT 0,vT 1]) (oT 2 [vT 1,vT 0])
 rw [jb,adK,if_pos rfl,HO,eq1] at this
 exact this
theorem q2:Pure Tryz.prog 22 [cU.s.av,eX [0,0,1] [1,1,1],(oT 2 [vT 0,vT 1]).av,(oT 2 [vT 1,vT 0]).av] (.tuple [.bool false,.int .i64 0]):=by
 have:=c22 fZ gb nB (oT 2 [vT 0,vT 1]) (oT 2 [vT 1,vT 0])
 rw [jb,adL,if_pos rfl,HO,eq2] at this
 exact this
theorem adT:qo 0 cU gb nB=(0,false,0):=by
 unfold qo
 rw [if_neg (by simp),rR,if_neg (by rw [show cU.s=fZ from rfl,adM];simp),th,Z9];rfl
theorem aad:qo 0 cU Em nB=(1,true,0):=by
 unfold qo
 rw [if_neg (by simp),rR,if_neg (by rw [show cU.s=fZ from rfl,adN];simp),th,aaa];rfl
theorem k1:Pure Tryz.prog 33 [cU.av,eX [0,0,1] [1,1,1]] (.int .i64 0):=by
 have:=c33 BR (fun _=>rS) gb nB
 rw [QE,adT] at this
 exact this
theorem k2:Pure Tryz.prog 33 [cU.av,eX [0,0,0] [1,1,1]] (.int .i64 60):=by
 have:=c33 BR (fun _=>rS) Em nB
 rw [QE,aad] at this
 exact this
theorem bl1:Pure Tryz.prog 31 [cU.av,eX [0,0,0] [1,1,1]] (.tuple [.int .i64 1,.bool true,.int .i64 0]):=by
 have:=c31 BR (fun _=>rS) Em nB
 rw [aad] at this
 exact this
theorem fi1:Pure Tryz.prog 35 [cU.av] (.tuple [eX [0,0,1] [1,1,1],.bool true,.int .i64 0]):=by
 have:=c35 (ops:=[0,1,2]) BR (fun _=>Vw) (fun _=>rS) (fun _ i hi=>by
  have h:i=0∨i=1∨i=2:=by simpa using hi
  have e:cU.s.ops.length=3:=rfl
  rw [e];omega) (by decide)
 have e:M5 0 cU [0,1,2]=(some (gb,nB),0):=by
  unfold M5
  rw [if_neg (by simp),if_neg (by decide),Nb,adO]
 rw [e] at this
 exact this
def aae:List T:=[vT 0,oT 0 [],oT 1 [oT 0 []],oT 2 [oT 0 [],oT 0 []]]
theorem so1:Pure Tryz.prog 37 [cU.s.av,eX [0,0,1] [1,1,1],.al 0 (bC Aa)] (.tuple [.al 0 (bC aae),.int .i64 0]):=by
 have:=c37 fZ gb nB Aa (by decide)
 have hg:uj gb nB=El gb nB:=by funext a b;exact BU _ _ _ _
 have e:yz fZ gb nB Aa=(aae,0):=by
  unfold yz
  rw [if_pos (by rw [jb,adP]),if_neg (by decide),hg,show Aa.length=4 from rfl,adQ]
  rfl
 rw [e] at this
 exact this
theorem c17:Pure Tryz.prog 17 [] (.bool true):=by
 refine fun H=>k17.2.calls rfl ?_
 simp only [k17,aF]
 simp +contextual only [sZ]
 refine ae c64 ?_
 have o01:Pure Tryz.prog 65 [.int .i64 2,.al 0 [(vT 0).av,(vT 1).av]] (oT 2 [vT 0,vT 1]).av:=c65 2 [vT 0,vT 1]
 have o10:Pure Tryz.prog 65 [.int .i64 2,.al 0 [(vT 1).av,(vT 0).av]] (oT 2 [vT 1,vT 0]).av:=c65 2 [vT 1,vT 0]
 have o00:Pure Tryz.prog 65 [.int .i64 2,.al 0 [(oT 0 []).av,(oT 0 []).av]] (oT 2 [oT 0 [],oT 0 []]).av:=c65 2 [oT 0 [],oT 0 []]
 have o1:Pure Tryz.prog 65 [.int .i64 1,.al 0 [(oT 0 []).av]] (oT 1 [oT 0 []]).av:=c65 1 [oT 0 []]
 have so2:Pure Tryz.prog 37 [cU.s.av,eX [0,0,1] [1,1,1],.al 0 [(oT 1 [oT 0 []]).av,(vT 0).av,(oT 0 []).av,(oT 2 [oT 0 [],oT 0 []]).av]] (.tuple [.al 0 [(vT 0).av,(oT 0 []).av,(oT 1 [oT 0 []]).av,(oT 2 [oT 0 [],oT 0 []]).av],.int .i64 0]):=so1
 have adU:Pure Tryz.prog 66 [.al 0 (ints [0,0,1]),.al 0 (ints [0,0,1])] (.bool true):=c66 (a:=[0,0,1]) (b:=[0,0,1]) (.inr rfl) (.inr rfl) (by decide) (by decide)
 have adV:Pure Tryz.prog 66 [.al 0 (ints [1,1,1]),.al 0 (ints [1,1,1])] (.bool true):=c66 (a:=[1,1,1]) (b:=[1,1,1]) (.inr rfl) (.inr rfl) (by decide) (by decide)
 have i40:=fun o a b c d φ=>(ix4 o a b c d φ).1
 have i41:=fun o a b c d φ=>(ix4 o a b c d φ).2.1
 have i42:=fun o a b c d φ=>(ix4 o a b c d φ).2.2.1
 have i43:=fun o a b c d φ=>(ix4 o a b c d φ).2.2.2
 have n1:((vT 0).k=1)=True:=eq_true rfl
 have n2:((oT 0 []).n=0)=True:=eq_true rfl
 have n3:((oT 1 [oT 0 []]).n=1)=True:=eq_true rfl
 have n4:((oT 2 [oT 0 [],oT 0 []]).n=2)=True:=eq_true rfl
 have f44:(((4:Nat):Int)=4)=True:=eq_true rfl
 obtain ⟨e1,e2,e3,e4,e5,e6⟩:=Ty.facts cU
 obtain ⟨a1,a2,a3,a4,a5,a6⟩:=bo [0,0,1] [1,1,1]
 obtain ⟨b1,b2,b3,b4,b5,b6⟩:=bo [0,0,1] [1,1,3]
 obtain ⟨c1,c2,c3,c4,c5,c6⟩:=bo [0,0,0] [1,1,1]
 have ix:∀ φ,ax 8 (.al 0 (uG cU.es)) (.int .i64 1) φ=φ (.ai cC.av):=by
  intro φ
  have:=idx_eq 8 0 cU.es .i64 1 φ
  rw [show ((1:Nat):Int)=1 from rfl] at this
  rw [this]
  exact propext ⟨fun h=>h.2,fun h=>⟨by decide,h⟩⟩
 have su:cU.s.av.ab=cU.s.av:=rfl
 simp +contextual only [e1,e2,e3,adS,a1,a2,a3,a4,b1,b2,b3,c1,c2,c3,bZ,MM,fY2,ix,feA,feB,rJ,HE,su,sZ,Nat.reduceEqDiff,Nat.reduceAdd,↓reduceIte]
 refine ⟨ae sg1 ?_,ae sg1 ?_⟩
 all_goals
  simp +contextual only [a4,bZ,MM,rJ,su,sZ,Nat.reduceEqDiff,Nat.reduceAdd,Nat.reduceLT,↓reduceIte]
  refine ae sg2 ?_
  simp +contextual only [a4,bZ,MM,rJ,su,sZ,Nat.reduceEqDiff,Nat.reduceAdd,Nat.reduceLT,↓reduceIte]
  refine af (p1 _) ?_
  rintro r H' ⟨⟨p,hp,rfl⟩,rfl⟩
  obtain ⟨r1,r2,r3,r4,r5,r6,r7,r8,r9⟩:=a7 p
  simp +contextual only [a4,bZ,MM,rJ,su,r1,r2,r3,r4,rO,sZ,Nat.reduceEqDiff,Nat.reduceAdd,Nat.reduceLT,↓reduceIte]
  refine ae (v1 hp) ?_
  simp +contextual only [a4,bZ,MM,rJ,su,r4,rO,sZ,Nat.reduceEqDiff,Nat.reduceAdd,↓reduceIte]
  refine ae (v2 p) ?_
  simp +contextual only [sZ,Nat.reduceEqDiff,↓reduceIte]
  refine aE (NG 0) ?_
  simp +contextual only [sZ]
  refine aE (NG 1) ?_
  simp +contextual only [sZ,Nat.reduceEqDiff,↓reduceIte]
  refine aE (o01) ?_
  simp +contextual only [sZ]
  refine aE (NG 1) ?_
  simp +contextual only [sZ]
  refine aE (NG 0) ?_
  simp +contextual only [sZ,Nat.reduceEqDiff,↓reduceIte]
  refine aE (o10) ?_
  simp +contextual only [b4,bZ,MM,rJ,su,sZ,Nat.reduceEqDiff,↓reduceIte]
  refine aE (q1) ?_
  simp +contextual only [sZ,Nat.reduceEqDiff,Nat.reduceAdd,Nat.reduceLT,↓reduceIte]
  refine aE (NG 0) ?_
  simp +contextual only [sZ]
  refine aE (NG 1) ?_
  simp +contextual only [sZ,Nat.reduceEqDiff,↓reduceIte]
  refine aE (o01) ?_
  simp +contextual only [sZ]
  refine aE (NG 1) ?_
  simp +contextual only [sZ]
  refine aE (NG 0) ?_
  simp +contextual only [sZ,Nat.reduceEqDiff,↓reduceIte]
  refine aE (o10) ?_
  simp +contextual only [a4,bZ,MM,rJ,su,sZ,Nat.reduceEqDiff,↓reduceIte]
  refine aE (q2) ?_
  simp +contextual only [e4,nk,a4,bZ,sZ,Nat.reduceEqDiff,Nat.reduceAdd,Nat.reduceLT,↓reduceIte]
  refine ae (k1) ?_
  simp +contextual only [e4,nk,c4,bZ,sZ,Nat.reduceEqDiff,Nat.reduceAdd,↓reduceIte]
  refine ae (k2) ?_
  simp +contextual only [e4,nk,c4,bZ,sZ,Nat.reduceEqDiff,Nat.reduceAdd,↓reduceIte]
  refine ae (bl1) ?_
  simp +contextual only [e4,nk,sZ,Nat.reduceEqDiff,Nat.reduceAdd,Nat.reduceLT,↓reduceIte]
  refine ae (fi1) ?_
  simp +contextual only [a1,a2,a3,a4,xg,sZ,Nat.reduceEqDiff,Nat.reduceAdd,Nat.reduceLT,↓reduceIte]
  refine ae (adU) ?_
  simp +contextual only [yq,sZ,Nat.reduceEqDiff,Nat.reduceAdd,↓reduceIte]
  refine ae (adV) ?_
  simp +contextual only [sZ,Nat.reduceEqDiff,↓reduceIte]
  refine aE (QF 0) ?_
  simp +contextual only [sZ,↓reduceIte]
  refine aE (o1) ?_
  simp +contextual only [sZ]
  refine aE (NG 0) ?_
  simp +contextual only [sZ]
  refine aE (QF 0) ?_
  simp +contextual only [sZ]
  refine aE (QF 0) ?_
  simp +contextual only [sZ]
  refine aE (QF 0) ?_
  simp +contextual only [sZ,Nat.reduceEqDiff,↓reduceIte]
  refine aE (o00) ?_
  simp +contextual only [a4,bZ,MM,rJ,su,bs4,sZ,Nat.reduceEqDiff,↓reduceIte]
  refine aE (so2) ?_
  simp +contextual only [Hu,Nf,aac,i40,i41,i42,i43,f44,n1,n2,n3,n4,decide_true,sZ,Nat.reduceEqDiff,Nat.reduceAdd,Nat.reduceLT,↓reduceIte,reduceCtorEq]
  exact aX H.length (Nat.le_refl _) rfl ⟨rfl,by simp⟩
end Go.aL
end
section
set_option maxRecDepth 100000
namespace Go.aL
open Go Go.Proofs Go.fN
def Vz (S:List aa→Prop) (r:AV) (H':List aa):Prop:=(∃ b,r=.bool b)∧S H'
theorem JF {S:List aa→Prop} (hl:zO S) {s:Nat} {b:Bool} {H H':List aa} (hS:S H) (Y0:S H'):bW H.length [.t s] [(s,.bool b)] H' (Vz S):=by
 refine aX H.length (Nat.le_refl _) (by rw [ay,if_pos rfl];rfl) ?_
 rw [ay,if_pos rfl,List.take_of_length_le (by rw [hl H H' hS Y0];exact Nat.le_refl _)]
 exact ⟨⟨b,rfl⟩,Y0⟩
theorem aaf {S:List aa→Prop} (hS:zO S) (g:Nat) (cL:List AV) (cj:cL.map AV.ab=cL) (l:List T) (hf:∀ x∈l,∀ H,S H→aq Tryz.prog g ([x.av]++cL) H (Vz S)) {H:List aa} (hH:S H) :
 aq Tryz.prog 114 [.al 0 (bC l),.fn (.func g) [] cL] H fun r H'=>(∃ n,r=.int .i64 n)∧S H':=by
 refine Dq.2.calls rfl ?_
 simp only [Dq,aF]
 simp +contextual only [sZ,Nat.reduceEqDiff,Nat.reduceAdd,↓reduceIte,reduceCtorEq]
 intro hl
 have fin:∀ (n:Int) (G:List aa),S G→bW H.length [.t 4] [(4,.int .i64 n)] G fun r H'=>(∃ n,r=.int .i64 n)∧S H':=by
  intro n G hG
  refine aX H.length (Nat.le_refl _) (by rw [ay,if_pos rfl];rfl) ?_
  rw [ay,if_pos rfl,List.take_of_length_le (by rw [hS H G hH hG];exact Nat.le_refl _)]
  exact ⟨⟨n,rfl⟩,hG⟩
 refine aJ l.length (fun i (G:List aa)=>S G) (fun i G=>[(0,.al 0 (bC l)),(1,.fn (.func g) [] cL),(7,.int .i64 l.length),(8,.int .i64 i)]) (fun i G=>G) H ⟨hH,aA _ _ _⟩ fun i G hi hG=>?_
 simp +contextual only [cj,sZ,Nat.reduceEqDiff,Nat.reduceAdd,↓reduceIte,reduceCtorEq]
 refine ⟨fun aK=>?_,fun gr=>?_⟩
 ·have aK:=bi aK
  refine ⟨aK,af (hf _ (cq aK) G hG) ?_⟩
  rintro r G' ⟨⟨b,rfl⟩,dN⟩
  cases b with
  | true=>simp +contextual only [sZ,Nat.reduceEqDiff,↓reduceIte,reduceCtorEq];exact fin _ _ dN
  | false=>simp +contextual only [sZ,Nat.reduceEqDiff,↓reduceIte,reduceCtorEq];exact ⟨i + 1,G',⟨aK,dN⟩,by omega,aC (by rw [au i (by omega)]) rfl⟩
 ·exact fin _ _ hG
theorem aag {S:List aa→Prop} (hS:zO S) (g:Nat) (cL:List AV) (cj:cL.map AV.ab=cL) (l:List T) (hf:∀ x∈l,∀ H,S H→aq Tryz.prog g ([x.av]++cL) H (Vz S)) {H:List aa} (hH:S H) :
 aq Tryz.prog 53 [.al 0 (bC l),.fn (.func g) [] cL] H (Vz S):=by
 refine Rp.2.calls rfl ?_
 simp only [Rp,aF]
 simp +contextual only [sZ,Nat.reduceEqDiff,Nat.reduceAdd,↓reduceIte,reduceCtorEq]
 refine af (aaf hS g cL cj l hf hH) ?_
 rintro r G ⟨⟨n,rfl⟩,hG⟩
 simp +contextual only [sZ,↓reduceIte,reduceCtorEq]
 exact JF hS hH hG
structure Fw (q q2:Nat) (H0 H:List aa):Prop where
 len:H.length=H0.length
 cnt:∃ n,H[q]?=some (.cells [.int .i64 n])
 fn:H[q2]?=some (.cells [.fn (.func 71) [] [.ptr q 0,.ptr q2 0]])
 get:∀ j,j≠q→H[j]?=H0[j]?
theorem Fw.zO (q q2:Nat) (H0:List aa):Go.aL.zO (Fw q q2 H0):=fun H H' h h'=>h'.len.trans h.len.symm
theorem Fw.set {q q2:Nat} {H0 H:List aa} (h:Fw q q2 H0 H) (hn:q≠q2) (n:Int):Fw q q2 H0 (H.set q (.cells [.int .i64 n])):=by
 obtain ⟨m,hm⟩:=h.cnt
 exact ⟨by simp [h.len],⟨n,List.getElem?_set_self (aO hm)⟩,by rw [List.getElem?_set_ne hn];exact h.fn,fun j hj=>by rw [List.getElem?_set_ne (Ne.symm hj)];exact h.get j hj⟩
theorem c71 {q q2:Nat} (hn:q≠q2) {H0:List aa}:∀ (N:Nat) (t:T),wt t≤N→∀ (d:Int) (H:List aa),Fw q q2 H0 H→aq Tryz.prog 71 [t.av,.int .i64 d,.ptr q 0,.ptr q2 0] H (Vz (Fw q q2 H0)):=by
 intro N
 induction N with
 | zero=>intro t h;have:=fO t;omega
 | succ N ih=>
   intro t hw d H hH
   refine k71.2.calls rfl ?_
   simp only [k71,aF]
   have hwe:=DM t
   obtain ⟨m,hm⟩:=hH.cnt
   have gI:∀ o,(H.set q o)[q]?=some o:=fun o=>List.getElem?_set_self (aO hm)
   simp +contextual only [hm,gI,sZ,Nat.reduceEqDiff,Nat.reduceAdd,Nat.reduceLT,↓reduceIte,reduceCtorEq]
   have c72:∀ x∈t.l,∀ H,Fw q q2 H0 H→aq Tryz.prog 72 ([x.av]++[.ptr q2 0,.ai (.int .i64 d)]) H (Vz (Fw q q2 H0)):=by
    intro x hx H hH
    refine k72.2.calls rfl ?_
    simp only [k72,aF,List.cons_append,List.nil_append]
    have hfn:=hH.fn
    simp +contextual only [hfn,sZ,Nat.reduceEqDiff,Nat.reduceAdd,Nat.reduceLT,↓reduceIte,reduceCtorEq]
    refine af (ih x (by have:=bP hx;omega) _ H hH) ?_
    rintro r G ⟨⟨b,rfl⟩,hG⟩
    simp +contextual only [sZ,↓reduceIte,reduceCtorEq]
    exact JF (Fw.zO q q2 H0) hH hG
   refine ⟨fun _=>⟨fun _=>af (aag (Fw.zO q q2 H0) 72 [.ptr q2 0,.ai (.int .i64 d)] rfl t.l c72 (hH.set hn _)) ?_,fun _=>JF (Fw.zO q q2 H0) hH (hH.set hn _)⟩,fun _=>JF (Fw.zO q q2 H0) hH (hH.set hn _)⟩
   rintro r G ⟨⟨b,rfl⟩,hG⟩
   simp +contextual only [sZ,Nat.reduceEqDiff,↓reduceIte,reduceCtorEq]
   exact JF (Fw.zO q q2 H0) hH hG
theorem c19 (n:Int) (l:List T) (H:List aa):aq Tryz.prog 19 [.int .i64 n,.al 0 (bC l)] H fun r H'=>(∃ b,r=.bool b)∧H'=H:=by
 refine k19.2.calls rfl ?_
 simp only [k19,aF]
 have sp1:∀ (x y:AV),ag [x] 0 [y]=[y]:=fun _ _=>rfl
 simp +contextual only [sZ,Nat.reduceEqDiff,Nat.reduceAdd,↓reduceIte,reduceCtorEq]
 obtain ⟨H0,eH0⟩:∃ H0,H0=H++[aa.cells [AV.int .i64 n],.cells [.fn (.func 71) [] [.ptr H.length 0,.ptr (H.length + 1) 0]]]:=⟨_,rfl⟩
 have hF:Fw H.length (H.length + 1) H0 H0:=⟨rfl,⟨n,by rw [eH0];simp⟩,by rw [eH0];simp,fun _ _=>rfl⟩
 rw [← eH0]
 have Aj:H0.length=H.length + 2:=by rw [eH0];simp
 have WE:H0.take H.length=H:=by rw [eH0];simp
 have c73:∀ x∈l,∀ G,Fw H.length (H.length + 1) H0 G→aq Tryz.prog 73 ([x.av]++[.ptr (H.length + 1) 0]) G (Vz (Fw H.length (H.length + 1) H0)):=by
  intro x hx G hG
  refine k73.2.calls rfl ?_
  simp only [k73,aF,List.cons_append,List.nil_append]
  have hfn:=hG.fn
  simp +contextual only [hfn,sZ,Nat.reduceEqDiff,Nat.reduceAdd,Nat.reduceLT,↓reduceIte,reduceCtorEq]
  refine af (c71 (by omega) _ x (Nat.le_refl _) _ G hG) ?_
  rintro r G' ⟨⟨b,rfl⟩,dN⟩
  simp +contextual only [sZ,↓reduceIte,reduceCtorEq]
  exact JF (Fw.zO _ _ H0) hG dN
 refine ⟨by simp;omega,af (aag (Fw.zO _ _ H0) 73 [.ptr (H.length + 1) 0] rfl l c73 hF) ?_⟩
 rintro r G ⟨⟨b,rfl⟩,hG⟩
 simp +contextual only [sZ,↓reduceIte,reduceCtorEq]
 refine aX H.length (Nat.le_refl _) (by rw [ay,if_pos rfl];rfl) ?_
 rw [ay,if_pos rfl]
 refine ⟨⟨!b,rfl⟩,?_⟩
 refine Eq.trans ?_ WE
 apply List.ext_getElem?
 intro j
 rw [List.getElem?_take,List.getElem?_take]
 by_cases hj:j < H.length
 ·rw [if_pos hj,if_pos hj];exact hG.get j (by omega)
 ·rw [if_neg hj,if_neg hj]
end Go.aL
end
section
set_option maxRecDepth 100000
namespace Go.aL
open Go Go.Proofs Go.fN
def NH (o:hJ):Prop:=o.args.length≤20∧o.name.size≤200
theorem xD {α:Type} [Inhabited α] {p:α→Prop} {l:List α} (h:∀ j,j < l.length→p (l.getD j default)):∀ x∈l,p x:=fun x hx=>by
 obtain ⟨n,hn,rfl⟩:=List.getElem_of_mem hx
 have:=h n hn
 rwa [List.getD_eq_getElem?_getD,List.getElem?_eq_getElem hn] at this
theorem c68 (o:hJ):∃ b,Pure Tryz.prog 68 [o.av] (.bool b)∧(b=false→NH o):=by
 refine ⟨decide (20 < (o.args.length:Int)) || decide (200 < (o.name.size:Int)),fun H=>k68.2.calls rfl ?_,fun h=>by simp at h;exact ⟨by omega,by omega⟩⟩
 simp only [k68,aF]
 simp +contextual only [aB,sZ,Nat.reduceEqDiff,Nat.reduceAdd,↓reduceIte,reduceCtorEq]
 refine fun _=>⟨fun h=>aZ rfl ?_,fun h=>aZ rfl ?_⟩
 ·have h':¬ (20:Int) < o.args.length:=by omega
  rw [decide_eq_false h',Bool.false_or]
 ·rw [decide_eq_true h,Bool.true_or]
theorem c70 (s:ByteArray):∃ b,Pure Tryz.prog 70 [.str s] (.bool b)∧(b=false→s.size≤200):=by
 refine ⟨decide (200 < (s.size:Int)),fun H=>k70.2.calls rfl ?_,fun h=>by simp at h;omega⟩
 simp only [k70,aF]
 simp +contextual only [sZ,Nat.reduceAdd,↓reduceIte,reduceCtorEq]
 exact aZ rfl rfl
theorem aah (l:List hJ):∀ H,aq Tryz.prog 128 [.al 0 (pj l),.fn (.func 68) [] []] H fun r H'=>(∃ n,r=.int .i64 n∧(n < 0→∀ o∈l,NH o))∧H'=H:=by
 refine fun H=>Xp.2.calls rfl ?_
 simp only [Xp,aF]
 simp +contextual only [aB,sZ,Nat.reduceEqDiff,Nat.reduceAdd,↓reduceIte,reduceCtorEq]
 intro hl
 have fin:∀ (n:Int),(n < 0→∀ o∈l,NH o)→bW H.length [.t 4] [(4,.int .i64 n)] H fun r H'=>(∃ n,r=.int .i64 n∧(n < 0→∀ o∈l,NH o))∧H'=H:=fun n hn=>
  aX H.length (Nat.le_refl _) (by rw [ay,if_pos rfl];rfl) ⟨⟨n,by rw [ay,if_pos rfl],hn⟩,List.take_length⟩
 refine aD l.length (fun i=>∀ j,j < i→NH (l.getD j default)) (fun i=>[(0,.al 0 (pj l)),(1,.fn (.func 68) [] []),(7,.int .i64 l.length),(8,.int .i64 i)]) (fun _=>H) ⟨fun j h=>by omega,aA _ _ _⟩ fun i hi hI=>?_
 simp +contextual only [aB,sZ,Nat.reduceEqDiff,Nat.reduceAdd,↓reduceIte,reduceCtorEq]
 obtain ⟨b,hb,hq⟩:=c68 (l.getD i default)
 refine ⟨fun aK=>?_,fun gr=>fin _ fun _=>xD fun j hj=>hI j (by have:=cb gr;omega)⟩
 have aK:=bi aK
 refine ⟨aK,ae hb ?_⟩
 cases b with
 | true=>simp +contextual only [sZ,Nat.reduceEqDiff,↓reduceIte,reduceCtorEq];exact fin _ fun h=>by omega
 | false=>
   simp +contextual only [sZ,Nat.reduceEqDiff,↓reduceIte,reduceCtorEq]
   refine ⟨i + 1,⟨aK,fun j hj=>?_⟩,by omega,aC (by rw [au i (by omega)]) rfl⟩
   by_cases e:j < i
   ·exact hI j e
   ·have:j=i:=by omega
    subst this;exact hq rfl
theorem adY (l:List hJ):∀ H,aq Tryz.prog 67 [.al 0 (pj l),.fn (.func 68) [] []] H fun r H'=>(∃ b,r=.bool b∧(b=false→∀ o∈l,NH o))∧H'=H:=by
 refine fun H=>k67.2.calls rfl ?_
 simp only [k67,aF]
 simp +contextual only [sZ,Nat.reduceEqDiff,Nat.reduceAdd,↓reduceIte,reduceCtorEq]
 refine af (aah l H) ?_
 rintro r G ⟨⟨n,rfl,hn⟩,rfl⟩
 simp +contextual only [sZ,↓reduceIte,reduceCtorEq]
 exact aX _ (Nat.le_refl _) (by rw [ay,if_pos rfl];rfl) ⟨⟨decide (0≤n),by rw [ay,if_pos rfl],fun h=>hn (by simpa using h)⟩,List.take_length⟩
theorem aai (l:List ByteArray):∀ H,aq Tryz.prog 129 [.al 0 (strs l),.fn (.func 70) [] []] H fun r H'=>(∃ n,r=.int .i64 n∧(n < 0→∀ o∈l,o.size≤200))∧H'=H:=by
 refine fun H=>Xq.2.calls rfl ?_
 simp only [Xq,aF]
 simp +contextual only [aB,sZ,Nat.reduceEqDiff,Nat.reduceAdd,↓reduceIte,reduceCtorEq]
 intro hl
 have fin:∀ (n:Int),(n < 0→∀ o∈l,o.size≤200)→bW H.length [.t 4] [(4,.int .i64 n)] H fun r H'=>(∃ n,r=.int .i64 n∧(n < 0→∀ o∈l,o.size≤200))∧H'=H:=fun n hn=>
  aX H.length (Nat.le_refl _) (by rw [ay,if_pos rfl];rfl) ⟨⟨n,by rw [ay,if_pos rfl],hn⟩,List.take_length⟩
 refine aD l.length (fun i=>∀ j,j < i→(l.getD j default).size≤200) (fun i=>[(0,.al 0 (strs l)),(1,.fn (.func 70) [] []),(7,.int .i64 l.length),(8,.int .i64 i)]) (fun _=>H) ⟨fun j h=>by omega,aA _ _ _⟩ fun i hi hI=>?_
 simp +contextual only [aB,sZ,Nat.reduceEqDiff,Nat.reduceAdd,↓reduceIte,reduceCtorEq]
 obtain ⟨b,hb,hq⟩:=c70 (l.getD i default)
 refine ⟨fun aK=>?_,fun gr=>fin _ fun _=>xD fun j hj=>hI j (by have:=cb gr;omega)⟩
 have aK:=bi aK
 refine ⟨aK,ae hb ?_⟩
 cases b with
 | true=>simp +contextual only [sZ,Nat.reduceEqDiff,↓reduceIte,reduceCtorEq];exact fin _ fun h=>by omega
 | false=>
   simp +contextual only [sZ,Nat.reduceEqDiff,↓reduceIte,reduceCtorEq]
   refine ⟨i + 1,⟨aK,fun j hj=>?_⟩,by omega,aC (by rw [au i (by omega)]) rfl⟩
   by_cases e:j < i
   ·exact hI j e
   ·have:j=i:=by omega
    subst this;exact hq rfl
theorem adZ (l:List ByteArray):∀ H,aq Tryz.prog 69 [.al 0 (strs l),.fn (.func 70) [] []] H fun r H'=>(∃ b,r=.bool b∧(b=false→∀ o∈l,o.size≤200))∧H'=H:=by
 refine fun H=>k69.2.calls rfl ?_
 simp only [k69,aF]
 simp +contextual only [sZ,Nat.reduceEqDiff,Nat.reduceAdd,↓reduceIte,reduceCtorEq]
 refine af (aai l H) ?_
 rintro r G ⟨⟨n,rfl,hn⟩,rfl⟩
 simp +contextual only [sZ,↓reduceIte,reduceCtorEq]
 exact aX _ (Nat.le_refl _) (by rw [ay,if_pos rfl];rfl) ⟨⟨decide (0≤n),by rw [ay,if_pos rfl],fun h=>hn (by simpa using h)⟩,List.take_length⟩
structure SmS (s:Sg) (ps ss:List Int):Prop where
 h1:s.ops.length≤40
 h2:s.a9.length≤40
 h3:ps.length≤80
 h4:ss.length≤80
 h5:∀ o∈s.ops,NH o
 h6:∀ x∈s.a9,x.size≤200
theorem c18 (s:Sg) (ps ss:List Int) (H:List aa):aq Tryz.prog 18 [s.av,eX ps ss] H fun r H'=>(∃ b,r=.bool b∧(b=true→SmS s ps ss))∧H'=H:=by
 refine k18.2.calls rfl ?_
 simp only [k18,aF]
 have fin:∀ (b:Bool),(b=true→SmS s ps ss)→bW H.length [.t 4] [(4,.bool b)] H fun r H'=>(∃ b,r=.bool b∧(b=true→SmS s ps ss))∧H'=H:=fun b hb=>
  aX H.length (Nat.le_refl _) (by rw [ay,if_pos rfl];rfl) ⟨⟨b,by rw [ay,if_pos rfl],hb⟩,List.take_length⟩
 have finf:=fin false (fun h=>by cases h)
 obtain ⟨q1,q2,q3,q4,q5,q6⟩:=bo ps ss
 simp +contextual only [aB,q1,xg,yq,aw,sZ,Nat.reduceEqDiff,Nat.reduceAdd,↓reduceIte,reduceCtorEq]
 refine fun _=>⟨fun h1 _=>⟨fun h2 _=>⟨fun h3 _=>⟨fun h4=>af (adY s.ops H) ?_,fun _=>finf⟩,fun _=>finf⟩,fun _=>finf⟩,fun _=>finf⟩
 rintro r G ⟨⟨b,rfl,hb⟩,rfl⟩
 cases b with
 | true=>simp +contextual only [sZ,Nat.reduceEqDiff,↓reduceIte,reduceCtorEq];exact finf
 | false=>
   simp +contextual only [aB,sZ,Nat.reduceEqDiff,Nat.reduceAdd,↓reduceIte]
   refine af (adZ s.a9 _) ?_
   rintro r G ⟨⟨d,rfl,hd⟩,rfl⟩
   simp +contextual only [sZ,Nat.reduceEqDiff,↓reduceIte,reduceCtorEq]
   exact fin _ fun h=>⟨by omega,by omega,by omega,by omega,hb rfl,hd (by simpa using h)⟩
end Go.aL
end
section
set_option maxRecDepth 100000
namespace Go.aL
open Go Go.Proofs
def VA (c:UInt8):Prop:=¬ ((c.toNat:Int) < 33∨126 < (c.toNat:Int)∨(c.toNat:Int)=40∨(c.toNat:Int)=41∨(c.toNat:Int)=44)
def oE (s:ByteArray):Prop:=(∀ i,i < s.size→VA (s.data.toList.getD i 0))∧1≤s.size∧s.size≤32
theorem kz {P:Prop} (h:Decidable P) {H:List aa} {s:Nat} (hp:¬ P):bW H.length [.t s] [(s,.bool false)] H fun r H'=>r=.bool (decide P)∧H'=H:=aZ rfl (by simp [hp])
open Classical in
theorem aaj (s:ByteArray) (hs:s.size≤200):Pure Tryz.prog 195 [.str s] (.bool (decide (oE s))):=by
 refine fun H=>XW.2.calls rfl ?_
 simp only [XW,aF]
 simp +contextual only [sZ,Nat.reduceAdd,↓reduceIte,reduceCtorEq]
 refine aD s.size (fun i=>∀ j,j < i→VA (s.data.toList.getD j 0))
  (fun i=>[(0,.str s),(3,.int .i64 i)]) (fun i=>H) ⟨fun j h=>by omega,aA _ _ _⟩ fun i hi hI=>?_
 simp +contextual only [ixs,sZ,Nat.reduceEqDiff,↓reduceIte,reduceCtorEq,Int.reduceLT]
 have bad (hl:i < s.size) (h:¬ VA (s.data.toList.getD i 0)):¬ oE s:=fun e=>h (e.1 i hl)
 refine ⟨fun hl=>?_,fun hl=>⟨fun h1=>?_,fun h1=>?_⟩⟩
 ·have hl:=bi hl
  have bad:=bad hl
  unfold VA at bad
  refine ⟨hl,fun a=>⟨hl,fun b=>⟨hl,fun c=>⟨hl,fun d=>⟨hl,fun e=>?_,fun e=>?_⟩,fun d=>?_⟩,fun c=>?_⟩,fun b=>?_⟩,fun a=>?_⟩
  ·exact kz _ (bad (by omega))
  ·refine ⟨i + 1,⟨hl,fun j hj=>?_⟩,by omega,aC (by rw [au i (by omega)]) rfl⟩
   by_cases GO:j < i
   ·exact hI j GO
   ·have:j=i:=by omega
    subst this
    unfold VA;omega
  ·exact kz _ (bad (by omega))
  ·exact kz _ (bad (by omega))
  ·exact kz _ (bad (by omega))
  ·exact kz _ (bad (by omega))
 ·refine aZ rfl ?_
  have e:(((s.size:Nat):Int)≤32)=oE s:=propext ⟨fun h=>⟨fun j hj=>hI j (by omega),by omega,by omega⟩,fun h=>by have:=h.2.2;omega⟩
  simp only [e]
 ·exact kz _ fun e=>by have:=e.2.1;omega
def B8 (s:ByteArray):Nat:=s.data.toList.countP (· == 95)
theorem aak (s:ByteArray) (hs:s.size≤200):Pure Tryz.prog 196 [.str s] (.int .i64 (B8 s:Nat)):=by
 unfold B8
 refine fun H=>XX.2.calls rfl ?_
 simp only [XX,aF]
 simp +contextual only [sZ,Nat.reduceEqDiff,Nat.reduceAdd,↓reduceIte,reduceCtorEq]
 refine aD s.size (fun i=>True)
  (fun i=>[(0,.str s),(3,.int .i64 ((s.data.toList.take i).countP (· == 95):Nat)),(4,.int .i64 i)]) (fun i=>H) ⟨trivial,aA _ _ _⟩ fun i hi hI=>?_
 simp +contextual only [ixs,sZ,Nat.reduceEqDiff,↓reduceIte,reduceCtorEq]
 have hz:s.data.toList.length=s.size:=rfl
 have hc:=List.countP_le_length (p:=(· == (95:UInt8))) (l:=s.data.toList.take i)
 rw [List.length_take] at hc
 refine ⟨fun hl=>?_,fun hl=>?_⟩
 ·have hl:=bi hl
  have vS:i < s.data.toList.length:=hl
  have eg:s.data.toList.getD i 0=s.data.toList[i]:=by rw [List.getD_eq_getElem?_getD,List.getElem?_eq_getElem vS];rfl
  have et:(s.data.toList.take (i + 1)).countP (· == 95)=(s.data.toList.take i).countP (· == 95) + if (s.data.toList.getD i 0 == 95)=true then 1 else 0:=by
   rw [List.take_add_one,List.countP_append,eg,List.getElem?_eq_getElem vS];simp [List.countP_cons]
  refine ⟨hl,fun a=>⟨i + 1,hl,by omega,aC ?_ rfl⟩,fun a=>⟨i + 1,hl,by omega,aC ?_ rfl⟩⟩
  ·have:(s.data.toList.getD i 0 == 95)=true:=by
    rw [beq_iff_eq];apply UInt8.toNat_inj.1;simpa using Int.ofNat.inj a
   rw [au i (by omega),au _ (by omega),et,if_pos this]
  ·have:¬ (s.data.toList.getD i 0 == 95)=true:=by
    rw [beq_iff_eq];intro h;rw [h] at a;exact a rfl
   rw [au i (by omega),et,if_neg this];rfl
 ·rw [List.take_of_length_le (by have:=cb hl;omega)]
  exact aZ rfl rfl
def lm (s:Sg) (l:List Int):Prop:=∀ x∈l,0≤x∧x < s.a9.length
open Classical in
theorem Si (s:Sg) (l:List Int):Pure Tryz.prog 232 [s.av,.al 0 (ints l)] (.bool (decide (lm s l))):=by
 refine fun H=>Yi.2.calls rfl ?_
 simp only [Yi,aF]
 simp +contextual only [aB,sZ,Nat.reduceEqDiff,Nat.reduceAdd,↓reduceIte,reduceCtorEq]
 refine aD l.length (fun i=>∀ j,j < i→0≤l.getD j 0∧l.getD j 0 < s.a9.length)
  (fun i=>[(1,.al 0 (ints l)),(2,.ai s.av),(5,.int .i64 i)]) (fun i=>H) ⟨fun j h=>by omega,aA _ _ _⟩ fun i hi hI=>?_
 by_cases hl:i < l.length
 ·have bad (h:¬ (0≤l.getD i 0∧l.getD i 0 < s.a9.length)):¬ lm s l:=fun e=>h (e _ (aP hl))
  have e0:((i:Int) < l.length)=True:=eq_true (by omega)
  by_cases h1:l.getD i 0 < 0
  ·have e1:(l.getD i 0 < 0)=True:=eq_true h1
   simp +contextual only [e0,e1,hl,decide_true,sZ,Nat.reduceEqDiff,↓reduceIte,reduceCtorEq]
   exact fun _=>kz _ (bad (by omega))
  ·have e1:(l.getD i 0 < 0)=False:=eq_false h1
   by_cases h2:s.a9.length≤l.getD i 0
   ·have e2:((s.a9.length:Int)≤l.getD i 0)=True:=eq_true h2
    simp +contextual only [aB,e0,e1,e2,hl,decide_true,decide_false,sZ,Nat.reduceEqDiff,↓reduceIte,reduceCtorEq]
    exact fun _=>kz _ (bad (by omega))
   ·have e2:((s.a9.length:Int)≤l.getD i 0)=False:=eq_false h2
    simp +contextual only [aB,e0,e1,e2,hl,decide_true,decide_false,sZ,Nat.reduceEqDiff,↓reduceIte]
    refine fun _=>⟨i + 1,⟨hl,fun j hj=>?_⟩,by omega,aC (by rw [au i (by omega)]) rfl⟩
    by_cases GO:j < i
    ·exact hI j GO
    ·have:j=i:=by omega
     subst this
     exact ⟨by omega,by omega⟩
 ·have e0:((i:Int) < l.length)=False:=eq_false (by omega)
  simp +contextual only [e0,sZ,Nat.reduceEqDiff,↓reduceIte,reduceCtorEq]
  refine fun _=>aZ rfl ?_
  have:lm s l:=fun x hx=>by
   obtain ⟨n,hn,rfl⟩:=List.getElem_of_mem hx
   have:=hI n (by omega)
   rwa [List.getD_eq_getElem?_getD,List.getElem?_eq_getElem hn] at this
  simp [this]
def NI (s:Sg) (o:hJ):Prop:=oE o.name∧B8 o.name≠o.name.size∧(B8 o.name=0∨B8 o.name=o.args.length)∧o.args.length≤8∧lm s o.args∧lm s [o.B6]
theorem Ng (a:Int):[AV.int .i64 a]=ints [a]:=rfl
open Classical in
theorem ad0 (s:Sg) (o:hJ) (ho:NH o):Pure Tryz.prog 197 [s.av,o.av] (.bool (decide (NI s o))):=by
 have e1:=aak o.name ho.2
 have e2:=aaj o.name ho.2
 have hb:B8 o.name≤o.name.size:=List.countP_le_length (p:=(· == (95:UInt8))) (l:=o.name.data.toList)
 have e3:=Si s o.args
 have e4:=Si s [o.B6]
 have hR:NI s o=(oE o.name∧B8 o.name≠o.name.size∧(B8 o.name=0∨B8 o.name=o.args.length)∧o.args.length≤8∧lm s o.args∧lm s [o.B6]):=rfl
 refine fun H=>XZ.2.calls rfl ?_
 simp only [XZ,aF]
 simp +contextual only [aB,sZ,Nat.reduceEqDiff,Nat.reduceAdd,↓reduceIte,reduceCtorEq]
 refine ae e1 ?_
 simp +contextual only [aB,sZ,Nat.reduceEqDiff,Nat.reduceAdd,↓reduceIte]
 refine ae e2 ?_
 have ha:=ho.1
 generalize B8 o.name=n at *
 by_cases hn:oE o.name
 ·rw [decide_eq_true hn]
  by_cases h1:n=o.name.size
  ·have f1:((n:Int)=o.name.size)=True:=eq_true (by omega)
   simp +contextual only [aB,f1,decide_true,sZ,Nat.reduceEqDiff,↓reduceIte,reduceCtorEq]
   exact kz _ (by rw [hR];exact fun e=>e.2.1 h1)
  have f1:((n:Int)=o.name.size)=False:=eq_false (by omega)
  by_cases h2:n=0∨n=o.args.length
  ·have hz:(0 < (n:Int))=False∧(True∧True)=True∨(0 < (n:Int))=True∧((n:Int)=o.args.length)=True:=by
    by_cases h0:n=0
    ·exact .inl ⟨eq_false (by omega),by simp⟩
    ·exact .inr ⟨eq_true (by omega),eq_true (by omega)⟩
   rcases hz with ⟨f2,f3⟩ | ⟨f2,f3⟩
   all_goals
    simp +contextual only [aB,f1,f2,f3,decide_false,decide_true,sZ,Nat.reduceEqDiff,Nat.reduceAdd,↓reduceIte,reduceCtorEq]
    refine fun _=>⟨fun h3=>ae e3 ?_,fun h3=>kz _ (by rw [hR];exact fun e=>by have:=e.2.2.2.1;omega)⟩
    by_cases h4:lm s o.args
    ·rw [decide_eq_true h4]
     simp +contextual only [aB,Ng,sZ,Nat.reduceEqDiff,Nat.reduceAdd,↓reduceIte]
     refine ae e4 ?_
     simp +contextual only [sZ,Nat.reduceEqDiff,↓reduceIte,reduceCtorEq]
     refine aZ rfl ?_
     have:NI s o=lm s [o.B6]:=by rw [hR];exact propext ⟨fun e=>e.2.2.2.2.2,fun e=>⟨hn,h1,h2,by omega,h4,e⟩⟩
     simp only [this]
    ·rw [decide_eq_false h4]
     simp +contextual only [sZ,Nat.reduceEqDiff,↓reduceIte,reduceCtorEq]
     exact kz _ (by rw [hR];exact fun e=>h4 e.2.2.2.2.1)
  ·have f2:(0 < (n:Int))=True:=eq_true (by omega)
   have f3:((n:Int)=o.args.length)=False:=eq_false (by omega)
   simp +contextual only [aB,f1,f2,f3,decide_false,decide_true,sZ,Nat.reduceEqDiff,↓reduceIte,reduceCtorEq]
   exact fun _=>kz _ (by rw [hR];exact fun e=>h2 e.2.2.1)
 ·rw [decide_eq_false hn]
  simp +contextual only [sZ,Nat.reduceEqDiff,↓reduceIte,reduceCtorEq]
  exact kz _ (by rw [hR];exact fun e=>hn e.1)
end Go.aL
end
section
set_option maxRecDepth 100000
namespace Go.aL
open Go Go.Proofs
def V8 (s:Sg) (i:Nat):Prop:=oE (s.a9.getD i default)∧B8 (s.a9.getD i default)=0∧∀ k,k < i→s.a9.getD k default≠s.a9.getD i default
def V9 (a b:hJ):Prop:=a.name=b.name∧a.B6=b.B6∧a.args=b.args
def OoR (s:Sg) (i:Nat):Prop:=NI s (s.ops.getD i default)∧∀ k,k < i→¬ V9 (s.ops.getD k default) (s.ops.getD i default)
def qp (s:Sg):Prop:=s.a9.length≤64∧s.ops.length≤256∧(∀ i,i < s.a9.length→V8 s i)∧∀ i,i < s.ops.length→OoR s i
theorem kw {p:Nat→Prop} {i:Nat} (h:∀ j,j < i→p j) (h':p i):∀ j,j < i + 1→p j:=fun j hj=>by
 by_cases e:j < i
 ·exact h j e
 ·have:j=i:=by omega
  subst this;exact h'
theorem xE {α:Type} [Inhabited α] {l:List α} {i:Nat} (h:i < l.length):l.getD i default∈l:=by
 rw [List.getD_eq_getElem?_getD,List.getElem?_eq_getElem h];exact List.getElem_mem h
open Classical in
theorem ad1 (s:Sg) (ho:∀ o∈s.ops,NH o) (hs:∀ x∈s.a9,x.size≤200) (h40:s.ops.length≤40) (h41:s.a9.length≤40):Pure Tryz.prog 145 [s.av] (.bool (decide (qp s))):=by
 refine fun H=>Xy.2.calls rfl ?_
 simp only [Xy,aF]
 have f1:(64 < (s.a9.length:Int))=False:=eq_false (by omega)
 have f2:(256 < (s.ops.length:Int))=False:=eq_false (by omega)
 simp +contextual only [aB,f1,f2,decide_false,sZ,Nat.reduceEqDiff,Nat.reduceAdd,↓reduceIte]
 refine fun _ _=>aD s.a9.length (fun i=>∀ j,j < i→V8 s j) (fun i=>[(1,.ai s.av),(3,.int .i64 i)]) (fun i=>H) ⟨fun j h=>by omega,aA _ _ _⟩ fun i hi hI=>?_
 by_cases hl:i < s.a9.length
 ·have e0:((i:Int) < s.a9.length)=True:=eq_true (by omega)
  have bad (h:¬ V8 s i):¬ qp s:=fun e=>h (e.2.2.1 i hl)
  have hx:=hs _ (xE hl)
  have e1:=aaj _ hx
  have e2:=aak _ hx
  have hR:V8 s i=(oE (s.a9.getD i default)∧B8 (s.a9.getD i default)=0∧∀ k,k < i→s.a9.getD k default≠s.a9.getD i default):=rfl
  simp +contextual only [aB,e0,hl,sZ,Nat.reduceEqDiff,Nat.reduceAdd,↓reduceIte]
  refine fun _=>ae e1 ?_
  by_cases h1:oE (s.a9.getD i default)
  ·rw [decide_eq_true h1]
   simp +contextual only [aB,hl,sZ,Nat.reduceEqDiff,Nat.reduceAdd,↓reduceIte]
   refine ae e2 ?_
   by_cases h2:B8 (s.a9.getD i default)=0
   ·rw [h2]
    have e9:(0 < ((0:Nat):Int))=False:=eq_false (by omega)
    simp +contextual only [e9,decide_false,sZ,Nat.reduceEqDiff,↓reduceIte]
    refine aD i (fun k=>∀ j,j < k→s.a9.getD j default≠s.a9.getD i default) (fun k=>[(1,.ai s.av),(3,.int .i64 i),(4,.int .i64 k)]) (fun i=>H) ⟨fun j h=>by omega,aA _ _ _⟩ fun k hk hK=>?_
    by_cases nE:k < i
    ·have e3:((k:Int) < i)=True:=eq_true (by omega)
     have yv:k < s.a9.length:=by omega
     by_cases h3:s.a9.getD k default=s.a9.getD i default
     ·simp +contextual only [aB,e3,hl,yv,qh,h3,decide_true,sZ,Nat.reduceEqDiff,↓reduceIte,reduceCtorEq]
      exact kz _ (bad (by rw [hR];exact fun e=>e.2.2 k nE h3))
     ·simp +contextual only [aB,e3,hl,yv,qh,h3,decide_false,sZ,Nat.reduceEqDiff,↓reduceIte]
      exact ⟨k + 1,⟨nE,kw hK h3⟩,by omega,aC (by rw [au k (by omega)]) rfl⟩
    ·have e3:((k:Int) < i)=False:=eq_false (by omega)
     simp +contextual only [e3,sZ,Nat.reduceEqDiff,↓reduceIte]
     exact ⟨i + 1,⟨hl,kw hI (by rw [hR];exact ⟨h1,h2,fun j hj=>hK j (by omega)⟩)⟩,by omega,aC (by rw [au i (by omega)]) rfl⟩
   ·have e3:(0 < ((B8 (s.a9.getD i default):Nat):Int))=True:=eq_true (by omega)
    simp +contextual only [e3,decide_true,sZ,Nat.reduceEqDiff,↓reduceIte,reduceCtorEq]
    exact kz _ (bad (by rw [hR];exact fun e=>h2 e.2.1))
  ·rw [decide_eq_false h1]
   simp +contextual only [sZ,Nat.reduceEqDiff,↓reduceIte,reduceCtorEq]
   exact kz _ (bad (by rw [hR];exact fun e=>h1 e.1))
 have e0:((i:Int) < s.a9.length)=False:=eq_false (by omega)
 have R8:∀ i,i < s.a9.length→V8 s i:=fun j hj=>hI j (by omega)
 simp +contextual only [aB,e0,sZ,Nat.reduceEqDiff,↓reduceIte]
 refine fun _=>aD s.ops.length (fun i=>∀ j,j < i→OoR s j) (fun i=>[(1,.ai s.av),(5,.int .i64 i)]) (fun i=>H) ⟨fun j h=>by omega,aA _ _ _⟩ fun i hi hI=>?_
 by_cases hl:i < s.ops.length
 ·have e0:((i:Int) < s.ops.length)=True:=eq_true (by omega)
  have bad (h:¬ OoR s i):¬ qp s:=fun e=>h (e.2.2.2 i hl)
  have e1:=ad0 s _ (ho _ (xE hl))
  have hR:OoR s i=(NI s (s.ops.getD i default)∧∀ k,k < i→¬ V9 (s.ops.getD k default) (s.ops.getD i default)):=rfl
  simp +contextual only [aB,e0,hl,sZ,Nat.reduceEqDiff,↓reduceIte]
  refine fun _=>aE e1 ?_
  by_cases h1:NI s (s.ops.getD i default)
  ·rw [decide_eq_true h1]
   simp +contextual only [sZ,Nat.reduceEqDiff,↓reduceIte]
   refine aD i (fun k=>∀ j,j < k→¬ V9 (s.ops.getD j default) (s.ops.getD i default)) (fun k=>[(1,.ai s.av),(5,.int .i64 i),(6,.int .i64 k)]) (fun i=>H) ⟨fun j h=>by omega,aA _ _ _⟩ fun k hk hK=>?_
   by_cases nE:k < i
   ·have e3:((k:Int) < i)=True:=eq_true (by omega)
    have yv:k < s.ops.length:=by omega
    have next (h:¬ V9 (s.ops.getD k default) (s.ops.getD i default)):∃ j,(j≤i∧∀ j_1,j_1 < j→¬ V9 (s.ops.getD j_1 default) (s.ops.getD i default))∧i - j < i - k∧sle H.length [(1,.ai s.av),(5,.int .i64 i),(6,.int .i64 (IntKind.i64.wrap ((k:Int) + 1)))] H [(1,.ai s.av),(5,.int .i64 i),(6,.int .i64 j)] H:=
     ⟨k + 1,⟨nE,kw hK h⟩,by omega,aC (by rw [au k (by omega)]) rfl⟩
    by_cases h2:(s.ops.getD k default).name=(s.ops.getD i default).name
    ·by_cases h3:(s.ops.getD k default).B6=(s.ops.getD i default).B6
     ·simp +contextual only [aB,e3,hl,yv,qh,h2,h3,decide_true,sZ,Nat.reduceEqDiff,↓reduceIte]
      refine aE (ab8 _ _ _ _) ?_
      by_cases h4:(s.ops.getD k default).args=(s.ops.getD i default).args
      ·simp +contextual only [h4,decide_true,sZ,Nat.reduceEqDiff,↓reduceIte,reduceCtorEq]
       exact kz _ (bad (by rw [hR];exact fun e=>e.2 k nE ⟨h2,h3,h4⟩))
      ·simp +contextual only [h4,decide_false,sZ,Nat.reduceEqDiff,↓reduceIte]
       exact next fun e=>h4 e.2.2
     ·simp +contextual only [aB,e3,hl,yv,qh,h2,h3,decide_true,decide_false,sZ,Nat.reduceEqDiff,↓reduceIte]
      exact next fun e=>h3 e.2.1
    ·simp +contextual only [aB,e3,hl,yv,qh,h2,decide_false,sZ,Nat.reduceEqDiff,↓reduceIte]
     exact next fun e=>h2 e.1
   ·have e3:((k:Int) < i)=False:=eq_false (by omega)
    simp +contextual only [e3,sZ,Nat.reduceEqDiff,↓reduceIte]
    exact ⟨i + 1,⟨hl,kw hI (by rw [hR];exact ⟨h1,fun j hj=>hK j (by omega)⟩)⟩,by omega,aC (by rw [au i (by omega)]) rfl⟩
  ·rw [decide_eq_false h1]
   simp +contextual only [sZ,Nat.reduceEqDiff,↓reduceIte,reduceCtorEq]
   exact kz _ (bad (by rw [hR];exact fun e=>h1 e.1))
 ·have e0:((i:Int) < s.ops.length)=False:=eq_false (by omega)
  simp +contextual only [aB,e0,sZ,Nat.reduceEqDiff,↓reduceIte,reduceCtorEq]
  refine fun _=>aZ rfl ?_
  have:qp s:=⟨by omega,by omega,R8,fun j hj=>hI j (by omega)⟩
  simp [this]
end Go.aL
end
section
set_option maxRecDepth 100000
namespace Go.aL
open Go Go.Proofs Go.fN
open Classical in
theorem c82 (s:Sg) (ho:∀ o∈s.ops,NH o) (hs:∀ x∈s.a9,x.size≤200) (h40:s.ops.length≤40) (h41:s.a9.length≤40):Pure Tryz.prog 82 [s.av] (.int .i64 (if qp s then 0 else 40)):=by
 refine fun H=>k82.2.calls rfl ?_
 simp only [k82,aF]
 simp +contextual only [aB,sZ,Nat.reduceEqDiff,Nat.reduceAdd,↓reduceIte]
 refine ae (ad1 s ho hs h40 h41) ?_
 by_cases h:qp s
 ·rw [decide_eq_true h]
  simp +contextual only [sZ,↓reduceIte,reduceCtorEq]
  exact aZ rfl (by rw [if_pos h])
 ·rw [decide_eq_false h]
  simp +contextual only [sZ,↓reduceIte,reduceCtorEq]
  exact aZ rfl (by rw [if_neg h])
def OrR (ps ss:List Int) (i:Nat):Prop:=0≤ps.getD i 0∧ps.getD i 0≤255∧1≤ss.getD i 0∧ss.getD i 0≤3∧∀ k,k < i→¬ (ps.getD i 0=ps.getD k 0∧¬ ss.getD i 0=ss.getD k 0)
theorem En (ps ss:List Int) (n:Nat):Qm ps ss n↔∀ i,i < n→OrR ps ss i:=by
 constructor
 ·intro h i hi
  obtain ⟨a,b,c,d⟩:=h.QT i hi
  exact ⟨a,b,c,d,fun k hk e=>e.2 (h.st i k hi (by omega) e.1)⟩
 ·intro h
  refine ⟨fun j hj=>⟨(h j hj).1,(h j hj).2.1,(h j hj).2.2.1,(h j hj).2.2.2.1⟩,fun j k hj hk e=>?_⟩
  rcases Nat.lt_trichotomy j k with g | g | g
  ·have:=(h k hk).2.2.2.2 j g
   by_cases x:ss.getD j 0=ss.getD k 0
   ·exact x
   ·exact absurd ⟨e.symm,fun y=>x y.symm⟩ this
  ·rw [g]
  ·have:=(h j hj).2.2.2.2 k g
   by_cases x:ss.getD j 0=ss.getD k 0
   ·exact x
   ·exact absurd ⟨e,x⟩ this
open Classical in
theorem c83 (s:Sg) (ps ss:List Int) (h40:s.ops.length≤40) (h3:ps.length≤80) (h4:ss.length≤80):Pure Tryz.prog 83 [s.av,eX ps ss] (.bool (decide (eK s ps ss))):=by
 refine fun H=>k83.2.calls rfl ?_
 simp only [k83,aF]
 obtain ⟨q1,q2,q3,q4,q5,q6⟩:=bo ps ss
 by_cases g1:ps.length=s.ops.length
 rotate_left
 ·have f1:((ps.length:Int)=s.ops.length)=False:=eq_false (by omega)
  simp +contextual only [aB,q1,xg,aw,f1,sZ,Nat.reduceEqDiff,Nat.reduceAdd,↓reduceIte,reduceCtorEq]
  exact fun _ _=>kz _ fun e=>g1 e.1
 by_cases g2:ss.length=s.ops.length
 rotate_left
 ·have f1:((ps.length:Int)=s.ops.length)=True:=eq_true (by omega)
  have f2:((ss.length:Int)=s.ops.length)=False:=eq_false (by omega)
  simp +contextual only [aB,q1,xg,yq,aw,f1,f2,decide_false,sZ,Nat.reduceEqDiff,Nat.reduceAdd,↓reduceIte,reduceCtorEq]
  exact fun _ _ _=>kz _ fun e=>g2 e.2.1
 have f1:((ps.length:Int)=s.ops.length)=True:=eq_true (by omega)
 have f2:((ss.length:Int)=s.ops.length)=True:=eq_true (by omega)
 simp +contextual only [aB,q1,xg,yq,aw,f1,f2,sZ,Nat.reduceEqDiff,Nat.reduceAdd,↓reduceIte,reduceCtorEq]
 refine fun _ _ _=>aD s.ops.length (fun i=>∀ j,j < i→OrR ps ss j) (fun i=>[(2,.ai s.av),(3,.ai (eX ps ss)),(5,.int .i64 i)]) (fun i=>H) ⟨fun j h=>by omega,aA _ _ _⟩ fun i hi hI=>?_
 by_cases hl:i < s.ops.length
 ·have e0:((i:Int) < s.ops.length)=True:=eq_true (by omega)
  have hp:i < ps.length:=by omega
  have hq:i < ss.length:=by omega
  have bad (h:¬ OrR ps ss i):¬ eK s ps ss:=fun e=>h ((En _ _ _).1 e.2.2 i hp)
  have hR:OrR ps ss i=(0≤ps.getD i 0∧ps.getD i 0≤255∧1≤ss.getD i 0∧ss.getD i 0≤3∧∀ k,k < i→¬ (ps.getD i 0=ps.getD k 0∧¬ ss.getD i 0=ss.getD k 0)):=rfl
  by_cases h:0≤ps.getD i 0∧ps.getD i 0≤255∧1≤ss.getD i 0∧ss.getD i 0≤3
  ·have e1:(ps.getD i 0 < 0)=False:=eq_false (by omega)
   have e2:(255 < ps.getD i 0)=False:=eq_false (by omega)
   have e3:(ss.getD i 0 < 1)=False:=eq_false (by omega)
   have e4:(3 < ss.getD i 0)=False:=eq_false (by omega)
   simp +contextual only [aB,xg,yq,e0,e1,e2,e3,e4,hp,hq,decide_false,sZ,Nat.reduceEqDiff,↓reduceIte]
   refine fun _=>aD i (fun k=>∀ j,j < k→¬ (ps.getD i 0=ps.getD j 0∧¬ ss.getD i 0=ss.getD j 0)) (fun k=>[(2,.ai s.av),(3,.ai (eX ps ss)),(5,.int .i64 i),(6,.int .i64 k)]) (fun i=>H) ⟨fun j h=>by omega,aA _ _ _⟩ fun k hk hK=>?_
   by_cases nE:k < i
   ·have e3:((k:Int) < i)=True:=eq_true (by omega)
    have Vp:k < ps.length:=by omega
    have hq2:k < ss.length:=by omega
    have next (h:¬ (ps.getD i 0=ps.getD k 0∧¬ ss.getD i 0=ss.getD k 0)):∃ j,(j≤i∧∀ j_1,j_1 < j→¬ (ps.getD i 0=ps.getD j_1 0∧¬ ss.getD i 0=ss.getD j_1 0))∧i - j < i - k∧sle H.length [(2,.ai s.av),(3,.ai (eX ps ss)),(5,.int .i64 i),(6,.int .i64 (IntKind.i64.wrap ((k:Int) + 1)))] H [(2,.ai s.av),(3,.ai (eX ps ss)),(5,.int .i64 i),(6,.int .i64 j)] H:=
     ⟨k + 1,⟨nE,kw hK h⟩,by omega,aC (by rw [au k (by omega)]) rfl⟩
    by_cases h2:ps.getD i 0=ps.getD k 0
    ·have e5:(ps.getD i 0=ps.getD k 0)=True:=eq_true h2
     by_cases h3:ss.getD i 0=ss.getD k 0
     ·have e6:(ss.getD i 0=ss.getD k 0)=True:=eq_true h3
      simp +contextual only [xg,yq,e3,hp,hq,Vp,hq2,e5,e6,decide_true,decide_false,not_true_eq_false,sZ,Nat.reduceEqDiff,↓reduceIte]
      exact next fun e=>e.2 h3
     ·simp +contextual only [xg,yq,e3,hp,hq,Vp,hq2,e5,h3,decide_true,not_false_eq_true,sZ,Nat.reduceEqDiff,↓reduceIte,reduceCtorEq]
      exact kz _ (bad (by rw [hR];exact fun e=>e.2.2.2.2 k nE ⟨h2,h3⟩))
    ·simp +contextual only [xg,e3,hp,Vp,h2,decide_true,decide_false,sZ,Nat.reduceEqDiff,↓reduceIte]
     exact next fun e=>h2 e.1
   ·have e3:((k:Int) < i)=False:=eq_false (by omega)
    simp +contextual only [e3,sZ,Nat.reduceEqDiff,↓reduceIte]
    exact ⟨i + 1,⟨hl,kw hI (by rw [hR];exact ⟨h.1,h.2.1,h.2.2.1,h.2.2.2,fun j hj=>hK j (by omega)⟩)⟩,by omega,aC (by rw [au i (by omega)]) rfl⟩
  ·have bad:=bad (by rw [hR];exact fun e=>h ⟨e.1,e.2.1,e.2.2.1,e.2.2.2.1⟩)
   have fin:=kz (inferInstance:Decidable (eK s ps ss)) (H:=H) (s:=4) bad
   have hz:((ps.getD i 0 < 0)=True∧(True∧True)=True∧(True∧True)=True∧(True∧True)=True)∨((ps.getD i 0 < 0)=False∧(255 < ps.getD i 0)=True∧(True∧True)=True∧(True∧True)=True)∨((ps.getD i 0 < 0)=False∧(255 < ps.getD i 0)=False∧(ss.getD i 0 < 1)=True∧(True∧True)=True)∨((ps.getD i 0 < 0)=False∧(255 < ps.getD i 0)=False∧(ss.getD i 0 < 1)=False∧(3 < ss.getD i 0)=True):=by
    have y:=and_self True
    by_cases a:ps.getD i 0 < 0
    ·exact .inl ⟨eq_true a,y,y,y⟩
    by_cases b:255 < ps.getD i 0
    ·exact .inr (.inl ⟨eq_false a,eq_true b,y,y⟩)
    by_cases c:ss.getD i 0 < 1
    ·exact .inr (.inr (.inl ⟨eq_false a,eq_false b,eq_true c,y⟩))
    ·exact .inr (.inr (.inr ⟨eq_false a,eq_false b,eq_false c,eq_true (by omega)⟩))
   rcases hz with ⟨e1,e2,e3,e4⟩ | ⟨e1,e2,e3,e4⟩ | ⟨e1,e2,e3,e4⟩ | ⟨e1,e2,e3,e4⟩
   all_goals
    simp +contextual only [aB,xg,yq,e0,e1,e2,e3,e4,hp,hq,decide_false,decide_true,sZ,Nat.reduceEqDiff,↓reduceIte,reduceCtorEq]
    exact fun _=>fin
 ·have e0:((i:Int) < s.ops.length)=False:=eq_false (by omega)
  simp +contextual only [aB,e0,sZ,Nat.reduceEqDiff,↓reduceIte,reduceCtorEq]
  refine fun _=>aZ rfl ?_
  have:eK s ps ss:=⟨g1,g2,(En _ _ _).2 fun j hj=>hI j (by omega)⟩
  simp [this]
open Classical in
theorem c25 (s:Sg) (ps ss:List Int) (hs:SmS s ps ss):Pure Tryz.prog 25 [s.av,eX ps ss] (.int .i64 (if qp s then (if eK s ps ss then 0 else 60) else 40)):=by
 refine fun H=>k25.2.calls rfl ?_
 simp only [k25,aF]
 obtain ⟨q1,q2,q3,q4,q5,q6⟩:=bo ps ss
 simp +contextual only [aB,q1,sZ,Nat.reduceEqDiff,Nat.reduceAdd,↓reduceIte,reduceCtorEq]
 refine ae (c82 s hs.h5 hs.h6 hs.h1 hs.h2) ?_
 by_cases h:qp s
 ·rw [if_pos h]
  simp +contextual only [aB,q4,bZ,sZ,Nat.reduceEqDiff,Nat.reduceAdd,↓reduceIte]
  refine ae (c83 s ps ss hs.h1 hs.h3 hs.h4) ?_
  by_cases h2:eK s ps ss
  ·rw [decide_eq_true h2]
   simp +contextual only [sZ,↓reduceIte,reduceCtorEq]
   exact aZ rfl (by rw [if_pos h,if_pos h2])
  ·rw [decide_eq_false h2]
   simp +contextual only [sZ,↓reduceIte,reduceCtorEq]
   exact aZ rfl (by rw [if_pos h,if_neg h2])
 ·rw [if_neg h]
  simp +contextual only [sZ,Nat.reduceEqDiff,↓reduceIte,reduceCtorEq,Int.reduceEq]
  exact aZ rfl (by rw [if_neg h])
end Go.aL
end
section
set_option maxRecDepth 100000
namespace Go.aL
open Go Go.Proofs Go.fN
theorem ad3 (x:T):Pure Tryz.prog 115 [x.av] (.int .i64 (if x.tree=true then 0 else 4)):=by
 refine fun H=>Xg.2.calls rfl ?_
 simp only [Xg,aF]
 simp +contextual only [sZ,Nat.reduceEqDiff,Nat.reduceAdd,↓reduceIte]
 refine ae (Yw x) ?_
 cases h:x.tree with
 | true=>simp +contextual only [sZ,↓reduceIte,reduceCtorEq];exact aZ rfl rfl
 | false=>simp +contextual only [sZ,↓reduceIte,reduceCtorEq];exact aZ rfl rfl
theorem ad4 (s:Sg):∀ t:T,t.shaped=true→Pure Tryz.prog 116 [s.av,t.av] (.bool (iB s t)):=by
 suffices h:∀ N t,wt t≤N→t.shaped=true→Pure Tryz.prog 116 [s.av,t.av] (.bool (iB s t)) from fun t ht=>h _ t (Nat.le_refl _) ht
 intro N
 induction N with
 | zero=>intro t h;have:=fO t;omega
 | succ N ih=>
 intro t hN hs H
 have hk:=ct hs
 have ih:∀ x∈t.l,Pure Tryz.prog 116 [s.av,x.av] (.bool (iB s x)):=fun x hx=>ih x (by have:=bP hx;omega) (hk.2 x hx)
 have hn:0≤t.n:=by
  rw [T.de] at hs
  simp only [Bool.and_eq_true,Bool.not_eq_true',Bool.or_eq_false_iff,decide_eq_false_iff_not] at hs
  have:=hs.1.1.1.1
  omega
 obtain ⟨m,hm⟩:=Int.eq_ofNat_of_zero_le hn
 refine Xh.2.calls rfl ?_
 simp only [Xh,aF]
 have e:iB s t=(!(decide (t.k=2) && (decide ((s.ops.length:Int)≤t.n) || !decide ((t.l.length:Int)=((s.ops.getD t.n.toNat default).args.length:Nat)))) && !(t.l.any fun x=>!iB s x)):=by
  rw [← mV];cases t;rfl
 have fin:(!(decide (t.k=2) && (decide ((s.ops.length:Int)≤t.n) || !decide ((t.l.length:Int)=((s.ops.getD t.n.toNat default).args.length:Nat)))))=false→bW H.length [.t 4] [(4,.bool false)] H fun r H'=>r=.bool (iB s t)∧H'=H:=by
  intro h
  rw [e,h];exact aZ rfl rfl
 by_cases hh:t.k=2∧(s.ops.length:Int)≤t.n
 ·simp +contextual only [aB,hh.1,hh.2,decide_true,sZ,Nat.reduceEqDiff,Nat.reduceAdd,↓reduceIte,reduceCtorEq]
  exact fin (by simp [hh.1,hh.2])
 have em:t.n.toNat=m:=by omega
 by_cases Wa:t.k=2∧¬ (t.l.length:Int)=((s.ops.getD m default).args.length:Nat)
 ·have V2:m < s.ops.length:=by omega
  have VR:¬ (s.ops.length:Int)≤(m:Int):=by omega
  simp +contextual only [aB,Wa.1,VR,Wa.2,hm,V2,aw,decide_true,decide_false,sZ,Nat.reduceEqDiff,Nat.reduceAdd,↓reduceIte,reduceCtorEq]
  exact fin (by rw [em,decide_eq_true Wa.1,decide_eq_false Wa.2,decide_eq_false (by omega:¬ (s.ops.length:Int)≤t.n)];rfl)
 have hd:(!(decide (t.k=2) && (decide ((s.ops.length:Int)≤t.n) || !decide ((t.l.length:Int)=((s.ops.getD t.n.toNat default).args.length:Nat)))))=true:=by
  rw [em]
  by_cases a:t.k=2
  ·rw [decide_eq_false (fun b=>hh ⟨a,b⟩),decide_eq_true (Classical.byContradiction fun b=>Wa ⟨a,b⟩)];simp
  ·rw [decide_eq_false a];rfl
 rw [hd] at e
 have hz:((t.k=2)=False∧(True∧True)=True∧(True∧True)=True∧(True∧True)=True)∨((t.k=2)=True∧(m < s.ops.length)=True∧((s.ops.length:Int)≤(m:Int))=False∧((t.l.length:Int)=((s.ops.getD m default).args.length:Nat))=True):=by
  have y:=and_self True
  by_cases a:t.k=2
  ·exact .inr ⟨eq_true a,eq_true (by omega),eq_false (by omega),eq_true (Classical.byContradiction fun b=>Wa ⟨a,b⟩)⟩
  ·exact .inl ⟨eq_false a,y,y,y⟩
 rcases hz with ⟨e1,e2,e3,e4⟩ | ⟨e1,e2,e3,e4⟩
 all_goals
  simp +contextual only [aB,e1,e2,e3,e4,hm,aw,decide_true,decide_false,sZ,Nat.reduceEqDiff,Nat.reduceAdd,↓reduceIte,reduceCtorEq]
  refine aD t.l.length (fun i=>∀ j,j < i→iB s (t.l.getD j default)=true) (fun i=>[(2,.ai s.av),(3,.ai t.av),(5,.int .i64 i)]) (fun i=>H) ⟨fun j h=>by omega,aA _ _ _⟩ fun i hi hI=>?_
  by_cases hl:i < t.l.length
  ·have e5:((i:Int) < t.l.length)=True:=eq_true (by omega)
   simp +contextual only [aB,e5,hl,sZ,Nat.reduceEqDiff,↓reduceIte]
   refine fun _=>aE (ih _ (xE hl)) ?_
   cases hb:iB s (t.l.getD i default) with
   | false=>
     simp +contextual only [sZ,Nat.reduceEqDiff,↓reduceIte,reduceCtorEq]
     refine aZ rfl ?_
     have:(t.l.any fun x=>!iB s x)=true:=List.any_eq_true.2 ⟨_,xE hl,by rw [hb];rfl⟩
     rw [e,this];rfl
   | true=>
     simp +contextual only [sZ,Nat.reduceEqDiff,↓reduceIte]
     exact ⟨i + 1,⟨hl,kw hI hb⟩,by omega,aC (by rw [au i (by omega)]) rfl⟩
  ·have e5:((i:Int) < t.l.length)=False:=eq_false (by omega)
   simp +contextual only [e5,sZ,Nat.reduceEqDiff,↓reduceIte,reduceCtorEq]
   refine fun _=>aZ rfl ?_
   have:(t.l.any fun x=>!iB s x)=false:=by
    rw [List.any_eq_false]
    exact xD fun j hj=>by rw [hI j (by omega)];simp
   rw [e,this];rfl
theorem c55 (s:Sg) (t:T):Pure Tryz.prog 55 [s.av,t.av] (.bool (t.tree && iB s t)):=by
 refine fun H=>k55.2.calls rfl ?_
 simp only [k55,aF]
 simp +contextual only [aB,sZ,Nat.reduceEqDiff,Nat.reduceAdd,↓reduceIte,reduceCtorEq]
 refine ae (ad3 t) ?_
 cases h:t.tree with
 | false=>
   simp +contextual only [Bool.false_eq_true,sZ,Nat.reduceEqDiff,↓reduceIte,reduceCtorEq,Int.reduceEq]
   exact aZ rfl rfl
 | true=>
   simp +contextual only [aB,sZ,Nat.reduceEqDiff,Nat.reduceAdd,↓reduceIte]
   refine ae (ad4 s t ((T.cr t).1 h).2.2) ?_
   simp +contextual only [sZ,Nat.reduceEqDiff,↓reduceIte,reduceCtorEq]
   exact aZ rfl rfl
theorem ad5 (s:Sg) (t:T):Pure Tryz.prog 107 ([t.av]++[.ai s.av]) (.bool (!(t.tree && iB s t))):=by
 refine fun H=>Xc.2.calls rfl ?_
 simp only [Xc,aF]
 simp +contextual only [aB,sZ,Nat.reduceEqDiff,Nat.reduceAdd,↓reduceIte,reduceCtorEq]
 refine ae (c55 s t) ?_
 simp +contextual only [sZ,↓reduceIte,reduceCtorEq]
 exact aZ rfl rfl
open Classical in
theorem c42 (s:Sg) (ps ss:List Int) (n:Int) (l:List T) (H:List aa):aq Tryz.prog 42 [s.av,eX ps ss,.int .i64 n,.al 0 (bC l)] H fun r H'=>(∃ b,r=.bool b∧(b=true→qp s∧eK s ps ss∧∀ t∈l,(t.tree && iB s t)=true))∧H'=H:=by
 refine k42.2.calls rfl ?_
 simp only [k42,aF]
 obtain ⟨q1,q2,q3,q4,q5,q6⟩:=bo ps ss
 have fin:∀ (b:Bool),(b=true→qp s∧eK s ps ss∧∀ t∈l,(t.tree && iB s t)=true)→bW H.length [.t 8] [(8,.bool b)] H fun r H'=>(∃ b,r=.bool b∧(b=true→qp s∧eK s ps ss∧∀ t∈l,(t.tree && iB s t)=true))∧H'=H:=fun b hb=>
  aX H.length (Nat.le_refl _) (by rw [ay,if_pos rfl];rfl) ⟨⟨b,by rw [ay,if_pos rfl],hb⟩,List.take_length⟩
 have finf:=fin false (fun h=>by cases h)
 simp +contextual only [aB,q1,q4,bZ,sZ,Nat.reduceEqDiff,Nat.reduceAdd,↓reduceIte,reduceCtorEq]
 refine af (c18 s ps ss _) ?_
 rintro r G ⟨⟨b,rfl,hb⟩,rfl⟩
 cases b with
 | false=>simp +contextual only [sZ,Nat.reduceEqDiff,↓reduceIte,reduceCtorEq];exact finf
 | true=>
 have hb:=hb rfl
 simp +contextual only [sZ,Nat.reduceEqDiff,Nat.reduceAdd,↓reduceIte]
 refine af (c19 n l _) ?_
 rintro r G ⟨⟨b,rfl⟩,rfl⟩
 cases b with
 | false=>simp +contextual only [sZ,Nat.reduceEqDiff,↓reduceIte,reduceCtorEq];exact finf
 | true=>
 simp +contextual only [aB,q4,bZ,sZ,Nat.reduceEqDiff,Nat.reduceAdd,↓reduceIte]
 refine ae (c25 s ps ss hb) ?_
 by_cases h1:qp s
 rotate_left
 ·rw [if_neg h1];simp +contextual only [sZ,Nat.reduceEqDiff,↓reduceIte,reduceCtorEq,Int.reduceEq];exact finf
 by_cases h2:eK s ps ss
 rotate_left
 ·rw [if_pos h1,if_neg h2];simp +contextual only [sZ,Nat.reduceEqDiff,↓reduceIte,reduceCtorEq,Int.reduceEq];exact finf
 rw [if_pos h1,if_pos h2]
 simp +contextual only [sZ,Nat.reduceEqDiff,Nat.reduceAdd,↓reduceIte]
 refine ae (Qn 107 [.ai s.av] rfl _ l fun x _=>ad5 s x) ?_
 simp +contextual only [sZ,Nat.reduceEqDiff,↓reduceIte,reduceCtorEq]
 refine fin _ fun h=>⟨h1,h2,fun t ht=>?_⟩
 cases hc:t.tree && iB s t with
 | true=>rfl
 | false=>
   have:(l.any fun x=>!(x.tree && iB s x))=true:=List.any_eq_true.2 ⟨t,ht,by rw [hc];rfl⟩
   rw [this] at h;cases h
end Go.aL
end
section
set_option maxRecDepth 100000
namespace Go.aL
open Go Go.Proofs Go.fN
theorem xF (f:Int→UInt8→Int) (s:ByteArray) (stop:Nat) (h:stop≤s.size):∀ (i j:Nat) (b:Int),j + i=s.size→stop=s.size→(ByteArray.foldlM.loop (m:=_root_.Id) (fun x y=>pure (f x y)) s stop h i j b)=(s.data.toList.drop j).foldl f b
 | 0,j,b,e,e2=>by
   have:s.data.toList.drop j=[]:=List.drop_of_length_le (by show s.size≤j;omega)
   rw [this];unfold ByteArray.foldlM.loop
   rw [dif_neg (by omega)];rfl
 | i + 1,j,b,e,e2=>by
   have hj:j < s.data.toList.length:=by show j < s.size;omega
   unfold ByteArray.foldlM.loop
   rw [dif_pos (by omega),List.drop_eq_getElem_cons hj,List.foldl_cons]
   exact xF f s stop h i (j + 1) _ (by omega) e2
theorem QG (s:ByteArray):nw s 95=(B8 s:Int):=by
 have h1:nw s 95=s.data.toList.foldl (fun (n:Int) x=>if x == (95:Int).toNat.toUInt8 then n + 1 else n) ((0:Nat):Int):=by
  unfold nw ByteArray.foldl ByteArray.foldlM
  rw [dif_pos (Nat.le_refl _)]
  exact xF _ s _ _ s.size 0 _ (by omega) rfl
 have h2:∀ (l:List UInt8) (n:Nat),l.foldl (fun (n:Int) x=>if x == (95:Int).toNat.toUInt8 then n + 1 else n) (n:Int)=((n + l.countP (· == (95:UInt8)):Nat):Int):=by
  intro l
  induction l with
  | nil=>intro n;simp
  | cons x r ih=>
    intro n
    rw [List.foldl_cons,List.countP_cons]
    by_cases hx:x=95
    ·subst hx
     have:=ih (n + 1)
     exact (this.trans (by simp;omega))
    ·have h95:(x == (95:Int).toNat.toUInt8)=false:=by
      rw [beq_eq_false_iff_ne];exact hx
     have h96:(x == (95:UInt8))=false:=by
      rw [beq_eq_false_iff_ne];exact hx
     rw [h95,h96]
     exact (ih n).trans (by simp)
 rw [h1,h2];simp [B8]
theorem QH {c:UInt8} (h:VA c):BA c=false:=by
 unfold VA at h
 have e:(((c.toNat:Nat):Int).toNat.toUInt8)=c:=by simp
 unfold BA
 rw [e,firstIdx_nonneg]
 simp only [Bool.or_eq_false_iff,decide_eq_false_iff_not,List.any_eq_false]
 refine ⟨⟨by omega,by omega⟩,fun x hx hxc=>?_⟩
 rw [beq_iff_eq] at hxc
 subst hxc
 have hx:x=40∨x=41∨x=44:=by simpa using hx
 rcases hx with rfl | rfl | rfl <;> exact h (by decide)
theorem HP {s:ByteArray} (h:oE s):pG s=true:=by
 obtain ⟨h1,h2,h3⟩:=h
 unfold pG
 simp only [Bool.and_eq_true,Bool.not_eq_true',decide_eq_false_iff_not,List.all_eq_true]
 refine ⟨⟨by omega,by omega⟩,fun c hc=>?_⟩
 obtain ⟨i,hi,rfl⟩:=List.getElem_of_mem hc
 have:=QH (h1 i hi)
 rw [List.getD_eq_getElem?_getD,List.getElem?_eq_getElem hi] at this
 exact this
theorem VB {s:ByteArray} (h:B8 s=0):¬ 0≤Ql s:=by
 have hm:∀ b∈s.data.toList,b≠95:=fun b hb e=>by
  have:=List.countP_eq_zero.1 h b hb
  rw [e] at this;exact this rfl
 unfold Ql
 split
 ·rename_i e
  exact absurd rfl (hm 95 (by rw [e];simp [us]))
 ·rw [firstIdx_none s 95 hm];omega
theorem Eo {s:Sg} (h:∀ i,i < s.a9.length→V8 s i):∀ n i,i + n=s.a9.length→mU (s.a9.drop i) (s.a9.take i)=true
 | 0,i,e=>by rw [List.drop_of_length_le (by omega)];rfl
 | n + 1,i,e=>by
   have hl:i < s.a9.length:=by omega
   obtain ⟨h1,h2,h3⟩:=h i hl
   have hni:s.a9.getD i default∉s.a9.take i:=fun hm=>by
    obtain ⟨k,hk,e⟩:=List.getElem_of_mem hm
    rw [List.length_take] at hk
    refine h3 k (by omega) ?_
    rw [List.getElem_take] at e
    rw [← e,List.getD_eq_getElem?_getD,List.getElem?_eq_getElem (by omega)];try rfl
   rw [ui hl,if_pos ⟨HP h1,VB h2,hni⟩]
   have:s.a9.take i++[s.a9.getD i default]=s.a9.take (i + 1):=by
    rw [List.take_add_one,List.getD_eq_getElem?_getD,List.getElem?_eq_getElem hl];rfl
   rw [this]
   exact Eo h n (i + 1) (by omega)
theorem Nh {s:Sg} {l:List Int} (h:lm s l):∀ a∈l,Jr s.a9.length a=true:=fun a ha=>by
 obtain ⟨h1,h2⟩:=h a ha
 simp [Jr,h1,h2]
theorem aam {s:Sg} {o:hJ} (h:NI s o):rK o s.a9.length=true:=by
 obtain ⟨h1,h2,h3,h4,h5,h6⟩:=h
 have hb:B8 o.name≤o.name.size:=List.countP_le_length (p:=(· == (95:UInt8))) (l:=o.name.data.toList)
 unfold rK
 rw [QG]
 simp only [Bool.and_eq_true,Bool.or_eq_true,decide_eq_true_eq,Bool.not_eq_true',List.any_eq_false]
 refine ⟨HP h1,by omega,by omega,by omega,Nh h6 _ (by simp),fun x hx=>?_⟩
 rw [Nh h5 x hx];simp
theorem QI {a b:Int} (ha:0≤a∧a < 64) (hb:0≤b∧b < 64) (h:Js a=Js b):a=b:=by
 have k:∀ a:Int,0≤a∧a < 64→(Js a).toNat=a.toNat:=by
  intro a ha
  unfold Js
  have:IntKind.u8.wrap a=a:=by
   simp only [IntKind.wrap]
   have h1:IntKind.u8.bits=8:=rfl
   have h2:IntKind.u8.signed=false:=rfl
   rw [h1,h2]
   simp
   omega
  rw [this,UInt8.toNat_ofNat']
  omega
 have:=congrArg UInt8.toNat h
 rw [k a ha,k b hb] at this
 omega
theorem um:∀ {l m:List Int},(∀ a∈l,0≤a∧a < 64)→(∀ a∈m,0≤a∧a < 64)→l.map Js=m.map Js→l=m
 | [],[],_,_,_=>rfl
 | [],b::m,_,_,h=>by cases h
 | a::l,[],_,_,h=>by cases h
 | a::l,b::m,ha,hb,h=>by
   simp only [List.map_cons,List.cons.injEq] at h
   rw [QI (ha a (by simp)) (hb b (by simp)) h.1,um (fun x hx=>ha x (by simp [hx])) (fun x hx=>hb x (by simp [hx])) h.2]
theorem HQ:∀ {l m r t:List UInt8},(∀ x∈l,x≠40)→(∀ x∈m,x≠40)→l++40::r=m++40::t→l=m∧r=t
 | [],[],_,_,_,_,h=>by simpa using h
 | [],b::m,_,_,_,hb,h=>by
   simp only [List.nil_append,List.cons_append,List.cons.injEq] at h
   exact absurd h.1.symm (hb b (by simp))
 | a::l,[],_,_,ha,_,h=>by
   simp only [List.nil_append,List.cons_append,List.cons.injEq] at h
   exact absurd h.1 (ha a (by simp))
 | a::l,b::m,_,_,ha,hb,h=>by
   simp only [List.cons_append,List.cons.injEq] at h
   obtain ⟨h1,h2⟩:=HQ (fun x hx=>ha x (by simp [hx])) (fun x hx=>hb x (by simp [hx])) h.2
   exact ⟨by rw [h.1,h1],h2⟩
theorem aan {s:ByteArray} (h:oE s):∀ x∈s.data.toList,x≠40:=fun x hx e=>by
 obtain ⟨i,hi,rfl⟩:=List.getElem_of_mem hx
 have:=h.1 i hi
 rw [List.getD_eq_getElem?_getD,List.getElem?_eq_getElem hi,Option.getD_some,e] at this
 exact this (by decide)
theorem key_inj {s:Sg} {o q:hJ} (h64:s.a9.length≤64) (ho:NI s o) (hq:NI s q) (h:nz o=nz q):V9 o q:=by
 have h:Jt o=Jt q:=by
  have:=congrArg (fun b:ByteArray=>b.data.toList) h
  simpa [nz] using this
 have f:∀ o:hJ,Jt o=o.name.data.toList++40::(o.args++[o.B6]).map Js:=fun o=>by
  unfold Jt;simp [ByteArray.data_append]
 rw [f,f] at h
 obtain ⟨h1,h2⟩:=HQ (aan ho.1) (aan hq.1) h
 have g:∀ o:hJ,NI s o→∀ a∈o.args++[o.B6],0≤a∧a < 64:=fun o ho a ha=>by
  rcases List.mem_append.1 ha with ha | ha
  ·have:=ho.2.2.2.2.1 a ha;omega
  ·have:=ho.2.2.2.2.2 a ha;omega
 have h3:=um (g o ho) (g q hq) h2
 have h4:=List.append_inj' h3 rfl
 refine ⟨?_,by simpa using h4.2,h4.1⟩
 have:=Array.toList_inj.1 h1
 cases JI:o.name;cases hq':q.name
 rw [JI,hq'] at this
 simpa using this
theorem Ni {s:Sg} (h64:s.a9.length≤64) (h:∀ i,i < s.ops.length→OoR s i):∀ n i,i + n=s.ops.length→BB s.a9.length (s.ops.drop i) ((s.ops.take i).map nz)=true
 | 0,i,e=>by rw [List.drop_of_length_le (by omega)];rfl
 | n + 1,i,e=>by
   have hl:i < s.ops.length:=by omega
   obtain ⟨h1,h3⟩:=h i hl
   have hni:nz (s.ops.getD i default)∉(s.ops.take i).map nz:=fun hm=>by
    obtain ⟨q,hq,e⟩:=List.mem_map.1 hm
    obtain ⟨k,hk,e2⟩:=List.getElem_of_mem hq
    rw [List.length_take] at hk
    rw [List.getElem_take] at e2
    have eq:s.ops.getD k default=q:=by
     rw [← e2,List.getD_eq_getElem?_getD,List.getElem?_eq_getElem (by omega)];try rfl
    have Sn:=h k (by omega)
    refine h3 k (by omega) ?_
    rw [eq]
    exact key_inj h64 (eq ▸ Sn.1) h1 e
   rw [zR hl,if_pos ⟨aam h1,hni⟩]
   have:(s.ops.take i).map nz++[nz (s.ops.getD i default)]=(s.ops.take (i + 1)).map nz:=by
    rw [List.take_add_one,List.map_append,List.getD_eq_getElem?_getD,List.getElem?_eq_getElem hl];rfl
   rw [this]
   exact Ni h64 h n (i + 1) (by omega)
theorem VC {s:Sg} (h:qp s):oz s=true:=by
 obtain ⟨h1,h2,h3,h4⟩:=h
 unfold oz
 simp only [Bool.and_eq_true,decide_eq_true_eq]
 exact ⟨⟨⟨by omega,by omega⟩,Eo h3 s.a9.length 0 (by omega)⟩,Ni h1 h4 s.ops.length 0 (by omega)⟩
theorem VD {s:Sg} {ps ss:List Int} (h1:qp s) (h2:eK s ps ss) {l:List T} (h:∀ t∈l,(t.tree && iB s t)=true):gE s ps ss l=0:=by
 have:ju s ps ss=0:=by unfold ju;rw [if_pos (VC h1),if_pos h2]
 unfold gE
 rw [if_pos this,if_pos (List.all_eq_true.2 h)]
end Go.aL
end
section
set_option maxRecDepth 100000
namespace Go.aL
open Go Go.Proofs Go.fN
theorem VE {s:Sg} {ps ss:List Int} {a b:T} (h:gE s ps ss [a,b]=0):Pure Tryz.prog 45 [s.av,eX ps ss,a.av,b.av] (.tuple [.bool (uj ps ss a b),.bool true]):=by
 refine fun H=>k45.2.calls rfl ?_
 simp only [k45,aF]
 obtain ⟨q1,q2,q3,q4,q5,q6⟩:=bo ps ss
 have e:=c20 s ps ss a b
 rw [if_pos h,h] at e
 simp +contextual only [aB,q1,q4,bZ,sZ,Nat.reduceEqDiff,Nat.reduceAdd,↓reduceIte,reduceCtorEq]
 refine ae e ?_
 simp +contextual only [decide_true,sZ,Nat.reduceEqDiff,Nat.reduceAdd,Nat.reduceLT,↓reduceIte,reduceCtorEq]
 exact zd (by decide) rfl rfl rfl rfl
end Go.aL
end
section
set_option maxRecDepth 100000
namespace Go.aL
open Go Go.Proofs Go.fN
def Ey (s:Sg) (t:T):Prop:=t.tree=true∧iB s t=true
theorem rT {s:Sg} {t:T}:(t.tree && iB s t)=true↔Ey s t:=by simp [Ey]
theorem m8 {s:Sg} {ps ss:List Int} (h1:qp s) (h2:eK s ps ss) {a b:T} (ha:Ey s a) (hb:Ey s b):gE s ps ss [a,b]=0:=VD h1 h2 fun t ht=>rT.2 (by
 rcases List.mem_cons.1 ht with rfl | ht
 ·exact ha
 ·rw [List.mem_singleton.1 ht];exact hb)
theorem Ep:∀ {l:List T} {y:T},y∈l→y.sz≤nF l
 | x::r,y,h=>by
   have h0:∀ l:List T,0≤nF l:=fun l=>by
    have:=mP l 0 []
    omega
   have h1:0≤x.sz:=by have:=lL x [];omega
   have:=h0 r
   simp only [nF]
   rcases List.mem_cons.1 h with rfl | h
   ·omega
   ·have:=Ep h;omega
theorem xG {t y:T} (h:t.tree=true) (hy:y∈t.l):y.tree=true:=by
 obtain ⟨h1,h2,h3⟩:=(T.cr t).1 h
 have a:=Ep hy
 have b:=Bl hy
 refine (T.cr y).2 ⟨?_,?_,(ct h3).2 y hy⟩
 ·have:t.sz=1 + nF t.l:=by cases t;rfl
  omega
 ·have:=T.RJ t;omega
theorem BV {s:Sg} {t y:T} (h:iB s t=true) (hy:y∈t.l):iB s y=true:=by
 cases t with
 | mk k n l=>
 simp only [iB,Bool.and_eq_true] at h
 have h2:=h.2
 rw [mV,Bool.not_eq_true',List.any_eq_false] at h2
 simpa using h2 y hy
theorem QJ {s:Sg} {t y:T} (h:Ey s t) (hy:y∈t.l):Ey s y:=⟨xG h.1 hy,BV h.2 hy⟩
theorem Sj {t y:T} (h:t.tree=true) (hy:y∈t.l):t.k=2:=by
 have hs:=((T.cr t).1 h).2.2
 rw [T.de] at hs
 simp only [Bool.and_eq_true,Bool.not_eq_true',Bool.or_eq_false_iff,Bool.and_eq_false_iff,decide_eq_false_iff_not] at hs
 have:=List.length_pos_iff.2 (List.ne_nil_of_mem hy)
 obtain ⟨⟨⟨⟨_,h1⟩,h2⟩,_⟩,_⟩:=hs
 omega
theorem Sk {s:Sg}:∀ (p:List Int) {t x:T},Ey s t→nv t p=some x→Ey s x
 | [],t,x,h,e=>by simp only [nv,Option.some.injEq] at e;exact e ▸ h
 | i::r,t,x,h,e=>by
   simp only [nv] at e
   split at e
   ·cases e
   ·rename_i hi
    exact Sk r (QJ h (xE (by omega))) e
theorem aao {O:Od}:∀ (p:List Int) {t x:T},t.tree=true→nv t p=some x→p≠[]→R O t x
 | [],t,x,h,e,hp=>absurd rfl hp
 | i::r,t,x,h,e,_=>by
   simp only [nv] at e
   split at e
   ·cases e
   ·rename_i hi
    have hm:t.l.getD i.toNat default∈t.l:=xE (by omega)
    have hk:=Sj h hm
    by_cases hr:r=[]
    ·subst hr
     simp only [nv,Option.some.injEq] at e
     exact Mb hk hm (.inl (e ▸ rfl))
    ·exact Mb hk hm (.inr (aao r (xG h hm) e hr))
theorem Sl {O:Od} {a b:T} (h:R O a b):∀ (p:List Int) (t:T),t.tree=true→(nv t p).isSome=true→R O (km t p a) (km t p b)
 | [],t,_,_=>h
 | i::r,t,ht,e=>by
   simp only [nv] at e
   split at e
   ·cases e
   ·rename_i hi
    have hm:t.l.getD i.toNat default∈t.l:=xE (by omega)
    simp only [km]
    exact YT (Sj ht hm) (by omega) (Sl h r _ (xG ht hm) e)
theorem Gs {s:Sg} {u:T} (hu:iB s u=true):∀ (p:List Int) (t:T),iB s t=true→(nv t p).isSome=true→iB s (km t p u)=true
 | [],t,_,_=>hu
 | i::r,t,ht,e=>by
   simp only [nv] at e
   split at e
   ·cases e
   ·rename_i hi
    have hm:t.l.getD i.toNat default∈t.l:=xE (by omega)
    have ih:=Gs hu r _ (BV ht hm) e
    have hk:∀ y∈t.l,iB s y=true:=fun y hy=>BV ht hy
    simp only [km]
    cases t with
    | mk k n l=>
    simp only [iB,T.UO,T.UP,T.YK,Bool.and_eq_true,List.length_set] at *
    refine ⟨ht.1,?_⟩
    rw [mV,Bool.not_eq_true',List.any_eq_false]
    intro y hy
    rcases List.mem_or_eq_of_mem_set hy with hy | rfl
    ·rw [hk y hy];simp
    ·rw [ih];simp
mutual
def VF (f:Int→T):T→T
 | .mk k n l=>if k=2 then .mk 2 n (gpL f l) else f n
def gpL (f:Int→T):List T→List T
 | []=>[]
 | x::r=>VF f x::gpL f r
end
theorem BW (f:Int→T):∀ l,gpL f l=l.map (VF f)
 | []=>rfl
 | x::r=>by rw [gpL,BW f r];rfl
theorem QK (f:Int→T):US (VF f) f:=fun t=>by
 cases t with
 | mk k n l=>
 by_cases h:k=2
 ·rw [if_pos (show (T.mk k n l).k=2 from h)];simp only [VF,if_pos h,BW];rfl
 ·rw [if_neg (show ¬ (T.mk k n l).k=2 from h)];simp only [VF,if_neg h];rfl
theorem Gu (f:Int→T):∀ (N:Nat) (t:T),wt t≤N→t.shaped=true→nu f t=VF f t
 | 0,t,h,_=>by have:=fO t;omega
 | N + 1,.mk k n l,h,hs=>by
   have hk:=(ct hs).2
   have h12:k=1∨k=2:=by
    rw [T.de] at hs
    simp only [Bool.and_eq_true,Bool.not_eq_true',Bool.or_eq_false_iff,Bool.and_eq_false_iff,decide_eq_false_iff_not] at hs
    obtain ⟨⟨⟨_,h2⟩,_⟩,_⟩:=hs
    simp only [T.UP] at h2
    omega
   simp only [nu,VF]
   rcases h12 with rfl | rfl
   ·rw [if_pos rfl,if_neg (by decide)]
   ·rw [if_neg (by decide),if_pos rfl,eN,BW]
    congr 1
    exact List.map_congr_left fun x hx=>Gu f N x (by have:=bP (a:=.mk 2 n l) hx;omega) (hk x hx)
theorem aap {O:Od} {a b:T} {l:List T} (ha:a.tree=true) (hb:b.tree=true) (h:R O a b):R O (sub l a) (sub l b):=by
 unfold sub
 rw [Gu _ _ a (Nat.le_refl _) ((T.cr a).1 ha).2.2,Gu _ _ b (Nat.le_refl _) ((T.cr b).1 hb).2.2]
 exact UT (QK _) h
theorem Gv {s:Sg} {l:List T} (hl:∀ x∈l,iB s x=true) (hd:iB s default=true):∀ (N:Nat) (t:T),wt t≤N→iB s t=true→iB s (sub l t)=true
 | 0,t,h,_=>by have:=fO t;omega
 | N + 1,t,h,ht=>by
   rw [sub_eq]
   by_cases hk:t.k=1
   ·rw [if_pos hk]
    by_cases hi:t.n.toNat < l.length
    ·exact hl _ (xE hi)
    ·rw [List.getD_eq_getElem?_getD,List.getElem?_eq_none (by omega)];exact hd
   ·rw [if_neg hk]
    have ad8:∀ y∈t.l,iB s (sub l y)=true:=fun y hy=>Gv hl hd N y (by have:=bP hy;omega) (BV ht hy)
    cases t with
    | mk k n m=>
    have e:lK l m=m.map (sub l):=eN _ m
    simp only [iB,T.UO,T.UP,T.YK,Bool.and_eq_true] at *
    refine ⟨by simp only [e,List.length_map];exact ht.1,?_⟩
    rw [mV,Bool.not_eq_true',List.any_eq_false,e]
    intro y hy
    obtain ⟨z,hz,rfl⟩:=List.mem_map.1 hy
    rw [ad8 z hz];simp
end Go.aL
end
section
set_option maxRecDepth 100000
namespace Go.aL
open Go Go.Proofs Go.fN
theorem BX (l:List (List Int)):(wV l).length=l.length:=by simp [wV]
theorem vq (e o:Nat) (l:List (List Int)) (k:IntKind) (i:Nat) (φ:AV→Prop):ax e (.al o (wV l)) (.int k (i:Int)) φ=(i < l.length∧φ (.ai (.al 0 (ints (l.getD i default))))):=by
 simp only [ax,BX,Int.toNat_natCast,eq_iff_iff]
 constructor
 ·rintro ⟨_,h,h2⟩;refine ⟨h,?_⟩;simpa [wV,h] using h2
 ·rintro ⟨h,h2⟩;refine ⟨by omega,h,?_⟩;simpa [wV,h] using h2
theorem rU (o:Nat) (l:List (List Int)):(∀ (own:Nat) (xs:List AV),AV.al o (wV l)=AV.al own xs→∀ z∈xs,z.cells.length=1)=True:=by
 simp only [eq_iff_iff,iff_true]
 intro own xs e z hz
 cases e
 obtain ⟨y,_,rfl⟩:=List.mem_map.1 hz
 rfl
theorem c54 (s:Sg) (t:T):Pure Tryz.prog 54 ([t.av]++[.ai s.av]) (.bool (!(t.tree && iB s t))):=by
 refine fun H=>k54.2.calls rfl ?_
 simp only [k54,aF]
 simp +contextual only [aB,sZ,Nat.reduceEqDiff,Nat.reduceAdd,↓reduceIte,reduceCtorEq]
 refine ae (c55 s t) ?_
 simp +contextual only [sZ,↓reduceIte,reduceCtorEq]
 exact aZ rfl rfl
theorem QL (xs:List AV) (H:List aa) (h1:qB 3 xs) (hb:xs.length * 40≤140737488355328) (nC:aj H.length xs=true) :
 aq Tryz.prog 58 [.al 0 xs] H fun r H'=>r=.al 3 xs∧H'=H:=by
 refine k58.2.wv (Nat.le_of_ble_eq_true rfl) ?_
 simp only [k58,aF,mi,jl,rZ,bA,put,get,ap,eD,si,bX,AV.ab,List.map,Nat.reduceEqDiff,reduceIte,bW,qO]
 have jE:∀ (x:AV) ,x.le (.al 3 xs)→∃ m,H.length≤m∧∃ r,x.le r∧r.aV m=true∧r=AV.al 3 xs∧List.take m H=H:=
  fun x hx=>⟨H.length,Nat.le_refl _,_,hx,by simpa [AV.aV] using nC,rfl,by simp⟩
 cases xs with
 | nil=>
   simp only [cZ,isNil,eI,bj,bn,kC,dl,List.replicate]
   exact ⟨⟨fun _=>⟨.inr trivial,jE _ (.inr (.inr (.inr (.inl ⟨rfl,3,rfl⟩))))⟩,by simp⟩,by simp,fun _=>⟨by simp,by simp [qB],.inr trivial,jE _ (.inl rfl)⟩⟩
 | cons x xs=>
   simp only [cZ,isNil,eI,bj,bn,kC,dl,List.replicate]
   exact ⟨by simp,fun _=>⟨by simpa using hb,h1,.inr trivial,jE _ (.inl rfl)⟩⟩
theorem c58 (l:List T) (hb:l.length * 40≤140737488355328):Pure Tryz.prog 58 [.al 0 (bC l)] (.al 3 (bC l)):=fun H=>
 QL (bC l) H (of_eq_true (FR l)) (by rw [oX];exact hb) (dq _ _)
end Go.aL
end
section
set_option maxRecDepth 100000
set_option maxHeartbeats 0
namespace Go.aL
open Go Go.Proofs
noncomputable def k15:=aF Tryz.call15 Tryz.func15 Tryz.ntmps15 [(0,0,1),(0,1,1),(0,2,1),(0,3,1),(0,4,1),(0,5,1),(18,6,1000),(27,2,1),(31,0,1),(31,5,1)] [(0,[5,7,8,9,10,11,12,14]),(1,[5,7,8,9,10,11,12,14,43]),(2,[16]),(3,[5,7,8,9,10,11,12,14,72]),(4,[16]),(5,[5,7,8,9,10,11,12,14,17,18]),(6,[5,7,8,9,10,11,12,14,17,18,19,20]),(7,[5,7,8,9,10,11,12,14,17,18,19,20,21,22]),(8,[5,7,8,9,10,11,14,17,18,19,20,21,22,23,24]),(9,[5,7,8,9,10,11,14,19,131]),(10,[16]),(11,[5,7,8,9,10,11,14,19,25,26]),(12,[5,7,8,9,10,11,14,19,25,138]),(13,[16]),(14,[5,7,8,9,10,11,14,19,139,140,141]),(15,[5,7,8,9,10,11,14,19,139,140,141,142]),(16,[5,7,8,9,10,11,14,19,28,139,140,141]),(17,[5,7,8,9,10,11,14,19,28,139,140,141,147]),(18,[5,7,8,9,10,11,14,19,29,30,139,140,141]),(19,[5,7,8,9,10,11,14,19,29,139,140,141,155]),(20,[16]),(21,[5,7,8,9,10,11,14,19,31,32,139,140,141]),(22,[5,7,8,9,10,11,14,19,139,140,141,169]),(23,[16]),(24,[5,7,8,9,10,11,14,19,139,140,141]),(25,[5,7,8,9,10,11,14,172]),(26,[16]),(27,[7,8,9,10,11,14,33]),(28,[7,8,9,10,11,14,33,34]),(29,[7,8,9,10,11,14,33,34,178]),(30,[7,8,9,10,11,14,33,34]),(31,[7,8,9,10,11,14,33,34]),(32,[7,8,9,10,11,14,26,33,35]),(33,[7,8,9,10,11,14,26,35,36,37]),(34,[7,8,9,10,11,14,35,36,209]),(35,[7,8,9,10,11,14,35,36,38,39]),(36,[7,8,9,10,11,14,35,36,223]),(37,[16]),(38,[7,8,9,11,14,26,35,36]),(39,[8,9,26,35,36,37]),(40,[8,9,35,36,243]),(41,[40,41]),(42,[257]),(43,[16]),(44,[16])] []
end Go.aL
end
section
set_option maxRecDepth 100000
set_option maxHeartbeats 4000000
namespace Go.aL
open Go Go.Proofs Go.fN
theorem rV {t:T} {l:List T} (h:(dA t l).2=0):(dA t l).1=sub l t∧(sub l t).tree=true:=by
 unfold dA at *
 split at h
 ·rename_i h1
  split at h
  ·rename_i h2
   split at h
   ·rename_i h3
    rw [if_pos h1,if_pos h2,if_pos h3];exact ⟨rfl,h3⟩
   ·cases h
  ·cases h
 ·cases h
theorem rW {t u:T} {p:List Int} (h:(lg t p u).2=0):(lg t p u).1=km t p u∧(km t p u).tree=true∧(nv t p).isSome=true:=by
 unfold lg lf at *
 split at h
 ·rename_i h1
  split at h
  ·rename_i h2
   split at h
   ·rename_i h3
    rw [if_pos h1,if_pos h2,if_pos h3];exact ⟨rfl,h3,h2⟩
   ·cases h
  ·cases h
 ·cases h
theorem c15 (s:Sg) (ps ss:List Int) (a b c:T) (own:List T) (ar:T) (path:List Int):Pure Tryz.prog 15 [s.av,eX ps ss,a.av,b.av,c.av,.al 0 (bC own),ar.av,.al 0 (ints path)] (.bool true):=by
 refine fun H=>k15.2.calls rfl ?_
 simp only [k15,aF]
 obtain ⟨q1,q2,q3,q4,q5,q6⟩:=bo ps ss
 simp +contextual only [aB,q1,sZ,Nat.reduceEqDiff,Nat.reduceAdd,↓reduceIte,reduceCtorEq]
 refine ae c17 ?_
 have fin:∀ (G:List aa),G.take H.length=H→bW H.length [.t 16] [(16,.bool true)] G fun r H'=>r=.bool true∧H'=H:=fun G hG=>
  aX H.length (Nat.le_refl _) (by rw [ay,if_pos rfl];rfl) ⟨by rw [ay,if_pos rfl],hG⟩
 simp +contextual only [aB,q4,bZ,bs4,sZ,Nat.reduceEqDiff,Nat.reduceAdd,↓reduceIte]
 refine af (c42 s ps ss 40 [a,b,c,ar] H) ?_
 rintro r G ⟨⟨b1,rfl,hb⟩,rfl⟩
 cases b1 with
 | false=>simp +contextual only [sZ,Nat.reduceEqDiff,↓reduceIte,reduceCtorEq];exact fin _ (by simp)
 | true=>
 obtain ⟨h1,h2,h3⟩:=hb rfl
 have oa:Ey s a:=rT.1 (h3 a (by simp))
 have ob:Ey s b:=rT.1 (h3 b (by simp))
 have oc:Ey s c:=rT.1 (h3 c (by simp))
 have oar:Ey s ar:=rT.1 (h3 ar (by simp))
 by_cases hl8:(8:Int) < own.length
 ·have e0:((8:Int) < own.length)=True:=eq_true hl8
  simp +contextual only [e0,decide_true,sZ,Nat.reduceEqDiff,↓reduceIte,reduceCtorEq]
  exact fun _=>fin _ (by simp)
 have e0:((8:Int) < own.length)=False:=eq_false hl8
 simp +contextual only [e0,decide_false,sZ,Nat.reduceEqDiff,Nat.reduceAdd,↓reduceIte]
 refine fun _=>af (c19 40 own _) ?_
 rintro r G' ⟨⟨b2,rfl⟩,rfl⟩
 cases b2 with
 | false=>simp +contextual only [sZ,Nat.reduceEqDiff,↓reduceIte,reduceCtorEq];exact fin _ (by simp)
 | true=>
 simp +contextual only [sZ,Nat.reduceEqDiff,Nat.reduceAdd,↓reduceIte]
 have h53:=Qn 54 [.ai s.av] rfl _ own fun x _=>c54 s x
 refine ae h53 ?_
 cases qC:own.any fun x=>!(x.tree && iB s x) with
 | true=>simp +contextual only [sZ,Nat.reduceEqDiff,↓reduceIte,reduceCtorEq];exact fin _ (by simp)
 | false=>
 have aaq:∀ x∈own,iB s x=true:=fun x hx=>by
  have:=List.any_eq_false.1 qC x hx
  simp only [Bool.not_eq_true',Bool.not_eq_false,Bool.and_eq_true] at this
  exact this.2
 by_cases aar:(10:Int) < path.length
 ·have e1:((10:Int) < path.length)=True:=eq_true aar
  simp +contextual only [aw,e1,decide_true,sZ,Nat.reduceEqDiff,↓reduceIte,reduceCtorEq]
  exact fun _=>fin _ (by simp)
 have e1:((10:Int) < path.length)=False:=eq_false aar
 have gaa:=VE (m8 h1 h2 oa oa)
 have gab:=VE (m8 h1 h2 oa ob)
 have gbc:=VE (m8 h1 h2 ob oc)
 have gac:=VE (m8 h1 h2 oa oc)
 have xaa:uj ps ss a a=false:=Bool.eq_false_iff.2 fun h=>RS rfl (gf.1 h)
 rw [xaa] at gaa
 simp +contextual only [aB,aw,e1,decide_false,q4,bZ,sZ,Nat.reduceEqDiff,Nat.reduceAdd,↓reduceIte]
 refine fun _=>ae gaa ?_
 simp +contextual only [aB,q4,bZ,sZ,Nat.reduceEqDiff,Nat.reduceAdd,Nat.reduceLT,↓reduceIte]
 refine ae gab ?_
 simp +contextual only [aB,q4,bZ,sZ,Nat.reduceEqDiff,Nat.reduceAdd,Nat.reduceLT,↓reduceIte]
 refine ae gbc ?_
 simp +contextual only [aB,q4,bZ,sZ,Nat.reduceEqDiff,Nat.reduceAdd,Nat.reduceLT,↓reduceIte]
 refine ae gac ?_
 have tr (x:uj ps ss a b=true) (y:uj ps ss b c=true):uj ps ss a c=true:=gf.2 (Hq (gf.1 x) (gf.1 y))
 have tr2:((uj ps ss a b && uj ps ss b c) && !uj ps ss a c)=false:=by
  cases x:uj ps ss a b <;> cases y:uj ps ss b c <;> simp
  exact tr x y
 generalize xK:uj ps ss a b=vab at *
 generalize uj ps ss b c=vbc at *
 generalize uj ps ss a c=vac at *
 have c56a:=c56 a
 rw [if_pos oa.1,FU,if_pos oa.1] at c56a
 have vA:(fm a []).length≤2000:=by
  have:=lL a []
  have:=((T.cr a).1 oa.1).1
  omega
 have hat:∀ q∈fm a [],∃ x,nv a q=some x:=fun q hq=>by
  obtain ⟨z,hz,h⟩:=DC a [] q hq
  rw [List.nil_append] at hz
  subst hz
  exact Option.isSome_iff_exists.1 h
 generalize fm a []=pl at *
 have cat (q:List Int) (x:T) (hx:nv a q=some x):Pure Tryz.prog 57 [a.av,.al 0 (ints q)] (.tuple [x.av,.int .i64 0]):=by
  have:=c57 a q
  unfold UM at this
  rw [if_pos oa.1,hx] at this
  exact this
 have gat (q:List Int) (x:T) (hx:nv a q=some x) (hq:q≠[]):Pure Tryz.prog 45 [s.av,eX ps ss,a.av,x.av] (.tuple [.bool true,.bool true]):=by
  have:=VE (m8 h1 h2 oa (Sk q oa hx))
  rwa [gf.2 (aao q oa.1 hx hq)] at this
 cases vab with
 | false=>
   cases vbc <;> cases vac
   all_goals
    simp +contextual only [sZ,Nat.reduceEqDiff,Nat.reduceAdd,Nat.reduceLT,↓reduceIte]
    refine ae c56a ?_
    simp +contextual only [BX,sZ,Nat.reduceEqDiff,Nat.reduceAdd,Nat.reduceLT,↓reduceIte]
    refine fun _=>aD pl.length (fun _=>True) (fun i=>[(5,.al 0 (bC own)),(7,.al 0 (ints path)),(8,.ai s.av),(9,.ai (eX ps ss)),(10,.ai a.av),(11,.ai b.av),(14,.ai ar.av),(19,.bool false),(139,.al 0 (wV pl)),(140,.int .i64 pl.length),(141,.int .i64 i)]) (fun _=>G') ⟨trivial,aA _ _ _⟩ fun i xP _=>?_
    by_cases hl:i < pl.length
    ·have f1:((i:Int) < pl.length)=True:=eq_true (by omega)
     obtain ⟨x,hx⟩:=hat _ (xE hl)
     by_cases dW:pl.getD i default=[]
     ·have hlen:(((pl.getD i default).length:Int)=0)=True:=eq_true (by rw [dW];rfl)
      simp +contextual only [f1,hl,vq,rU,aw,hlen,sZ,Nat.reduceEqDiff,↓reduceIte]
      exact fun _=>⟨i + 1,hl,by omega,aC (by rw [au i (by omega)]) rfl⟩
     ·have hlen:(((pl.getD i default).length:Int)=0)=False:=eq_false (by have:=List.length_pos_iff.2 dW;omega)
      simp +contextual only [f1,hl,vq,rU,aw,hlen,sZ,Nat.reduceEqDiff,Nat.reduceAdd,↓reduceIte]
      refine fun _=>ae (cat _ x hx) ?_
      simp +contextual only [aB,q4,bZ,sZ,Nat.reduceEqDiff,Nat.reduceAdd,Nat.reduceLT,↓reduceIte]
      refine ae (gat _ x hx dW) ?_
      simp +contextual only [sZ,Nat.reduceEqDiff,Nat.reduceAdd,Nat.reduceLT,↓reduceIte]
      exact ⟨i + 1,hl,by omega,aC (by rw [au i (by omega)]) rfl⟩
    ·have f1:((i:Int) < pl.length)=False:=eq_false (by omega)
     simp +contextual only [f1,sZ,Nat.reduceEqDiff,↓reduceIte,reduceCtorEq]
     exact fin _ (by simp)
 | true=>
   have hR:=gf.1 xK
   have cl:=c58 own (by omega)
   cases vbc <;> cases vac <;> first | (exact absurd tr2 (by decide)) | skip
   all_goals
    simp +contextual only [sZ,Nat.reduceEqDiff,Nat.reduceAdd,Nat.reduceLT,↓reduceIte]
    refine ae c56a ?_
    simp +contextual only [BX,sZ,Nat.reduceEqDiff,Nat.reduceAdd,Nat.reduceLT,↓reduceIte]
    refine fun _=>aD pl.length (fun _=>True) (fun i=>[(5,.al 0 (bC own)),(7,.al 0 (ints path)),(8,.ai s.av),(9,.ai (eX ps ss)),(10,.ai a.av),(11,.ai b.av),(14,.ai ar.av),(19,.bool true),(139,.al 0 (wV pl)),(140,.int .i64 pl.length),(141,.int .i64 i)]) (fun _=>G') ⟨trivial,aA _ _ _⟩ fun i xP _=>?_
    by_cases hl:i < pl.length
    ·have f1:((i:Int) < pl.length)=True:=eq_true (by omega)
     obtain ⟨x,hx⟩:=hat _ (xE hl)
     by_cases dW:pl.getD i default=[]
     ·have hlen:(((pl.getD i default).length:Int)=0)=True:=eq_true (by rw [dW];rfl)
      simp +contextual only [f1,hl,vq,rU,aw,hlen,sZ,Nat.reduceEqDiff,↓reduceIte]
      exact fun _=>⟨i + 1,hl,by omega,aC (by rw [au i (by omega)]) rfl⟩
     ·have hlen:(((pl.getD i default).length:Int)=0)=False:=eq_false (by have:=List.length_pos_iff.2 dW;omega)
      simp +contextual only [f1,hl,vq,rU,aw,hlen,sZ,Nat.reduceEqDiff,Nat.reduceAdd,↓reduceIte]
      refine fun _=>ae (cat _ x hx) ?_
      simp +contextual only [aB,q4,bZ,sZ,Nat.reduceEqDiff,Nat.reduceAdd,Nat.reduceLT,↓reduceIte]
      refine ae (gat _ x hx dW) ?_
      simp +contextual only [sZ,Nat.reduceEqDiff,Nat.reduceAdd,Nat.reduceLT,↓reduceIte]
      exact ⟨i + 1,hl,by omega,aC (by rw [au i (by omega)]) rfl⟩
    ·have f1:((i:Int) < pl.length)=False:=eq_false (by omega)
     simp +contextual only [f1,sZ,Nat.reduceEqDiff,Nat.reduceAdd,↓reduceIte]
     refine ae cl ?_
     simp +contextual only [sZ,Nat.reduceEqDiff,↓reduceIte]
     refine fun _=>aJ (8 - own.length) (fun i (tl:List T)=>tl.length=own.length + i∧∀ x∈tl,iB s x=true) (fun i tl=>[(7,.al 0 (ints path)),(8,.ai s.av),(9,.ai (eX ps ss)),(10,.ai a.av),(11,.ai b.av),(14,.ai ar.av),(33,.al 3 (bC tl)),(34,.int .i64 (own.length + i:Nat))]) (fun _ _=>G') own ⟨⟨by simp,aaq⟩,aA _ _ _⟩ fun i tl xP hI=>?_
     obtain ⟨R8,Qz⟩:=hI
     by_cases hl:i < 8 - own.length
     ·have f2:(((own.length + i:Nat):Int) < 8)=True:=eq_true (by omega)
      simp +contextual only [f2,sZ,Nat.reduceEqDiff,Nat.reduceAdd,↓reduceIte]
      refine ae (NG _) ?_
      simp +contextual only [PZ,Dx,sZ,Nat.reduceEqDiff,Nat.reduceAdd,↓reduceIte]
      refine ⟨by omega,i + 1,tl++[vT ((own.length + i:Nat):Int)],⟨hl,by rw [List.length_append,List.length_singleton];omega,fun x hx=>?_⟩,by omega,aC (by rw [au _ (by omega)];rfl) rfl⟩
      rcases List.mem_append.1 hx with hx | hx
      ·exact Qz x hx
      ·rw [List.mem_singleton.1 hx];simp [iB,Zk,vT]
     ·have f2:(((own.length + i:Nat):Int) < 8)=False:=eq_false (by omega)
      have s1:=c60 a tl (by omega)
      have s2:=c60 b tl (by omega)
      have p1:=c61 ar path a
      have p2:=c61 ar path b
      simp +contextual only [f2,sZ,Nat.reduceEqDiff,Nat.reduceAdd,↓reduceIte]
      refine ae s1 ?_
      simp +contextual only [sZ,Nat.reduceEqDiff,Nat.reduceAdd,Nat.reduceLT,↓reduceIte]
      refine ae s2 ?_
      have xo (h:(dA a tl).2=0):Ey s (dA a tl).1:=by
       obtain ⟨e1,e2⟩:=rV h
       rw [e1];exact ⟨e2,Gv Qz rfl _ a (Nat.le_refl _) oa.2⟩
      have yo (h:(dA b tl).2=0):Ey s (dA b tl).1:=by
       obtain ⟨e1,e2⟩:=rV h
       rw [e1];exact ⟨e2,Gv Qz rfl _ b (Nat.le_refl _) ob.2⟩
      have xy (h:(dA a tl).2=0) (h':(dA b tl).2=0):R (ky ps ss) (dA a tl).1 (dA b tl).1:=by
       rw [(rV h).1,(rV h').1];exact aap oa.1 ob.1 hR
      have uo (h:(lg ar path a).2=0):Ey s (lg ar path a).1:=by
       obtain ⟨e1,e2,e3⟩:=rW h
       rw [e1];exact ⟨e2,Gs oa.2 path ar oar.2 e3⟩
      have vo (h:(lg ar path b).2=0):Ey s (lg ar path b).1:=by
       obtain ⟨e1,e2,e3⟩:=rW h
       rw [e1];exact ⟨e2,Gs ob.2 path ar oar.2 e3⟩
      have uv (h:(lg ar path a).2=0) (h':(lg ar path b).2=0):R (ky ps ss) (lg ar path a).1 (lg ar path b).1:=by
       rw [(rW h).1,(rW h').1];exact Sl hR path ar oar.1 (rW h).2.2
      generalize dA a tl=sx at *
      generalize dA b tl=sy at *
      generalize lg ar path a=su at *
      generalize lg ar path b=sv at *
      have hz:∀ p q:Int,((p=0)=False∧(True∧True)=True)∨((p=0)=True∧(q=0)=False)∨((p=0)=True∧(q=0)=True):=fun p q=>by
       by_cases h:p=0
       ·by_cases h':q=0
        ·exact .inr (.inr ⟨eq_true h,eq_true h'⟩)
        ·exact .inr (.inl ⟨eq_true h,eq_false h'⟩)
       ·exact .inl ⟨eq_false h,and_self True⟩
      rcases hz sx.2 sy.2 with ⟨z1,z2⟩ | ⟨z1,z2⟩ | ⟨z1,z2⟩
      all_goals simp +contextual only [z1,z2,decide_true,decide_false,sZ,Nat.reduceEqDiff,Nat.reduceAdd,Nat.reduceLT,↓reduceIte]
      rotate_left 2
      refine af (c19 400 [sx.1,sy.1] _) ?_
      rintro r G2 ⟨⟨b3,rfl⟩,rfl⟩
      have g3:=VE (m8 h1 h2 (xo (of_eq_true z1)) (yo (of_eq_true z2)))
      rw [gf.2 (xy (of_eq_true z1) (of_eq_true z2))] at g3
      cases b3
      simp +contextual only [sZ,Nat.reduceEqDiff,Nat.reduceAdd,↓reduceIte]
      rotate_left
      simp +contextual only [aB,q4,bZ,sZ,Nat.reduceEqDiff,Nat.reduceAdd,↓reduceIte]
      refine ae g3 ?_
      simp +contextual only [sZ,Nat.reduceEqDiff,Nat.reduceAdd,Nat.reduceLT,↓reduceIte]
      all_goals
       refine ae p1 ?_
       simp +contextual only [LO,sZ,Nat.reduceEqDiff,Nat.reduceAdd,Nat.reduceLT,↓reduceIte]
       refine ae p2 ?_
       rcases hz su.2 sv.2 with ⟨z3,z4⟩ | ⟨z3,z4⟩ | ⟨z3,z4⟩
       all_goals simp +contextual only [aB,z3,z4,decide_true,decide_false,q4,bZ,LO,sZ,Nat.reduceEqDiff,Nat.reduceAdd,Nat.reduceLT,↓reduceIte,reduceCtorEq]
       rotate_left 2
       have g4:=VE (m8 h1 h2 (uo (of_eq_true z3)) (vo (of_eq_true z4)))
       rw [gf.2 (uv (of_eq_true z3) (of_eq_true z4))] at g4
       refine ae g4 ?_
       simp +contextual only [sZ,Nat.reduceEqDiff,Nat.reduceAdd,Nat.reduceLT,↓reduceIte,reduceCtorEq]
       all_goals exact fin _ (by simp)
end Go.aL
end
section
set_option maxRecDepth 100000
namespace Go.aL
open Go Go.RowKit Go.fN
section
variable {H:Type} {enc:TypeId×Value→H} {P:Program} {w:World} {base:Nat} {sp:Nat→Bool} {held:Bool}
def Rd {H:Type} (enc:TypeId×Value→H) (P:Program) (w:World) (base:Nat) (sp:Nat→Bool) (held:Bool) {α:Type} (t:TypeId) (g:α→AV) (R:DataW H→α→Prop):Prop:=
 ∀ (fuel:Nat) (cs:List Value) (x:DataW H×List MemPlace),DataW.trod enc P w base sp held fuel t cs=some x→∃ a,aM (fh w) [] cs (g a).cells∧R x.1 a
theorem Gw {ti:TypeId} (h:P.underlying ti=some (.int .i64)):Rd enc P w base sp held ti (fun n:Int=>.int .i64 n) (fun _ _=>True):=by
 intro fuel cs x hx
 obtain ⟨k,rfl,_,_⟩:=DataW.trod_int h hx
 exact ⟨k,.cons _ _ _ _ (.int _ _) .nil,trivial⟩
theorem Nj {ti:TypeId} (h:P.underlying ti=some .string):Rd enc P w base sp held ti (fun s:ByteArray=>.str s) (fun _ _=>True):=by
 intro fuel cs x hx
 obtain ⟨k,rfl,_,_⟩:=DataW.trod_string h hx
 exact ⟨k,.cons _ _ _ _ (.str _) .nil,trivial⟩
def Er {α:Type} (d:DataW H) (l:List α):Prop:=match d with | .slice es _=>l.length=es.length | _=>l=[]
theorem rX {α:Type} [Inhabited α] {te tl:TypeId} {g:α→AV} {R:DataW H→α→Prop} {e:Nat} (hl:P.underlying tl=some (.slice te)) (hc:P.cellsOf te=e) (he:0 < e) (h:Rd enc P w base sp held te g R) :
 Rd enc P w base sp held tl (fun l:List α=>.al 0 (l.map g)) Er:=by
 intro fuel cs x hx
 rcases DataW.trod_slice hl hx with ⟨rfl,rfl⟩ | ⟨a,len,cap,elems,rest,m,hm,rfl,rfl,hb,hle,cj,VO,jQ,_,_⟩
 ·exact ⟨[],.cons _ _ _ _ aS.ah.drop .nil,rfl⟩
 ·rw [hc] at jQ
  have hex:∀ i,i < len→∃ t:α,∃ cs',w.cells? base (a.add (i * e)) e=some cs'∧aM (fh w) [] cs' (g t).cells:=by
   intro i hi
   have:=jQ i hi
   rw [List.getElem?_eq_getElem (by omega)] at this
   obtain ⟨cs',k1,k2⟩:=Option.bind_eq_some_iff.1 this
   obtain ⟨t,ht,_⟩:=h _ _ _ k2
   exact ⟨t,cs',k1,ht⟩
  have hf:∃ f:Nat→α,∀ i,i < len→∃ cs',w.cells? base (a.add (i * e)) e=some cs'∧aM (fh w) [] cs' (g (f i)).cells:=by
   refine ⟨fun i=>if hi:i < len then Classical.choose (hex i hi) else default,fun i hi=>?_⟩
   simp only [dif_pos hi]
   exact Classical.choose_spec (hex i hi)
  obtain ⟨f,hf⟩:=hf
  refine ⟨(List.range len).map f,.cons _ _ _ _ ?_ .nil,by simp [Er,VO]⟩
  show aS (fh w) [] _ (.al 0 (((List.range len).map f).map g))
  rw [List.map_map]
  refine zh (e:=e) (base:=base) he hle cj (fun i=>if hi:i < len then Classical.choose (hf i hi) else []) _ fun i hi=>?_
  simp only [dif_pos hi]
  exact Classical.choose_spec (hf i hi)
structure rY (P:Program) (ti ts tis tss top tops tsig:TypeId):Prop where
 int:P.underlying ti=some (.int .i64)
 str:P.underlying ts=some .string
 ints:P.underlying tis=some (.slice ti)
 strs:P.underlying tss=some (.slice ts)
 op:∃ f0 f1 f2:Field,P.underlying top=some (.struct #[f0,f1,f2])∧f0.type=ts∧f0.offset=0∧f1.type=tis∧f1.offset=1∧f2.type=ti∧f2.offset=2
 ops:P.underlying tops=some (.slice top)
 sig:∃ f0 f1:Field,P.underlying tsig=some (.struct #[f0,f1])∧f0.type=tss∧f0.offset=0∧f1.type=tops∧f1.offset=1
 c:P.cellsOf ti=1∧P.cellsOf ts=1∧P.cellsOf tis=1∧P.cellsOf tss=1∧P.cellsOf top=3∧P.cellsOf tops=1∧P.cellsOf tsig=2
variable {ti ts tis tss top tops tsig:TypeId}
theorem kx {v:List Value} {x:AV} (h:aM (fh w) [] v [x]):∃ u,v=[u]∧aS (fh w) [] u x:=by
 cases h with
 | cons v x vs xs h t=>cases t;exact ⟨_,rfl,h⟩
theorem BY (S:rY P ti ts tis tss top tops tsig):Rd enc P w base sp held tis (fun l:List Int=>.al 0 (ints l)) Er:=rX S.ints S.c.1 (by decide) (Gw S.int)
theorem QM (S:rY P ti ts tis tss top tops tsig):Rd enc P w base sp held tss (fun l:List ByteArray=>.al 0 (strs l)) Er:=rX S.strs S.c.2.1 (by decide) (Nj S.str)
theorem aas (S:rY P ti ts tis tss top tops tsig):Rd enc P w base sp held top hJ.av (fun _ _=>True):=by
 intro fuel cs x h
 obtain ⟨f0,f1,f2,hu,h0,o0,h1,o1,h2,o2⟩:=S.op
 obtain ⟨c1,c2,c3,c4,c5,c6,c7⟩:=S.c
 obtain ⟨xs,m,rfl,rfl,hlen,fP,hf⟩:=DataW.trod_struct hu h
 have g0:=hf 0 f0 rfl
 have g1:=hf 1 f1 rfl
 have g2:=hf 2 f2 rfl
 rw [h0,o0,c2] at g0
 rw [h1,o1,c3] at g1
 rw [h2,o2,c1] at g2
 simp at fP
 rw [c5] at hlen
 match cs,hlen with
 | [a,b,c],_=>
   have e0:xs[0]?=some xs[0]:=by simp [fP]
   have e1:xs[1]?=some xs[1]:=by simp [fP]
   have e2:xs[2]?=some xs[2]:=by simp [fP]
   rw [e0] at g0;rw [e1] at g1;rw [e2] at g2
   obtain ⟨nm,r0,_⟩:=Nj S.str _ _ _ g0
   obtain ⟨ar,r1,_⟩:=BY S _ _ _ g1
   obtain ⟨re,r2,_⟩:=Gw S.int _ _ _ g2
   obtain ⟨_,q0,r0⟩:=kx r0
   obtain ⟨_,q1,r1⟩:=kx r1
   obtain ⟨_,q2,r2⟩:=kx r2
   simp at q0 q1 q2
   subst q0 q1 q2
   exact ⟨⟨nm,ar,re⟩,.cons _ _ _ _ r0 (.cons _ _ _ _ r1 (.cons _ _ _ _ r2 .nil)),trivial⟩
theorem VG (S:rY P ti ts tis tss top tops tsig):Rd enc P w base sp held tops (fun l:List hJ=>.al 0 (pj l)) Er:=rX S.ops S.c.2.2.2.2.1 (by decide) (aas S)
theorem VH (S:rY P ti ts tis tss top tops tsig):Rd enc P w base sp held tsig Sg.av (fun _ _=>True):=by
 intro fuel cs x h
 obtain ⟨f0,f1,hu,h0,o0,h1,o1⟩:=S.sig
 obtain ⟨c1,c2,c3,c4,c5,c6,c7⟩:=S.c
 obtain ⟨xs,m,rfl,rfl,hlen,fP,hf⟩:=DataW.trod_struct hu h
 have g0:=hf 0 f0 rfl
 have g1:=hf 1 f1 rfl
 rw [h0,o0,c4] at g0
 rw [h1,o1,c6] at g1
 simp at fP
 rw [c7] at hlen
 match cs,hlen with
 | [a,b],_=>
   have e0:xs[0]?=some xs[0]:=by simp [fP]
   have e1:xs[1]?=some xs[1]:=by simp [fP]
   rw [e0] at g0;rw [e1] at g1
   obtain ⟨nm,r0,_⟩:=QM S _ _ _ g0
   obtain ⟨ar,r1,_⟩:=VG S _ _ _ g1
   obtain ⟨_,q0,r0⟩:=kx r0
   obtain ⟨_,q1,r1⟩:=kx r1
   simp at q0 q1
   subst q0 q1
   exact ⟨⟨nm,ar⟩,.cons _ _ _ _ r0 (.cons _ _ _ _ r1 .nil),trivial⟩
theorem QN (S:rY P ti ts tis tss top tops tsig) {r:Reach} {b0:Nat} {v:Value} {d:DataW H} {ps:List MemPlace} (ic:Value.okWide P w r b0 tsig v) (hd:DataW.Trod enc P w base sp held tsig v d ps):∃ s:Sg,aS (fh w) [] v s.av:=by
 obtain ⟨f0,f1,hu,_⟩:=S.sig
 obtain ⟨cs,rfl,_⟩:=WideShapes.okWide_struct hu ic
 obtain ⟨fuel,hf⟩:=hd
 obtain ⟨o,h1,_⟩:=VH S _ _ _ hf
 refine ⟨o,?_⟩
 have:aS (fh w) [] (.agg cs.toList.toArray) o.av:=.agg _ _ h1
 simpa using this
structure VI (P:Program) (tis tod:TypeId):Prop where
 od:∃ f0 f1:Field,P.underlying tod=some (.struct #[f0,f1])∧f0.type=tis∧f0.offset=0∧f1.type=tis∧f1.offset=1
 c:P.cellsOf tod=2
theorem aat (S:rY P ti ts tis tss top tops tsig) {tod:TypeId} (O:VI P tis tod):Rd enc P w base sp held tod (fun o:List Int×List Int=>eX o.1 o.2) (fun _ _=>True):=by
 intro fuel cs x h
 obtain ⟨f0,f1,hu,h0,o0,h1,o1⟩:=O.od
 obtain ⟨c1,c2,c3,c4,c5,c6,c7⟩:=S.c
 obtain ⟨xs,m,rfl,rfl,hlen,fP,hf⟩:=DataW.trod_struct hu h
 have g0:=hf 0 f0 rfl
 have g1:=hf 1 f1 rfl
 rw [h0,o0,c3] at g0
 rw [h1,o1,c3] at g1
 simp at fP
 rw [O.c] at hlen
 match cs,hlen with
 | [a,b],_=>
   have e0:xs[0]?=some xs[0]:=by simp [fP]
   have e1:xs[1]?=some xs[1]:=by simp [fP]
   rw [e0] at g0;rw [e1] at g1
   obtain ⟨nm,r0,_⟩:=BY S _ _ _ g0
   obtain ⟨ar,r1,_⟩:=BY S _ _ _ g1
   obtain ⟨_,q0,r0⟩:=kx r0
   obtain ⟨_,q1,r1⟩:=kx r1
   simp at q0 q1
   subst q0 q1
   exact ⟨(nm,ar),.cons _ _ _ _ r0 (.cons _ _ _ _ r1 .nil),trivial⟩
theorem QO (S:rY P ti ts tis tss top tops tsig) {tod:TypeId} (O:VI P tis tod) {r:Reach} {b0:Nat} {v:Value} {d:DataW H} {ps:List MemPlace} (ic:Value.okWide P w r b0 tod v) (hd:DataW.Trod enc P w base sp held tod v d ps):∃ pl st:List Int,aS (fh w) [] v (eX pl st):=by
 obtain ⟨f0,f1,hu,_⟩:=O.od
 obtain ⟨cs,rfl,_⟩:=WideShapes.okWide_struct hu ic
 obtain ⟨fuel,hf⟩:=hd
 obtain ⟨o,h1,_⟩:=aat S O _ _ _ hf
 refine ⟨o.1,o.2,?_⟩
 have:aS (fh w) [] (.agg cs.toList.toArray) (eX o.1 o.2):=.agg _ _ h1
 simpa using this
end
end Go.aL
end
section
namespace Go.aL
open Go Go.RowKit Go.fN
section
variable {H:Type} {enc:TypeId×Value→H} {P:Program} {w:World} {base:Nat} {sp:Nat→Bool} {held:Bool}
theorem QP {ti tl:TypeId} (hi:P.underlying ti=some (.int .i64)) (hl:P.underlying tl=some (.slice ti)) (hc:P.cellsOf ti=1) {r:Reach} {b0:Nat} {v:Value} {d:DataW H} {ps:List MemPlace} (ic:Value.okWide P w r b0 tl v) (hd:DataW.Trod enc P w base sp held tl v d ps) :
 ∃ l:List Int,aS (fh w) [] v (.al 0 (ints l)):=by
 obtain ⟨a,len,cap,rfl⟩:=WideShapes.okWide_slice hl ic
 obtain ⟨fuel,hf⟩:=hd
 obtain ⟨l,hr,_⟩:=rX (g:=fun n:Int=>.int .i64 n) hl hc (by decide) (Gw hi) _ _ _ hf
 refine ⟨l,?_⟩
 simp only [Value.cells] at hr
 cases hr with
 | cons v x vs xs h t=>exact h
end
end Go.aL
end
section
set_option maxRecDepth 100000
namespace Go.Proofs.YtljchnfgjdjobaaGreat
open Go
theorem VJ:laidOutB Tryz.checked.prog=true:=by kernel_rfl
theorem VK:mapsRowed Tryz.checked.prog=true:=by kernel_rfl
theorem QQ:Tryz.checked.prog.stopsHeard=true:=by kernel_rfl
theorem QR:Tryz.checked.prog.mayEnter=true:=by kernel_rfl
theorem QS:Tryz.checked.prog.liftsFinal=false:=by kernel_rfl
end Go.Proofs.YtljchnfgjdjobaaGreat
end
