/- Part 17 of 18 of the proof. -/
import Derived.Test.YtljchnfgjdjobaaGreatWap
import Derived.Laws.Runes
import Derived.Test.YtljchnfgjdjobaaGreatWao
import Derived.Test.YtljchnfgjdjobaaGreatWag
import Derived.KernelRfl
import Derived.Test.YtljchnfgjdjobaaGreatWak
import Derived.Test.YtljchnfgjdjobaaGreatWan
import Derived.Test.YtljchnfgjdjobaaGreatRows
import Derived.ProofKit
set_option linter.unusedVariables false
set_option linter.unusedSimpArgs false
set_option linter.defProp false
set_option linter.unusedSectionVars false
section
set_option maxRecDepth 100000
namespace Go.aH
open Go Go.Proofs Go.fm
theorem abd (n:Int) (o:Nat) (xs:List AV) (φ:AV→Prop):cu [.int .i64 0,.int .i64 0,.ah] [(0,1,.int .i64 2),(1,1,.int .i64 n),(2,1,.ap o xs)] φ=φ (.agg [.int .i64 2,.int .i64 n,.ap 0 xs]):=by
 simp only [cu,gI,eq_iff_iff]
 exact ⟨fun h=>h.2.2.2.2.2.2.2.2.2,fun h=>⟨rfl,rfl,by simp,rfl,rfl,by simp [ag,AV.cells],rfl,rfl,by simp [ag,AV.cells],h⟩⟩
theorem XG (n:Int) (φ:AV→Prop):cu [.int .i64 0,.int .i64 0,.ah] [(0,1,.int .i64 2),(1,1,.int .i64 n),(2,1,.ah)] φ=φ (.agg [.int .i64 2,.int .i64 n,.ah]):=by
 simp only [cu,gI,eq_iff_iff]
 exact ⟨fun h=>h.2.2.2.2.2.2.2.2.2,fun h=>⟨rfl,rfl,by simp,rfl,rfl,by simp [ag,AV.cells],rfl,rfl,by simp [ag,AV.cells],h⟩⟩
theorem abe (a b c d e f:Int) (o o':Nat) (φ:AV→Prop):cu [.ah,.ah] [(0,1,.ap o [.int .i64 a,.int .i64 b,.int .i64 c]),(1,1,.ap o' [.int .i64 d,.int .i64 e,.int .i64 f])] φ=φ (gn [a,b,c] [d,e,f]):=by
 simp only [cu,gI,eq_iff_iff]
 exact ⟨fun h=>h.2.2.2.2.2.2,fun h=>⟨rfl,rfl,by simp,rfl,rfl,by simp [ag,AV.cells],h⟩⟩
theorem Lp (t:T):aM t.av=t.av:=by cases t;rfl
theorem bs4 (a b c d:T) (φ:List AV→Prop):bi (List.replicate 4 (aM (.agg [.int .i64 0,.int .i64 0,.ah]))) 3 [(0,a.av),(1,b.av),(2,c.av),(3,d.av)] φ=φ [a.av,b.av,c.av,d.av]:=by
 have hv:∀ t:T,t.av.val=true:=fun t=>by cases t;rfl
 have hl:∀ t:T,t.av.cells.length=3:=fun t=>(wF t).len
 simp only [bi,Lp,hv,hl,List.replicate,List.set,List.length_cons,List.length_nil,eq_iff_iff]
 constructor
 ·intro h;simpa using h
 ·intro h;simpa using h
theorem OQ (n:Int):Pure Tryz.prog 59 [.int .i64 n] (vT n).av:=by
 refine fun H=>Yg.2.calls rfl ?_
 simp only [Yg,aJ]
 simp +contextual only [sZ,Nat.reduceEqDiff,Nat.reduceAdd,↓reduceIte,reduceCtorEq]
 exact FW rfl rfl
theorem Yz (n:Int) (l:List T):Pure Tryz.prog 65 [.int .i64 n,.ap 0 (bW l)] (oT n l).av:=by
 refine fun H=>TT.2.calls rfl ?_
 simp only [TT,aJ]
 simp +contextual only [abd,sZ,Nat.reduceEqDiff,Nat.reduceAdd,↓reduceIte,reduceCtorEq]
 exact FW (by simp [vI,bG,cZ,gb,b8,dI]) rfl
theorem OR (n:Int):Pure Tryz.prog 65 [.int .i64 n,.ah] (oT n []).av:=by
 refine fun H=>TT.2.calls rfl ?_
 simp only [TT,aJ]
 simp +contextual only [XG,sZ,Nat.reduceEqDiff,Nat.reduceAdd,↓reduceIte,reduceCtorEq]
 exact FW rfl rfl
theorem Lq (t:T) (φ:AV→Prop):ak 1 none (.ai t.av) φ=φ (.ai (.int .i64 t.n)):=by cases t;simp [ak,T.av,apart,AV.cells,AV.one,T.n]
theorem XH (o:Nat) (a b c d:T):(∀ (own:Nat) (xs:List AV),AV.ap o [a.av,b.av,c.av,d.av]=AV.ap own xs→∀ z∈xs,z.cells.length=3)=True:=by
 simp only [eq_iff_iff,iff_true]
 intro own xs e z hz
 cases e
 have:z=a.av∨z=b.av∨z=c.av∨z=d.av:=by simpa using hz
 rcases this with rfl | rfl | rfl | rfl <;> exact (wF _).len
theorem YA (o:Nat) (a b c d:AV) (φ:AV→Prop):ay 3 (.ap o [a,b,c,d]) (.int .i64 0) φ=φ (.ai a)∧ay 3 (.ap o [a,b,c,d]) (.int .i64 1) φ=φ (.ai b)∧ay 3 (.ap o [a,b,c,d]) (.int .i64 2) φ=φ (.ai c)∧ay 3 (.ap o [a,b,c,d]) (.int .i64 3) φ=φ (.ai d):=by
 simp [ay]
theorem sg1:Pure Tryz.prog 20 [cT.s.av,gn [0,0,1] [1,1,1],cw.a.av,cw.b.av] (.tuple [.bool true,.int .i64 0]):=by
 have:=c20 fN fO nh cw.a cw.b
 rw [iQ,Tz,if_pos rfl,AY,gr1] at this
 exact this
theorem sg2:Pure Tryz.prog 20 [cT.s.av,gn [0,0,1] [1,1,1],cw.b.av,cw.a.av] (.tuple [.bool false,.int .i64 0]):=by
 have:=c20 fN fO nh cw.b cw.a
 rw [iQ,XD,if_pos rfl,AY,gr2] at this
 exact this
theorem p1 (H:List aa):aq Tryz.prog 27 [cT.s.av,gn [0,0,1] [1,1,1],cw.a.av,cw.b.av] H fun r H'=>(∃ p,Sh (lm fO nh) p cw.a cw.b∧r=.tuple [eg p,.bool true,.int .i64 0])∧H'=H:=by
 refine (c27 fN fO nh cw.a cw.b H).mono ?_
 rintro r H' ⟨h,rfl⟩
 refine ⟨?_,rfl⟩
 rcases h with ⟨h,_⟩ | ⟨_,h,_⟩ | ⟨_,h⟩
 ·rw [iQ,Tz] at h;exact absurd rfl h
 ·exact absurd (AX.1 gr1) h
 ·exact h
theorem v1 {p:PP} (hp:Sh (lm fO nh) p cw.a cw.b):Pure Tryz.prog 28 [cT.s.av,gn [0,0,1] [1,1,1],cw.a.av,cw.b.av,eg p] (.int .i64 0):=by
 have:=c28 fN fO nh cw.a cw.b p
 have e:C9 fN fO nh cw.a cw.b p=0:=by unfold C9;rw [if_pos (by rw [iQ,Tz]),if_pos hp]
 rw [e] at this
 exact this
theorem v2 (p:PP):Pure Tryz.prog 28 [cT.s.av,gn [0,0,1] [1,1,1],cw.b.av,cw.a.av,eg p] (.int .i64 61):=by
 have:=c28 fN fO nh cw.b cw.a p
 have hn:¬ Sh (lm fO nh) p cw.b cw.a:=fun h=>by
  have:=AX.2 h.gt
  rw [gr2] at this;cases this
 have e:C9 fN fO nh cw.b cw.a p=61:=by unfold C9;rw [if_pos (by rw [iQ,XD]),if_neg hn]
 rw [e] at this
 exact this
theorem q1:Pure Tryz.prog 22 [cT.s.av,gn [0,0,1] [1,1,3],(oT 2 [vT 0,vT 1]).av,(oT 2 [vT 1,vT 0]).av] (.tuple [.bool true,.int .i64 0]):=by
 have:=c22 fN fO stM (oT 2 [vT 0,vT 1]) (oT 2 [vT 1,vT 0])
 rw [iQ,aa6,if_pos rfl,Gu,eq1] at this
 exact this
theorem q2:Pure Tryz.prog 22 [cT.s.av,gn [0,0,1] [1,1,1],(oT 2 [vT 0,vT 1]).av,(oT 2 [vT 1,vT 0]).av] (.tuple [.bool false,.int .i64 0]):=by
 have:=c22 fN fO nh (oT 2 [vT 0,vT 1]) (oT 2 [vT 1,vT 0])
 rw [iQ,aa7,if_pos rfl,Gu,eq2] at this
 exact this
theorem abf:jY 0 cT fO nh=(0,false,0):=by
 unfold jY
 rw [if_neg (by simp),rc,if_neg (by rw [show cT.s=fN from rfl,aa8];simp),sH,XE];rfl
theorem XI:jY 0 cT Dm nh=(1,true,0):=by
 unfold jY
 rw [if_neg (by simp),rc,if_neg (by rw [show cT.s=fN from rfl,aa9];simp),sH,XF];rfl
theorem k1:Pure Tryz.prog 33 [cT.av,gn [0,0,1] [1,1,1]] (.int .i64 0):=by
 have:=c33 AS (fun _=>rf) fO nh
 rw [AU,abf] at this
 exact this
theorem k2:Pure Tryz.prog 33 [cT.av,gn [0,0,0] [1,1,1]] (.int .i64 60):=by
 have:=c33 AS (fun _=>rf) Dm nh
 rw [AU,XI] at this
 exact this
theorem bl1:Pure Tryz.prog 31 [cT.av,gn [0,0,0] [1,1,1]] (.tuple [.int .i64 1,.bool true,.int .i64 0]):=by
 have:=c31 AS (fun _=>rf) Dm nh
 rw [XI] at this
 exact this
theorem fi1:Pure Tryz.prog 35 [cT.av] (.tuple [gn [0,0,1] [1,1,1],.bool true,.int .i64 0]):=by
 have:=c35 (ops:=[0,1,2]) AS (fun _=>Tw) (fun _=>rf) (fun _ i hi=>by
  have h:i=0∨i=1∨i=2:=by simpa using hi
  have e:cT.s.ops.length=3:=rfl
  rw [e];omega) (by decide)
 have e:Li 0 cT [0,1,2]=(some (fO,nh),0):=by
  unfold Li
  rw [if_neg (by simp),if_neg (by decide),Lo,aba]
 rw [e] at this
 exact this
def XJ:List T:=[vT 0,oT 0 [],oT 1 [oT 0 []],oT 2 [oT 0 [],oT 0 []]]
theorem so1:Pure Tryz.prog 37 [cT.s.av,gn [0,0,1] [1,1,1],.ap 0 (bW yT)] (.tuple [.ap 0 (bW XJ),.int .i64 0]):=by
 have:=c37 fN fO nh yT (by decide)
 have hg:Ib fO nh=Dl fO nh:=by funext a b;exact AY _ _ _ _
 have e:xy fN fO nh yT=(XJ,0):=by
  unfold xy
  rw [if_pos (by rw [iQ,abb]),if_neg (by decide),hg,show yT.length=4 from rfl,abc]
  rfl
 rw [e] at this
 exact this
theorem c17:Pure Tryz.prog 17 [] (.bool true):=by
 refine fun H=>k17.2.calls rfl ?_
 simp only [k17,aJ]
 simp +contextual only [sZ]
 refine ae c64 ?_
 have o01:Pure Tryz.prog 65 [.int .i64 2,.ap 0 [(vT 0).av,(vT 1).av]] (oT 2 [vT 0,vT 1]).av:=Yz 2 [vT 0,vT 1]
 have o10:Pure Tryz.prog 65 [.int .i64 2,.ap 0 [(vT 1).av,(vT 0).av]] (oT 2 [vT 1,vT 0]).av:=Yz 2 [vT 1,vT 0]
 have o00:Pure Tryz.prog 65 [.int .i64 2,.ap 0 [(oT 0 []).av,(oT 0 []).av]] (oT 2 [oT 0 [],oT 0 []]).av:=Yz 2 [oT 0 [],oT 0 []]
 have o1:Pure Tryz.prog 65 [.int .i64 1,.ap 0 [(oT 0 []).av]] (oT 1 [oT 0 []]).av:=Yz 1 [oT 0 []]
 have so2:Pure Tryz.prog 37 [cT.s.av,gn [0,0,1] [1,1,1],.ap 0 [(oT 1 [oT 0 []]).av,(vT 0).av,(oT 0 []).av,(oT 2 [oT 0 [],oT 0 []]).av]] (.tuple [.ap 0 [(vT 0).av,(oT 0 []).av,(oT 1 [oT 0 []]).av,(oT 2 [oT 0 [],oT 0 []]).av],.int .i64 0]):=so1
 have abg:Pure Tryz.prog 66 [.ap 0 (ints [0,0,1]),.ap 0 (ints [0,0,1])] (.bool true):=c66 (a:=[0,0,1]) (b:=[0,0,1]) (.inr rfl) (.inr rfl) (by decide) (by decide)
 have abh:Pure Tryz.prog 66 [.ap 0 (ints [1,1,1]),.ap 0 (ints [1,1,1])] (.bool true):=c66 (a:=[1,1,1]) (b:=[1,1,1]) (.inr rfl) (.inr rfl) (by decide) (by decide)
 have i40:=fun o a b c d φ=>(YA o a b c d φ).1
 have i41:=fun o a b c d φ=>(YA o a b c d φ).2.1
 have i42:=fun o a b c d φ=>(YA o a b c d φ).2.2.1
 have i43:=fun o a b c d φ=>(YA o a b c d φ).2.2.2
 have n1:((vT 0).k=1)=True:=eq_true rfl
 have n2:((oT 0 []).n=0)=True:=eq_true rfl
 have n3:((oT 1 [oT 0 []]).n=1)=True:=eq_true rfl
 have n4:((oT 2 [oT 0 [],oT 0 []]).n=2)=True:=eq_true rfl
 have f44:(((4:Nat):Int)=4)=True:=eq_true rfl
 obtain ⟨e1,e2,e3,e4,e5,e6⟩:=Ty.facts cT
 obtain ⟨a1,a2,a3,a4,a5,a6⟩:=bF [0,0,1] [1,1,1]
 obtain ⟨b1,b2,b3,b4,b5,b6⟩:=bF [0,0,1] [1,1,3]
 obtain ⟨c1,c2,c3,c4,c5,c6⟩:=bF [0,0,0] [1,1,1]
 have ix:∀ φ,ay 8 (.ap 0 (bV cT.es)) (.int .i64 1) φ=φ (.ai cw.av):=by
  intro φ
  have:=idx_eq 8 0 cT.es .i64 1 φ
  rw [show ((1:Nat):Int)=1 from rfl] at this
  rw [this]
  exact propext ⟨fun h=>h.2,fun h=>⟨by decide,h⟩⟩
 have su:cT.s.av.ab=cT.s.av:=rfl
 simp +contextual only [e1,e2,e3,abe,a1,a2,a3,a4,b1,b2,b3,c1,c2,c3,bU,A8,LV,ix,OD,Tg,qU,iG,su,sZ,Nat.reduceEqDiff,Nat.reduceAdd,↓reduceIte]
 refine ⟨ae sg1 ?_,ae sg1 ?_⟩
 all_goals
  simp +contextual only [a4,bU,A8,qU,su,sZ,Nat.reduceEqDiff,Nat.reduceAdd,Nat.reduceLT,↓reduceIte]
  refine ae sg2 ?_
  simp +contextual only [a4,bU,A8,qU,su,sZ,Nat.reduceEqDiff,Nat.reduceAdd,Nat.reduceLT,↓reduceIte]
  refine af (p1 _) ?_
  rintro r H' ⟨⟨p,hp,rfl⟩,rfl⟩
  obtain ⟨r1,r2,r3,r4,r5,r6,r7,r8,r9⟩:=a7 p
  simp +contextual only [a4,bU,A8,qU,su,r1,r2,r3,r4,ra,sZ,Nat.reduceEqDiff,Nat.reduceAdd,Nat.reduceLT,↓reduceIte]
  refine ae (v1 hp) ?_
  simp +contextual only [a4,bU,A8,qU,su,r4,ra,sZ,Nat.reduceEqDiff,Nat.reduceAdd,↓reduceIte]
  refine ae (v2 p) ?_
  simp +contextual only [sZ,Nat.reduceEqDiff,↓reduceIte]
  refine aF (OQ 0) ?_
  simp +contextual only [sZ]
  refine aF (OQ 1) ?_
  simp +contextual only [sZ,Nat.reduceEqDiff,↓reduceIte]
  refine aF (o01) ?_
  simp +contextual only [sZ]
  refine aF (OQ 1) ?_
  simp +contextual only [sZ]
  refine aF (OQ 0) ?_
  simp +contextual only [sZ,Nat.reduceEqDiff,↓reduceIte]
  refine aF (o10) ?_
  simp +contextual only [b4,bU,A8,qU,su,sZ,Nat.reduceEqDiff,↓reduceIte]
  refine aF (q1) ?_
  simp +contextual only [sZ,Nat.reduceEqDiff,Nat.reduceAdd,Nat.reduceLT,↓reduceIte]
  refine aF (OQ 0) ?_
  simp +contextual only [sZ]
  refine aF (OQ 1) ?_
  simp +contextual only [sZ,Nat.reduceEqDiff,↓reduceIte]
  refine aF (o01) ?_
  simp +contextual only [sZ]
  refine aF (OQ 1) ?_
  simp +contextual only [sZ]
  refine aF (OQ 0) ?_
  simp +contextual only [sZ,Nat.reduceEqDiff,↓reduceIte]
  refine aF (o10) ?_
  simp +contextual only [a4,bU,A8,qU,su,sZ,Nat.reduceEqDiff,↓reduceIte]
  refine aF (q2) ?_
  simp +contextual only [e4,eU,a4,bU,sZ,Nat.reduceEqDiff,Nat.reduceAdd,Nat.reduceLT,↓reduceIte]
  refine ae (k1) ?_
  simp +contextual only [e4,eU,c4,bU,sZ,Nat.reduceEqDiff,Nat.reduceAdd,↓reduceIte]
  refine ae (k2) ?_
  simp +contextual only [e4,eU,c4,bU,sZ,Nat.reduceEqDiff,Nat.reduceAdd,↓reduceIte]
  refine ae (bl1) ?_
  simp +contextual only [e4,eU,sZ,Nat.reduceEqDiff,Nat.reduceAdd,Nat.reduceLT,↓reduceIte]
  refine ae (fi1) ?_
  simp +contextual only [a1,a2,a3,a4,Ta,sZ,Nat.reduceEqDiff,Nat.reduceAdd,Nat.reduceLT,↓reduceIte]
  refine ae (abg) ?_
  simp +contextual only [OB,sZ,Nat.reduceEqDiff,Nat.reduceAdd,↓reduceIte]
  refine ae (abh) ?_
  simp +contextual only [sZ,Nat.reduceEqDiff,↓reduceIte]
  refine aF (OR 0) ?_
  simp +contextual only [sZ,↓reduceIte]
  refine aF (o1) ?_
  simp +contextual only [sZ]
  refine aF (OQ 0) ?_
  simp +contextual only [sZ]
  refine aF (OR 0) ?_
  simp +contextual only [sZ]
  refine aF (OR 0) ?_
  simp +contextual only [sZ]
  refine aF (OR 0) ?_
  simp +contextual only [sZ,Nat.reduceEqDiff,↓reduceIte]
  refine aF (o00) ?_
  simp +contextual only [a4,bU,A8,qU,su,bs4,sZ,Nat.reduceEqDiff,↓reduceIte]
  refine aF (so2) ?_
  simp +contextual only [F8,Lq,XH,i40,i41,i42,i43,f44,n1,n2,n3,n4,decide_true,sZ,Nat.reduceEqDiff,Nat.reduceAdd,Nat.reduceLT,↓reduceIte,reduceCtorEq]
  exact aO H.length (Nat.le_refl _) rfl ⟨rfl,by simp⟩
end Go.aH
end
section
set_option maxRecDepth 100000
namespace Go.aH
open Go Go.Proofs Go.fm
def TA (S:List aa→Prop) (r:AV) (H':List aa):Prop:=(∃ b,r=.bool b)∧S H'
theorem Io {S:List aa→Prop} (hl:yF S) {s:Nat} {b:Bool} {H H':List aa} (hS:S H) (Wq:S H'):bR H.length [.t s] [(s,.bool b)] H' (TA S):=by
 refine aO H.length (Nat.le_refl _) (by rw [au,if_pos rfl];rfl) ?_
 rw [au,if_pos rfl,List.take_of_length_le (by rw [hl H H' hS Wq];exact Nat.le_refl _)]
 exact ⟨⟨b,rfl⟩,Wq⟩
theorem XK {S:List aa→Prop} (hS:yF S) (g:Nat) (cH:List AV) (b9:cH.map AV.ab=cH) (l:List T) (hf:∀ x∈l,∀ H,S H→aq Tryz.prog g ([x.av]++cH) H (TA S)) {H:List aa} (hH:S H) :
 aq Tryz.prog 114 [.ap 0 (bW l),.fn (.func g) [] cH] H fun r H'=>(∃ n,r=.int .i64 n)∧S H':=by
 refine BV.2.calls rfl ?_
 simp only [BV,aJ]
 simp +contextual only [sZ,Nat.reduceEqDiff,Nat.reduceAdd,↓reduceIte,reduceCtorEq]
 intro hl
 have fin:∀ (n:Int) (G:List aa),S G→bR H.length [.t 4] [(4,.int .i64 n)] G fun r H'=>(∃ n,r=.int .i64 n)∧S H':=by
  intro n G hG
  refine aO H.length (Nat.le_refl _) (by rw [au,if_pos rfl];rfl) ?_
  rw [au,if_pos rfl,List.take_of_length_le (by rw [hS H G hH hG];exact Nat.le_refl _)]
  exact ⟨⟨n,rfl⟩,hG⟩
 refine aE l.length (fun i (G:List aa)=>S G) (fun i G=>[(0,.ap 0 (bW l)),(1,.fn (.func g) [] cH),(7,.int .i64 l.length),(8,.int .i64 i)]) (fun i G=>G) H ⟨hH,aA _ _ _⟩ fun i G hi hG=>?_
 simp +contextual only [b9,sZ,Nat.reduceEqDiff,Nat.reduceAdd,↓reduceIte,reduceCtorEq]
 refine ⟨fun aX=>?_,fun jh=>?_⟩
 ·have aX:=bS aX
  refine ⟨aX,af (hf _ (gO aX) G hG) ?_⟩
  rintro r G' ⟨⟨b,rfl⟩,ey⟩
  cases b with
  | true=>simp +contextual only [sZ,Nat.reduceEqDiff,↓reduceIte,reduceCtorEq];exact fin _ _ ey
  | false=>simp +contextual only [sZ,Nat.reduceEqDiff,↓reduceIte,reduceCtorEq];exact ⟨i + 1,G',⟨aX,ey⟩,by omega,aI (by rw [ax i (by omega)]) rfl⟩
 ·exact fin _ _ hG
theorem XL {S:List aa→Prop} (hS:yF S) (g:Nat) (cH:List AV) (b9:cH.map AV.ab=cH) (l:List T) (hf:∀ x∈l,∀ H,S H→aq Tryz.prog g ([x.av]++cH) H (TA S)) {H:List aa} (hH:S H) :
 aq Tryz.prog 53 [.ap 0 (bW l),.fn (.func g) [] cH] H (TA S):=by
 refine Pj.2.calls rfl ?_
 simp only [Pj,aJ]
 simp +contextual only [sZ,Nat.reduceEqDiff,Nat.reduceAdd,↓reduceIte,reduceCtorEq]
 refine af (XK hS g cH b9 l hf hH) ?_
 rintro r G ⟨⟨n,rfl⟩,hG⟩
 simp +contextual only [sZ,↓reduceIte,reduceCtorEq]
 exact Io hS hH hG
structure Fw (q q2:Nat) (H0 H:List aa):Prop where
 len:H.length=H0.length
 cnt:∃ n,H[q]?=some (.cells [.int .i64 n])
 fn:H[q2]?=some (.cells [.fn (.func 71) [] [.ptr q 0,.ptr q2 0]])
 get:∀ j,j≠q→H[j]?=H0[j]?
theorem Fw.yF (q q2:Nat) (H0:List aa):Go.aH.yF (Fw q q2 H0):=fun H H' h h'=>h'.len.trans h.len.symm
theorem Fw.set {q q2:Nat} {H0 H:List aa} (h:Fw q q2 H0 H) (hn:q≠q2) (n:Int):Fw q q2 H0 (H.set q (.cells [.int .i64 n])):=by
 obtain ⟨m,hm⟩:=h.cnt
 exact ⟨by simp [h.len],⟨n,List.getElem?_set_self (aK hm)⟩,by rw [List.getElem?_set_ne hn];exact h.fn,fun j hj=>by rw [List.getElem?_set_ne (Ne.symm hj)];exact h.get j hj⟩
theorem c71 {q q2:Nat} (hn:q≠q2) {H0:List aa}:∀ (N:Nat) (t:T),wt t≤N→∀ (d:Int) (H:List aa),Fw q q2 H0 H→aq Tryz.prog 71 [t.av,.int .i64 d,.ptr q 0,.ptr q2 0] H (TA (Fw q q2 H0)):=by
 intro N
 induction N with
 | zero=>intro t h;have:=gg t;omega
 | succ N ih=>
   intro t hw d H hH
   refine k71.2.calls rfl ?_
   simp only [k71,aJ]
   have hwe:=CG t
   obtain ⟨m,hm⟩:=hH.cnt
   have gB:∀ o,(H.set q o)[q]?=some o:=fun o=>List.getElem?_set_self (aK hm)
   simp +contextual only [hm,gB,sZ,Nat.reduceEqDiff,Nat.reduceAdd,Nat.reduceLT,↓reduceIte,reduceCtorEq]
   have c72:∀ x∈t.l,∀ H,Fw q q2 H0 H→aq Tryz.prog 72 ([x.av]++[.ptr q2 0,.ai (.int .i64 d)]) H (TA (Fw q q2 H0)):=by
    intro x hx H hH
    refine k72.2.calls rfl ?_
    simp only [k72,aJ,List.cons_append,List.nil_append]
    have hfn:=hH.fn
    simp +contextual only [hfn,sZ,Nat.reduceEqDiff,Nat.reduceAdd,Nat.reduceLT,↓reduceIte,reduceCtorEq]
    refine af (ih x (by have:=cK hx;omega) _ H hH) ?_
    rintro r G ⟨⟨b,rfl⟩,hG⟩
    simp +contextual only [sZ,↓reduceIte,reduceCtorEq]
    exact Io (Fw.yF q q2 H0) hH hG
   refine ⟨fun _=>⟨fun _=>af (XL (Fw.yF q q2 H0) 72 [.ptr q2 0,.ai (.int .i64 d)] rfl t.l c72 (hH.set hn _)) ?_,fun _=>Io (Fw.yF q q2 H0) hH (hH.set hn _)⟩,fun _=>Io (Fw.yF q q2 H0) hH (hH.set hn _)⟩
   rintro r G ⟨⟨b,rfl⟩,hG⟩
   simp +contextual only [sZ,Nat.reduceEqDiff,↓reduceIte,reduceCtorEq]
   exact Io (Fw.yF q q2 H0) hH hG
theorem c19 (n:Int) (l:List T) (H:List aa):aq Tryz.prog 19 [.int .i64 n,.ap 0 (bW l)] H fun r H'=>(∃ b,r=.bool b)∧H'=H:=by
 refine k19.2.calls rfl ?_
 simp only [k19,aJ]
 have Zg:∀ (x y:AV),ag [x] 0 [y]=[y]:=fun _ _=>rfl
 simp +contextual only [sZ,Nat.reduceEqDiff,Nat.reduceAdd,↓reduceIte,reduceCtorEq]
 obtain ⟨H0,eH0⟩:∃ H0,H0=H++[aa.cells [AV.int .i64 n],.cells [.fn (.func 71) [] [.ptr H.length 0,.ptr (H.length + 1) 0]]]:=⟨_,rfl⟩
 have hF:Fw H.length (H.length + 1) H0 H0:=⟨rfl,⟨n,by rw [eH0];simp⟩,by rw [eH0];simp,fun _ _=>rfl⟩
 rw [← eH0]
 have Dq:H0.length=H.length + 2:=by rw [eH0];simp
 have UD:H0.take H.length=H:=by rw [eH0];simp
 have c73:∀ x∈l,∀ G,Fw H.length (H.length + 1) H0 G→aq Tryz.prog 73 ([x.av]++[.ptr (H.length + 1) 0]) G (TA (Fw H.length (H.length + 1) H0)):=by
  intro x hx G hG
  refine k73.2.calls rfl ?_
  simp only [k73,aJ,List.cons_append,List.nil_append]
  have hfn:=hG.fn
  simp +contextual only [hfn,sZ,Nat.reduceEqDiff,Nat.reduceAdd,Nat.reduceLT,↓reduceIte,reduceCtorEq]
  refine af (c71 (by omega) _ x (Nat.le_refl _) _ G hG) ?_
  rintro r G' ⟨⟨b,rfl⟩,ey⟩
  simp +contextual only [sZ,↓reduceIte,reduceCtorEq]
  exact Io (Fw.yF _ _ H0) hG ey
 refine ⟨by simp;omega,af (XL (Fw.yF _ _ H0) 73 [.ptr (H.length + 1) 0] rfl l c73 hF) ?_⟩
 rintro r G ⟨⟨b,rfl⟩,hG⟩
 simp +contextual only [sZ,↓reduceIte,reduceCtorEq]
 refine aO H.length (Nat.le_refl _) (by rw [au,if_pos rfl];rfl) ?_
 rw [au,if_pos rfl]
 refine ⟨⟨!b,rfl⟩,?_⟩
 refine Eq.trans ?_ UD
 apply List.ext_getElem?
 intro j
 rw [List.getElem?_take,List.getElem?_take]
 by_cases hj:j < H.length
 ·rw [if_pos hj,if_pos hj];exact hG.get j (by omega)
 ·rw [if_neg hj,if_neg hj]
end Go.aH
end
section
set_option maxRecDepth 100000
namespace Go.aH
open Go Go.Proofs Go.fm
def TB (o:jd):Prop:=o.args.length≤20∧o.name.size≤200
theorem rh {α:Type} [Inhabited α] {p:α→Prop} {l:List α} (h:∀ j,j < l.length→p (l.getD j default)):∀ x∈l,p x:=fun x hx=>by
 obtain ⟨n,hn,rfl⟩:=List.getElem_of_mem hx
 have:=h n hn
 rwa [List.getD_eq_getElem?_getD,List.getElem?_eq_getElem hn] at this
theorem c68 (o:jd):∃ b,Pure Tryz.prog 68 [o.av] (.bool b)∧(b=false→TB o):=by
 refine ⟨decide (20 < (o.args.length:Int)) || decide (200 < (o.name.size:Int)),fun H=>k68.2.calls rfl ?_,fun h=>by simp at h;exact ⟨by omega,by omega⟩⟩
 simp only [k68,aJ]
 simp +contextual only [aU,sZ,Nat.reduceEqDiff,Nat.reduceAdd,↓reduceIte,reduceCtorEq]
 refine fun _=>⟨fun h=>bh rfl ?_,fun h=>bh rfl ?_⟩
 ·have h':¬ (20:Int) < o.args.length:=by omega
  rw [decide_eq_false h',Bool.false_or]
 ·rw [decide_eq_true h,Bool.true_or]
theorem c70 (s:ByteArray):∃ b,Pure Tryz.prog 70 [.str s] (.bool b)∧(b=false→s.size≤200):=by
 refine ⟨decide (200 < (s.size:Int)),fun H=>k70.2.calls rfl ?_,fun h=>by simp at h;omega⟩
 simp only [k70,aJ]
 simp +contextual only [sZ,Nat.reduceAdd,↓reduceIte,reduceCtorEq]
 exact bh rfl rfl
theorem XM (l:List jd):∀ H,aq Tryz.prog 128 [.ap 0 (mG l),.fn (.func 68) [] []] H fun r H'=>(∃ n,r=.int .i64 n∧(n < 0→∀ o∈l,TB o))∧H'=H:=by
 refine fun H=>UR.2.calls rfl ?_
 simp only [UR,aJ]
 simp +contextual only [aU,sZ,Nat.reduceEqDiff,Nat.reduceAdd,↓reduceIte,reduceCtorEq]
 intro hl
 have fin:∀ (n:Int),(n < 0→∀ o∈l,TB o)→bR H.length [.t 4] [(4,.int .i64 n)] H fun r H'=>(∃ n,r=.int .i64 n∧(n < 0→∀ o∈l,TB o))∧H'=H:=fun n hn=>
  aO H.length (Nat.le_refl _) (by rw [au,if_pos rfl];rfl) ⟨⟨n,by rw [au,if_pos rfl],hn⟩,List.take_length⟩
 refine aP l.length (fun i=>∀ j,j < i→TB (l.getD j default)) (fun i=>[(0,.ap 0 (mG l)),(1,.fn (.func 68) [] []),(7,.int .i64 l.length),(8,.int .i64 i)]) (fun _=>H) ⟨fun j h=>by omega,aA _ _ _⟩ fun i hi hI=>?_
 simp +contextual only [aU,sZ,Nat.reduceEqDiff,Nat.reduceAdd,↓reduceIte,reduceCtorEq]
 obtain ⟨b,hb,hq⟩:=c68 (l.getD i default)
 refine ⟨fun aX=>?_,fun jh=>fin _ fun _=>rh fun j hj=>hI j (by have:=dd jh;omega)⟩
 have aX:=bS aX
 refine ⟨aX,ae hb ?_⟩
 cases b with
 | true=>simp +contextual only [sZ,Nat.reduceEqDiff,↓reduceIte,reduceCtorEq];exact fin _ fun h=>by omega
 | false=>
   simp +contextual only [sZ,Nat.reduceEqDiff,↓reduceIte,reduceCtorEq]
   refine ⟨i + 1,⟨aX,fun j hj=>?_⟩,by omega,aI (by rw [ax i (by omega)]) rfl⟩
   by_cases e:j < i
   ·exact hI j e
   ·have:j=i:=by omega
    subst this;exact hq rfl
theorem abj (l:List jd):∀ H,aq Tryz.prog 67 [.ap 0 (mG l),.fn (.func 68) [] []] H fun r H'=>(∃ b,r=.bool b∧(b=false→∀ o∈l,TB o))∧H'=H:=by
 refine fun H=>k67.2.calls rfl ?_
 simp only [k67,aJ]
 simp +contextual only [sZ,Nat.reduceEqDiff,Nat.reduceAdd,↓reduceIte,reduceCtorEq]
 refine af (XM l H) ?_
 rintro r G ⟨⟨n,rfl,hn⟩,rfl⟩
 simp +contextual only [sZ,↓reduceIte,reduceCtorEq]
 exact aO _ (Nat.le_refl _) (by rw [au,if_pos rfl];rfl) ⟨⟨decide (0≤n),by rw [au,if_pos rfl],fun h=>hn (by simpa using h)⟩,List.take_length⟩
theorem XN (l:List ByteArray):∀ H,aq Tryz.prog 129 [.ap 0 (strs l),.fn (.func 70) [] []] H fun r H'=>(∃ n,r=.int .i64 n∧(n < 0→∀ o∈l,o.size≤200))∧H'=H:=by
 refine fun H=>US.2.calls rfl ?_
 simp only [US,aJ]
 simp +contextual only [aU,sZ,Nat.reduceEqDiff,Nat.reduceAdd,↓reduceIte,reduceCtorEq]
 intro hl
 have fin:∀ (n:Int),(n < 0→∀ o∈l,o.size≤200)→bR H.length [.t 4] [(4,.int .i64 n)] H fun r H'=>(∃ n,r=.int .i64 n∧(n < 0→∀ o∈l,o.size≤200))∧H'=H:=fun n hn=>
  aO H.length (Nat.le_refl _) (by rw [au,if_pos rfl];rfl) ⟨⟨n,by rw [au,if_pos rfl],hn⟩,List.take_length⟩
 refine aP l.length (fun i=>∀ j,j < i→(l.getD j default).size≤200) (fun i=>[(0,.ap 0 (strs l)),(1,.fn (.func 70) [] []),(7,.int .i64 l.length),(8,.int .i64 i)]) (fun _=>H) ⟨fun j h=>by omega,aA _ _ _⟩ fun i hi hI=>?_
 simp +contextual only [aU,sZ,Nat.reduceEqDiff,Nat.reduceAdd,↓reduceIte,reduceCtorEq]
 obtain ⟨b,hb,hq⟩:=c70 (l.getD i default)
 refine ⟨fun aX=>?_,fun jh=>fin _ fun _=>rh fun j hj=>hI j (by have:=dd jh;omega)⟩
 have aX:=bS aX
 refine ⟨aX,ae hb ?_⟩
 cases b with
 | true=>simp +contextual only [sZ,Nat.reduceEqDiff,↓reduceIte,reduceCtorEq];exact fin _ fun h=>by omega
 | false=>
   simp +contextual only [sZ,Nat.reduceEqDiff,↓reduceIte,reduceCtorEq]
   refine ⟨i + 1,⟨aX,fun j hj=>?_⟩,by omega,aI (by rw [ax i (by omega)]) rfl⟩
   by_cases e:j < i
   ·exact hI j e
   ·have:j=i:=by omega
    subst this;exact hq rfl
theorem abk (l:List ByteArray):∀ H,aq Tryz.prog 69 [.ap 0 (strs l),.fn (.func 70) [] []] H fun r H'=>(∃ b,r=.bool b∧(b=false→∀ o∈l,o.size≤200))∧H'=H:=by
 refine fun H=>k69.2.calls rfl ?_
 simp only [k69,aJ]
 simp +contextual only [sZ,Nat.reduceEqDiff,Nat.reduceAdd,↓reduceIte,reduceCtorEq]
 refine af (XN l H) ?_
 rintro r G ⟨⟨n,rfl,hn⟩,rfl⟩
 simp +contextual only [sZ,↓reduceIte,reduceCtorEq]
 exact aO _ (Nat.le_refl _) (by rw [au,if_pos rfl];rfl) ⟨⟨decide (0≤n),by rw [au,if_pos rfl],fun h=>hn (by simpa using h)⟩,List.take_length⟩
structure SmS (s:Sg) (ps ss:List Int):Prop where
 h1:s.ops.length≤40
 h2:s.eF.length≤40
 h3:ps.length≤80
 h4:ss.length≤80
 h5:∀ o∈s.ops,TB o
 h6:∀ x∈s.eF,x.size≤200
theorem c18 (s:Sg) (ps ss:List Int) (H:List aa):aq Tryz.prog 18 [s.av,gn ps ss] H fun r H'=>(∃ b,r=.bool b∧(b=true→SmS s ps ss))∧H'=H:=by
 refine k18.2.calls rfl ?_
 simp only [k18,aJ]
 have fin:∀ (b:Bool),(b=true→SmS s ps ss)→bR H.length [.t 4] [(4,.bool b)] H fun r H'=>(∃ b,r=.bool b∧(b=true→SmS s ps ss))∧H'=H:=fun b hb=>
  aO H.length (Nat.le_refl _) (by rw [au,if_pos rfl];rfl) ⟨⟨b,by rw [au,if_pos rfl],hb⟩,List.take_length⟩
 have finf:=fin false (fun h=>by cases h)
 obtain ⟨q1,q2,q3,q4,q5,q6⟩:=bF ps ss
 simp +contextual only [aU,q1,Ta,OB,aw,sZ,Nat.reduceEqDiff,Nat.reduceAdd,↓reduceIte,reduceCtorEq]
 refine fun _=>⟨fun h1 _=>⟨fun h2 _=>⟨fun h3 _=>⟨fun h4=>af (abj s.ops H) ?_,fun _=>finf⟩,fun _=>finf⟩,fun _=>finf⟩,fun _=>finf⟩
 rintro r G ⟨⟨b,rfl,hb⟩,rfl⟩
 cases b with
 | true=>simp +contextual only [sZ,Nat.reduceEqDiff,↓reduceIte,reduceCtorEq];exact finf
 | false=>
   simp +contextual only [aU,sZ,Nat.reduceEqDiff,Nat.reduceAdd,↓reduceIte]
   refine af (abk s.eF _) ?_
   rintro r G ⟨⟨d,rfl,hd⟩,rfl⟩
   simp +contextual only [sZ,Nat.reduceEqDiff,↓reduceIte,reduceCtorEq]
   exact fin _ fun h=>⟨by omega,by omega,by omega,by omega,hb rfl,hd (by simpa using h)⟩
end Go.aH
end
section
set_option maxRecDepth 100000
namespace Go.aH
open Go Go.Proofs
end Go.aH
end
section
set_option maxRecDepth 100000
namespace Go.aH
open Go Go.Proofs
theorem wK {p:Nat→Prop} {i:Nat} (h:∀ j,j < i→p j) (h':p i):∀ j,j < i + 1→p j:=fun j hj=>by
 by_cases e:j < i
 ·exact h j e
 ·have:j=i:=by omega
  subst this;exact h'
theorem Ip {α:Type} [Inhabited α] {l:List α} {i:Nat} (h:i < l.length):l.getD i default∈l:=by
 rw [List.getD_eq_getElem?_getD,List.getElem?_eq_getElem h];exact List.getElem_mem h
end Go.aH
end
section
set_option maxRecDepth 100000
namespace Go.aH
open Go Go.Proofs Go.fm
end Go.aH
end
section
set_option maxRecDepth 100000
namespace Go.aH
open Go Go.Proofs Go.fm
end Go.aH
end
section
set_option maxRecDepth 100000
namespace Go.aH
open Go Go.Proofs Go.fm
end Go.aH
end
section
set_option maxRecDepth 100000
namespace Go.aH
open Go Go.Proofs Go.fm
end Go.aH
end
section
set_option maxRecDepth 100000
namespace Go.aH
open Go Go.Proofs Go.fm
mutual
def tK (s:Sg) (vs:List Int):T→Option Int
 | .mk k n l=>if k=1 then (if (vs.length:Int)≤n then none else some (vs.getD n.toNat 0)) else if (s.ops.length:Int)≤n∨¬ (l.length:Int)=((s.ops.getD n.toNat default).args.length:Nat) then none else if Lr s vs l (s.ops.getD n.toNat default).args=true then some (s.ops.getD n.toNat default).LU else none
def Lr (s:Sg) (vs:List Int):List T→List Int→Bool
 | [],_=>true
 | x::r,a=>decide (tK s vs x=some (a.getD 0 0)) && Lr s vs r (a.drop 1)
end
theorem Dn {s:Sg} {vs:List Int} {l:List T} {a:List Int} {i:Nat} (h:i < l.length):Lr s vs (l.drop i) (a.drop i)=(decide (tK s vs (l.getD i default)=some (a.getD i 0)) && Lr s vs (l.drop (i + 1)) (a.drop (i + 1))):=by
 rw [List.drop_eq_getElem_cons h,Lr]
 have e:l.getD i default=l[i]:=by rw [List.getD_eq_getElem?_getD,List.getElem?_eq_getElem h];rfl
 have e2:(a.drop i).getD 0 0=a.getD i 0:=by simp
 rw [e,e2,List.drop_drop]
def OS (o:Option Int):AV:=.tuple [.int .i64 (o.getD 0),.bool o.isSome]
theorem XO (s:Sg) (vs:List Int):∀ t:T,t.shaped=true→Pure Tryz.prog 218 [s.av,.ap 0 (ints vs),t.av] (OS (tK s vs t)):=by
 suffices h:∀ N t,wt t≤N→t.shaped=true→Pure Tryz.prog 218 [s.av,.ap 0 (ints vs),t.av] (OS (tK s vs t)) from fun t ht=>h _ t (Nat.le_refl _) ht
 intro N
 induction N with
 | zero=>intro t h;have:=gg t;omega
 | succ N ih=>
 intro t hN hs H
 have hk:=kw hs
 have ih:∀ x∈t.l,Pure Tryz.prog 218 [s.av,.ap 0 (ints vs),x.av] (OS (tK s vs x)):=fun x hx=>ih x (by have:=cK hx;omega) (hk.2 x hx)
 have hn:0≤t.n:=by
  rw [T.dX] at hs
  simp only [Bool.and_eq_true,Bool.not_eq_true',Bool.or_eq_false_iff,decide_eq_false_iff_not] at hs
  have:=hs.1.1.1.1
  omega
 obtain ⟨m,hm⟩:=Int.eq_ofNat_of_zero_le hn
 have em:t.n.toNat=m:=by omega
 refine MW.2.calls rfl ?_
 simp only [MW,aJ]
 have e:tK s vs t=if t.k=1 then (if (vs.length:Int)≤t.n then none else some (vs.getD t.n.toNat 0)) else if (s.ops.length:Int)≤t.n∨¬ (t.l.length:Int)=((s.ops.getD t.n.toNat default).args.length:Nat) then none else if Lr s vs t.l (s.ops.getD t.n.toNat default).args=true then some (s.ops.getD t.n.toNat default).LU else none:=by cases t;rfl
 have fin (o:Option Int) (x:List aa) (h:tK s vs t=o):bR H.length [.t 6,.t 7] [(6,.int .i64 (o.getD 0)),(7,.bool o.isSome)] (H++x) fun r H'=>r=OS (tK s vs t)∧H'=H:=by
  rw [h];exact vP (e:=x) (by decide) rfl rfl rfl rfl
 have fin0 (o:Option Int) (h:tK s vs t=o):bR H.length [.t 6,.t 7] [(6,.int .i64 (o.getD 0)),(7,.bool o.isSome)] H fun r H'=>r=OS (tK s vs t)∧H'=H:=by
  have:=fin o [] h
  rwa [List.append_nil] at this
 by_cases k1:t.k=1
 ·rw [if_pos k1] at e
  by_cases k2:(vs.length:Int)≤t.n
  ·rw [if_pos k2] at e
   have k2':((vs.length:Int)≤(m:Int))=True:=eq_true (by omega)
   simp +contextual only [aU,k1,hm,k2',aw,sZ,Nat.reduceEqDiff,Nat.reduceAdd,↓reduceIte,reduceCtorEq]
   exact fun _=>fin0 none e
  ·rw [if_neg k2,em] at e
   have k2':((vs.length:Int)≤(m:Int))=False:=eq_false (by omega)
   have k3:m < vs.length:=by omega
   simp +contextual only [aU,k1,hm,k2',k3,aw,sZ,Nat.reduceEqDiff,Nat.reduceAdd,↓reduceIte,reduceCtorEq]
   exact fun _=>fin0 (some _) e
 rw [if_neg k1,em] at e
 by_cases k2:(s.ops.length:Int)≤t.n
 ·rw [if_pos (.inl k2)] at e
  have k2':((s.ops.length:Int)≤(m:Int))=True:=eq_true (by omega)
  simp +contextual only [aU,k1,hm,k2',decide_true,sZ,Nat.reduceEqDiff,Nat.reduceAdd,↓reduceIte,reduceCtorEq]
  exact fin0 none e
 have k2':((s.ops.length:Int)≤(m:Int))=False:=eq_false (by omega)
 have k3:m < s.ops.length:=by omega
 by_cases k4:(t.l.length:Int)=((s.ops.getD m default).args.length:Nat)
 rotate_left
 ·rw [if_pos (.inr k4)] at e
  simp +contextual only [aU,k1,hm,k2',k3,k4,aw,decide_false,sZ,Nat.reduceEqDiff,Nat.reduceAdd,↓reduceIte,reduceCtorEq]
  exact fin0 none e
 rw [if_neg (by omega)] at e
 have k4':((t.l.length:Int)=((s.ops.getD m default).args.length:Nat))=True:=eq_true k4
 generalize ha:(s.ops.getD m default).args=as_ at *
 simp +contextual only [aU,k1,hm,k2',k3,k4',ha,aw,decide_false,sZ,Nat.reduceEqDiff,Nat.reduceAdd,↓reduceIte,reduceCtorEq]
 intro _
 refine aP t.l.length (fun i=>Lr s vs (t.l.drop i) (as_.drop i)=Lr s vs t.l as_) (fun i=>[(1,.ap 0 (ints vs)),(3,.ai s.av),(5,.ai t.av),(46,.ap 0 (bW t.l)),(47,.int .i64 t.l.length),(48,.int .i64 i)]) (fun _=>H) ⟨rfl,aA _ _ _⟩ fun i hi hI=>?_
 by_cases hl:i < t.l.length
 ·have f1:((i:Int) < t.l.length)=True:=eq_true (by omega)
  have rn:i < as_.length:=by omega
  have dr (G:List aa) (h:decide (tK s vs (t.l.getD i default)=some (as_.getD i 0))=false):tK s vs t=none:=by
   rw [Dn hl,h,Bool.false_and] at hI
   rw [e,← hI];rfl
  simp +contextual only [aU,f1,hl,sZ,Nat.reduceEqDiff,Nat.reduceAdd,↓reduceIte]
  refine ae (ih _ (Ip hl)) ?_
  cases ho:tK s vs (t.l.getD i default) with
  | none=>
    simp +contextual only [OS,Option.isSome_none,Option.getD_none,sZ,Nat.reduceEqDiff,Nat.reduceAdd,Nat.reduceLT,↓reduceIte,reduceCtorEq]
    exact fin none _ (dr H (by rw [ho];rfl))
  | some z=>
    by_cases hz:z=as_.getD i 0
    ·have Dw:(z=as_.getD i 0)=True:=eq_true hz
     simp +contextual only [aU,OS,Option.isSome_some,Option.getD_some,hm,k3,ha,rn,Dw,not_true_eq_false,sZ,Nat.reduceEqDiff,Nat.reduceAdd,Nat.reduceLT,↓reduceIte]
     refine ⟨i + 1,⟨hl,?_⟩,by omega,vJ (by rw [ax i (by omega)]) (Nat.le_refl _) (by simp [nQ,AV.aZ,dI,aY,Sg.kP,T.kP]) _ rfl⟩
     rw [Dn hl,ho,hz,decide_eq_true rfl,Bool.true_and] at hI
     exact hI
    ·have Dw:(z=as_.getD i 0)=False:=eq_false hz
     simp +contextual only [aU,OS,Option.isSome_some,Option.getD_some,hm,k3,ha,rn,Dw,not_false_eq_true,sZ,Nat.reduceEqDiff,Nat.reduceAdd,Nat.reduceLT,↓reduceIte,reduceCtorEq]
     exact fin none _ (dr H (by rw [ho];exact decide_eq_false fun h=>hz (Option.some.inj h)))
 ·have f1:((i:Int) < t.l.length)=False:=eq_false (by omega)
  rw [List.drop_of_length_le (by omega)] at hI
  have hI':Lr s vs t.l as_=true:=hI.symm.trans rfl
  rw [if_pos hI'] at e
  simp +contextual only [aU,f1,hm,k3,sZ,Nat.reduceEqDiff,↓reduceIte,reduceCtorEq]
  exact fin0 (some _) e
end Go.aH
end
section
set_option maxRecDepth 100000
set_option maxHeartbeats 1000000
namespace Go.aH
open Go Go.Proofs Go.fm
theorem Qn (e:gv) (φ:AV→Prop):ak 0 none (.ai e.av) φ=φ (.ai (.ap 0 (ints e.vs))):=by simp [ak,apart,gv.av,AV.cells,AV.one]
def Fc (s:Sg) (x:Int):Bool:=decide (x < 0) || decide ((s.eF.length:Int)≤x)
theorem abm (s:Sg) (x:Int):Pure Tryz.prog 216 ([.int .i64 x]++[.ai s.av]) (.bool (Fc s x)):=by
 refine fun H=>MU.2.calls rfl ?_
 simp only [MU,aJ]
 by_cases h:x < 0
 ·have f1:(x < 0)=True:=eq_true h
  simp +contextual only [f1,decide_true,sZ,Nat.reduceEqDiff,Nat.reduceAdd,↓reduceIte,reduceCtorEq]
  exact bh rfl (by simp [Fc,h])
 ·have f1:(x < 0)=False:=eq_false h
  simp +contextual only [aU,f1,decide_false,sZ,Nat.reduceEqDiff,Nat.reduceAdd,↓reduceIte,reduceCtorEq]
  exact fun _=>bh rfl (by simp [Fc,h])
def gA (s:Sg) (vs:List Int) (a b:T):Bool:=a.tree && (b.tree && ((tK s vs a).isSome && ((tK s vs b).isSome && decide ((tK s vs a).getD 0=(tK s vs b).getD 0))))
theorem XP (s:Sg) (e:gv) (a b:T):Pure Tryz.prog 217 [a.av,b.av,.ai s.av,.ai e.av] (.bool (gA s e.vs a b)):=by
 refine fun H=>MV.2.calls rfl ?_
 simp only [MV,aJ]
 obtain ⟨g1,g2,g3,g4,g5,g6⟩:=e.facts
 simp +contextual only [sZ,Nat.reduceEqDiff,Nat.reduceAdd,↓reduceIte,reduceCtorEq]
 refine ae (Td a) ?_
 cases ha:a.tree with
 | false=>simp +contextual only [Bool.false_eq_true,sZ,Nat.reduceEqDiff,↓reduceIte,reduceCtorEq,Int.reduceEq];exact bh rfl (by rw [gA,ha];rfl)
 | true=>
 simp +contextual only [sZ,Nat.reduceEqDiff,Nat.reduceAdd,↓reduceIte]
 refine ae (Td b) ?_
 cases hb:b.tree with
 | false=>simp +contextual only [Bool.false_eq_true,sZ,Nat.reduceEqDiff,↓reduceIte,reduceCtorEq,Int.reduceEq];exact bh rfl (by rw [gA,ha,hb];rfl)
 | true=>
 have e1:=XO s e.vs a ((T.ff a).1 ha).2.2
 have e2:=XO s e.vs b ((T.ff b).1 hb).2.2
 unfold OS at e1 e2
 have hp:gA s e.vs a b=((tK s e.vs a).isSome && ((tK s e.vs b).isSome && decide ((tK s e.vs a).getD 0=(tK s e.vs b).getD 0))):=by rw [gA,ha,hb];rfl
 rw [hp]
 generalize tK s e.vs a=x at *
 generalize tK s e.vs b=y at *
 simp +contextual only [aU,Qn,sZ,Nat.reduceEqDiff,Nat.reduceAdd,↓reduceIte]
 refine ae e1 ?_
 simp +contextual only [aU,Qn,sZ,Nat.reduceEqDiff,Nat.reduceAdd,Nat.reduceLT,↓reduceIte]
 refine ae e2 ?_
 cases h1:x.isSome <;> cases h2:y.isSome
 all_goals
  simp +contextual only [sZ,Nat.reduceEqDiff,Nat.reduceAdd,Nat.reduceLT,↓reduceIte,reduceCtorEq]
  exact bh rfl rfl
theorem Ls (n:Int):∀ (vs:List Int) (i:Nat),(∃ j,vs[j]?=some n∧di 0 (.int .i64 n) (ents vs) i=some (some (i + j,.bool true)))∨(n∉vs∧di 0 (.int .i64 n) (ents vs) i=some none)
 | [],i=>.inr ⟨(fun h=>by cases h),rfl⟩
 | a::r,i=>by
   have ih:=Ls n r (i + 1)
   simp only [ents,List.map_cons,di,cC,if_true]
   by_cases h:n=a
   ·subst h
    exact .inl ⟨0,rfl,by simp⟩
   ·simp only [decide_eq_false h]
    rcases ih with ⟨j,h1,h2⟩ | ⟨h1,h2⟩
    ·exact .inl ⟨j + 1,h1,by rw [show i + (j + 1)=i + 1 + j by omega];exact h2⟩
    ·exact .inr ⟨fun hm=>(List.mem_cons.1 hm).elim h h1,h2⟩
def Iq (vs:List Int) (n:Int):List Int:=if n∈vs then vs else vs++[n]
theorem Lt {vs:List Int} {n x:Int}:x∈Iq vs n↔x∈vs∨x=n:=by
 unfold Iq
 split
 ·rename_i h;exact ⟨.inl,fun h'=>h'.elim _root_.id fun e=>e ▸ h⟩
 ·simp
theorem OT (n:Int) (vs:List Int) (id:Nat) (H:List aa) (K:List aa→Prop):eT (some (.map (ents vs))) 0 id (.int .i64 n) (.bool true) H K=K (H.set id (.map (ents (Iq vs n)))):=by
 have ec:aM (.bool true)=.bool true:=rfl
 rcases Ls n vs 0 with ⟨j,h1,h2⟩ | ⟨h1,h2⟩
 ·have hm:n∈vs:=List.mem_of_getElem? h1
  have e:(ents vs).set j (.int .i64 n,.bool true)=ents vs:=by
   refine List.ext_getElem? fun k=>?_
   rw [List.getElem?_set]
   split
   ·rename_i hk;subst hk
    split
    ·simp [ents,h1]
    ·rename_i hl
     rw [List.getElem?_eq_none (by omega)]
   ·rfl
  unfold eT Iq
  rw [if_pos hm]
  simp only [h2,ec,Nat.zero_add,e]
  simp [gb,qC,uk]
 ·rw [F0 h1];unfold Iq;rw [if_neg h1]
def sI (s:Sg) (e:gv):Bool:=
 decide ((e.vs.length:Int)≤64) && (decide ((e.cs.length:Int)≤8) && (decide (e.a.k=2) && (!(e.vs.any (Fc s)) && (gA s e.vs e.a e.b && ((e.cs.all fun c=>gA s e.vs c.a c.b) && ((e.b::pf e.cs).all fun t=>(jT [t]).all fun v=>decide (v∈jT [e.a])))))))
theorem abn (s:Sg) (e:gv):Pure Tryz.prog 181 [s.av,e.av] (.bool (sI s e)):=by
 refine fun H=>MK.2.calls rfl ?_
 simp only [MK,aJ]
 obtain ⟨g1,g2,g3,g4,g5,g6⟩:=e.facts
 have bad (G:List aa) (hG:G.take H.length=H) (h:sI s e=false):bR H.length [.t 4] [(4,.bool false)] G fun r H'=>r=.bool (sI s e)∧H'=H:=by
  rw [h];exact aO H.length (Nat.le_refl _) (by rw [au,if_pos rfl];rfl) ⟨by rw [au,if_pos rfl],hG⟩
 by_cases f1:(e.vs.length:Int)≤64
 rotate_left
 ·have f1':(64 < (e.vs.length:Int))=True:=eq_true (by omega)
  simp +contextual only [aU,g1,Qn,aw,f1',decide_true,sZ,Nat.reduceEqDiff,Nat.reduceAdd,↓reduceIte,reduceCtorEq]
  exact fun _=>bad _ (by simp) (by unfold sI;rw [decide_eq_false f1];rfl)
 have f1':(64 < (e.vs.length:Int))=False:=eq_false (by omega)
 by_cases f2:(e.cs.length:Int)≤8
 rotate_left
 ·have f2':(8 < (e.cs.length:Int))=True:=eq_true (by omega)
  simp +contextual only [aU,g1,Qn,P7,aw,gS,f1',f2',decide_true,decide_false,sZ,Nat.reduceEqDiff,Nat.reduceAdd,↓reduceIte,reduceCtorEq]
  exact fun _ _=>bad _ (by simp) (by unfold sI;rw [decide_eq_true f1,decide_eq_false f2];rfl)
 have f2':(8 < (e.cs.length:Int))=False:=eq_false (by omega)
 by_cases f3:e.a.k=2
 rotate_left
 ·simp +contextual only [aU,g1,Qn,P7,OD,aw,gS,f1',f2',f3,decide_true,decide_false,not_false_eq_true,sZ,Nat.reduceEqDiff,Nat.reduceAdd,↓reduceIte,reduceCtorEq]
  exact fun _ _=>bad _ (by simp) (by unfold sI;rw [decide_eq_true f1,decide_eq_true f2,decide_eq_false f3];rfl)
 have e0:sI s e=(!(e.vs.any (Fc s)) && (gA s e.vs e.a e.b && ((e.cs.all fun c=>gA s e.vs c.a c.b) && ((e.b::pf e.cs).all fun t=>(jT [t]).all fun v=>decide (v∈jT [e.a]))))):=by
  unfold sI;rw [decide_eq_true f1,decide_eq_true f2,decide_eq_true f3];rfl
 simp +contextual only [aU,g1,Qn,P7,OD,aw,gS,f1',f2',f3,decide_false,not_true_eq_false,sZ,Nat.reduceEqDiff,Nat.reduceAdd,↓reduceIte,reduceCtorEq]
 refine fun _ _=>ae (WG 216 [.ai s.av] rfl (by simp [aj,AV.aZ,Sg.kP]) (Fc s) e.vs fun x _=>abm s x) ?_
 cases f4:e.vs.any (Fc s) with
 | true=>
   simp +contextual only [sZ,Nat.reduceEqDiff,↓reduceIte,reduceCtorEq]
   exact bad _ (by simp) (by rw [e0,f4];rfl)
 | false=>
 rw [f4,Bool.not_false,Bool.true_and] at e0
 simp +contextual only [OD,Tg,sZ,Nat.reduceEqDiff,Nat.reduceAdd,↓reduceIte,reduceCtorEq]
 refine ae (XP s e e.a e.b) ?_
 cases f5:gA s e.vs e.a e.b with
 | false=>
   simp +contextual only [sZ,Nat.reduceEqDiff,↓reduceIte,reduceCtorEq]
   exact bad _ (by simp) (by rw [e0,f5];rfl)
 | true=>
 rw [f5,Bool.true_and] at e0
 have ta:e.a.tree=true:=by
  unfold gA at f5
  simp only [Bool.and_eq_true] at f5
  exact f5.1
 have tb:e.b.tree=true:=by
  unfold gA at f5
  simp only [Bool.and_eq_true] at f5
  exact f5.2.1
 have small (t:T) (h:t.tree=true):rp [t]≤1000000:=by
  have:=((T.ff t).1 h).1
  simp only [rp];omega
 simp +contextual only [OD,sZ,Nat.reduceEqDiff,Nat.reduceAdd,↓reduceIte]
 refine ae (We [e.a] (small _ ta)) ?_
 simp +contextual only [aw,sZ,Nat.reduceEqDiff,↓reduceIte]
 intro pP
 generalize hva:jT [e.a]=va at *
 refine aE va.length (fun i (w:List Int)=>∀ x,x∈w↔x∈va.take i) (fun i w=>[(3,.ai e.av),(5,.map H.length),(6,.fn (.func 217) [] [.ai s.av,.ai e.av]),(48,.ap 0 (ints va)),(49,.int .i64 va.length),(50,.int .i64 i)]) (fun i w=>H++[.map (ents w)]) [] ⟨by simp,aA _ _ _⟩ fun i w hi hw=>?_
 by_cases hl:i < va.length
 ·have f6:((i:Int) < va.length)=True:=eq_true (by omega)
  simp +contextual only [f6,hl,OT,sZ,Nat.reduceEqDiff,↓reduceIte]
  refine ⟨i + 1,Iq w (va.getD i 0),⟨hl,fun x=>?_⟩,by omega,aI (by rw [ax i (by omega)]) (by simp)⟩
  rw [Lt,hw,List.take_add_one,List.mem_append,List.getD_eq_getElem?_getD,List.getElem?_eq_getElem hl]
  simp
 have f6:((i:Int) < va.length)=False:=eq_false (by omega)
 rw [List.take_of_length_le (by omega)] at hw
 have e1:sI s e=((e.cs.all fun c=>gA s e.vs c.a c.b) && ((e.b::pf e.cs).all fun t=>(jT [t]).all fun v=>decide (v∈w))):=by
  rw [e0];simp only [hw]
 clear e0
 simp +contextual only [P7,Tg,gS,f6,sZ,Nat.reduceEqDiff,↓reduceIte]
 refine fun _=>aP e.cs.length (fun i=>∀ j,j < i→gA s e.vs (e.cs.getD j default).a (e.cs.getD j default).b=true) (fun i=>[(5,.map H.length),(6,.fn (.func 217) [] [.ai s.av,.ai e.av]),(9,.ap 3 (bW (e.b::pf (e.cs.take i)))),(61,.ap 0 (qX e.cs)),(62,.int .i64 e.cs.length),(63,.int .i64 i)]) (fun _=>H++[.map (ents w)]) ⟨fun j h=>by omega,aA _ _ _⟩ fun i hi hI=>?_
 by_cases hl:i < e.cs.length
 ·have f7:((i:Int) < e.cs.length)=True:=eq_true (by omega)
  obtain ⟨c1,c2,c3,c4,c5,c6⟩:=(e.cs.getD i default).facts
  simp +contextual only [c1,c2,c3,Yt,Yu,EY,AE,KN,f7,hl,sZ,Nat.reduceEqDiff,Nat.reduceAdd,↓reduceIte,reduceCtorEq]
  refine ae (XP s e _ _) ?_
  cases f8:gA s e.vs (e.cs.getD i default).a (e.cs.getD i default).b with
  | false=>
    simp +contextual only [sZ,Nat.reduceEqDiff,↓reduceIte,reduceCtorEq]
    refine bad _ (by simp) ?_
    have:(e.cs.all fun c=>gA s e.vs c.a c.b)=false:=List.all_eq_false.2 ⟨_,Ip hl,by rw [f8];simp⟩
    rw [e1,this];rfl
  | true=>
    simp +contextual only [Yt,Yu,kM,sZ,Nat.reduceEqDiff,Nat.reduceAdd,↓reduceIte]
    exact ⟨by rw [qY,List.length_take];omega,of_eq_true (EK [_,_]),i + 1,⟨hl,wK hI f8⟩,by omega,aI (by rw [ax i (by omega),C1 hl,← List.cons_append,AF];rfl) rfl⟩
 have f7:((i:Int) < e.cs.length)=False:=eq_false (by omega)
 rw [List.take_of_length_le (by omega)]
 have iI:(e.cs.all fun c=>gA s e.vs c.a c.b)=true:=List.all_eq_true.2 (rh fun j hj=>hI j (by omega))
 rw [iI,Bool.true_and] at e1
 have htr:∀ t∈e.b::pf e.cs,t.tree=true:=fun t ht=>by
  rcases List.mem_cons.1 ht with rfl | ht
  ·exact tb
  ·obtain ⟨c,hc,ht⟩:=List.mem_flatMap.1 ht
   have hp:=List.all_eq_true.1 iI c hc
   unfold gA at hp
   simp only [Bool.and_eq_true] at hp
   rcases List.mem_cons.1 ht with rfl | ht
   ·exact hp.1
   ·rw [List.mem_singleton.1 ht];exact hp.2.1
 have hlen:(e.b::pf e.cs).length≤100:=by rw [List.length_cons,qY];omega
 generalize e.b::pf e.cs=ts at *
 simp +contextual only [f7,sZ,Nat.reduceEqDiff,↓reduceIte]
 refine fun _=>aP ts.length (fun i=>∀ j,j < i→((jT [ts.getD j default]).all fun v=>decide (v∈w))=true) (fun i=>[(5,.map H.length),(82,.ap 0 (bW ts)),(83,.int .i64 ts.length),(84,.int .i64 i)]) (fun _=>H++[.map (ents w)]) ⟨fun j h=>by omega,aA _ _ _⟩ fun i hi hI=>?_
 by_cases hl:i < ts.length
 rotate_left
 ·have f8:((i:Int) < ts.length)=False:=eq_false (by omega)
  simp +contextual only [f8,sZ,Nat.reduceEqDiff,↓reduceIte,reduceCtorEq]
  have:(ts.all fun t=>(jT [t]).all fun v=>decide (v∈w))=true:=List.all_eq_true.2 (rh fun j hj=>hI j (by omega))
  refine aO H.length (Nat.le_refl _) (by rw [au,if_pos rfl];rfl) ⟨by rw [au,if_pos rfl,e1,this],by simp⟩
 have f8:((i:Int) < ts.length)=True:=eq_true (by omega)
 have hv:=We [ts.getD i default] (small _ (htr _ (Ip hl)))
 simp +contextual only [f8,hl,sZ,Nat.reduceEqDiff,Nat.reduceAdd,↓reduceIte]
 refine ae hv ?_
 have bad2 (h:((jT [ts.getD i default]).all fun v=>decide (v∈w))=false):sI s e=false:=by
  rw [e1];exact List.all_eq_false.2 ⟨_,Ip hl,by rw [h];simp⟩
 have good2 (h:((jT [ts.getD i default]).all fun v=>decide (v∈w))=true):=wK hI h
 generalize jT [ts.getD i default]=vt at *
 simp +contextual only [aw,sZ,Nat.reduceEqDiff,↓reduceIte]
 refine fun _=>aP vt.length (fun m=>∀ j,j < m→vt.getD j 0∈w) (fun m=>[(5,.map H.length),(82,.ap 0 (bW ts)),(83,.int .i64 ts.length),(84,.int .i64 i),(90,.ap 0 (ints vt)),(91,.int .i64 vt.length),(92,.int .i64 m)]) (fun _=>H++[.map (ents w)]) ⟨fun j h=>by omega,aA _ _ _⟩ fun m hm hM=>?_
 by_cases Te:m < vt.length
 ·have f9:((m:Int) < vt.length)=True:=eq_true (by omega)
  by_cases Ds:vt.getD m 0∈w
  ·simp +contextual only [f9,Te,Al,Ds,decide_true,sZ,Nat.reduceEqDiff,↓reduceIte]
   exact ⟨m + 1,⟨Te,wK hM Ds⟩,by omega,aI (by rw [ax m (by omega)]) rfl⟩
  ·simp +contextual only [f9,Te,Al,Ds,decide_false,sZ,Nat.reduceEqDiff,↓reduceIte,reduceCtorEq]
   exact bad _ (by simp) (bad2 (List.all_eq_false.2 ⟨_,aN Te,by simpa using Ds⟩))
 ·have f9:((m:Int) < vt.length)=False:=eq_false (by omega)
  have Yv:(vt.all fun v=>decide (v∈w))=true:=List.all_eq_true.2 fun v hv=>by
   obtain ⟨j,hj,rfl⟩:=List.getElem_of_mem hv
   have:=hM j (by omega)
   rw [List.getD_eq_getElem?_getD,List.getElem?_eq_getElem hj] at this
   exact decide_eq_true this
  simp +contextual only [f9,sZ,Nat.reduceEqDiff,↓reduceIte]
  exact ⟨i + 1,⟨hl,good2 Yv⟩,by omega,aI (by rw [ax i (by omega)]) rfl⟩
end Go.aH
end
section
set_option maxRecDepth 100000
set_option maxHeartbeats 1000000
namespace Go.aH
open Go Go.Proofs Go.fm
theorem abo (t:Ty) (e:gv):Pure Tryz.prog 180 ([e.av]++[.ai t.av]) (.bool (!sI t.s e)):=by
 refine fun H=>MJ.2.calls rfl ?_
 simp only [MJ,aJ]
 obtain ⟨e1,e2,e3,e4,e5,e6⟩:=Ty.facts t
 obtain ⟨g1,g2,g3,g4,g5,g6⟩:=e.facts
 simp +contextual only [aU,g1,g4,A8,wy,sZ,Nat.reduceEqDiff,Nat.reduceAdd,↓reduceIte,reduceCtorEq]
 refine ae (abn t.s e) ?_
 simp +contextual only [sZ,↓reduceIte,reduceCtorEq]
 exact bh rfl rfl
theorem XQ (g:Nat) (cap:List AV) (b9:cap.map AV.ab=cap) (p:gv→Bool) (l:List gv) (hf:∀ x∈l,Pure Tryz.prog g ([x.av]++cap) (.bool (p x))):Pure Tryz.prog 161 [.ap 0 (bV l),.fn (.func g) [] cap] (.int .i64 (kc p l 0)):=by
 refine fun H=>Hk.2.calls rfl ?_
 simp only [Hk,aJ]
 simp +contextual only [cQ,sZ,Nat.reduceEqDiff,Nat.reduceAdd,↓reduceIte,reduceCtorEq]
 intro hl
 refine aP l.length (fun i=>kc p (l.drop i) i=kc p l 0) (fun i=>[(0,.ap 0 (bV l)),(1,.fn (.func g) [] cap),(7,.int .i64 l.length),(8,.int .i64 i)]) (fun _=>H) ⟨rfl,aA _ _ _⟩ fun i hi hI=>?_
 obtain ⟨e1,e2,e3,e4,e5,e6⟩:=gv.facts (l.getD i default)
 simp +contextual only [b9,iG,idx_eq,wy,e4,sZ,Nat.reduceEqDiff,Nat.reduceAdd,↓reduceIte,reduceCtorEq]
 refine ⟨fun aX=>?_,fun jh=>?_⟩
 ·have aX:=bS aX
  rw [sE aX] at hI
  refine ⟨aX,ae (hf _ (Ip aX)) ?_⟩
  cases hb:p (l.getD i default) with
  | true=>
    rw [if_pos hb] at hI
    simp +contextual only [sZ,Nat.reduceEqDiff,↓reduceIte,reduceCtorEq]
    exact bh rfl (by rw [← hI])
  | false=>
    rw [if_neg (by rw [hb];simp)] at hI
    simp +contextual only [sZ,Nat.reduceEqDiff,↓reduceIte,reduceCtorEq]
    exact ⟨i + 1,⟨aX,hI⟩,by omega,aI (by rw [ax i (by omega)]) rfl⟩
 ·rw [List.drop_of_length_le (dd jh)] at hI
  exact bh rfl (by rw [← hI];rfl)
theorem abp (g:Nat) (cap:List AV) (b9:cap.map AV.ab=cap) (p:gv→Bool) (l:List gv) (hf:∀ x∈l,Pure Tryz.prog g ([x.av]++cap) (.bool (p x))):Pure Tryz.prog 179 [.ap 0 (bV l),.fn (.func g) [] cap] (.bool (l.any p)):=by
 refine fun H=>MH.2.calls rfl ?_
 simp only [MH,aJ]
 simp +contextual only [sZ,Nat.reduceEqDiff,Nat.reduceAdd,↓reduceIte,reduceCtorEq]
 refine ae (XQ g cap b9 p l hf) ?_
 simp +contextual only [sZ,↓reduceIte,reduceCtorEq]
 refine bh rfl ?_
 congr 1
 rw [Bool.eq_iff_iff,List.any_eq_true]
 simpa using oL l 0
def OU (t:Ty):Bool:=m9 t.s && (decide ((t.es.length:Int)≤400) && t.es.all (sI t.s))
theorem abq (t:Ty):Pure Tryz.prog 126 [t.av] (.bool (OU t)):=by
 refine fun H=>MA.2.calls rfl ?_
 simp only [MA,aJ]
 obtain ⟨e1,e2,e3,e4,e5,e6⟩:=Ty.facts t
 simp +contextual only [aU,e1,A8,sZ,Nat.reduceEqDiff,Nat.reduceAdd,↓reduceIte]
 refine ae (c81 t.s) ?_
 cases h:m9 t.s with
 | false=>
   rw [if_neg (by simp)]
   simp +contextual only [sZ,Nat.reduceEqDiff,↓reduceIte,reduceCtorEq,Int.reduceEq]
   exact bh rfl (by rw [OU,h];rfl)
 | true=>
 rw [if_pos rfl]
 by_cases h2:(t.es.length:Int)≤400
 ·have f:(400 < (t.es.length:Int))=False:=eq_false (by omega)
  simp +contextual only [LV,cQ,f,decide_false,sZ,Nat.reduceEqDiff,Nat.reduceAdd,↓reduceIte]
  refine fun _=>ae (abp 180 [.ai t.av] rfl _ t.es fun x _=>abo t x) ?_
  simp +contextual only [sZ,↓reduceIte,reduceCtorEq]
  refine bh rfl ?_
  rw [OU,h,decide_eq_true h2]
  congr 1
  rw [Bool.eq_iff_iff]
  simp
 ·have f:(400 < (t.es.length:Int))=True:=eq_true (by omega)
  simp +contextual only [LV,cQ,f,decide_true,sZ,Nat.reduceEqDiff,↓reduceIte,reduceCtorEq]
  exact fun _=>bh rfl (by rw [OU,h,decide_eq_false h2];rfl)
def wL (t:Ty):Int:=if OU t=true then 0 else 5
theorem c62 (t:Ty):Pure Tryz.prog 62 [t.av] (.int .i64 (wL t)):=by
 refine fun H=>Yh.2.calls rfl ?_
 simp only [Yh,aJ]
 obtain ⟨e1,e2,e3,e4,e5,e6⟩:=Ty.facts t
 simp +contextual only [e1,e4,eU,sZ,Nat.reduceEqDiff,Nat.reduceAdd,↓reduceIte]
 refine ae (abq t) ?_
 cases h:OU t with
 | true=>simp +contextual only [sZ,↓reduceIte,reduceCtorEq];exact bh rfl (by rw [wL,h];rfl)
 | false=>simp +contextual only [sZ,↓reduceIte,reduceCtorEq];exact bh rfl (by rw [wL,h];rfl)
theorem AZ {s:Sg} {vs:List Int}:∀ (N:Nat) (t:T),wt t≤N→t.shaped=true→(tK s vs t).isSome=true→um (fun n=>0≤n∧n < s.ops.length) t
 | 0,t,h,_,_=>by have:=gg t;omega
 | N + 1,.mk k n l,h,hs,ho=>by
   have hk:=(kw hs).2
   have hn:0≤n:=by
    rw [T.dX] at hs
    simp only [Bool.and_eq_true,Bool.not_eq_true',Bool.or_eq_false_iff,decide_eq_false_iff_not] at hs
    exact Int.not_lt.1 hs.1.1.1.1
   simp only [tK] at ho
   by_cases Kx:k=1
   ·subst Kx
    have Dq:l=[]:=by
     rw [T.dX] at hs
     simp only [Bool.and_eq_true,Bool.not_eq_true',Bool.or_eq_false_iff,Bool.and_eq_false_iff,decide_eq_false_iff_not] at hs
     rcases hs.1.1.1.2 with h | h
     ·exact absurd rfl h
     ·exact List.length_eq_zero_iff.1 (Nat.eq_zero_of_not_pos h)
    subst Dq
    exact .mk _ _ _ (fun h=>absurd h (by decide)) (fun x hx=>by cases hx)
   ·rw [if_neg Kx] at ho
    split at ho
    ·cases ho
    ·rename_i h1
     split at ho
     ·rename_i h2
      have key:∀ (l:List T) (a:List Int),Lr s vs l a=true→∀ x∈l,(tK s vs x).isSome=true:=by
       intro l
       induction l with
       | nil=>intro a _ x hx;cases hx
       | cons y r Fz=>
         intro a h x hx
         simp only [Lr,Bool.and_eq_true,decide_eq_true_eq] at h
         rcases List.mem_cons.1 hx with rfl | hx
         ·rw [h.1];rfl
         ·exact Fz _ h.2 x hx
      exact .mk _ _ _ (fun _=>⟨hn,by omega⟩) (fun x hx=>AZ N x (by have:=cK (a:=.mk k n l) hx;omega) (hk x hx) (key l _ h2 x hx))
     ·cases ho
theorem Qo {t:Ty} (h:wL t=0):xw t:=by
 unfold wL at h
 split at h
 ·rename_i hb
  unfold OU at hb
  simp only [Bool.and_eq_true,decide_eq_true_eq] at hb
  obtain ⟨h1,h2,h3⟩:=hb
  refine ⟨?_,fun e he ps oV=>?_⟩
  ·unfold m9 at h1
   simp only [Bool.and_eq_true,decide_eq_true_eq] at h1
   omega
  ·have:=List.all_eq_true.1 h3 e he
   unfold sI at this
   simp only [Bool.and_eq_true,decide_eq_true_eq] at this
   obtain ⟨_,j2,_,_,j5,j6,_⟩:=this
   have two:∀ a b:T,gA t.s e.vs a b=true→(a.tree=true∧um (fun n=>0≤n∧n < ps.length) a)∧b.tree=true∧um (fun n=>0≤n∧n < ps.length) b:=fun a b hp=>by
    unfold gA at hp
    simp only [Bool.and_eq_true] at hp
    rw [oV]
    exact ⟨⟨hp.1,AZ _ a (Nat.le_refl _) ((T.ff a).1 hp.1).2.2 hp.2.2.1⟩,hp.2.1,AZ _ b (Nat.le_refl _) ((T.ff b).1 hp.2.1).2.2 hp.2.2.2.1⟩
   have all (x:T) (hx:x∈e.a::e.rest):x.tree=true∧um (fun n=>0≤n∧n < ps.length) x:=by
    rcases List.mem_cons.1 hx with rfl | hx
    ·exact (two _ _ j5).1
    ·rcases List.mem_cons.1 hx with rfl | hx
     ·exact (two _ _ j5).2
     ·obtain ⟨c,hc,hx⟩:=List.mem_flatMap.1 hx
      have hp:=two _ _ (List.all_eq_true.1 j6 c hc)
      rcases List.mem_cons.1 hx with rfl | hx
      ·exact hp.1
      ·rw [List.mem_singleton.1 hx];exact hp.2
   exact ⟨by omega,fun x hx=>(all x hx).1,fun x hx=>(all x hx).2⟩
 ·cases h
end Go.aH
end
section
set_option maxRecDepth 100000
set_option maxHeartbeats 0
namespace Go.aH
open Go Go.Proofs
noncomputable def XR:=aJ Tryz.call46 Tryz.func46 Tryz.ntmps46 [(5,6,2),(7,0,3008)] [(0,[0,1,2]),(1,[0,1,2]),(2,[0,1,2,16]),(3,[6]),(4,[0,1,2,7]),(5,[0,7]),(6,[0]),(7,[6])] [(5,(.take 0 true (.take 1 true (.take 2 true (.take 3 true (.take 4 true (.take 5 true (.br 6 (.take 7 true .done) .nil))))))))]
noncomputable def XS:=aJ Tryz.call47 Tryz.func47 Tryz.ntmps47 [(3,0,2),(3,2,2)] [(0,[0]),(1,[0,4]),(2,[2]),(3,[2])] []
end Go.aH
end
section
set_option maxRecDepth 100000
set_option maxHeartbeats 1000000
namespace Go.aH
open Go Go.Proofs Go.fm
section
variable {e id i n cap:Nat}
theorem gl3 (h:i < n) (hc:n≤cap) (φ:AV→Prop):aV e (.a8 id 0 n cap) (some (.int .i64 (i:Int))) (some (.int .i64 ((i:Int) + 1))) (some (.int .i64 (n:Int))) φ=φ (.a8 id (if n=i then 0 else 0 + i * e) ((i + 1) - i) (n - i)):=by
 have e1:((i:Int) + 1).toNat=i + 1:=by omega
 simp only [aV,lQ,dx,Int.toNat_natCast,Option.isSome_some,true_and,e1,eq_iff_iff]
 constructor
 ·rintro ⟨_,_,_,h⟩;exact h.2.2.2
 ·exact fun k=>⟨by omega,by omega,by omega,by omega,by omega,by omega,k⟩
theorem abr (hc:i≤cap) (φ:AV→Prop):aV e (.a8 id 0 n cap) none (some (.int .i64 (i:Int))) none φ=φ (.a8 id 0 i cap):=by
 have e:(if cap=0 then 0 else 0 + 0 * e)=0:=by split <;> simp
 simp only [aV,eO,dx,Int.toNat_natCast,e,Nat.sub_zero,eq_iff_iff]
 constructor
 ·rintro ⟨_,h⟩;exact h.2.2
 ·exact fun k=>⟨by omega,by omega,hc,k⟩
theorem abt (h:i + 1≤n) (hc:n≤cap) (φ:AV→Prop):aV e (.a8 id 0 n cap) (some (.int .i64 ((i:Int) + 1))) none none φ=φ (.a8 id (if cap=i + 1 then 0 else 0 + (i + 1) * e) (n - (i + 1)) (cap - (i + 1))):=by
 have e1:((i:Int) + 1).toNat=i + 1:=by omega
 simp only [aV,eO,dx,e1,eq_iff_iff]
 constructor
 ·rintro ⟨_,h⟩;exact h.2.2
 ·exact fun k=>⟨by omega,h,hc,k⟩
theorem abu {l h:Nat} (hl:l < h) (hc:h≤cap) (φ:AV→Prop):aV e (.a8 id 0 n cap) (some (.int .i64 (l:Int))) (some (.int .i64 (h:Int))) none φ=φ (.a8 id (l * e) (h - l) (cap - l)):=by
 have e:(if cap=l then 0 else 0 + l * e)=l * e:=by rw [if_neg (by omega)];omega
 simp only [aV,eO,dx,Int.toNat_natCast,e,eq_iff_iff]
 constructor
 ·rintro ⟨_,_,h⟩;exact h.2.2
 ·exact fun k=>⟨by omega,by omega,by omega,hc,k⟩
end
def zE:AV:=.agg [.ah,.ah,.int .i64 0,.int .i64 0,.ah,.int .i64 0,.int .i64 0,.ah]
theorem Fe:iz 8 (bL zE):=⟨rfl,rfl,rfl,rfl⟩
theorem A0 (l:List gv):∀ x∈bV l,iz 8 x:=by
 intro x hx
 obtain ⟨e,_,rfl⟩:=List.mem_map.1 hx
 exact ⟨rfl,rfl,by simp [gv.av,AV.cells,dI,aY,C0,bG,cZ,gb,b8],rfl⟩
theorem c47 (l:List gv) (eM:l≠[]) (hb:l.length≤100000) (H:List aa):aq Tryz.prog 47 [.ap 0 (bV l)] H fun r H'=>∃ id cap,H.length≤id∧r=.a8 id 0 l.length cap∧H'[id]?=some (bc zE (bV l) cap)∧l.length≤cap∧H'.take H.length=H∧H.length≤H'.length:=by
 refine XS.2.calls rfl ?_
 simp only [XS,aJ]
 cases l with
 | nil=>exact absurd rfl eM
 | cons v r=>
   simp +contextual only [bV,List.map_cons,Dh,qF,pW,sZ,Nat.reduceEqDiff,Nat.reduceAdd,↓reduceIte,reduceCtorEq]
   refine ⟨rfl,Ar (z:=zE) Fe (by simp [flat]) (bV (v::r)) (by simp [bV]) (A0 _) (by rw [cQ];omega) (base:=H.length) (by simp) fun v' G' hR hG hl=>?_⟩
   obtain ⟨o1,o2,o3,o4⟩:=hR.one
   simp +contextual only [o3,sZ,↓reduceIte,reduceCtorEq]
   have xb:H.length≤G'.length:=by simp at hl;omega
   refine aO G'.length xb (by rw [au,if_pos rfl];exact hR.aZ (Nat.le_refl _)) ?_
   rw [au,if_pos rfl,List.take_length]
   rcases hR with ⟨h,_⟩ | ⟨id,cap,a,b,c,d,_⟩
   ·cases h
   ·rw [cQ] at b d;exact ⟨id,cap,a,b,c,d,by rw [hG];simp,xb⟩
theorem yU (l:List gv):(flat (bV l)).length=l.length * 8:=by
 rw [(iz.flat (A0 l)).1,cQ]
theorem Gv (A B:List gv):flat (bV (A++B))=flat (bV A)++flat (bV B):=by
 rw [bV,List.map_append,← bV,← bV,jQ]
theorem c46 (P S:List gv) (a:gv) (id cap:Nat) (b9:P.length + 1 + S.length≤cap) (hb:P.length + 1 + S.length≤100000) {H:List aa} (hg:H[id]?=some (bc zE (bV (P++a::S)) cap)) :
 aq Tryz.prog 46 [.a8 id 0 (P.length + 1 + S.length) cap,.int .i64 P.length,.int .i64 ((P.length:Int) + 1)] H fun r H'=>r=.ap 0 (bV (P++S))∧∃ o,H'=H.set id o:=by
 refine XR.2.calls rfl ?_
 simp only [XR,aJ]
 have ne:((P.length:Int)=(P.length:Int) + 1)=False:=eq_false (by omega)
 have nr:=aK hg
 have s1:=fun φ=>gl3 (e:=8) (id:=id) (i:=P.length) (n:=P.length + 1 + S.length) (cap:=cap) (by omega) (by omega) φ
 have s2:=fun φ=>abr (e:=8) (id:=id) (i:=P.length) (n:=P.length + 1 + S.length) (cap:=cap) (by omega) φ
 have s3':=fun φ=>abt (e:=8) (id:=id) (i:=P.length) (n:=P.length + 1 + S.length) (cap:=cap) (by omega) (by omega) φ
 have un:∀ a b c d,(AV.a8 a b c d).ab=.a8 a b c d:=fun _ _ _ _=>rfl
 have ox1:∀ (env:Env) (i:IX),fY env (some i)=some (al env i):=fun _ _=>rfl
 have ox2:∀ (env:Env),fY env none=none:=fun _=>rfl
 have s4:=fun φ=>abu (e:=8) (id:=id) (l:=P.length + S.length) (h:=P.length + 1 + S.length) (n:=P.length + S.length) (cap:=cap) (by omega) (by omega) φ
 simp +contextual only [Option.map_some,Option.map_none,ox1,s1,s2,s3',ne,decide_false,un,sZ,Nat.reduceEqDiff,Nat.reduceAdd,↓reduceIte,reduceCtorEq]
 have hnone:∀ a b c d,dw (AV.a8 a b c d)=none:=fun _ _ _ _=>rfl
 have e0:P.length + 1 + S.length - (P.length + 1)=S.length:=by omega
 have Pb:(bV (P++a::S)).length=P.length + 1 + S.length:=by rw [cQ,List.length_append,List.length_cons];omega
 have wP:flat (bV (P++a::S))=flat (bV P)++(a.av.cells++flat (bV S)):=by
  rw [Gv];rfl
 have lP:=yU P
 have lS:=yU S
 have lA:a.av.cells.length=8:=rfl
 have fS:=iz.flat (A0 S)
 have lpad:(ch zE (cap - (P.length + 1 + S.length))).length=(cap - (P.length + 1 + S.length)) * 8:=by
  rw [nR Fe]
 have Y7:H[id]?=some (.cells (flat (bV P)++(a.av.cells++flat (bV S))++ch zE (cap - (P.length + 1 + S.length)))):=by
  rw [hg,bc,Pb,wP]
 generalize hpd:ch zE (cap - (P.length + 1 + S.length))=pad at *
 generalize hX:a.av.cells=X at *
 unfold cD
 simp only [hnone,uQ,Y7,e0]
 generalize hA:flat (bV P)=A at *
 generalize hB:flat (bV S)=B at *
 have htl:(A++(X++B)++pad).length=P.length * 8 + (8 + S.length * 8) + (cap - (P.length + 1 + S.length)) * 8:=by
  simp only [List.length_append,lP,lA,lS,lpad]
 have mW:(if cap=P.length + 1 then 0 else 0 + (P.length + 1) * 8) + S.length * 8≤(A++(X++B)++pad).length:=by rw [htl];split <;> omega
 have htake:List.take (S.length * 8) (List.drop (if cap=P.length + 1 then 0 else 0 + (P.length + 1) * 8) (A++(X++B)++pad))=B:=by
  by_cases hc:cap=P.length + 1
  ·have h0:S.length=0:=by omega
   have:B=[]:=List.length_eq_zero_iff.1 (by rw [lS,h0])
   rw [h0,this];simp
  ·rw [if_neg hc,show A++(X++B)++pad=(A++X)++(B++pad) by simp,List.drop_left' (by rw [List.length_append,lP,lA];omega)];exact List.take_left' lS
 rw [if_pos mW]
 simp only [Y7,htake,fS.2.1,fS.2.2.1,fS.2.2.2]
 refine ⟨?_,trivial,by omega,by rw [htl];omega,trivial,?_⟩
 ·rw [List.length_drop];omega
 obtain ⟨Y,hY,lY⟩:∃ Y,(X++B).drop (S.length * 8)=Y∧Y.length=8:=⟨_,rfl,by rw [List.length_drop,List.length_append,lA,lS];omega⟩
 have e1:ag (A++(X++B)++pad) (0 + P.length * 8) B=A++B++(Y++pad):=by
  unfold ag
  rw [Nat.zero_add,lS,List.append_assoc,List.take_left' lP,← List.drop_drop,List.drop_left' lP,List.drop_append_of_le_length (by rw [List.length_append,lA,lS];omega),hY,List.append_assoc]
 rw [e1]
 have gs:∀ o,(H.set id o)[id]?=some o:=fun o=>List.getElem?_set_self nr
 have e2:P.length + 1 + S.length - (P.length + S.length)=1:=by omega
 simp +contextual only [ox1,ox2,s4,un,e2,yh,sZ,Nat.reduceEqDiff,↓reduceIte,reduceCtorEq]
 unfold gK
 have z1:(ch zE 1).length=8:=rfl
 have z2:(ch zE 1).map AV.ab=ch zE 1:=rfl
 have lAB:(A++B).length=(P.length + S.length) * 8:=by rw [List.length_append,lP,lS];omega
 simp only [gs]
 have e3:ag (A++B++(Y++pad)) ((P.length + S.length) * 8) (List.map AV.ab (ch zE 1))=A++B++(ch zE 1++pad):=by
  unfold ag
  rw [z2,z1,List.take_left' lAB,← List.drop_drop,List.drop_left' lAB,List.drop_left' lY,List.append_assoc]
 refine ⟨by rw [List.length_append,lAB,List.length_append,lY];omega,rfl,rfl,?_⟩
 rw [List.set_set]
 have e4:=e3
 unfold zE at e4
 rw [e4]
 have j4:aa.cells (A++B++(ch zE 1++pad))=bc zE (bV (P++S)) cap:=by
  unfold bc
  have h1:(bV (P++S)).length=P.length + S.length:=by rw [cQ,List.length_append]
  have h2:ch zE (cap - (P.length + S.length))=ch zE 1++pad:=by
   rw [← hpd,show cap - (P.length + S.length)=1 + (cap - (P.length + 1 + S.length)) by omega]
   unfold ch
   rw [← List.replicate_append_replicate,jQ]
  rw [h1,h2,Gv,hA,hB]
 have Qp:=j4
 unfold zE at Qp
 rw [Qp]
 simp +contextual only [sZ,↓reduceIte,reduceCtorEq]
 have h1:P.length + S.length=(bV (P++S)).length:=by rw [cQ,List.length_append]
 rw [h1]
 have es:∀ a b c d G K,eR 8 (.a8 a b c d) G K=dC 8 (.a8 a b c d) G K:=fun a b c d G K=>by simp only [eR]
 rw [es]
 refine qH (by decide) Fe (A0 _) (fun x hx=>?_) (cap:=cap) (by rw [List.getElem?_set_self nr];rfl) (by rw [← h1];omega) ?_
 ·obtain ⟨y,_,rfl⟩:=List.mem_map.1 hx;rfl
 rw [List.set_set]
 simp +contextual only [sZ,↓reduceIte,reduceCtorEq]
 refine aO H.length (Nat.le_refl _) (by rw [au,if_pos rfl,b8];exact wx _ _) ⟨by rw [au,if_pos rfl],_,List.take_of_length_le (by rw [List.length_set];exact Nat.le_refl _)⟩
end Go.aH
end
section
set_option maxRecDepth 100000
set_option maxHeartbeats 1000000
namespace Go.aH
open Go Go.Proofs Go.fm
theorem ri (b:Nat) (vs:List T) (n m:T) (o:Nat) (ψ:List AV→Prop):bp 3 b (sl vs) (.ap o [n.av,m.av]) ψ=((vs.length + 2) * b≤140737488355328∧ψ (bW (vs++[n,m]))):=by
 have jr:sR 3 [n.av,m.av]=True:=EK [n,m]
 cases vs with
 | nil=>simp only [sl,mj,jr];simp [bW]
 | cons v r=>
   show bp 3 b (.ap 3 (bW (v::r))) _ ψ=_
   rw [kM,jr,qI,show bW (v::r)++[n.av,m.av]=bW ((v::r)++[n,m]) from (AF (v::r) [n,m]).symm]
   simp
theorem Gw (vs:List T) (n m:T):AV.ap 3 (bW (vs++[n,m]))=sl (vs++[n,m]):=by cases vs <;> rfl
theorem c30 (t:Ty) (H:List aa):aq Tryz.prog 30 [t.av] H fun r H'=>(∃ b,r=.bool b)∧H'=H:=by
 refine k30.2.calls rfl ?_
 simp only [k30,aJ]
 obtain ⟨e1,e2,e3,e4,e5,e6⟩:=Ty.facts t
 have fin (G:List aa) (hG:G.take H.length=H) (b:Bool):bR H.length [.t 2] [(2,.bool b)] G fun r H'=>(∃ b,r=.bool b)∧H'=H:=
  aO H.length (Nat.le_refl _) (by rw [au,if_pos rfl];rfl) ⟨⟨b,by rw [au,if_pos rfl]⟩,hG⟩
 by_cases h1:(30:Int) < t.es.length
 ·have f:((30:Int) < t.es.length)=True:=eq_true h1
  simp +contextual only [e1,LV,cQ,f,sZ,Nat.reduceEqDiff,Nat.reduceAdd,↓reduceIte,reduceCtorEq]
  exact fun _=>fin _ (by simp) _
 have f:((30:Int) < t.es.length)=False:=eq_false h1
 simp +contextual only [e1,LV,cQ,f,sZ,Nat.reduceEqDiff,Nat.reduceAdd,↓reduceIte]
 refine fun _=>aE t.es.length (fun i (l:List T)=>l.length≤42 * i) (fun i l=>[(1,.ai t.av),(3,sl l),(13,.ap 0 (bV t.es)),(14,.int .i64 t.es.length),(15,.int .i64 i)]) (fun _ _=>H) [] ⟨by simp,aA _ _ _⟩ fun i l hi hI=>?_
 by_cases hl:i < t.es.length
 rotate_left
 ·have f1:((i:Int) < t.es.length)=False:=eq_false (by omega)
  simp +contextual only [aU,A8,f1,sZ,Nat.reduceEqDiff,Nat.reduceAdd,↓reduceIte]
  refine B3 (c18 t.s [] [] H) (ys:=[t.s.av,gn [] []]) ⟨.inl rfl,.inr (.inr (.inr (.inr ⟨_,rfl,rfl⟩))),trivial⟩ ?_
  rintro r G ⟨⟨b,rfl,_⟩,rfl⟩
  cases b with
  | false=>simp +contextual only [sZ,Nat.reduceEqDiff,↓reduceIte,reduceCtorEq];exact fin _ (by simp) _
  | true=>
    have e7:(sl l).ab.ab.le (.ap 0 (bW l)):=by cases l with | nil=>exact .inr (.inr (.inr (.inl ⟨rfl,0,rfl⟩))) | cons x r=>exact .inl rfl
    simp +contextual only [sZ,Nat.reduceEqDiff,Nat.reduceAdd,↓reduceIte]
    refine B3 (c19 600 l G) (ys:=[.int .i64 600,.ap 0 (bW l)]) ⟨.inl rfl,e7,trivial⟩ ?_
    rintro r G2 ⟨⟨b,rfl⟩,rfl⟩
    simp +contextual only [sZ,Nat.reduceEqDiff,↓reduceIte,reduceCtorEq]
    exact fin _ (by simp) _
 have f1:((i:Int) < t.es.length)=True:=eq_true (by omega)
 obtain ⟨q,hq⟩:∃ q,t.es.getD i default=q:=⟨_,rfl⟩
 obtain ⟨g1,g2,g3,g4,g5,g6⟩:=q.facts
 by_cases h2:(20:Int) < q.cs.length
 ·have f2:((20:Int) < q.cs.length)=True:=eq_true h2
  simp +contextual only [g1,g2,g3,iG,idx_eq,wy,OD,Tg,P7,hq,f1,f2,hl,gS,ri,Gw,decide_true,sZ,Nat.reduceEqDiff,↓reduceIte,reduceCtorEq]
  exact ⟨by omega,fun _=>fin _ (by simp) _⟩
 have f2:((20:Int) < q.cs.length)=False:=eq_false h2
 by_cases h3:(100:Int) < q.vs.length
 ·have f3:((100:Int) < q.vs.length)=True:=eq_true h3
  simp +contextual only [g1,g2,g3,iG,idx_eq,wy,OD,Tg,P7,Qn,hq,f1,f2,f3,hl,aw,gS,ri,Gw,decide_true,decide_false,sZ,Nat.reduceEqDiff,↓reduceIte,reduceCtorEq]
  exact ⟨by omega,fun _ _=>fin _ (by simp) _⟩
 have f3:((100:Int) < q.vs.length)=False:=eq_false h3
 simp +contextual only [g1,g2,g3,iG,idx_eq,wy,OD,Tg,P7,Qn,hq,f1,f2,f3,hl,aw,gS,ri,Gw,decide_false,sZ,Nat.reduceEqDiff,↓reduceIte]
 refine ⟨by omega,fun _ _=>aE q.cs.length (fun k (m:List T)=>m.length≤42 * i + 2 + 2 * k) (fun k m=>[(1,.ai t.av),(3,sl m),(13,.ap 0 (bV t.es)),(14,.int .i64 t.es.length),(15,.int .i64 i),(37,.ap 0 (qX q.cs)),(38,.int .i64 q.cs.length),(39,.int .i64 k)]) (fun _ _=>H) (l++[q.a,q.b]) ⟨by rw [List.length_append];show l.length + 2≤_;omega,aA _ _ _⟩ fun k m hk hK=>?_⟩
 by_cases Bw:k < q.cs.length
 ·have f4:((k:Int) < q.cs.length)=True:=eq_true (by omega)
  obtain ⟨c1,c2,c3,c4,c5,c6⟩:=(q.cs.getD k default).facts
  simp +contextual only [c1,c2,c3,Yt,Yu,EY,AE,KN,f4,Bw,ri,Gw,sZ,Nat.reduceEqDiff,↓reduceIte]
  exact ⟨by omega,k + 1,m++[(q.cs.getD k default).a,(q.cs.getD k default).b],⟨Bw,by rw [List.length_append];show m.length + 2≤_;omega⟩,by omega,aI (by rw [ax k (by omega)]) rfl⟩
 ·have f4:((k:Int) < q.cs.length)=False:=eq_false (by omega)
  simp +contextual only [f4,sZ,Nat.reduceEqDiff,↓reduceIte]
  exact ⟨i + 1,m,⟨hl,by omega⟩,by omega,aI (by rw [ax i (by omega)]) rfl⟩
end Go.aH
end
section
set_option maxRecDepth 100000
set_option maxHeartbeats 0
namespace Go.aH
open Go Go.Proofs
noncomputable def k9v:=aJ Tryz.call9 Tryz.func9 Tryz.ntmps9 [(0,0,1),(0,1,1),(15,4,2000),(15,8,2000)] [(0,[2,3,4]),(1,[2,3,4,12]),(2,[6]),(3,[2,3,4,22]),(4,[6]),(5,[2,3,4,7,8,9]),(6,[2,3,4,7,8,31]),(7,[6]),(8,[2,3,4,7,8,55]),(9,[6]),(10,[2,3,4,7,56]),(11,[3,4,7,10]),(12,[6]),(13,[2,3,4,93]),(14,[6]),(15,[6])] [(11,(.take 0 true (.take 1 true (.take 2 true (.take 3 true (.take 4 true (.take 5 true (.take 6 true (.take 7 true (.take 8 true (.take 9 true (.take 10 true (.br 11 (.br 12 .done .nil) .nil))))))))))))),(12,(.take 0 true (.take 1 true (.take 2 true (.take 3 true (.take 4 true (.take 5 true (.take 6 true (.take 7 true (.take 8 true (.take 9 true (.take 10 true (.take 11 true (.take 12 true (.take 13 true (.take 14 true (.take 15 true (.take 16 true (.take 17 true .done))))))))))))))))))),(15,(.take 2 true (.take 3 true (.take 0 false (.take 1 false (.take 5 false (.take 6 false (.take 7 false (.take 10 false (.br 4 (.br 8 (.take 9 true (.take 11 true (.take 12 true (.take 13 true .done)))) .nil) .nil))))))))))]
end Go.aH
end
section
set_option maxRecDepth 100000
set_option maxHeartbeats 4000000
namespace Go.aH
open Go Go.Proofs Go.fm
theorem Ff {t:Ty} (h:wL t=0) {l:List gv} (hl:∀ e∈l,e∈t.es) (hn:l.length≤t.es.length):wL ⟨t.s,l⟩=0:=by
 unfold wL at *
 split at h
 ·rename_i hb
  rw [if_pos]
  unfold OU at *
  simp only [Bool.and_eq_true,decide_eq_true_eq,List.all_eq_true] at *
  exact ⟨hb.1,by omega,fun e he=>hb.2.2 e (hl e he)⟩
 ·cases h
theorem uA {t:Ty} {ps ss:List Int} (h:wL t=0) (ho:je t.s ps ss=0):AU (wL t) t ps ss=if 0≤fD t ps ss then 60 else 0:=by
 have hb:jY (wL t) t ps ss=(max (fD t ps ss) 0,decide (0≤fD t ps ss),0):=by
  unfold jY;rw [if_neg (by omega),if_neg (by omega)]
 unfold AU
 rw [hb]
 by_cases c:0≤fD t ps ss <;> simp [c]
theorem Gx {α:Type} [Inhabited α] {p:α→Bool}:∀ (l:List α) (i:Nat),0≤kc p l i→∃ n,n < l.length∧kc p l i=((i + n:Nat):Int)∧p (l.getD n default)=true∧∀ j,j < n→p (l.getD j default)=false
 | [],i,h=>by simp [kc] at h
 | x::r,i,h=>by
   simp only [kc] at h ⊢
   by_cases hp:p x=true
   ·rw [if_pos hp] at h ⊢
    exact ⟨0,by simp,by simp,hp,fun j hj=>absurd hj (Nat.not_lt_zero _)⟩
   ·rw [if_neg hp] at h ⊢
    obtain ⟨n,h1,h2,h3,h4⟩:=Gx r (i + 1) h
    refine ⟨n + 1,by simpa using h1,by rw [h2];congr 1;omega,h3,fun j hj=>?_⟩
    cases j with
    | zero=>exact Bool.eq_false_iff.2 hp
    | succ j=>exact h4 j (by omega)
theorem yV (l:List gv) (i:Nat):(bV l).take i=bV (l.take i):=by simp [bV,List.map_take]
theorem Ir (l:List gv) (i:Nat):(bV l).drop i=bV (l.drop i):=by simp [bV,List.map_drop]
theorem XT {l:List gv} {n:Nat} (h:n < l.length) (φ:AV→Prop):aV 8 (.ap 0 (bV l)) (some (.int .i64 (n:Int))) (some (.int .i64 ((n + 1:Nat):Int))) (some (.int .i64 ((n + 1:Nat):Int))) φ=φ (.ap 8 (bV [l.getD n default])):=by
 have er:dw (AV.ap 0 (bV l))=some (bV l):=rfl
 have e2:((bV l).take (n + 1)).drop n=bV [l.getD n default]:=by
  rw [yV,Ir]
  congr 1
  rw [List.drop_take,show n + 1 - n=1 by omega,List.drop_eq_getElem_cons h,List.getD_eq_getElem?_getD,List.getElem?_eq_getElem h]
  rfl
 have el:=cQ l
 have lz:∀ y∈bV l,y.cells.length=8:=fun y hy=>of_eq_true (iG 0 l) 0 _ rfl y hy
 simp only [aV,eJ,er,dx,Int.toNat_natCast,e2,eq_iff_iff]
 constructor
 ·intro h;exact h.2.2.2.2.2.2.2.2.2
 ·intro h'
  exact ⟨of_eq_true (iG 0 l),by omega,by omega,by omega,by omega,rfl,by omega,trivial,lz,h'⟩
theorem XU {l:List gv} {n:Nat} (h:n≤l.length) (φ:AV→Prop):aV 8 (.ap 0 (bV l)) none (some (.int .i64 (n:Int))) (some (.int .i64 (n:Int))) φ=φ (.ap 8 (bV (l.take n))):=by
 have er:dw (AV.ap 0 (bV l))=some (bV l):=rfl
 have e2:((bV l).take n).drop 0=bV (l.take n):=by rw [List.drop_zero,yV]
 have el:=cQ l
 have lz:∀ y∈bV l,y.cells.length=8:=fun y hy=>of_eq_true (iG 0 l) 0 _ rfl y hy
 simp only [aV,eJ,er,dx,Int.toNat_natCast,e2,eq_iff_iff]
 constructor
 ·intro h;exact h.2.2.2.2.2.2.2.2
 ·intro h'
  exact ⟨of_eq_true (iG 0 l),by omega,by omega,by omega,rfl,by omega,trivial,lz,h'⟩
theorem TC (s:Sg) (l:List gv) (o:Nat) (φ:AV→Prop):cu [.ah,.ah,.ah] [(0,2,s.av),(2,1,.ap o (bV l))] φ=φ (Ty.av ⟨s,l⟩):=by
 simp only [cu,gI,eq_iff_iff]
 constructor
 ·intro h;exact h.2.2.2.2.2.2
 ·intro h;exact ⟨rfl,rfl,Nat.le_of_ble_eq_true rfl,rfl,rfl,Nat.le_of_ble_eq_true rfl,h⟩
theorem abv (x:Ty) (φ:AV→Prop):c8 (some (.cells (ag [.ah,.ah,.ah] 0 (x.av.cells.map AV.ab)))) (some 3) 0 φ=φ x.av:=by
 have:ag [.ah,.ah,.ah] 0 (x.av.cells.map AV.ab)=[.ap 0 (strs x.s.eF),.ap 0 (mG x.s.ops),.ap 0 (bV x.es)]:=rfl
 rw [this]
 simp [c8,Ty.av,AV.drop]
theorem abw (n:Nat) (x:Ty):aj n (x.av.cells.map AV.ab)=true:=by
 have:x.av.cells.map AV.ab=[.ap 0 (strs x.s.eF),.ap 0 (mG x.s.ops),.ap 0 (bV x.es)]:=rfl
 rw [this];simp [aj,AV.aZ,qT,qS,wx]
theorem c9 (t:Ty) (ps ss:List Int) (out:Int):Pure Tryz.prog 9 [t.av,gn ps ss,.int .i64 out] (.bool true):=by
 refine fun H=>k9v.2.calls rfl ?_
 simp only [k9v,aJ]
 obtain ⟨q1,q2,q3,q4,q5,q6⟩:=bF ps ss
 obtain ⟨e1,e2,e3,e4,e5,e6⟩:=Ty.facts t
 simp +contextual only [q1,e1,sZ,Nat.reduceEqDiff,Nat.reduceAdd,↓reduceIte,reduceCtorEq]
 refine ae c17 ?_
 have fin:∀ (G:List aa),G.take H.length=H→bR H.length [.t 6] [(6,.bool true)] G fun r H'=>r=.bool true∧H'=H:=fun G hG=>
  aO H.length (Nat.le_refl _) (by rw [au,if_pos rfl];rfl) ⟨by rw [au,if_pos rfl],hG⟩
 simp +contextual only [e4,eU,sZ,Nat.reduceEqDiff,Nat.reduceAdd,↓reduceIte]
 refine af (c30 t H) ?_
 rintro r G ⟨⟨b1,rfl⟩,rfl⟩
 cases b1 with
 | false=>simp +contextual only [sZ,Nat.reduceEqDiff,↓reduceIte,reduceCtorEq];exact fin _ (by simp)
 | true=>
 simp +contextual only [aU,q4,bU,A8,sZ,Nat.reduceEqDiff,Nat.reduceAdd,↓reduceIte]
 refine af (c18 t.s ps ss _) ?_
 rintro r G' ⟨⟨b2,rfl,hb⟩,rfl⟩
 cases b2 with
 | false=>simp +contextual only [sZ,Nat.reduceEqDiff,↓reduceIte,reduceCtorEq];exact fin _ (by simp)
 | true=>
 have cb:=c31 (c62 t) Qo ps ss
 have cc (t:Ty):=c33 (c62 t) Qo ps ss
 have cct:=cc t
 by_cases hE:wL t=0∧je t.s ps ss=0
 rotate_left
 ·have hb:(jY (wL t) t ps ss).2.1=false∧(jY (wL t) t ps ss).2.2≠0:=by
   unfold jY
   by_cases h:wL t=0
   ·rw [if_neg (by omega),if_pos (by omega)];exact ⟨rfl,fun h'=>hE ⟨h,h'⟩⟩
   ·rw [if_pos h];exact ⟨rfl,h⟩
  have hc:AU (wL t) t ps ss≠0:=by
   unfold AU
   rw [if_neg (fun h=>hb.2 h.1)];exact hb.2
  generalize jY (wL t) t ps ss=z at *
  obtain ⟨z1,z2,z3⟩:=z
  have f1:(z3=0)=False:=eq_false hb.2
  have f2:(AU (wL t) t ps ss=0)=False:=eq_false hc
  simp only [AT] at cb
  simp +contextual only [q4,e4,bU,eU,sZ,Nat.reduceEqDiff,Nat.reduceAdd,↓reduceIte]
  refine ae cb ?_
  simp +contextual only [q4,e4,bU,eU,f1,not_false_eq_true,sZ,Nat.reduceEqDiff,Nat.reduceAdd,Nat.reduceLT,↓reduceIte]
  refine ae cct ?_
  simp +contextual only [f2,not_false_eq_true,decide_true,sZ,↓reduceIte,reduceCtorEq]
  exact fin _ (by simp)
 obtain ⟨hT,hO⟩:=hE
 have hle:t.es.length≤400:=by
  unfold wL at hT
  split at hT
  ·rename_i h
   unfold OU at h
   simp only [Bool.and_eq_true,decide_eq_true_eq] at h
   omega
  ·cases hT
 have ni:jY (wL t) t ps ss=(max (fD t ps ss) 0,decide (0≤fD t ps ss),0):=by
  unfold jY;rw [if_neg (by omega),if_neg (by omega)]
 rw [uA hT hO] at cct
 rw [ni] at cb
 simp only [AT] at cb
 by_cases hn:0≤fD t ps ss
 ·obtain ⟨n,n1,n2,n3,n4⟩:=Gx t.es 0 hn
  have T1:fD t ps ss=(n:Int):=by unfold fD;rw [n2];simp
  rw [T1,decide_eq_true (by omega),show max ((n:Nat):Int) 0=(n:Int) by omega] at cb
  rw [if_pos hn] at cct
  have hm1:=Ip n1
  have t1:wL ⟨t.s,[t.es.getD n default]⟩=0:=Ff hT (fun e he=>by rw [List.mem_singleton.1 he];exact hm1) (by simp;omega)
  have t2:wL ⟨t.s,t.es.take n⟩=0:=Ff hT (fun e he=>List.mem_of_mem_take he) (by rw [List.length_take];omega)
  have k1:=cc ⟨t.s,[t.es.getD n default]⟩
  have k2:=cc ⟨t.s,t.es.take n⟩
  rw [uA t1 hO,if_pos (by unfold fD;exact (oL _ _).2 ⟨_,List.mem_singleton.2 rfl,n3⟩)] at k1
  rw [uA t2 hO,if_neg (by
   unfold fD
   rw [oL]
   rintro ⟨x,hx,h⟩
   obtain ⟨j,hj,rfl⟩:=List.getElem_of_mem hx
   rw [List.length_take] at hj
   have:=n4 j (by omega)
   rw [List.getD_eq_getElem?_getD,List.getElem?_eq_getElem (by omega)] at this
   rw [List.getElem_take] at h
   exact absurd h (by rw [show t.es[j]=(some t.es[j]).getD default from rfl,this];simp))] at k2
  have f1:((n:Int) < 0)=False:=eq_false (by omega)
  have f2:((t.es.length:Int)≤n)=False:=eq_false (by omega)
  have f3:=ax n (by omega)
  simp +contextual only [q4,e4,bU,eU,sZ,Nat.reduceEqDiff,Nat.reduceAdd,↓reduceIte]
  refine ae cb ?_
  simp +contextual only [q4,e4,bU,eU,sZ,Nat.reduceEqDiff,Nat.reduceAdd,Nat.reduceLT,↓reduceIte]
  refine ae cct ?_
  obtain ⟨o1,o2,o3,o4,o5,o6⟩:=Ty.facts ⟨t.s,[t.es.getD n default]⟩
  obtain ⟨u1,u2,u3,u4,u5,u6⟩:=Ty.facts ⟨t.s,t.es.take n⟩
  simp +contextual only [aU,q4,bU,A8,LV,cQ,f1,f2,f3,decide_true,decide_false,Option.map_some,XT n1,TC,abv,abw,o1,o2,o3,o4,sZ,Nat.reduceEqDiff,Nat.reduceAdd,↓reduceIte]
  refine fun _=>aF k1 ?_
  simp +contextual only [aU,q4,bU,A8,LV,decide_true,Option.map_some,Option.map_none,XU (Nat.le_of_lt n1),TC,u4,sZ,Nat.reduceEqDiff,↓reduceIte]
  refine aF k2 ?_
  simp +contextual only [decide_true,sZ,Nat.reduceEqDiff,↓reduceIte,reduceCtorEq]
  exact fin _ (by simp)
 ·rw [decide_eq_false hn,show max (fD t ps ss) 0=0 by omega] at cb
  rw [if_neg hn] at cct
  by_cases g1:out < 0
  ·have f1:(out < 0)=True:=eq_true g1
   simp +contextual only [q4,e4,bU,eU,sZ,Nat.reduceEqDiff,Nat.reduceAdd,↓reduceIte]
   refine ae cb ?_
   simp +contextual only [q4,e4,bU,eU,sZ,Nat.reduceEqDiff,Nat.reduceAdd,Nat.reduceLT,↓reduceIte]
   refine ae cct ?_
   simp +contextual only [f1,decide_true,decide_false,sZ,Nat.reduceEqDiff,↓reduceIte,reduceCtorEq,Int.reduceEq]
   exact fin _ (by simp)
  have f1:(out < 0)=False:=eq_false g1
  obtain ⟨n,rfl⟩:=Int.eq_ofNat_of_zero_le (Int.not_lt.1 g1)
  by_cases g2:(t.es.length:Int)≤(n:Int)
  ·have f2:((t.es.length:Int)≤(n:Int))=True:=eq_true g2
   simp +contextual only [q4,e4,bU,eU,sZ,Nat.reduceEqDiff,Nat.reduceAdd,↓reduceIte]
   refine ae cb ?_
   simp +contextual only [q4,e4,bU,eU,sZ,Nat.reduceEqDiff,Nat.reduceAdd,Nat.reduceLT,↓reduceIte]
   refine ae cct ?_
   simp +contextual only [LV,cQ,f1,f2,decide_true,decide_false,sZ,Nat.reduceEqDiff,↓reduceIte,reduceCtorEq,Int.reduceEq]
   exact fun _=>fin _ (by simp)
  have f2:((t.es.length:Int)≤(n:Int))=False:=eq_false g2
  have n1:n < t.es.length:=by omega
  have f3:=ax n (by omega)
  have Is:t.es=t.es.take n++t.es.getD n default::t.es.drop (n + 1):=by
   rw [List.getD_eq_getElem?_getD,List.getElem?_eq_getElem n1]
   show t.es=t.es.take n++t.es[n]::t.es.drop (n + 1)
   rw [← List.drop_eq_getElem_cons n1,List.take_append_drop]
  have gU:∀ e∈t.es.take n++t.es.drop (n + 1),e∈t.es:=fun e he=>(List.mem_append.1 he).elim List.mem_of_mem_take List.mem_of_mem_drop
  have t3:wL ⟨t.s,t.es.take n++t.es.drop (n + 1)⟩=0:=Ff hT gU (by rw [List.length_append,List.length_take,List.length_drop];omega)
  have k3:=cc ⟨t.s,t.es.take n++t.es.drop (n + 1)⟩
  rw [uA t3 hO,if_neg (by
   unfold fD at hn ⊢
   rw [oL] at hn ⊢
   rintro ⟨x,hx,h⟩
   exact hn ⟨x,gU x hx,h⟩)] at k3
  have lP:(t.es.take n).length=n:=by rw [List.length_take];omega
  have lS:n + 1 + (t.es.drop (n + 1)).length=t.es.length:=by rw [List.length_drop];omega
  simp +contextual only [q4,e4,bU,eU,sZ,Nat.reduceEqDiff,Nat.reduceAdd,↓reduceIte]
  refine ae cb ?_
  simp +contextual only [q4,e4,bU,eU,sZ,Nat.reduceEqDiff,Nat.reduceAdd,Nat.reduceLT,↓reduceIte]
  refine ae cct ?_
  simp +contextual only [aU,bU,A8,LV,cQ,f1,f2,f3,decide_false,sZ,Nat.reduceEqDiff,Nat.reduceAdd,↓reduceIte,reduceCtorEq,Int.reduceEq]
  refine fun _=>af (c47 t.es (fun h=>by rw [h] at n1;exact absurd n1 (Nat.not_lt_zero _)) (by omega) G') ?_
  rintro r G2 ⟨id,cap,bk,rfl,hg,b9,hG,hGl⟩
  have un:∀ a b c d,(AV.a8 a b c d).ab=.a8 a b c d:=fun _ _ _ _=>rfl
  have d:=c46 (t.es.take n) (t.es.drop (n + 1)) (t.es.getD n default) id cap (by rw [lP];omega) (by rw [lP];omega) (H:=G2) (by rw [← Is];exact hg)
  rw [lP,lS,show ((n:Int) + 1)=((n + 1:Nat):Int) by omega] at d
  simp +contextual only [un,sZ,Nat.reduceEqDiff,Nat.reduceAdd,↓reduceIte,reduceCtorEq]
  refine af d ?_
  rintro r G3 ⟨rfl,o,rfl⟩
  obtain ⟨o1,o2,o3,o4,o5,o6⟩:=Ty.facts ⟨t.s,t.es.take n++t.es.drop (n + 1)⟩
  simp +contextual only [TC,o4,sZ,Nat.reduceEqDiff,↓reduceIte]
  refine aF k3 ?_
  simp +contextual only [decide_true,sZ,↓reduceIte,reduceCtorEq]
  exact fin _ (by rw [List.take_set_of_le bk];exact hG)
end Go.aH
end
section
set_option maxRecDepth 100000
namespace Go.aH
open Go Go.RowKit Go.fm
section
variable {H:Type} {enc:TypeId×Value→H} {P:Program} {w:World} {base:Nat} {sp:Nat→Bool} {held:Bool}
def Rd {H:Type} (enc:TypeId×Value→H) (P:Program) (w:World) (base:Nat) (sp:Nat→Bool) (held:Bool) {α:Type} (t:TypeId) (g:α→AV) (R:DataW H→α→Prop):Prop:=
 ∀ (fuel:Nat) (cs:List Value) (x:DataW H×List MemPlace),DataW.trod enc P w base sp held fuel t cs=some x→∃ a,aG (dW w) [] cs (g a).cells∧R x.1 a
theorem Lu {ti:TypeId} (h:P.underlying ti=some (.int .i64)):Rd enc P w base sp held ti (fun n:Int=>.int .i64 n) (fun _ _=>True):=by
 intro fuel cs x hx
 obtain ⟨k,rfl,_,_⟩:=DataW.trod_int h hx
 exact ⟨k,.cons _ _ _ _ (.int _ _) .nil,trivial⟩
theorem Lv {ti:TypeId} (h:P.underlying ti=some .string):Rd enc P w base sp held ti (fun s:ByteArray=>.str s) (fun _ _=>True):=by
 intro fuel cs x hx
 obtain ⟨k,rfl,_,_⟩:=DataW.trod_string h hx
 exact ⟨k,.cons _ _ _ _ (.str _) .nil,trivial⟩
def wM {α:Type} (d:DataW H) (l:List α):Prop:=match d with | .slice es _=>l.length=es.length | _=>l=[]
theorem oa {α:Type} [Inhabited α] {te tl:TypeId} {g:α→AV} {R:DataW H→α→Prop} {e:Nat} (hl:P.underlying tl=some (.slice te)) (hc:P.cellsOf te=e) (he:0 < e) (h:Rd enc P w base sp held te g R) :
 Rd enc P w base sp held tl (fun l:List α=>.ap 0 (l.map g)) wM:=by
 intro fuel cs x hx
 rcases DataW.trod_slice hl hx with ⟨rfl,rfl⟩ | ⟨a,len,cap,elems,rest,m,hm,rfl,rfl,hb,hle,b9,Pb,jA,_,_⟩
 ·exact ⟨[],.cons _ _ _ _ aS.ah.drop .nil,rfl⟩
 ·rw [hc] at jA
  have hex:∀ i,i < len→∃ t:α,∃ cs',w.cells? base (a.add (i * e)) e=some cs'∧aG (dW w) [] cs' (g t).cells:=by
   intro i hi
   have:=jA i hi
   rw [List.getElem?_eq_getElem (by omega)] at this
   obtain ⟨cs',k1,k2⟩:=Option.bind_eq_some_iff.1 this
   obtain ⟨t,ht,_⟩:=h _ _ _ k2
   exact ⟨t,cs',k1,ht⟩
  have hf:∃ f:Nat→α,∀ i,i < len→∃ cs',w.cells? base (a.add (i * e)) e=some cs'∧aG (dW w) [] cs' (g (f i)).cells:=by
   refine ⟨fun i=>if hi:i < len then Classical.choose (hex i hi) else default,fun i hi=>?_⟩
   simp only [dif_pos hi]
   exact Classical.choose_spec (hex i hi)
  obtain ⟨f,hf⟩:=hf
  refine ⟨(List.range len).map f,.cons _ _ _ _ ?_ .nil,by simp [wM,Pb]⟩
  show aS (dW w) [] _ (.ap 0 (((List.range len).map f).map g))
  rw [List.map_map]
  refine yl (e:=e) (base:=base) he hle b9 (fun i=>if hi:i < len then Classical.choose (hf i hi) else []) _ fun i hi=>?_
  simp only [dif_pos hi]
  exact Classical.choose_spec (hf i hi)
structure mU (P:Program) (ti ts tis tss top tops tsig:TypeId):Prop where
 int:P.underlying ti=some (.int .i64)
 str:P.underlying ts=some .string
 ints:P.underlying tis=some (.slice ti)
 strs:P.underlying tss=some (.slice ts)
 op:∃ f0 f1 f2:Field,P.underlying top=some (.struct #[f0,f1,f2])∧f0.type=ts∧f0.offset=0∧f1.type=tis∧f1.offset=1∧f2.type=ti∧f2.offset=2
 ops:P.underlying tops=some (.slice top)
 sig:∃ f0 f1:Field,P.underlying tsig=some (.struct #[f0,f1])∧f0.type=tss∧f0.offset=0∧f1.type=tops∧f1.offset=1
 c:P.cellsOf ti=1∧P.cellsOf ts=1∧P.cellsOf tis=1∧P.cellsOf tss=1∧P.cellsOf top=3∧P.cellsOf tops=1∧P.cellsOf tsig=2
variable {ti ts tis tss top tops tsig:TypeId}
theorem jZ {v:List Value} {x:AV} (h:aG (dW w) [] v [x]):∃ u,v=[u]∧aS (dW w) [] u x:=by
 cases h with
 | cons v x vs xs h t=>cases t;exact ⟨_,rfl,h⟩
theorem uB (S:mU P ti ts tis tss top tops tsig):Rd enc P w base sp held tis (fun l:List Int=>.ap 0 (ints l)) wM:=oa S.ints S.c.1 (by decide) (Lu S.int)
theorem OV (S:mU P ti ts tis tss top tops tsig):Rd enc P w base sp held tss (fun l:List ByteArray=>.ap 0 (strs l)) wM:=oa S.strs S.c.2.1 (by decide) (Lv S.str)
theorem XV (S:mU P ti ts tis tss top tops tsig):Rd enc P w base sp held top jd.av (fun _ _=>True):=by
 intro fuel cs x h
 obtain ⟨f0,f1,f2,hu,h0,o0,h1,o1,h2,o2⟩:=S.op
 obtain ⟨c1,c2,c3,c4,c5,c6,c7⟩:=S.c
 obtain ⟨xs,m,rfl,rfl,hlen,ej,hf⟩:=DataW.trod_struct hu h
 have g0:=hf 0 f0 rfl
 have g1:=hf 1 f1 rfl
 have g2:=hf 2 f2 rfl
 rw [h0,o0,c2] at g0
 rw [h1,o1,c3] at g1
 rw [h2,o2,c1] at g2
 simp at ej
 rw [c5] at hlen
 match cs,hlen with
 | [a,b,c],_=>
   have e0:xs[0]?=some xs[0]:=by simp [ej]
   have e1:xs[1]?=some xs[1]:=by simp [ej]
   have e2:xs[2]?=some xs[2]:=by simp [ej]
   rw [e0] at g0;rw [e1] at g1;rw [e2] at g2
   obtain ⟨nm,r0,_⟩:=Lv S.str _ _ _ g0
   obtain ⟨ar,r1,_⟩:=uB S _ _ _ g1
   obtain ⟨re,r2,_⟩:=Lu S.int _ _ _ g2
   obtain ⟨_,q0,r0⟩:=jZ r0
   obtain ⟨_,q1,r1⟩:=jZ r1
   obtain ⟨_,q2,r2⟩:=jZ r2
   simp at q0 q1 q2
   subst q0 q1 q2
   exact ⟨⟨nm,ar,re⟩,.cons _ _ _ _ r0 (.cons _ _ _ _ r1 (.cons _ _ _ _ r2 .nil)),trivial⟩
theorem TD (S:mU P ti ts tis tss top tops tsig):Rd enc P w base sp held tops (fun l:List jd=>.ap 0 (mG l)) wM:=oa S.ops S.c.2.2.2.2.1 (by decide) (XV S)
theorem TE (S:mU P ti ts tis tss top tops tsig):Rd enc P w base sp held tsig Sg.av (fun _ _=>True):=by
 intro fuel cs x h
 obtain ⟨f0,f1,hu,h0,o0,h1,o1⟩:=S.sig
 obtain ⟨c1,c2,c3,c4,c5,c6,c7⟩:=S.c
 obtain ⟨xs,m,rfl,rfl,hlen,ej,hf⟩:=DataW.trod_struct hu h
 have g0:=hf 0 f0 rfl
 have g1:=hf 1 f1 rfl
 rw [h0,o0,c4] at g0
 rw [h1,o1,c6] at g1
 simp at ej
 rw [c7] at hlen
 match cs,hlen with
 | [a,b],_=>
   have e0:xs[0]?=some xs[0]:=by simp [ej]
   have e1:xs[1]?=some xs[1]:=by simp [ej]
   rw [e0] at g0;rw [e1] at g1
   obtain ⟨nm,r0,_⟩:=OV S _ _ _ g0
   obtain ⟨ar,r1,_⟩:=TD S _ _ _ g1
   obtain ⟨_,q0,r0⟩:=jZ r0
   obtain ⟨_,q1,r1⟩:=jZ r1
   simp at q0 q1
   subst q0 q1
   exact ⟨⟨nm,ar⟩,.cons _ _ _ _ r0 (.cons _ _ _ _ r1 .nil),trivial⟩
structure TF (P:Program) (tis tod:TypeId):Prop where
 od:∃ f0 f1:Field,P.underlying tod=some (.struct #[f0,f1])∧f0.type=tis∧f0.offset=0∧f1.type=tis∧f1.offset=1
 c:P.cellsOf tod=2
theorem XW (S:mU P ti ts tis tss top tops tsig) {tod:TypeId} (O:TF P tis tod):Rd enc P w base sp held tod (fun o:List Int×List Int=>gn o.1 o.2) (fun _ _=>True):=by
 intro fuel cs x h
 obtain ⟨f0,f1,hu,h0,o0,h1,o1⟩:=O.od
 obtain ⟨c1,c2,c3,c4,c5,c6,c7⟩:=S.c
 obtain ⟨xs,m,rfl,rfl,hlen,ej,hf⟩:=DataW.trod_struct hu h
 have g0:=hf 0 f0 rfl
 have g1:=hf 1 f1 rfl
 rw [h0,o0,c3] at g0
 rw [h1,o1,c3] at g1
 simp at ej
 rw [O.c] at hlen
 match cs,hlen with
 | [a,b],_=>
   have e0:xs[0]?=some xs[0]:=by simp [ej]
   have e1:xs[1]?=some xs[1]:=by simp [ej]
   rw [e0] at g0;rw [e1] at g1
   obtain ⟨nm,r0,_⟩:=uB S _ _ _ g0
   obtain ⟨ar,r1,_⟩:=uB S _ _ _ g1
   obtain ⟨_,q0,r0⟩:=jZ r0
   obtain ⟨_,q1,r1⟩:=jZ r1
   simp at q0 q1
   subst q0 q1
   exact ⟨(nm,ar),.cons _ _ _ _ r0 (.cons _ _ _ _ r1 .nil),trivial⟩
theorem OW (S:mU P ti ts tis tss top tops tsig) {tod:TypeId} (O:TF P tis tod) {r:Reach} {b0:Nat} {v:Value} {d:DataW H} {ps:List MemPlace} (nB:Value.okWide P w r b0 tod v) (hd:DataW.Trod enc P w base sp held tod v d ps):∃ pl st:List Int,aS (dW w) [] v (gn pl st):=by
 obtain ⟨f0,f1,hu,_⟩:=O.od
 obtain ⟨cs,rfl,_⟩:=WideShapes.okWide_struct hu nB
 obtain ⟨fuel,hf⟩:=hd
 obtain ⟨o,h1,_⟩:=XW S O _ _ _ hf
 refine ⟨o.1,o.2,?_⟩
 have:aS (dW w) [] (.agg cs.toList.toArray) (gn o.1 o.2):=.agg _ _ h1
 simpa using this
end
end Go.aH
end
section
set_option maxRecDepth 100000
namespace Go.aH
open Go Go.RowKit Go.fm
section
variable {H:Type} {enc:TypeId×Value→H} {P:Program} {w:World} {base:Nat} {sp:Nat→Bool} {held:Bool}
variable {ti ts tis tss top tops tsig tt tl tc tcs tq tqs ty:TypeId}
structure Fg (P:Program) (tis tsig tt tc tcs tq tqs ty:TypeId):Prop where
 pair:∃ f0 f1:Field,P.underlying tc=some (.struct #[f0,f1])∧f0.type=tt∧f0.offset=0∧f1.type=tt∧f1.offset=3
 XX:P.underlying tcs=some (.slice tc)
 eqn:∃ f0 f1 f2 f3:Field,P.underlying tq=some (.struct #[f0,f1,f2,f3])∧(f0.type=tis∧f0.offset=0)∧(f1.type=tcs∧f1.offset=1)∧(f2.type=tt∧f2.offset=2)∧(f3.type=tt∧f3.offset=5)
 abx:P.underlying tqs=some (.slice tq)
 typ:∃ f0 f1:Field,P.underlying ty=some (.struct #[f0,f1])∧f0.type=tsig∧f0.offset=0∧f1.type=tqs∧f1.offset=2
 c:P.cellsOf tc=6∧P.cellsOf tcs=1∧P.cellsOf tq=8∧P.cellsOf tqs=1∧P.cellsOf ty=3
theorem OX (hT:mB P ti tt tl):Rd enc P w base sp held tt T.av (fun _ _=>True):=by
 intro fuel cs x hx
 obtain ⟨t,h1,_⟩:=(HW hT fuel).1 _ _ hx
 exact ⟨t,h1,trivial⟩
theorem XZ (hT:mB P ti tt tl) (Y:Fg P tis tsig tt tc tcs tq tqs ty):Rd enc P w base sp held tc Cn.av (fun _ _=>True):=by
 intro fuel cs x h
 obtain ⟨f0,f1,hu,h0,o0,h1,o1⟩:=Y.pair
 obtain ⟨c1,c2,c3,c4,c5⟩:=Y.c
 obtain ⟨xs,m,rfl,rfl,hlen,ej,hf⟩:=DataW.trod_struct hu h
 have g0:=hf 0 f0 rfl
 have g1:=hf 1 f1 rfl
 rw [h0,o0,hT.c3] at g0
 rw [h1,o1,hT.c3] at g1
 simp at ej
 rw [c1] at hlen
 match cs,hlen with
 | [a,b,c,d,e,f],_=>
   have e0:xs[0]?=some xs[0]:=by simp [ej]
   have e1:xs[1]?=some xs[1]:=by simp [ej]
   rw [e0] at g0;rw [e1] at g1
   obtain ⟨⟨k,n,l⟩,r0,_⟩:=OX hT _ _ _ g0
   obtain ⟨⟨k',n',l'⟩,r1,_⟩:=OX hT _ _ _ g1
   have r0':aG (dW w) [] [a,b,c] [.int .i64 k,.int .i64 n,.ap 0 (bW l)]:=r0
   have r1':aG (dW w) [] [d,e,f] [.int .i64 k',.int .i64 n',.ap 0 (bW l')]:=r1
   exact ⟨⟨.mk k n l,.mk k' n' l'⟩,r0'.append r1',trivial⟩
theorem TG (hT:mB P ti tt tl) (Y:Fg P tis tsig tt tc tcs tq tqs ty):Rd enc P w base sp held tcs (fun l:List Cn=>.ap 0 (qX l)) wM:=oa Y.XX Y.c.1 (by decide) (XZ hT Y)
theorem TH (S:mU P ti ts tis tss top tops tsig) (hT:mB P ti tt tl) (Y:Fg P tis tsig tt tc tcs tq tqs ty):Rd enc P w base sp held tq gv.av (fun _ _=>True):=by
 intro fuel cs x h
 obtain ⟨f0,f1,f2,f3,hu,⟨h0,o0⟩,⟨h1,o1⟩,⟨h2,o2⟩,⟨h3,o3⟩⟩:=Y.eqn
 obtain ⟨c1,c2,c3,c4,c5⟩:=Y.c
 obtain ⟨xs,m,rfl,rfl,hlen,ej,hf⟩:=DataW.trod_struct hu h
 have g0:=hf 0 f0 rfl
 have g1:=hf 1 f1 rfl
 have g2:=hf 2 f2 rfl
 have g3:=hf 3 f3 rfl
 rw [h0,o0,S.c.2.2.1] at g0
 rw [h1,o1,c2] at g1
 rw [h2,o2,hT.c3] at g2
 rw [h3,o3,hT.c3] at g3
 simp at ej
 rw [c3] at hlen
 match cs,hlen with
 | [a,b,c,d,e,f,g,i],_=>
   have e0:xs[0]?=some xs[0]:=by simp [ej]
   have e1:xs[1]?=some xs[1]:=by simp [ej]
   have e2:xs[2]?=some xs[2]:=by simp [ej]
   have e3:xs[3]?=some xs[3]:=by simp [ej]
   rw [e0] at g0;rw [e1] at g1;rw [e2] at g2;rw [e3] at g3
   obtain ⟨vs,r0,_⟩:=uB S _ _ _ g0
   obtain ⟨cn,r1,_⟩:=TG hT Y _ _ _ g1
   obtain ⟨⟨k,n,l⟩,r2,_⟩:=OX hT _ _ _ g2
   obtain ⟨⟨k',n',l'⟩,r3,_⟩:=OX hT _ _ _ g3
   have r0':aG (dW w) [] [a] [.ap 0 (ints vs)]:=r0
   have r1':aG (dW w) [] [b] [.ap 0 (qX cn)]:=r1
   have r2':aG (dW w) [] [c,d,e] [.int .i64 k,.int .i64 n,.ap 0 (bW l)]:=r2
   have r3':aG (dW w) [] [f,g,i] [.int .i64 k',.int .i64 n',.ap 0 (bW l')]:=r3
   exact ⟨⟨vs,cn,.mk k n l,.mk k' n' l'⟩,r0'.append (r1'.append (r2'.append r3')),trivial⟩
theorem OY (S:mU P ti ts tis tss top tops tsig) (hT:mB P ti tt tl) (Y:Fg P tis tsig tt tc tcs tq tqs ty):Rd enc P w base sp held tqs (fun l:List gv=>.ap 0 (bV l)) wM:=oa Y.abx Y.c.2.2.1 (by decide) (TH S hT Y)
theorem X0 (S:mU P ti ts tis tss top tops tsig) (hT:mB P ti tt tl) (Y:Fg P tis tsig tt tc tcs tq tqs ty):Rd enc P w base sp held ty Ty.av (fun _ _=>True):=by
 intro fuel cs x h
 obtain ⟨f0,f1,hu,h0,o0,h1,o1⟩:=Y.typ
 obtain ⟨c1,c2,c3,c4,c5⟩:=Y.c
 obtain ⟨xs,m,rfl,rfl,hlen,ej,hf⟩:=DataW.trod_struct hu h
 have g0:=hf 0 f0 rfl
 have g1:=hf 1 f1 rfl
 rw [h0,o0,S.c.2.2.2.2.2.2] at g0
 rw [h1,o1,c4] at g1
 simp at ej
 rw [c5] at hlen
 match cs,hlen with
 | [a,b,c],_=>
   have e0:xs[0]?=some xs[0]:=by simp [ej]
   have e1:xs[1]?=some xs[1]:=by simp [ej]
   rw [e0] at g0;rw [e1] at g1
   obtain ⟨s,r0,_⟩:=TE S _ _ _ g0
   obtain ⟨es,r1,_⟩:=OY S hT Y _ _ _ g1
   have r0':aG (dW w) [] [a,b] [.ap 0 (strs s.eF),.ap 0 (mG s.ops)]:=r0
   have r1':aG (dW w) [] [c] [.ap 0 (bV es)]:=r1
   exact ⟨⟨s,es⟩,r0'.append r1',trivial⟩
theorem OZ (S:mU P ti ts tis tss top tops tsig) (hT:mB P ti tt tl) (Y:Fg P tis tsig tt tc tcs tq tqs ty) {r:Reach} {b0:Nat} {v:Value} {d:DataW H} {ps:List MemPlace} (nB:Value.okWide P w r b0 ty v) (hd:DataW.Trod enc P w base sp held ty v d ps):∃ t:Ty,aS (dW w) [] v t.av:=by
 obtain ⟨f0,f1,hu,_⟩:=Y.typ
 obtain ⟨cs,rfl,_⟩:=WideShapes.okWide_struct hu nB
 obtain ⟨fuel,hf⟩:=hd
 obtain ⟨o,h1,_⟩:=X0 S hT Y _ _ _ hf
 refine ⟨o,?_⟩
 have:aS (dW w) [] (.agg cs.toList.toArray) o.av:=.agg _ _ h1
 simpa using this
end
end Go.aH
end
section
set_option maxRecDepth 100000
namespace Go.Proofs.YtljchnfgjdjobaaGreat
open Go
theorem TI:laidOutB Tryz.checked.prog=true:=by kernel_rfl
theorem TJ:mapsRowed Tryz.checked.prog=true:=by kernel_rfl
theorem O0:Tryz.checked.prog.stopsHeard=true:=by kernel_rfl
theorem O4:Tryz.checked.prog.mayEnter=true:=by kernel_rfl
theorem O5:Tryz.checked.prog.liftsFinal=false:=by kernel_rfl
end Go.Proofs.YtljchnfgjdjobaaGreat
end
