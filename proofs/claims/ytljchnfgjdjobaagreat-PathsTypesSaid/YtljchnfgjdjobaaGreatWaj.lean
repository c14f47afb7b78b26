/- Part 10 of 20 of the proof. -/
import Derived.Test.YtljchnfgjdjobaaGreatWah
import Derived.ProofKit
import Derived.Deep.Slices
import Derived.Deep.Strs
set_option linter.unusedVariables false
set_option linter.unusedSimpArgs false
set_option linter.defProp false
set_option linter.unusedSectionVars false
section
namespace Go.aI
open Go
theorem UB:AV.any.ab=.any:=agI
theorem pS (b:Bool):(AV.bool b).ab=.bool b:=agI
theorem pg (k:IntKind) (n:Int):(AV.int k n).ab=.int k n:=agI
theorem B5 (s:ByteArray):(AV.str s).ab=.str s:=agI
theorem Ix:AV.ag.ab=.ag:=agI
theorem xL (o:Nat) (xs:List AV):(AV.aj o xs).ab=.aj 0 xs:=agI
theorem UC (a b c d:Nat):(AV.a7 a b c d).ab=.a7 a b c d:=agI
theorem UD (xs:List AV):(AV.agg xs).ab=.agg xs:=agI
theorem Mh (xs:List AV):(AV.tuple xs).ab=.tuple xs:=agI
theorem Mi (a b:Nat):(AV.ptr a b).ab=.ptr a b:=agI
theorem Iy (x:AV):(AV.ai x).ab=.ai x:=agI
theorem Qp:AV.tA.ab=.tA:=agI
theorem Mj (a:Nat):(AV.map a).ab=.map a:=agI
theorem Qq:AV.jR.ab=.jR:=agI
theorem S1 (f:Fn) (a b:List AV):(AV.fn f a b).ab=.fn f a b:=agI
theorem Qr:AV.gv.ab=.gv:=agI
theorem Qs (b:Bool):(AV.bool b).cells=[.bool b]:=agI
theorem UE (k:IntKind) (n:Int):(AV.int k n).cells=[.int k n]:=agI
theorem UF (s:ByteArray):(AV.str s).cells=[.str s]:=agI
theorem Qt:AV.ag.cells=[.ag]:=agI
theorem UG (o:Nat) (xs:List AV):(AV.aj o xs).cells=[.aj o xs]:=agI
theorem UH (xs:List AV):(AV.agg xs).cells=xs:=agI
theorem ZC (f:Fn) (a b:List AV):(AV.fn f a b).cells=[.fn f a b]:=agI
theorem Qu:AV.gv.cells=[.gv]:=agI
theorem UI (a b:Nat):(AV.ptr a b).cells=[.ptr a b]:=agI
theorem Qv (x:AV):(AV.ai x).cells=[.ai x]:=agI
theorem UJ (a:Nat):(AV.map a).cells=[.map a]:=agI
theorem nJ (b:Bool):(AV.bool b).drop=.bool b:=agI
theorem UK (k:IntKind) (n:Int):(AV.int k n).drop=.int k n:=agI
theorem UL (s:ByteArray):(AV.str s).drop=.str s:=agI
theorem Qw:AV.ag.drop=.aj 0 []:=agI
theorem UM (o:Nat) (xs:List AV):(AV.aj o xs).drop=.aj 0 xs:=agI
theorem UN (xs:List AV):(AV.agg xs).drop=.agg xs:=agI
theorem ZD (f:Fn) (a b:List AV):(AV.fn f a b).drop=.fn f a b:=agI
theorem Qx:AV.gv.drop=.gv:=agI
theorem UO (a b:Nat):(AV.ptr a b).drop=.ptr a b:=agI
theorem Qy (x:AV):(AV.ai x).drop=.ai x:=agI
theorem UP (a:Nat):(AV.map a).drop=.map a:=agI
theorem wF (b:Bool):(AV.bool b).val=true:=agI
theorem UQ (k:IntKind) (n:Int):(AV.int k n).val=true:=agI
theorem UR (s:ByteArray):(AV.str s).val=true:=agI
theorem Qz:AV.ag.val=true:=agI
theorem US (o:Nat) (xs:List AV):(AV.aj o xs).val=true:=agI
theorem UT (xs:List AV):(AV.agg xs).val=true:=agI
theorem ZE (f:Fn) (a b:List AV):(AV.fn f a b).val=true:=agI
theorem QA:AV.gv.val=true:=agI
theorem UU (a b:Nat):(AV.ptr a b).val=true:=agI
theorem QB (x:AV):(AV.ai x).val=true:=agI
theorem UW (a:Nat):(AV.map a).val=true:=agI
theorem sD (n:Nat) (b:Bool):(AV.bool b).bb n=true:=agI
theorem iR (n:Nat) (k:IntKind) (m:Int):(AV.int k m).bb n=true:=agI
theorem Mk (n:Nat) (s:ByteArray):(AV.str s).bb n=true:=agI
theorem Iz (n:Nat):AV.ag.bb n=true:=agI
theorem bM (n o:Nat) (xs:List AV):(AV.aj o xs).bb n=al n xs:=by rw [AV.bb]
theorem xM (n:Nat) (xs:List AV):(AV.agg xs).bb n=al n xs:=by rw [AV.bb]
theorem Ml (n:Nat) (xs:List AV):(AV.tuple xs).bb n=al n xs:=by rw [AV.bb]
theorem rf (n a b:Nat):(AV.ptr a b).bb n=decide (a < n):=by rw [AV.bb]
theorem Mm (n a:Nat):(AV.map a).bb n=decide (a < n):=by rw [AV.bb]
theorem fL (n a b c d:Nat):(AV.a7 a b c d).bb n=decide (a < n):=by rw [AV.bb]
theorem B6 (n:Nat) (x:AV):(AV.ai x).bb n=x.bb n:=by rw [AV.bb]
theorem ZF (n:Nat) (f:Fn) (a b:List AV):(AV.fn f a b).bb n=(al n a && al n b):=by rw [AV.bb]
theorem QC (n:Nat):AV.gv.bb n=true:=agI
theorem da (n:Nat):al n []=true:=agI
theorem bN (n:Nat) (x:AV) (xs:List AV):al n (x::xs)=(x.bb n && al n xs):=by rw [al]
section
variable (k:IntKind) (a b:Int) (φ:AV→Prop)
theorem UX:dl .add (.int k a) (.int k b) φ=φ (.int k (k.wrap (a + b))):=by simp [dl]
theorem UY:dl .sub (.int k a) (.int k b) φ=φ (.int k (k.wrap (a - b))):=by simp [dl]
theorem UZ:dl .mul (.int k a) (.int k b) φ=φ (.int k (k.wrap (a * b))):=by simp [dl]
theorem U0:dl .rem (.int k a) (.int k b) φ=(b≠0∧φ (.int k (a.tmod b))):=by simp [dl]
theorem U1:dl .quo (.int k a) (.int k b) φ=(b≠0∧φ (.int k (k.wrap (a.tdiv b)))):=by simp [dl]
theorem U2:dl .eql (.int k a) (.int k b) φ=φ (.bool (decide (a=b))):=by simp [dl]
theorem U4:dl .neq (.int k a) (.int k b) φ=φ (.bool (decide (a≠b))):=by simp [dl]
theorem U5:dl .lss (.int k a) (.int k b) φ=φ (.bool (decide (a < b))):=by simp [dl]
theorem U6:dl .leq (.int k a) (.int k b) φ=φ (.bool (decide (a≤b))):=by simp [dl]
theorem U7:dl .gtr (.int k a) (.int k b) φ=φ (.bool (decide (b < a))):=by simp [dl]
theorem U8:dl .geq (.int k a) (.int k b) φ=φ (.bool (decide (b≤a))):=by simp [dl]
theorem U9 (s t:ByteArray):dl .eql (.str s) (.str t) φ=φ (.bool (decide (s=t))):=by simp [dl]
theorem Vb (s t:ByteArray):dl .neq (.str s) (.str t) φ=φ (.bool (decide (s≠t))):=by simp [dl]
theorem Vc (s t:ByteArray):dl .add (.str s) (.str t) φ=(s.size + t.size < 9223372036854775808∧φ (.str (s++t))):=by simp [dl]
theorem Vd (q:Bool):Bk .not (.bool q) φ=φ (.bool (!q)):=agI
theorem Ve:Bk .neg (.int k a) φ=φ (.int k (k.wrap (0 - a))):=agI
theorem Vf (p q:Bool):dc true (.bool p) (.bool q) φ=φ (.bool (decide (p≠q))):=agI
theorem Vg (p q:Bool):dc false (.bool p) (.bool q) φ=φ (.bool (decide (p=q))):=agI
theorem adw (q:Bool) (ψ:Bool→Prop):fA (.bool q) ψ=ψ q:=agI
theorem Vh (s:ByteArray) (H:List aa):fj (.str s) H φ=φ (.int .i64 s.size):=agI
theorem QD (H:List aa):fj .ag H φ=φ (.int .i64 0):=agI
theorem Vi (o:Nat) (xs:List AV) (H:List aa):fj (.aj o xs) H φ=(xs.length < 9223372036854775808→φ (.int .i64 xs.length)):=agI
theorem Vj (x y l c:Nat) (H:List aa):fj (.a7 x y l c) H φ=φ (.int .i64 l):=agI
theorem QE (H:List aa):fj .jR H φ=φ (.int .i64 0):=agI
theorem Vk (s:ByteArray):aO 0 (.str s)=True:=agI
theorem QF:aO 1 .ag=True:=agI
theorem Vl (o:Nat) (xs:List AV):aO 1 (.aj o xs)=True:=agI
theorem Vm (x y l c:Nat):aO 1 (.a7 x y l c)=True:=agI
theorem QG:aO 2 .jR=True:=agI
theorem Vn (x:Nat):aO 2 (.map x)=True:=agI
theorem QH (q:Bool) (H:List aa):aY none (.ai (.bool q)) H φ=φ (.bool q):=by simp [aY,AV.one,pS]
theorem Vo (H:List aa):aY none (.ai (.int k a)) H φ=φ (.int k a):=by simp [aY,AV.one,pg]
theorem Vp (s:ByteArray) (H:List aa):aY none (.ai (.str s)) H φ=φ (.str s):=by simp [aY,AV.one,B5]
theorem Vq (o:Nat) (xs:List AV) (H:List aa):aY none (.ai (.aj o xs)) H φ=φ (.aj 0 xs):=by simp [aY,AV.one,xL]
theorem QI (H:List aa):aY none (.ai .ag) H φ=φ .ag:=by simp [aY,AV.one,Ix]
theorem ZG (f:Fn) (x y:List AV) (H:List aa):aY none (.ai (.fn f x y)) H φ=φ (.fn f x y):=by simp [aY,AV.one,S1]
theorem Vr (x y:Nat):b9 (.ptr x y) φ=φ (.ptr x y):=agI
theorem QJ (x:AV):b9 (.ai x) φ=φ (.ai x):=agI
theorem Mn (xs:List AV) (i:Nat):bK (.tuple xs) i φ=(i < xs.length∧φ (xs.getD i .any).ab):=agI
theorem Vs (id o off:Nat) (sz:Option Nat):ap off sz (.ptr id o) φ=φ (.ptr id (o + off)):=by simp [ap]
end
section
variable {P:Px} {n0:Nat} {env:Env} {H:List aa} {Q:Exit→Env→List aa→Prop}
theorem Mo (pass:Option Nat) (j:Nat):aL env pass j []=[]:=agI
theorem Vt (pass:Option Nat) (j:Nat) (v:AV) (xs:List IX):aL env pass j (.c v::xs)=v.ab::aL env pass (j + 1) xs:=agI
theorem Vu (j s:Nat) (xs:List IX):aL env none j (.t s::xs)=(get env s).ab::aL env none (j + 1) xs:=by simp [aL]
theorem Vv (j s:Nat) (xs:List IX):aL env (some 1999) j (.t s::xs)=(if 1999=j then get env s else (get env s).ab)::aL env (some 1999) (j + 1) xs:=by simp [aL]
theorem Vw (p j s:Nat) (xs:List IX):aL env (some p) j (.t s::xs)=(if p=j then get env s else (get env s).ab)::aL env (some p) (j + 1) xs:=by simp [aL]
theorem J4 (args:List IX):bh args none=none:=agI
theorem QK (x:Nat) (xs:List IX):bh (.t x::xs) (some 0)=some x:=by simp [bh]
theorem QL (x:Nat) (y:IX) (xs:List IX):bh (y::.t x::xs) (some 1)=some x:=by simp [bh]
theorem QM (x:Nat) (y z:IX) (xs:List IX):bh (y::z::.t x::xs) (some 2)=some x:=by simp [bh]
theorem J5:bh [] (some 1999)=none:=agI
theorem J6 (x:IX):bh [x] (some 1999)=none:=agI
theorem J7 (x y:IX):bh [x,y] (some 1999)=none:=agI
theorem J8 (x y z:IX):bh [x,y,z] (some 1999)=none:=agI
theorem J9 (x y z u:IX):bh [x,y,z,u] (some 1999)=none:=agI
theorem D7:cL env none=env:=agI
theorem D8 (d:Nat):cL env (some d)=(d,(get env d).ab)::env:=agI
theorem Mq (z:AV):put none z env=env:=agI
theorem Mr (d:Nat) (z:AV):put (some d) z env=(d,z)::env:=agI
theorem aC (k:Nat) (v:AV) (t:Nat):get ((k,v)::env) t=if t=k then v else get env t:=agI
theorem Vx (t:Nat):get [] t=.any:=agI
theorem a8 {s:Nat} {R:AV→List aa→Prop} (m:Nat) (h0:n0≤m) (hb:(get env s).bb m=true) (h:R (get env s) (H.take m)):bS n0 [.t s] env H R:=
 ⟨m,h0,_,le_refl _,hb,h⟩
end
def Pure (P:Program) (g:FuncId) (xs:List AV) (v:AV):Prop:=∀ H,ax P g xs H fun r H'=>r=v∧H'=H
theorem Pure.mk {P:Program} {g:FuncId} {xs:List AV} {v:AV} (hb:al 0 xs=true) (h:ax P g xs [] fun r H'=>r=v∧H'=[]):Pure P g xs v:=
 ax.frame (fun x hx=>(a9 0 xs).1 hb x hx) h
def ph (n:Nat) (env:Env):Bool:=env.all fun p=>p.2.bb n
theorem GD {n:Nat} {env:Env} (h:ph n env=true) (t:Nat):(get env t).bb n=true:=by
 rcases get_mem (env:=env) (t:=t) rfl with h' | h'
 ·rw [h'];rfl
 ·exact aaO.1 h _ h'
theorem Vy (n:Nat):ph n []=true:=agI
theorem QN (n k:Nat) (v:AV) (env:Env):ph n ((k,v)::env)=(v.bb n && ph n env):=agI
theorem xN {n0:Nat} {env aK:Env} {H H':List aa} (he:env=aK) (h0:n0≤H'.length) (hb:ph H'.length aK=true) (e:List aa) (hH:H=H'++e):sle n0 env H aK H':=by
 subst he;subst hH
 exact ⟨fun t=>le_refl _,.inr ⟨H'.length,h0,by simp,GD hb⟩⟩
theorem aD {n0:Nat} {env aK:Env} {H H':List aa} (he:env=aK) (hH:H=H'):sle n0 env H aK H':=by
 subst he;subst hH;exact aA _ _ _
theorem aq (i:Nat) (h:i + 1 < 9223372036854775808):IntKind.i64.wrap ((i:Int) + 1)=((i + 1:Nat):Int):=by
 show IntKind.wrap .i64 ((i:Int) + 1)=_
 unfold IntKind.wrap
 simp [IntKind.signed,IntKind.bits]
 omega
end Go.aI
end
section
namespace Go.aI
open Go
def iv {α:Type} (x:α):α:=x
theorem Vz {α:Type} (x:α):iv x=x:=agI
section
variable {φ:AV→Prop}
theorem Ms {op:BinOp} {x y:AV} (h:dl op x y φ):∃ z,dl op x y (fun w=>w=z)∧φ z:=by
 unfold dl at *
 split at h <;> (try exact h.elim)
 ·obtain ⟨h0,h⟩:=h
  split at h <;> first | exact ⟨_,⟨h0,rfl⟩,h⟩ | exact ⟨_,⟨h0,h.1,rfl⟩,h.2⟩ | exact h.elim
 ·split at h <;> first | exact ⟨_,rfl,h⟩ | exact ⟨_,⟨h.1,rfl⟩,h.2⟩ | exact h.elim
theorem GF {op:BinOp} {x y:AV} (h:eE op x y φ):∃ z,eE op x y (fun w=>w=z)∧φ z:=by
 unfold eE at *
 split at h <;> (try exact h.elim)
 obtain ⟨h0,h⟩:=h
 split at h <;> first | exact ⟨_,⟨h0,rfl⟩,h⟩ | exact h.elim
theorem D9 {neq:Bool} {x y:AV} (h:dc neq x y φ):∃ z,dc neq x y (fun w=>w=z)∧φ z:=by
 unfold dc at *
 split at h <;> first | exact ⟨_,rfl,h⟩ | exact h.elim
theorem QO {op:UnOp} {x:AV} (h:Bk op x φ):∃ z,Bk op x (fun w=>w=z)∧φ z:=by
 unfold Bk at *
 split at h <;> first | exact ⟨_,rfl,h⟩ | exact h.elim
theorem Ka {sz:Option Nat} {x:AV} {H:List aa} (h:aY sz x H φ):∃ z,aY sz x H (fun w=>w=z)∧φ z:=by
 unfold aY at *
 split at h <;> (try exact h.elim) <;> (split at h <;> (try exact h.elim)) <;> first | exact ⟨_,⟨h.1,rfl⟩,h.2⟩ | (split at h <;> exact ⟨_,⟨h.1,rfl⟩,h.2⟩)
theorem Ap {off:Nat} {sz:Option Nat} {xs:List AV} {g:AV→AV} (h:apart off sz xs fun z=>φ (g z)):∃ z,(apart off sz xs fun w=>g w=z)∧φ z:=by
 unfold apart at *
 split at h <;> first | exact ⟨_,⟨h.1,rfl⟩,h.2⟩ | exact ⟨_,⟨h.1,h.2.1,rfl⟩,h.2.2⟩
theorem GG {off:Nat} {sz:Option Nat} {x:AV} (h:fB off sz x φ):∃ z,fB off sz x (fun w=>w=z)∧φ z:=by
 unfold fB at *
 split at h <;> (try exact h.elim)
 exact Ap h
theorem xO {off:Nat} {sz:Option Nat} {x:AV} (h:ap off sz x φ):∃ z,ap off sz x (fun w=>w=z)∧φ z:=by
 unfold ap at *
 split at h <;> (try exact h.elim)
 ·exact ⟨_,rfl,h⟩
 ·exact Ap h
theorem xP {esz:Nat} {x i:AV} (h:aE esz x i φ):∃ z,aE esz x i (fun w=>w=z)∧φ z:=by
 unfold aE at *
 split at h <;> first | exact ⟨_,⟨h.1,h.2.1,rfl⟩,h.2.2⟩ | exact h.elim
theorem zr {x i:AV} (h:bO x i φ):∃ z,bO x i (fun w=>w=z)∧φ z:=by
 unfold bO at *
 split at h <;> first | exact ⟨_,⟨h.1,h.2.1,rfl⟩,h.2.2⟩ | exact h.elim
theorem zt {n:Nat} {x i:AV} (h:b8 n x i φ):∃ z,b8 n x i (fun w=>w=z)∧φ z:=by
 unfold b8 at *
 split at h <;> first | exact ⟨_,⟨h.1,h.2.1,h.2.2.1,rfl⟩,h.2.2.2⟩ | exact h.elim
theorem B7 {x:AV} {i:Nat} (h:bK x i φ):∃ z,bK x i (fun w=>w=z)∧φ z:=by
 unfold bK at *
 split at h <;> first | exact ⟨_,⟨h.1,rfl⟩,h.2⟩ | exact h.elim
theorem zw {x:AV} (h:b9 x φ):∃ z,b9 x (fun w=>w=z)∧φ z:=by
 unfold b9 at *
 split at h <;> first | exact ⟨_,rfl,h⟩ | exact h.elim
theorem B8 {k:IntKind} {x:AV} (h:cI k x φ):∃ z,cI k x (fun w=>w=z)∧φ z:=by
 unfold cI at *
 split at h <;> first | exact ⟨_,rfl,h⟩ | exact h.elim
theorem QP {big:Bool} {x y:AV} (h:yY big x y φ):∃ z,yY big x y (fun w=>w=z)∧φ z:=by
 unfold yY at *
 split at h <;> first | exact ⟨_,rfl,h⟩ | exact h.elim
theorem pT {x:Option AV} {d:Nat} {c1 c2:Nat→Prop} {g:Nat→AV} (h:ep x d fun k=>c1 k∧c2 k∧φ (g k)):∃ z,(ep x d fun k=>c1 k∧c2 k∧g k=z)∧φ z:=by
 unfold ep at *
 split at h
 ·exact ⟨_,⟨h.1,h.2.1,rfl⟩,h.2.2⟩
 ·exact ⟨_,⟨h.1,h.2.1,h.2.2.1,rfl⟩,h.2.2.2⟩
 ·exact h.elim
theorem jI {x:Option AV} {d:Nat} {ψ:(AV→Prop)→Nat→Prop} (h:ep x d (ψ φ)) (hd:∀ k,ψ φ k→∃ z,ψ (fun w=>w=z) k∧φ z):∃ z,ep x d (ψ fun w=>w=z)∧φ z:=by
 unfold ep at *
 split at h
 ·exact hd _ h
 ·obtain ⟨z,h2,h3⟩:=hd _ h.2;exact ⟨z,⟨h.1,h2⟩,h3⟩
 ·exact h.elim
theorem GH {esz:Nat} {x:AV} {lo hi mx:Option AV} (h:fH esz x lo hi mx φ):∃ z,fH esz x lo hi mx (fun w=>w=z)∧φ z:=by
 unfold fH at *
 split at h <;> (try exact h.elim)
 rename_i xs eR
 cases mx with
 | none=>exact jI (ψ:=fun φ h=>ep lo 0 fun l=>l≤h∧h≤xs.length∧φ (.aj 0 ((xs.take h).drop l))) h fun k h=>pT (c1:=fun l=>l≤k) (c2:=fun _=>k≤xs.length) (g:=fun l=>.aj 0 ((xs.take k).drop l)) h
 | some m=>
   refine jI (ψ:=fun φ h=>ep lo 0 fun l=>l≤h∧h≤xs.length∧hi.isSome=true∧ep (some m) 0 fun m=>m=h∧(∀ y∈xs,y.cells.length=esz)∧φ (.aj esz ((xs.take h).drop l))) h fun k h=>?_
   refine jI (ψ:=fun φ l=>l≤k∧k≤xs.length∧hi.isSome=true∧ep (some m) 0 fun m=>m=k∧(∀ y∈xs,y.cells.length=esz)∧φ (.aj esz ((xs.take k).drop l))) h fun l h=>?_
   obtain ⟨h1,h2,h3,h4⟩:=h
   obtain ⟨z,k1,k2⟩:=pT (g:=fun _=>.aj esz ((xs.take k).drop l)) h4
   exact ⟨z,⟨h1,h2,h3,k1⟩,k2⟩
theorem Ea {esz:Nat} {x:AV} {lo hi mx:Option AV} (h:bC esz x lo hi mx φ):∃ z,bC esz x lo hi mx (fun w=>w=z)∧φ z:=by
 unfold bC iM pH at *
 split at h
 ·rename_i id off len cap
  split at h
  rotate_left
  ·rename_i m
   obtain ⟨h1,h2⟩:=h
   have:=jI (ψ:=fun φ m=>ep hi len fun h=>ep lo 0 fun l=>l≤h∧h≤m∧m≤cap∧φ (.a7 id (if m=l then off else off + l * esz) (h - l) (m - l))) h2 fun m h=>
    jI (ψ:=fun φ h=>ep lo 0 fun l=>l≤h∧h≤m∧m≤cap∧φ (.a7 id (if m=l then off else off + l * esz) (h - l) (m - l))) h fun k h=>
     jI (ψ:=fun φ l=>l≤k∧k≤m∧m≤cap∧φ (.a7 id (if m=l then off else off + l * esz) (k - l) (m - l))) h fun l h=>⟨_,⟨h.1,h.2.1,h.2.2.1,rfl⟩,h.2.2.2⟩
   obtain ⟨z,k1,k2⟩:=this
   exact ⟨z,⟨h1,k1⟩,k2⟩
  have h2:=h
  have:=jI (ψ:=fun φ h=>ep lo 0 fun l=>l≤h∧h≤cap∧φ (.a7 id (if cap=l then off else off + l * esz) (h - l) (cap - l))) h2 fun k h=>pT (c1:=fun l=>l≤k) (c2:=fun _=>k≤cap) (g:=fun l=>.a7 id (if cap=l then off else off + l * esz) (k - l) (cap - l)) h
  obtain ⟨z,k1,k2⟩:=this
  exact ⟨z,k1,k2⟩
 ·obtain ⟨z,k1,k2⟩:=GH h.2
  exact ⟨z,⟨h.1,k1⟩,k2⟩
theorem zx {x:AV} {lo hi:Option AV} (h:cv x lo hi φ):∃ z,cv x lo hi (fun w=>w=z)∧φ z:=by
 unfold cv at *
 split at h <;> (try exact h.elim)
 rename_i s
 exact jI (ψ:=fun φ h=>ep lo 0 fun l=>l≤h∧h≤s.size∧φ (.str (s.extract l h))) h fun k h=>pT (c1:=fun l=>l≤k) (c2:=fun _=>k≤s.size) (g:=fun l=>.str (s.extract l k)) h
theorem Eb {kd:Nat} {z m k:AV} {ok:Bool} {H:List aa} (h:cB kd z m k ok H φ):∃ y,cB kd z m k ok H (fun w=>w=y)∧φ y:=by
 unfold cB at *
 split at h <;> (try exact h.elim) <;> first | exact ⟨_,rfl,h⟩ | exact ⟨_,⟨h.1,rfl⟩,h.2⟩ | (split at h <;> (try exact h.elim) <;> first | exact ⟨_,rfl,h⟩ | exact ⟨_,⟨h.1,rfl⟩,h.2⟩ | (split at h <;> (try exact h.elim) <;> first | exact ⟨_,rfl,h⟩ | exact ⟨_,⟨h.1,rfl⟩,h.2⟩))
theorem vB {esz:Nat} {own:Nat}:∀ {ps:List (Nat×AV)} {zs:List AV},bm zs esz ps (fun v=>φ (.aj own v))→∃ z,bm zs esz ps (fun v=>.aj own v=z)∧φ z
 | [],zs,h=>⟨_,rfl,h⟩
 | (i,x)::r,zs,h=>by
   obtain ⟨z,k1,k2⟩:=vB h.2.2.2
   exact ⟨z,⟨h.1,h.2.1,h.2.2.1,k1⟩,k2⟩
theorem Aq:∀ {ps:List (Nat×Nat×AV)} {zs:List AV},iJ zs ps (fun v=>φ (.agg v))→∃ z,iJ zs ps (fun v=>.agg v=z)∧φ z
 | [],zs,h=>⟨_,rfl,h⟩
 | (off,sz,x)::r,zs,h=>by
   obtain ⟨z,k1,k2⟩:=Aq h.2.2.2
   exact ⟨z,⟨h.1,h.2.1,h.2.2.1,k1⟩,k2⟩
end
def gF (v:AV) (A B:Prop):Prop:=fA v fun q=>(q=true→A)∧(q=false→B)
@[congr] theorem S2 {v v':AV} {A B:Prop} (h:iv v=v'):gF v A B=gF v' A B:=by subst h;rfl
theorem QQ (A B:Prop):gF (.bool true) A B=A:=by simp [gF,fA]
theorem QR (A B:Prop):gF (.bool false) A B=B:=by simp [gF,fA]
theorem QS (b:Bool) (A B:Prop):gF (.bool (!b)) A B=gF (.bool b) B A:=by cases b <;> simp [gF,fA]
theorem QT (p:Prop) [Decidable p] (A B:Prop):gF (.bool (decide p)) A B=((p→A)∧(¬ p→B)):=by simp [gF,fA]
theorem sE {b:Bool} {A B:Prop} (h1:b=true→A) (h2:b=false→B):gF (.bool b) A B:=⟨h1,h2⟩
def eh (v:AV) (g:Nat) (want:Bool) (env:Env) (yes no:Env→Prop):Prop:=
 match v with
 | .bool b=>(b=want→yes ((g,.bool want)::env))∧(b=(!want)→no ((g,.bool (!want))::env))
 | .tuple []=>no env
 | _=>False
@[congr] theorem QU {v v':AV} {g:Nat} {want:Bool} {env:Env} {yes no:Env→Prop} (h:iv v=v'):eh v g want env yes no=eh v' g want env yes no:=by subst h;rfl
section
variable (g:Nat) (env:Env) (yes no:Env→Prop)
theorem ZH:eh (.bool true) g true env yes no=yes ((g,.bool true)::env):=by simp [eh]
theorem ZI:eh (.bool true) g false env yes no=no ((g,.bool true)::env):=by simp [eh]
theorem ZJ:eh (.bool false) g true env yes no=no ((g,.bool false)::env):=by simp [eh]
theorem ZK:eh (.bool false) g false env yes no=yes ((g,.bool false)::env):=by simp [eh]
theorem adx (want:Bool):eh (.tuple []) g want env yes no=no env:=agI
theorem ZL (p:Prop) [Decidable p]:eh (.bool (decide p)) g true env yes no=((p→yes ((g,.bool true)::env))∧(¬ p→no ((g,.bool false)::env))):=by simp [eh]
theorem ZM (p:Prop) [Decidable p]:eh (.bool (decide p)) g false env yes no=((¬ p→yes ((g,.bool false)::env))∧(p→no ((g,.bool true)::env))):=by simp [eh]
end
def xQ (P:Px) (g:FuncId) (xs:List AV) (H:List aa) (K:AV→List aa→Prop):Prop:=∃ bX,ze xs bX∧dG P g bX H K
@[congr] theorem S3 {P:Px} {g:FuncId} {xs xs':List AV} {H H':List aa} {K:AV→List aa→Prop} (h:iv xs=xs') (h2:H=H'):xQ P g xs H K=xQ P g xs' H' K:=by subst h;subst h2;rfl
theorem Ec {P:Program} {lo:Option Nat} {g:FuncId} {xs ys:List AV} {H:List aa} {R K:AV→List aa→Prop} (hc:ax P g ys H R) (hl:ze xs ys) (hk:∀ r H',R r H'→K r H'):xQ ⟨P,lo⟩ g xs H K:=⟨ys,hl,dG.of (hc.mono hk)⟩
theorem af {P:Program} {lo:Option Nat} {g:FuncId} {xs:List AV} {H:List aa} {R K:AV→List aa→Prop} (hc:ax P g xs H R) (hk:∀ r H',R r H'→K r H'):xQ ⟨P,lo⟩ g xs H K:=⟨xs,bZ _,dG.of (hc.mono hk)⟩
theorem Kb {P:Program} {l:Nat} {g:FuncId} {xs:List AV} {H:List aa} {R K:AV→List aa→Prop} (hl:l≤H.length) (hc:jC P g xs H R) (hk:∀ r H',R r H'→K r H'):xQ ⟨P,some l⟩ g xs H K:=⟨xs,bZ _,dG.ofL hl (hc.mono hk)⟩
theorem ae {P:Program} {lo:Option Nat} {g:FuncId} {xs:List AV} {v:AV} {H:List aa} {K:AV→List aa→Prop} (hc:Pure P g xs v) (hk:K v H):xQ ⟨P,lo⟩ g xs H K:=
 ⟨xs,bZ _,dG.of ((hc H).mono fun r H' ⟨h1,h2⟩=>by rw [h1,h2];exact hk)⟩
theorem QV {P:Px} {env:Env} {H:List aa} (g:FuncId) (first cap:List AV) (args:List IX) (pass:Option Nat) (K:AV→Env→List aa→Prop):qz P (.fn (.func g) first cap) args pass env H K =
 xQ P g (first.map AV.ab++aL env pass 0 args++cap.map AV.ab) H (fun r H'=>K r (cL env (bh args pass)) H'):=agI
@[congr] theorem S4 {P:Px} {f f':AV} {args:List IX} {pass:Option Nat} {env:Env} {H:List aa} {K:AV→Env→List aa→Prop} (h:iv f=f'):qz P f args pass env H K=qz P f' args pass env H K:=by subst h;rfl
def Ar (P:Px) (st:Bool) (g:FuncId) (xs:List AV) (H:List aa) (K:AV→Prop):Prop:=
 ∃ x,(match st with
  | true=>∃ bX,ze xs bX∧ax P.prog g bX H (fun r H'=>r=x∧H'=H)
  | false=>∀ H,∃ bX,ze xs bX∧ax P.prog g bX H (fun r H'=>r=x∧H'=H))∧K x
@[congr] theorem S5 {P:Px} {st:Bool} {g:FuncId} {xs xs':List AV} {H:List aa} {K:AV→Prop} (h:iv xs=xs'):Ar P st g xs H K=Ar P st g xs' H K:=by subst h;rfl
theorem aF {P:Program} {lo:Option Nat} {st:Bool} {g:FuncId} {xs:List AV} {v:AV} {H:List aa} {K:AV→Prop} (hc:Pure P g xs v) (hk:K v):Ar ⟨P,lo⟩ st g xs H K:=
 ⟨v,(by cases st <;> first | exact ⟨xs,bZ _,hc H⟩ | exact fun H=>⟨xs,bZ _,hc H⟩),hk⟩
def rh (P:Px) (st:Bool) (f:AV) (xs:List AV) (H:List aa) (K:AV→Prop):Prop:=
 match f with
 | .fn (.func g) first cap=>Ar P st g (first.map AV.ab++xs++cap.map AV.ab) H K
 | _=>False
@[congr] theorem QW {P:Px} {st:Bool} {f f':AV} {xs xs':List AV} {H:List aa} {K:AV→Prop} (h:iv f=f') (h2:xs=xs'):rh P st f xs H K=rh P st f' xs' H K:=by subst h;subst h2;rfl
theorem Kc {P:Px} {st:Bool} (g:FuncId) (first cap xs:List AV) (H:List aa) (K:AV→Prop):rh P st (.fn (.func g) first cap) xs H K=Ar P st g (first.map AV.ab++xs++cap.map AV.ab) H K:=agI
def jh (x:AV) (H:List aa) (φ:AV→Prop):Prop:=match x with | .aj _ xs=>φ (.int .i64 xs.length) | x=>fj x H φ
@[congr] theorem S6 {x x':AV} {H:List aa} {φ:AV→Prop} (h:iv x=x'):jh x H φ=jh x' H φ:=by subst h;rfl
theorem Kd {x:AV} {H:List aa} {φ:AV→Prop} (h:jh x H φ):∃ z,fj x H (fun w=>w=z)∧φ z:=by
 cases x with
 | aj o xs=>exact ⟨_,fun _=>rfl,h⟩
 | map id=>
   simp only [jh,fj] at h ⊢
   split at h
   ·exact ⟨_,rfl,h⟩
   ·exact h.elim
 | _=>first | exact ⟨_,rfl,h⟩ | exact False.elim h
def pU (kd:Nat) (neq:Bool) (x:AV) (φ:AV→Prop):Prop:=match isNil kd x with | some b=>φ (.bool (if neq then !b else b)) | none=>False
@[congr] theorem OS {kd:Nat} {neq:Bool} {x x':AV} {φ:AV→Prop} (h:iv x=x'):pU kd neq x φ=pU kd neq x' φ:=by subst h;rfl
def xR (o:ch) (ρ:IX→AV) (H:List aa) (K:AV→Prop):Prop:=
 match o with
 | .set i false=>K (ρ i).ab
 | .pick c a b=>gF (ρ c) (K (ρ a).ab) (K (ρ b).ab)
 | .bin op i j=>dl op (ρ i) (ρ j) K
 | .shift op i j=>eE op (ρ i) (ρ j) K
 | .jl neq i j=>dc neq (ρ i) (ρ j) K
 | .kg kd neq i=>pU kd neq (ρ i) K
 | .un op i=>Bk op (ρ i) K
 | .m8 i=>(ρ i).val=true∧K (.ai (ρ i))
 | .build z ps=>cD z.cells (ps.map fun q=>(q.1,q.2.1,ρ q.2.2)) K
 | .buildSlice own esz z len ps=>bm (List.replicate len (aU z)) esz (ps.map fun q=>(q.1,ρ q.2)) fun xs=>K (.aj own xs)
 | .load sz i=>aY sz (ρ i) H K
 | .nilCheck i=>b9 (ρ i) K
 | .fieldAddr off sz i=>ap off sz (ρ i) K
 | .field off sz i=>fB off sz (ρ i) K
 | .indexAddr esz i j=>(∀ own xs,ρ i=.aj own xs→∀ z∈xs,z.cells.length=esz)∧aE esz (ρ i) (ρ j) K
 | .dm i j=>bO (ρ i) (ρ j) K
 | .eC n i j=>b8 n (ρ i) (ρ j) K
 | .slice esz i lo hi mx=>bC esz (ρ i) (lo.map ρ) (hi.map ρ) (mx.map ρ) K
 | .eD i lo hi=>cv (ρ i) (lo.map ρ) (hi.map ρ) K
 | .len kd i=>aO kd (ρ i)∧jh (ρ i) H K
 | .lookup kd z m k ok=>cB kd z (ρ m) (ρ k) ok H K
 | .fn f first cap=>K (.fn f (first.map fun x=>(ρ x).ab) (cap.map fun x=>(ρ x).ab))
 | .extract i k=>bK (ρ i) k K
 | .fp k i=>cI k (ρ i) K
 | .mx big i j=>yY big (ρ i) (ρ j) K
 | _=>False
theorem Ed {P:Px} {o:ch} {ρ:IX→AV} {H:List aa} {K:AV→Prop} (h:xR o ρ H K):∃ x,di P o ρ H x∧K x:=by
 unfold xR at h
 split at h
 ·exact ⟨_,rfl,h⟩
 ·unfold gF fA at h
  simp only [di,fA]
  split at h
  ·rename_i b hb
   cases b with
   | true=>exact ⟨_,⟨fun _=>rfl,fun e=>by cases e⟩,h.1 rfl⟩
   | false=>exact ⟨_,⟨fun e=>(by cases e),fun _=>rfl⟩,h.2 rfl⟩
  ·exact h.elim
 ·exact Ms h
 ·exact GF h
 ·exact D9 h
 ·unfold pU at h
  split at h
  ·rename_i b hb
   refine ⟨_,?_,h⟩
   simp only [di,dx,hb]
  ·exact h.elim
 ·exact QO h
 ·exact ⟨_,⟨h.1,rfl⟩,h.2⟩
 ·exact Aq h
 ·exact vB h
 ·exact Ka h
 ·exact zw h
 ·exact xO h
 ·exact GG h
 ·obtain ⟨z,k1,k2⟩:=xP h.2
  exact ⟨z,⟨h.1,k1⟩,k2⟩
 ·exact zr h
 ·exact zt h
 ·exact Ea h
 ·exact zx h
 ·obtain ⟨z,k1,k2⟩:=Kd h.2
  exact ⟨z,⟨h.1,k1⟩,k2⟩
 ·exact Eb h
 ·exact ⟨_,rfl,h⟩
 ·exact B7 h
 ·exact B8 h
 ·exact QP h
 ·exact h.elim
theorem Ke {P:Px} {o:ch} {ρ:IX→AV} {K:AV→Prop} (h:xR o ρ [] K):∃ x,(∀ H,di P o ρ H x)∧K x:=by
 obtain ⟨x,h1,h2⟩:=Ed (P:=P) h
 have hs:o.stays=true:=by
  cases o <;> first | rfl | exact h.elim
 exact ⟨x,fun H=>by have:=Ae (e:=H) hs h1;simpa using this,h2⟩
def mY (P:Px) (st:Bool) (o:ch) (ρ:IX→AV) (H:List aa) (K:AV→Prop):Prop:=
 match o with
 | .call f args none=>rh P st (ρ f) (args.map fun x=>(ρ x).ab) H K
 | o=>xR o ρ (match st with | true=>H | false=>[]) K
theorem Mt {P:Px} {st:Bool} {o:ch} {ρ:IX→AV} {H:List aa} {K:AV→Prop} (h:mY P st o ρ H K):∃ x,dv P st o ρ H x∧K x:=by
 unfold mY at h
 split at h
 ·rename_i f args
  unfold rh at h
  split at h
  ·rename_i g first cap e
   obtain ⟨x,h1,h2⟩:=h
   cases st with
   | true=>exact ⟨x,by simp only [dv,di,e];exact h1,h2⟩
   | false=>exact ⟨x,by simp only [dv,di,e];exact h1,h2⟩
  ·exact h.elim
 ·cases st with
  | true=>exact Ed h
  | false=>exact Ke h
def IA (P:Px) (st:Bool) (o:bH) (env:Env) (H:List aa) (K:Env→Prop):Prop:=
 match o.g with
 | none=>mY P st o.op (au env) H fun x=>K (put o.dst x env)
 | some (g,want)=>eh (get env g) g want env (fun _=>mY P st o.op (au env) H fun x=>K (put o.dst x env)) (fun _=>K (put o.dst (.tuple []) env))
theorem Ee {P:Px} {st:Bool} {o:bH} {env:Env} {H:List aa} {K1 K2:Env→Prop} (h:IA P st o env H K1) (hK:∀ e,K1 e→K2 e):u0 P st o env H K2:=by
 unfold IA at h
 unfold u0
 split at h
 ·rename_i e
  rw [e]
  obtain ⟨x,h1,h2⟩:=Mt h
  exact ⟨x,h1,hK _ h2⟩
 ·rename_i g want e
  rw [e]
  unfold eh at h
  unfold jo
  dsimp only
  split at h
  ·rename_i b hb
   rw [hb]
   refine ⟨fun eb=>?_,fun eb=>hK _ (h.2 eb)⟩
   obtain ⟨x,h1,h2⟩:=Mt (h.1 eb)
   exact ⟨x,h1,hK _ h2⟩
  ·rename_i hb
   rw [hb]
   exact hK _ h
  ·exact h.elim
theorem Ef {P:Px} {o:ch} {dst:Option Nat} {env:Env} {H:List aa} {K1 K2:Env→List aa→Prop} (h:bD P o dst env H K1) (hK:∀ e H',K1 e H'→K2 e H'):bD P o dst env H K2:=
 pL (fun _ _=>rfl) h fun mods H' _ _ _ hk=>hK _ _ hk
theorem ub {P:Px} {o:bH} {env:Env} {H:List aa} {K1 K2:Env→List aa→Prop} (h:tM P o env H K1) (hK:∀ e H',K1 e H'→K2 e H'):tM P o env H K2:=by
 unfold tM at *
 split at h
 ·exact Ef h hK
 ·rename_i g want e
  unfold jo at *
  split at h
  ·exact ⟨fun eb=>Ef (h.1 eb) hK,fun eb=>hK _ _ (h.2 eb)⟩
  ·exact hK _ _ h
  ·exact h.elim
theorem uc {P:Px}:∀ {ops:List bH} {env:Env} {H:List aa} {K1 K2:Env→List aa→Prop},ku P ops env H K1→(∀ e H',K1 e H'→K2 e H')→ku P ops env H K2
 | [],_,_,_,_,h,hK=>hK _ _ h
 | o::r,_,_,_,_,h,hK=>ub h fun _ _ h=>uc h hK
def jZ (P:Px):DT→Env→List aa→(Env→List aa→Prop)→Prop
 | .done,env,H,K=>K env H
 | .take st o r,env,H,K=>IA P st o env H fun env=>jZ P r env H K
 | .br o t rest,env,H,K=>tM P o env H (fun env H=>jZ P t env H K)∧jZ P rest env H K
 | .nil,_,_,_=>True
theorem sF {P:Px}:∀ {t:DT} {env:Env} {H:List aa} {K1 K2:Env→List aa→Prop},jZ P t env H K1→(∀ e H',K1 e H'→K2 e H')→wu P t env H K2
 | .done,_,_,_,_,h,hK=>hK _ _ h
 | .take st o r,_,_,_,_,h,hK=>Ee h fun _ h=>sF h hK
 | .br o t rest,_,_,_,_,h,hK=>⟨ub h.1 fun _ _ h=>sF h hK,sF h.2 hK⟩
 | .nil,_,_,_,_,h,hK=>trivial
def xS (P:Px) (f:AV) (lc:jE) (env:Env) (H:List aa) (K:Option Code→List aa→Prop):Prop:=
 match f with
 | .fn (.func g) first cap=>(∀ (as:Array Value) (w:World),(callFunc g as).run P.prog w=.ok (.enter g as) w)∧
    ∃ bX,ze (first.map AV.ab++[.oJ H.length]++cap.map AV.ab) bX∧dG P g bX (H++[.loop .ready lc (lV lc.n env)]) fun _ H'=>behind H.length H' K
 | _=>False
theorem As {j:Option Code} {Q1 Q2:Exit→Env→List aa→Prop} {env:Env} {H:List aa} (h:qT j Q1 env H) (hQ:∀ x e H',Q1 x e H'→Q2 x e H'):qT j Q2 env H:=by
 unfold qT at *
 split at h <;> first | exact hQ _ _ _ h | exact h.elim
theorem vC {id:Nat} {H:List aa} {K1 K2:Option Code→List aa→Prop} (h:behind id H K1) (hK:∀ j H',K1 j H'→K2 j H'):behind id H K2:=by
 unfold behind at *
 split at h <;> first | exact hK _ _ h | exact h.elim
def mC (P:Px) (n0:Nat):IR→Env→List aa→(Exit→Env→List aa→Prop)→Prop
 | .skip,env,H,Q=>Q .normal env H
 | .region ops live,env,H,Q=>ku P ops env H fun aK H'=>Q .normal (fa live aK) H'
 | .draw t live,env,H,Q=>jZ P t env H fun aK H'=>Q .normal (fa live aK) H'
 | .seq a b,env,H,Q=>mC P n0 a env H fun e aK H'=>match e with
   | .normal=>mC P n0 b aK H' Q
   | e=>Q e aK H'
 | .cond x a b,env,H,Q=>gF (au env x) (mC P n0 a env H Q) (mC P n0 b env H Q)
 | .block id a,env,H,Q=>mC P n0 a env H fun e aK H'=>match e with
   | .exit id'=>if id'=id then Q .normal aK H' else Q (.exit id') aK H'
   | e=>Q e aK H'
 | .loop a,env,H,Q=>∃ (ι:Type) (I:ι→Prop) (se:ι→Env) (sh:ι→List aa) (μ:ι→Nat),(∃ i,I i∧JG P.lo n0 env H (se i) (sh i))∧
    ∀ i,I i→mC P n0 a (se i) (sh i) fun e aK H'=>match e with
     | .normal=>∃ j,I j∧μ j < μ i∧JG P.lo n0 aK H' (se j) (sh j)
     | e=>Q e aK H'
 | .exit id,env,H,Q=>Q (.exit id) env H
 | .ret,env,H,Q=>Q .ret env H
 | .never,env,H,Q=>False
 | .jW f lc,env,H,Q=>xS P (au env f) lc env H fun j H''=>qT j Q env H''
theorem sG {P:Px} {n0:Nat}:∀ {ir:IR} {env:Env} {H:List aa} {Q1 Q2:Exit→Env→List aa→Prop},mC P n0 ir env H Q1→(∀ x e H',Q1 x e H'→Q2 x e H')→mX P n0 ir env H Q2:=by
 intro ir
 induction ir with
 | skip=>exact fun h hQ=>hQ _ _ _ h
 | region ops live=>exact fun h hQ=>uc h fun _ _ h=>hQ _ _ _ h
 | draw t live=>exact fun h hQ=>sF h fun _ _ h=>hQ _ _ _ h
 | seq a b GI VA=>
   exact fun h hQ=>GI h fun x e H' h=>by
    cases x with
    | normal=>exact VA h hQ
    | _=>exact hQ _ _ _ h
 | cond x a b GI VA=>
   intro env H Q1 Q2 h hQ
   unfold mC gF fA at h
   unfold mX fA
   split at h
   ·exact ⟨fun e=>GI (h.1 e) hQ,fun e=>VA (h.2 e) hQ⟩
   ·exact h.elim
 | block id a GI=>
   exact fun h hQ=>GI h fun x e H' h=>by
    cases x with
    | exit id'=>
      dsimp only at h ⊢
      split
      ·rename_i bn;rw [if_pos bn] at h;exact hQ _ _ _ h
      ·rename_i bn;rw [if_neg bn] at h;exact hQ _ _ _ h
    | _=>exact hQ _ _ _ h
 | loop a GI=>
   intro env H Q1 Q2 h hQ
   obtain ⟨ι,I,se,sh,μ,h0,hs⟩:=h
   exact ⟨ι,I,se,sh,μ,h0,fun i hi=>GI (hs i hi) fun x e H' h=>by
    cases x with
    | normal=>exact h
    | _=>exact hQ _ _ _ h⟩
 | exit id=>exact fun h hQ=>hQ _ _ _ h
 | ret=>exact fun h hQ=>hQ _ _ _ h
 | never=>exact fun h _=>h.elim
 | jW f lc=>
   intro env H Q1 Q2 h hQ
   unfold mC xS at h
   unfold mX
   split at h
   ·rename_i g first cap e
    obtain ⟨h1,bX,h2,h3⟩:=h
    rw [e]
    exact ⟨h1,bX,h2,h3.mono fun _ H' hb=>vC hb fun j H'' hg=>As hg hQ⟩
   ·exact h.elim
theorem gE.calls {P:Program} {f:FuncId} {fi:qo} (h:gE P f fi) {args:List AV} {H:List aa} {R:AV→List aa→Prop} (hn:Nat.ble args.length fi.n=true)
 (hw:mC P H.length fi.ir (bY 0 args) H fun e env H'=>(e=.normal∨e=.ret)∧bS H.length fi.rs env H' R):ax P f args H R:=
 h.BY (ad3 hn) (sG hw fun _ _ _ h=>h)
theorem gE.B9 {P:Program} {f:FuncId} {fi:qo} (h:gE P f fi) {args:List AV} {H:List aa} {R:AV→List aa→Prop} (hn:Nat.ble args.length fi.n=true)
 (hw:mC ⟨P,some H.length⟩ H.length fi.ir (bY 0 args) H fun e env H'=>(e=.normal∨e=.ret)∧jH (oc H.length) H.length fi.rs env H' R):ax P f args H R:=
 h.PL (ad3 hn) (sG hw fun _ _ _ h=>h)
theorem gE.VB {P:Program} {f:FuncId} {fi:qo} (h:gE P f fi) {args:List AV} {H:List aa} {R:AV→List aa→Prop} (hn:Nat.ble args.length fi.n=true)
 (hw:mC ⟨P,some H.length⟩ H.length fi.ir (bY 0 args) H fun e env H'=>(e=.normal∨e=.ret)∧jH (xu H.length) H.length fi.rs env H' R):jC P f args H R:=
 h.PM (ad3 hn) (sG hw fun _ _ _ h=>h)
section
variable {P:Px} {n0:Nat} {env:Env} {H:List aa} {Q:Exit→Env→List aa→Prop}
theorem Mv:mC P n0 .skip env H Q=Q .normal env H:=agI
theorem GJ (ops:List bH) (live:Option (List Nat)):mC P n0 (.region ops live) env H Q=ku P ops env H fun aK H'=>Q .normal (fa live aK) H':=agI
theorem Mw (t:DT) (live:Option (List Nat)):mC P n0 (.draw t live) env H Q=jZ P t env H fun aK H'=>Q .normal (fa live aK) H':=agI
theorem QX (a b:IR):mC P n0 (.seq a b) env H Q=mC P n0 a env H fun e aK H'=>match e with
 | .normal=>mC P n0 b aK H' Q
 | e=>Q e aK H':=agI
theorem Eg (x:IX) (a b:IR):mC P n0 (.cond x a b) env H Q=gF (au env x) (mC P n0 a env H Q) (mC P n0 b env H Q):=agI
theorem Kf (id:Nat) (a:IR):mC P n0 (.block id a) env H Q=mC P n0 a env H fun e aK H'=>match e with
 | .exit id'=>if id'=id then Q .normal aK H' else Q (.exit id') aK H'
 | e=>Q e aK H':=agI
theorem At (f:IX) (lc:jE):mC P n0 (.jW f lc) env H Q=xS P (au env f) lc env H fun j H''=>qT j Q env H'':=agI
theorem Mx (id:Nat):mC P n0 (.exit id) env H Q=Q (.exit id) env H:=agI
theorem QY:mC P n0 .ret env H Q=Q .ret env H:=agI
@[congr] theorem Xr {ir:IR} {aK:Env} {H':List aa} (h:iv env=aK) (h2:H=H'):mC P n0 ir env H Q=mC P n0 ir aK H' Q:=by subst h;subst h2;rfl
@[congr] theorem VC {ops:List bH} {aK:Env} {H':List aa} {K:Env→List aa→Prop} (h:iv env=aK) (h2:H=H'):ku P ops env H K=ku P ops aK H' K:=by subst h;subst h2;rfl
@[congr] theorem VD {t:DT} {aK:Env} {H':List aa} {K:Env→List aa→Prop} (h:iv env=aK) (h2:H=H'):jZ P t env H K=jZ P t aK H' K:=by subst h;subst h2;rfl
theorem My (K:Env→List aa→Prop):ku P [] env H K=K env H:=agI
theorem VE (d:Option Nat) (op:ch) (r:List bH) (K:Env→List aa→Prop):ku P (⟨none,d,op⟩::r) env H K=bD P op d env H fun env H=>ku P r env H K:=agI
theorem VF (g:Nat) (w:Bool) (d:Option Nat) (op:ch) (r:List bH) (K:Env→List aa→Prop):ku P (⟨some (g,w),d,op⟩::r) env H K =
 eh (get env g) g w env (fun env=>bD P op d env H fun env H=>ku P r env H K) (fun env=>ku P r (put d (.tuple []) env) H K):=agI
theorem ZN (d:Option Nat) (op:ch) (K:Env→List aa→Prop):tM P ⟨none,d,op⟩ env H K=bD P op d env H K:=agI
theorem ZO (g:Nat) (w:Bool) (d:Option Nat) (op:ch) (K:Env→List aa→Prop):tM P ⟨some (g,w),d,op⟩ env H K =
 eh (get env g) g w env (fun env=>bD P op d env H K) (fun env=>K (put d (.tuple []) env) H):=agI
@[congr] theorem Xs {o:bH} {K:Env→List aa→Prop} {H':List aa} (h:iv H=H'):tM P o env H K=tM P o env H' K:=by subst h;rfl
@[congr] theorem Xt {o:ch} {d:Option Nat} {K:Env→List aa→Prop} {H':List aa} (h:iv H=H'):bD P o d env H K=bD P o d env H' K:=by subst h;rfl
theorem Kg (K:Env→List aa→Prop):jZ P .done env H K=K env H:=agI
theorem Mz (K:Env→List aa→Prop):jZ P .nil env H K=True:=agI
theorem VG (st:Bool) (d:Option Nat) (op:ch) (r:DT) (K:Env→List aa→Prop):jZ P (.take st ⟨none,d,op⟩ r) env H K=mY P st op (au env) H fun x=>jZ P r (put d x env) H K:=agI
theorem VH (st:Bool) (g:Nat) (w:Bool) (d:Option Nat) (op:ch) (r:DT) (K:Env→List aa→Prop):jZ P (.take st ⟨some (g,w),d,op⟩ r) env H K =
 eh (get env g) g w env (fun _=>mY P st op (au env) H fun x=>jZ P r (put d x env) H K) (fun _=>jZ P r (put d (.tuple []) env) H K):=agI
theorem QZ (o:bH) (t rest:DT) (K:Env→List aa→Prop):jZ P (.br o t rest) env H K=(tM P o env H (fun env H=>jZ P t env H K)∧jZ P rest env H K):=agI
@[congr] theorem Xu {st:Bool} {o:ch} {ρ:IX→AV} {K:AV→Prop} {H':List aa} (h:iv H=H'):mY P st o ρ H K=mY P st o ρ H' K:=by subst h;rfl
theorem MA {P:Program} {a:IR} (ι:Type) (I:ι→Prop) (se:ι→Env) (sh:ι→List aa) (μ:ι→Nat) (i0:ι) (h0:I i0) (X6:sle n0 env H (se i0) (sh i0))
 (hs:∀ i,I i→mC P n0 a (se i) (sh i) fun e aK H'=>match e with
   | .normal=>∃ j,I j∧μ j < μ i∧sle n0 aK H' (se j) (sh j)
   | e=>Q e aK H'):mC P n0 (.loop a) env H Q:=⟨ι,I,se,sh,μ,⟨i0,h0,X6⟩,hs⟩
theorem ay {P:Program} {a:IR} (N:Nat) (I:Nat→Prop) (se:Nat→Env) (sh:Nat→List aa) (h0:I 0∧sle n0 env H (se 0) (sh 0))
 (hs:∀ i,i≤N→I i→mC P n0 a (se i) (sh i) fun e aK H'=>match e with
   | .normal=>∃ j,(j≤N∧I j)∧N - j < N - i∧sle n0 aK H' (se j) (sh j)
   | e=>Q e aK H'):mC P n0 (.loop a) env H Q:=
 ⟨Nat,fun i=>i≤N∧I i,se,sh,fun i=>N - i,⟨0,⟨acR _,h0.1⟩,h0.2⟩,fun i hi=>hs i hi.1 hi.2⟩
end
section
variable {φ:AV→Prop}
@[congr] theorem S7 {v v':AV} {ψ:Bool→Prop} (h:iv v=v'):fA v ψ=fA v' ψ:=by subst h;rfl
@[congr] theorem VI {op:BinOp} {x x' y y':AV} (h:iv x=x') (h2:y=y'):dl op x y φ=dl op x' y' φ:=by subst h;subst h2;rfl
@[congr] theorem Q0 {op:BinOp} {x x' y y':AV} (h:iv x=x') (h2:y=y'):eE op x y φ=eE op x' y' φ:=by subst h;subst h2;rfl
@[congr] theorem OT {n:Bool} {x x' y y':AV} (h:iv x=x') (h2:y=y'):dc n x y φ=dc n x' y' φ:=by subst h;subst h2;rfl
@[congr] theorem Q3 {k:Nat} {n:Bool} {x x':AV} (h:iv x=x'):dx k n x φ=dx k n x' φ:=by subst h;rfl
@[congr] theorem Xv {op:UnOp} {x x':AV} (h:iv x=x'):Bk op x φ=Bk op x' φ:=by subst h;rfl
@[congr] theorem S8 {sz:Option Nat} {x x':AV} {H H':List aa} (h:iv x=x') (h2:H=H'):aY sz x H φ=aY sz x' H' φ:=by subst h;subst h2;rfl
@[congr] theorem Kh {off:Nat} {sz:Option Nat} {x x':AV} (h:iv x=x'):ap off sz x φ=ap off sz x' φ:=by subst h;rfl
@[congr] theorem Q4 {off:Nat} {sz:Option Nat} {x x':AV} (h:iv x=x'):fB off sz x φ=fB off sz x' φ:=by subst h;rfl
@[congr] theorem Ki {e:Nat} {x x' y y':AV} (h:iv x=x') (h2:y=y'):aE e x y φ=aE e x' y' φ:=by subst h;subst h2;rfl
@[congr] theorem K9 {n:Nat} {x x' y y':AV} (h:iv x=x') (h2:y=y'):b8 n x y φ=b8 n x' y' φ:=by subst h;subst h2;rfl
@[congr] theorem Lb {x x' y y':AV} (h:iv x=x') (h2:y=y'):bO x y φ=bO x' y' φ:=by subst h;subst h2;rfl
@[congr] theorem VJ {x x':AV} {H H':List aa} (h:iv x=x') (h2:H=H'):fj x H φ=fj x' H' φ:=by subst h;subst h2;rfl
@[congr] theorem MB {x x':AV} {i:Nat} (h:iv x=x'):bK x i φ=bK x' i φ:=by subst h;rfl
@[congr] theorem Lc {x x':AV} (h:iv x=x'):b9 x φ=b9 x' φ:=by subst h;rfl
@[congr] theorem MC {k:IntKind} {x x':AV} (h:iv x=x'):cI k x φ=cI k x' φ:=by subst h;rfl
@[congr] theorem Xw {b:Bool} {x x' y y':AV} (h:iv x=x') (h2:y=y'):yY b x y φ=yY b x' y' φ:=by subst h;subst h2;rfl
@[congr] theorem OU {kd:Nat} {z m m' k k':AV} {ok:Bool} {H H':List aa} (h:iv m=m') (h2:k=k') (h3:H=H'):cB kd z m k ok H φ=cB kd z m' k' ok H' φ:=by subst h;subst h2;subst h3;rfl
@[congr] theorem OV {kd:Nat} {m m' k k' x x':AV} {H H':List aa} {K:List aa→Prop} (h:iv m=m') (h2:k=k') (h3:x=x') (h4:H=H'):fV kd m k x H K=fV kd m' k' x' H' K:=by subst h;subst h2;subst h3;subst h4;rfl
@[congr] theorem Q5 {m:Nat} {p p' x x':AV} {H H':List aa} {K:List aa→Prop} (h:iv p=p') (h2:x=x') (h3:H=H'):jn m p x H K=jn m p' x' H' K:=by subst h;subst h2;subst h3;rfl
@[congr] theorem MD {p p' x x':AV} {H H':List aa} {K:List aa→Prop} (h:iv p=p') (h2:x=x') (h3:H=H'):eF p x H K=eF p' x' H' K:=by subst h;subst h2;subst h3;rfl
@[congr] theorem OW {e b:Nat} {s s' x x':AV} {ψ:List AV→Prop} (h:iv s=s') (h2:x=x'):bw e b s x ψ=bw e b s' x' ψ:=by subst h;subst h2;rfl
@[congr] theorem Q6 {e b:Nat} {z n n':AV} {H H':List aa} {K:AV→List aa→Prop} (h:iv n=n') (h2:H=H'):fF e b z n H K=fF e b z n' H' K:=by subst h;subst h2;rfl
@[congr] theorem ME {e b:Nat} {z s s' x x':AV} {H H':List aa} {K:AV→List aa→Prop} (h:iv s=s') (h2:x=x') (h3:H=H'):cV e b z s x H K=cV e b z s' x' H' K:=by subst h;subst h2;subst h3;rfl
@[congr] theorem MF {lo e b:Nat} {z s s' x x':AV} {H H':List aa} {K:AV→List aa→Prop} (h:iv s=s') (h2:x=x') (h3:H=H'):fJ lo e b z s x H K=fJ lo e b z s' x' H' K:=by subst h;subst h2;subst h3;rfl
@[congr] theorem OX {e:Nat} {z x x':AV} {H H':List aa} {K:List aa→Prop} (h:iv x=x') (h2:H=H'):jB e z x H K=jB e z x' H' K:=by subst h;subst h2;rfl
@[congr] theorem S9 {xs xs':List AV} {H H':List aa} {K:AV→List aa→Prop} (h:iv xs=xs') (h2:H=H'):uW xs H K=uW xs' H' K:=by subst h;subst h2;rfl
@[congr] theorem Q7 {e b:Nat} {n n':AV} (h:iv n=n'):jU e b n φ=jU e b n' φ:=by subst h;rfl
@[congr] theorem Ta {e:Nat} {d d' s s':AV} {H H':List aa} {K:AV→List aa→Prop} (h:iv d=d') (h2:s=s') (h3:H=H'):kN e d s H K=kN e d' s' H' K:=by subst h;subst h2;subst h3;rfl
@[congr] theorem Tc {e:Nat} {x x':AV} {H H':List aa} {K:AV→List aa→Prop} (h:iv x=x') (h2:H=H'):gf e x H K=gf e x' H' K:=by subst h;subst h2;rfl
@[congr] theorem OY {e:Nat} {x x':AV} {lo lo' hi mq m m':Option AV} (h:iv x=x') (h1:lo=lo') (h2:hi=mq) (h3:m=m'):bC e x lo hi m φ=bC e x' lo' mq m' φ:=by subst h;subst h1;subst h2;subst h3;rfl
@[congr] theorem Ld {x x':AV} {lo lo' hi mq:Option AV} (h:iv x=x') (h1:lo=lo') (h2:hi=mq):cv x lo hi φ=cv x lo' mq φ:=by subst h;subst h1;subst h2;rfl
@[congr] theorem VK {n0:Nat} {rs:List RX} {env aK:Env} {H H':List aa} {R:AV→List aa→Prop} (h:iv env=aK) (h2:H=H'):bS n0 rs env H R=bS n0 rs aK H' R:=by subst h;subst h2;rfl
end
end Go.aI
end
section
namespace Go.aI
open Go
section
variable {P:Px} {env:Env} {H:List aa} {dst:Option Nat} {K:Env→List aa→Prop}
theorem VL (op:BinOp) (x:IX) (y:IX):bD P (.bin op x y) dst env H K=(dl op (au env x) (au env y) fun z=>K (put dst z env) H):=agI
theorem MG (op:BinOp) (x:IX) (y:IX):bD P (.shift op x y) dst env H K=(eE op (au env x) (au env y) fun z=>K (put dst z env) H):=agI
theorem Kj (neq:Bool) (x:IX) (y:IX):bD P (.jl neq x y) dst env H K=(dc neq (au env x) (au env y) fun z=>K (put dst z env) H):=agI
theorem MH (kd:Nat) (neq:Bool) (x:IX):bD P (.kg kd neq x) dst env H K=(dx kd neq (au env x) fun z=>K (put dst z env) H):=agI
theorem ZP (op:UnOp) (x:IX):bD P (.un op x) dst env H K=(Bk op (au env x) fun z=>K (put dst z env) H):=agI
theorem VM (x:IX):bD P (.box x) dst env H K=((au env x).val=true∧al (H.length + 1) ((au env x).cells.map AV.ab)=true∧K (put dst (.ptr H.length 0) env) (H++[.cells ((au env x).cells.map AV.ab)])):=agI
theorem Q8 (x:IX):bD P (.m8 x) dst env H K=((au env x).val=true∧K (put dst (.ai (au env x)) env) H):=agI
theorem Q9 (m:Nat) (x:IX):bD P (.tC m x) dst env H K=((au env x).val=true∧(au env x).cells.length=m∧(au env x).cells.all AV.one=true∧K (put dst (.ai (au env x)) env) H):=agI
theorem MJ (z:AV):bD P (.alloc z) dst env H K=(al (H.length + 1) (z.cells.map AV.ab)=true∧K (put dst (.ptr H.length 0) env) (H++[.cells (z.cells.map AV.ab)])):=agI
theorem MK (z:AV) (ps:List (Nat×Nat×IX)):bD P (.build z ps) dst env H K=(cD z.cells (ps.map fun q=>(q.1,q.2.1,au env q.2.2)) fun v=>K (put dst v env) H):=agI
theorem zy (own:Nat) (esz:Nat) (z:AV) (len:Nat) (ps:List (Nat×IX)):bD P (.buildSlice own esz z len ps) dst env H K=(bm (List.replicate len (aU z)) esz (ps.map fun q=>(q.1,au env q.2)) fun xs=>K (put dst (.aj own xs) env) H):=agI
theorem Ra (sz:Option Nat) (a:IX):bD P (.load sz a) dst env H K=(aY sz (au env a) H fun z=>K (put dst z env) H):=agI
theorem ML (sz:Option Nat) (esz:Nat) (a:IX):bD P (.uO sz esz a) dst env H K=(aY sz (au env a) H fun z=>gf esz z H fun y H'=>K (put dst y env) H'):=agI
theorem MM (m:Nat) (a:IX) (x:IX):bD P (.store m a x) dst env H K=(jn m (au env a) (au env x) H fun H'=>K env H'):=agI
theorem Kk {P:Program} {l:Nat} (m:Nat) (a:IX) (x:IX):bD ⟨P,some l⟩ (.oM m a x) dst env H K=(iL l m (au env a) (au env x) H fun H'=>K env H'):=agI
theorem xT {P:Program} {l:Nat} (esz bytes:Nat) (z:AV) (s x:IX):bD ⟨P,some l⟩ (.km esz bytes z s x) dst env H K=(fJ l esz bytes z (au env s) (au env x) H fun v H'=>K (put dst v env) H'):=agI
theorem GK (a:IX) (s:Nat):bD P (.fR a s) dst env H K=(eF (au env a) (get env s) H fun H'=>K ((s,(get env s).ab)::env) H'):=agI
theorem Eh (x:IX):bD P (.nilCheck x) dst env H K=(b9 (au env x) fun z=>K (put dst z env) H):=agI
theorem Ca (off:Nat) (sz:Option Nat) (x:IX):bD P (.fieldAddr off sz x) dst env H K=(ap off sz (au env x) fun z=>K (put dst z env) H):=agI
theorem MN (off:Nat) (sz:Option Nat) (x:IX):bD P (.field off sz x) dst env H K=(fB off sz (au env x) fun z=>K (put dst z env) H):=agI
theorem Cb (esz:Nat) (x:IX) (i:IX):bD P (.indexAddr esz x i) dst env H K=((∀ own xs,au env x=.aj own xs→∀ z∈xs,z.cells.length=esz)∧aE esz (au env x) (au env i) fun z=>K (put dst z env) H):=agI
theorem Ei (n:Nat) (x:IX) (i:IX):bD P (.eC n x i) dst env H K=(b8 n (au env x) (au env i) fun z=>K (put dst z env) H):=agI
theorem Kl (esz:Nat) (x:IX) (lo:Option IX) (hi:Option IX) (mx:Option IX):bD P (.qP esz x lo hi mx) dst env H K=((∀ own xs,au env x=.aj own xs→∀ z∈xs,z.cells.length=esz)∧fH esz (au env x) (gU env lo) (gU env hi) (gU env mx) fun z=>z=.aj esz []∧K (put dst .oI env) H):=agI
theorem Ej (x:IX) (i:IX):bD P (.dm x i) dst env H K=(bO (au env x) (au env i) fun z=>K (put dst z env) H):=agI
theorem MO (esz:Nat) (x:IX) (lo:Option IX) (hi:Option IX) (mx:Option IX):bD P (.slice esz x lo hi mx) dst env H K=(bC esz (au env x) (gU env lo) (gU env hi) (gU env mx) fun z=>K (put dst z env) H):=agI
theorem Rb (esz:Nat) (d:IX) (s:IX):bD P (.copy esz d s) dst env H K=(kN esz (au env d) (au env s) H fun z H'=>K (put dst z env) H'):=agI
theorem Ek (x:IX) (lo:Option IX) (hi:Option IX):bD P (.eD x lo hi) dst env H K=(cv (au env x) (gU env lo) (gU env hi) fun z=>K (put dst z env) H):=agI
theorem VN (kd:Nat) (x:IX):bD P (.len kd x) dst env H K=(aO kd (au env x)∧fj (au env x) H fun z=>K (put dst z env) H):=agI
theorem Km (esz:Nat) (bytes:Nat) (s:IX) (x:IX):bD P (.append esz bytes s x) dst env H K=(bw esz bytes (au env s) (au env x) fun zs=>K (put dst (.aj esz zs) (cL env s.slot)) H):=agI
theorem MP (esz:Nat) (bytes:Nat) (z:AV) (n:IX):bD P (.uP esz bytes z n) dst env H K=(fF esz bytes z (au env n) H fun v H'=>K (put dst v env) H'):=agI
theorem wG (esz:Nat) (z:AV) (len:Nat) (ps:List (Nat×IX)):bD P (.Dg esz z len ps) dst env H K=(bm (List.replicate len (aU z)) esz (ps.map fun q=>(q.1,au env q.2)) fun xs=>uW xs H fun v H'=>K (put dst v env) H'):=agI
theorem Kn (esz:Nat) (z:AV) (x:IX):bD P (.oP esz z x) dst env H K=(jB esz z (au env x) H fun H'=>K (put dst (.tuple []) env) H'):=agI
theorem GL (esz bytes:Nat) (z:AV) (s x:IX):bD P (.kj esz bytes z s x) dst env H K=(cV esz bytes z (au env s) (au env x) H fun v H'=>K (put dst v env) H'):=agI
theorem MQ (esz:Nat) (bytes:Nat) (n:IX):bD P (.oN esz bytes n) dst env H K=(jU esz bytes (au env n) fun v=>K (put dst v env) H):=agI
theorem MR :bD P (.oO ) dst env H K=(K (put dst (.map H.length) env) (H++[.map []])):=agI
theorem Ko (kd:Nat) (z:AV) (m:IX) (k:IX) (ok:Bool):bD P (.lookup kd z m k ok) dst env H K=(cB kd z (au env m) (au env k) ok H fun v=>K (put dst v env) H):=agI
theorem Kp (kd:Nat) (m:IX) (k:IX) (x:IX):bD P (.lO kd m k x) dst env H K=(fV kd (au env m) (au env k) (au env x) H fun H'=>K env H'):=agI
theorem ZQ (f:Fn) (first:List IX) (cap:List IX):bD P (.fn f first cap) dst env H K=(K (put dst (.fn f (first.map fun x=>(au env x).ab) (cap.map fun x=>(au env x).ab)) env) H):=agI
theorem GM (x:IX) (i:Nat):bD P (.extract x i) dst env H K=(bK (au env x) i fun z=>K (put dst z env) H):=agI
theorem GN (k:IntKind) (x:IX):bD P (.fp k x) dst env H K=(cI k (au env x) fun z=>K (put dst z env) H):=agI
theorem GO (x:IX):bD P (.iI x) dst env H K=(gA (au env x) fun z=>K (put dst z env) H):=agI
theorem GP (x:IX):bD P (.bytesOf x) dst env H K=(fI 1 (au env x) fun z=>K (put dst z env) H):=agI
theorem MS (x:IX):bD P (.strOf x) dst env H K=(kM (au env x) fun z=>K (put dst z env) H):=agI
theorem ZR (big:Bool) (a:IX) (b:IX):bD P (.mx big a b) dst env H K=(yY big (au env a) (au env b) fun z=>K (put dst z env) H):=agI
theorem Rc (esz:Nat) (x:IX):bD P (.Bi esz x) dst env H K=(gf esz (au env x) H fun z H'=>K (put dst z env) H'):=agI
theorem MT (x:IX) (take:Bool):bD P (.set x take) none env H K=K env H:=agI
theorem VO (d:Nat) (x:IX):bD P (.set x false) (some d) env H K=K ((d,(au env x).ab)::env) H:=by cases x <;> rfl
theorem Re (d s:Nat):bD P (.set (.t s) true) (some d) env H K=K ((d,get env s)::(s,(get env s).ab)::env) H:=agI
theorem MU (d:Nat) (v:AV):bD P (.set (.c v) true) (some d) env H K=K ((d,v.ab)::env) H:=agI
theorem Rf (c a b:IX):bD P (.pick c a b) dst env H K=gF (au env c) (K (put dst (au env a).ab env) H) (K (put dst (au env b).ab env) H):=agI
theorem Rg (f:IX) (args:List IX) (pass:Option Nat):bD P (.call f args pass) dst env H K=qz P (au env f) args pass env H (fun r aK H'=>K (put dst r aK) H'):=agI
end
section
variable {P:Px} {st:Bool} {ρ:IX→AV} {H:List aa} {K:AV→Prop}
theorem VP (i:IX):mY P st (.set i false) ρ H K=K (ρ i).ab:=by cases st <;> rfl
theorem Rh (c:IX) (a:IX) (b:IX):mY P st (.pick c a b) ρ H K=(gF (ρ c) (K (ρ a).ab) (K (ρ b).ab)):=agI
theorem VQ (op:BinOp) (i:IX) (j:IX):mY P st (.bin op i j) ρ H K=(dl op (ρ i) (ρ j) K):=agI
theorem MV (op:BinOp) (i:IX) (j:IX):mY P st (.shift op i j) ρ H K=(eE op (ρ i) (ρ j) K):=agI
theorem Kq (neq:Bool) (i:IX) (j:IX):mY P st (.jl neq i j) ρ H K=(dc neq (ρ i) (ρ j) K):=agI
theorem MW (kd:Nat) (neq:Bool) (i:IX):mY P st (.kg kd neq i) ρ H K=(pU kd neq (ρ i) K):=agI
theorem ZS (op:UnOp) (i:IX):mY P st (.un op i) ρ H K=(Bk op (ρ i) K):=agI
theorem Ri (i:IX):mY P st (.m8 i) ρ H K=((ρ i).val=true∧K (.ai (ρ i))):=agI
theorem MX (z:AV) (ps:List (Nat×Nat×IX)):mY P st (.build z ps) ρ H K=(cD z.cells (ps.map fun q=>(q.1,q.2.1,ρ q.2.2)) K):=agI
theorem zz (own:Nat) (esz:Nat) (z:AV) (len:Nat) (ps:List (Nat×IX)):mY P st (.buildSlice own esz z len ps) ρ H K=(bm (List.replicate len (aU z)) esz (ps.map fun q=>(q.1,ρ q.2)) fun xs=>K (.aj own xs)):=agI
theorem Cc (sz:Option Nat) (i:IX):mY P true (.load sz i) ρ H K=(aY sz (ρ i) H K):=agI
theorem zA (sz:Option Nat) (i:IX):mY P false (.load sz i) ρ H K=(aY sz (ρ i) [] K):=agI
theorem El (i:IX):mY P st (.nilCheck i) ρ H K=(b9 (ρ i) K):=agI
theorem Cd (off:Nat) (sz:Option Nat) (i:IX):mY P st (.fieldAddr off sz i) ρ H K=(ap off sz (ρ i) K):=agI
theorem MY (off:Nat) (sz:Option Nat) (i:IX):mY P st (.field off sz i) ρ H K=(fB off sz (ρ i) K):=agI
theorem Ce (esz:Nat) (i:IX) (j:IX):mY P st (.indexAddr esz i j) ρ H K=((∀ own xs,ρ i=.aj own xs→∀ z∈xs,z.cells.length=esz)∧aE esz (ρ i) (ρ j) K):=agI
theorem Em (n:Nat) (i:IX) (j:IX):mY P st (.eC n i j) ρ H K=(b8 n (ρ i) (ρ j) K):=agI
theorem En (i:IX) (j:IX):mY P st (.dm i j) ρ H K=(bO (ρ i) (ρ j) K):=agI
theorem MZ (esz:Nat) (i:IX) (lo:Option IX) (hi:Option IX) (mx:Option IX):mY P st (.slice esz i lo hi mx) ρ H K=(bC esz (ρ i) (lo.map ρ) (hi.map ρ) (mx.map ρ) K):=agI
theorem Eo (i:IX) (lo:Option IX) (hi:Option IX):mY P st (.eD i lo hi) ρ H K=(cv (ρ i) (lo.map ρ) (hi.map ρ) K):=agI
theorem Ep (kd:Nat) (i:IX):mY P true (.len kd i) ρ H K=(aO kd (ρ i)∧jh (ρ i) H K):=agI
theorem Cf (kd:Nat) (i:IX):mY P false (.len kd i) ρ H K=(aO kd (ρ i)∧jh (ρ i) [] K):=agI
theorem xU (kd:Nat) (z:AV) (m:IX) (k:IX) (ok:Bool):mY P true (.lookup kd z m k ok) ρ H K=(cB kd z (ρ m) (ρ k) ok H K):=agI
theorem v7 (kd:Nat) (z:AV) (m:IX) (k:IX) (ok:Bool):mY P false (.lookup kd z m k ok) ρ H K=(cB kd z (ρ m) (ρ k) ok [] K):=agI
theorem ZT (f:Fn) (first:List IX) (cap:List IX):mY P st (.fn f first cap) ρ H K=(K (.fn f (first.map fun x=>(ρ x).ab) (cap.map fun x=>(ρ x).ab))):=agI
theorem GQ (i:IX) (k:Nat):mY P st (.extract i k) ρ H K=(bK (ρ i) k K):=agI
theorem GR (k:IntKind) (i:IX):mY P st (.fp k i) ρ H K=(cI k (ρ i) K):=agI
theorem ZU (big:Bool) (i:IX) (j:IX):mY P st (.mx big i j) ρ H K=(yY big (ρ i) (ρ j) K):=agI
theorem Rj (f:IX) (args:List IX):mY P st (.call f args none) ρ H K=rh P st (ρ f) (args.map fun x=>(ρ x).ab) H K:=agI
end
theorem GS (env:Env):fa none env=env:=agI
theorem Kr (env:Env):fa (some []) env=[]:=agI
theorem GU (env:Env) (t:Nat) (l:List Nat):fa (some (t::l)) env=(t,get env t)::fa (some l) env:=agI
theorem GV (k:Nat):bY k []=[]:=agI
theorem Er (k:Nat) (x:AV) (xs:List AV):bY k (x::xs)=(k,x)::bY (k + 1) xs:=agI
theorem VR (env:Env) (s:Nat):au env (.t s)=get env s:=agI
theorem VS (env:Env) (v:AV):au env (.c v)=v:=agI
theorem mD (o:Nat) (xs:List AV) (H:List aa) (φ:AV→Prop):jh (.aj o xs) H φ=φ (.int .i64 xs.length):=agI
theorem GW (H:List aa) (φ:AV→Prop):jh .ag H φ=φ (.int .i64 0):=agI
theorem Ks (s:ByteArray) (H:List aa) (φ:AV→Prop):jh (.str s) H φ=φ (.int .i64 s.size):=agI
theorem Kt (a b c d:Nat) (H:List aa) (φ:AV→Prop):jh (.a7 a b c d) H φ=φ (.int .i64 c):=agI
theorem M4 {α β:Type} (f:α→β):List.map f []=[]:=agI
theorem Ku {α β:Type} (f:α→β) (x:α) (xs:List α):List.map f (x::xs)=f x::List.map f xs:=agI
end Go.aI
end
section
namespace Go.aI
open Go
theorem ga0 (H e:List aa):(H++e)[H.length]?=e[0]?:=by
 rw [aba (tv _),aei]
theorem ga (H e:List aa) (i:Nat):(H++e)[H.length + i]?=e[i]?:=by
 rw [aba (Nat.le_add_right _ _),Nat.add_sub_cancel_left]
theorem sa0 (H e:List aa) (x:aa):(H++e).set H.length x=H++e.set 0 x:=by
 rw [ad4 _ _ (tv _),aei]
theorem sa (H e:List aa) (i:Nat) (x:aa):(H++e).set (H.length + i) x=H++e.set i x:=by
 rw [ad4 _ _ (Nat.le_add_right _ _),Nat.add_sub_cancel_left]
theorem ady (H e f:List aa):(H++e)++f=H++(e++f):=aa6 _ _ _
theorem XU (H e:List aa):(H++e).length=H.length + e.length:=aaj
theorem g0 {α:Type} (x:α) (r:List α):(x::r)[0]?=some x:=by simp
theorem g1 {α:Type} (x y:α) (r:List α):(x::y::r)[1]?=some y:=by simp
theorem g2 {α:Type} (x y z:α) (r:List α):(x::y::z::r)[2]?=some z:=by simp
theorem s0 {α:Type} (x u:α) (r:List α):(x::r).set 0 u=u::r:=by simp
theorem s1 {α:Type} (x y u:α) (r:List α):(x::y::r).set 1 u=x::u::r:=by simp
theorem s2 {α:Type} (x y z u:α) (r:List α):(x::y::z::r).set 2 u=x::y::u::r:=by simp
theorem d0 {α:Type} (x d:α) (r:List α):(x::r).getD 0 d=x:=by simp
theorem d1 {α:Type} (x y d:α) (r:List α):(x::y::r).getD 1 d=y:=by simp
theorem d2 {α:Type} (x y z d:α) (r:List α):(x::y::z::r).getD 2 d=z:=by simp
theorem sp1 (x y:AV):ah [x] 0 [y]=[y]:=by simp [ah]
theorem GX {x:AV} {H:List aa} {φ ψ:AV→Prop} (hm:∀ z,φ z→ψ z) (h:jh x H φ):jh x H ψ:=by
 unfold jh at *
 split at h
 ·exact hm _ h
 ·exact tQ hm h
theorem GY {o:ch} {ρ:IX→AV} {H:List aa} {K K':AV→Prop} (h:xR o ρ H K) (hK:∀ x,K x→K' x):xR o ρ H K':=by
 unfold xR at *
 split at h
 ·exact hK _ h
 ·unfold gF fA at *
  split at h
  ·exact ⟨fun e=>hK _ (h.1 e),fun e=>hK _ (h.2 e)⟩
  ·exact h.elim
 ·exact tP hK h
 ·exact oZ hK h
 ·exact nv hK h
 ·unfold pU at *
  split at h
  ·exact hK _ h
  ·exact h.elim
 ·exact xo hK h
 ·exact ⟨h.1,hK _ h.2⟩
 ·exact nA (fun _ h=>hK _ h) h
 ·exact iO (fun _ h=>hK _ h) h
 ·exact kR hK h
 ·exact kU hK h
 ·exact jX hK h
 ·exact o6 hK h
 ·exact ⟨h.1,jY hK h.2⟩
 ·exact kS hK h
 ·exact kT hK h
 ·exact nz hK h
 ·exact kV hK h
 ·exact ⟨h.1,GX hK h.2⟩
 ·exact nw hK h
 ·exact hK _ h
 ·exact lW hK h
 ·exact lX hK h
 ·exact xp hK h
 ·exact h.elim
theorem dR {P:Px}:∀ {t:DT} {env:Env} {H:List aa} {K1 K2:Env→List aa→Prop},jZ P t env H K1→(∀ e H',K1 e H'→K2 e H')→jZ P t env H K2
 | .done,_,_,_,_,h,hK=>hK _ _ h
 | .take st o r,_,_,_,_,h,hK=>by
   unfold jZ IA at *
   have key:∀ {env:Env} {H:List aa} {K:AV→Prop} {K':AV→Prop},mY P st o.op (au env) H K→(∀ x,K x→K' x)→mY P st o.op (au env) H K':=by
    intro env H K K' h hK
    unfold mY at *
    split at h
    ·unfold rh at *
     split at h
     ·obtain ⟨x,h1,h2⟩:=h;exact ⟨x,h1,hK _ h2⟩
     ·exact h.elim
    ·exact GY h hK
   split at h
   ·exact key h fun _ h=>dR h hK
   ·unfold eh at *
    split at h
    ·exact ⟨fun e=>key (h.1 e) fun _ h=>dR h hK,fun e=>dR (h.2 e) hK⟩
    ·exact dR h hK
    ·exact h.elim
 | .br o t rest,_,_,_,_,h,hK=>⟨ub h.1 fun _ _ h=>dR h hK,dR h.2 hK⟩
 | .nil,_,_,_,_,h,hK=>trivial
theorem mE {P:Px} {n0:Nat}:∀ {ir:IR} {env:Env} {H:List aa} {Q1 Q2:Exit→Env→List aa→Prop},mC P n0 ir env H Q1→(∀ x e H',Q1 x e H'→Q2 x e H')→mC P n0 ir env H Q2:=by
 intro ir
 induction ir with
 | skip=>exact fun h hQ=>hQ _ _ _ h
 | region ops live=>exact fun h hQ=>uc h fun _ _ h=>hQ _ _ _ h
 | draw t live=>exact fun h hQ=>dR h fun _ _ h=>hQ _ _ _ h
 | seq a b GI VA=>
   exact fun h hQ=>GI h fun x e H' h=>by
    cases x with
    | normal=>exact VA h hQ
    | _=>exact hQ _ _ _ h
 | cond x a b GI VA=>
   intro env H Q1 Q2 h hQ
   rw [Eg] at *
   unfold gF fA at *
   split at h
   ·exact ⟨fun e=>GI (h.1 e) hQ,fun e=>VA (h.2 e) hQ⟩
   ·exact h.elim
 | block id a GI=>
   exact fun h hQ=>GI h fun x e H' h=>by
    cases x with
    | exit id'=>
      dsimp only at h ⊢
      split
      ·rename_i bn;rw [if_pos bn] at h;exact hQ _ _ _ h
      ·rename_i bn;rw [if_neg bn] at h;exact hQ _ _ _ h
    | _=>exact hQ _ _ _ h
 | loop a GI=>
   intro env H Q1 Q2 h hQ
   obtain ⟨ι,I,se,sh,μ,h0,hs⟩:=h
   exact ⟨ι,I,se,sh,μ,h0,fun i hi=>GI (hs i hi) fun x e H' h=>by
    cases x with
    | normal=>exact h
    | _=>exact hQ _ _ _ h⟩
 | exit id=>exact fun h hQ=>hQ _ _ _ h
 | ret=>exact fun h hQ=>hQ _ _ _ h
 | never=>exact fun h _=>h.elim
 | jW f lc=>
   intro env H Q1 Q2 h hQ
   rw [At] at *
   unfold xS at *
   split at h
   ·obtain ⟨h1,bX,h2,h3⟩:=h
    exact ⟨h1,bX,h2,h3.mono fun _ H' hb=>vC hb fun j H'' hg=>As hg hQ⟩
   ·exact h.elim
theorem adA (a b y:AV):ah [a,b] 0 [y]=[y,b]:=by simp [ah]
theorem adB (a b y:AV):ah [a,b] 1 [y]=[a,y]:=by simp [ah]
theorem adC (a b c y:AV):ah [a,b,c] 0 [y]=[y,b,c]:=by simp [ah]
theorem adD (a b c y:AV):ah [a,b,c] 1 [y]=[a,y,c]:=by simp [ah]
theorem adE (a b c y:AV):ah [a,b,c] 2 [y]=[a,b,y]:=by simp [ah]
theorem adF (a b c x y z:AV):ah [a,b,c] 0 [x,y,z]=[x,y,z]:=by simp [ah]
theorem VT (k k':IntKind) (a b:Int) (φ:AV→Prop):yY true (.int k a) (.int k' b) φ=φ (.int k (max a b)):=by
 have:(if a < b then b else a)=max a b:=by rw [Int.max_def];split <;> split <;> omega
 simp [yY,this]
theorem VU (k k':IntKind) (a b:Int) (φ:AV→Prop):yY false (.int k a) (.int k' b) φ=φ (.int k (min a b)):=by
 have:(if b < a then b else a)=min a b:=by rw [Int.min_def];split <;> split <;> omega
 simp [yY,this]
def c8 (o:Option aa) (sz:Option Nat) (off:Nat) (φ:AV→Prop):Prop:=
 match o with
 | some (.cells es)=>match sz with
   | some m=>off + m≤es.length∧φ (.agg (((es.drop off).take m).map AV.drop))
   | none=>off < es.length∧φ (es.getD off .any).ab
 | _=>False
@[congr] theorem Td {o o':Option aa} {sz:Option Nat} {off:Nat} {φ:AV→Prop} (h:iv o=o'):c8 o sz off φ=c8 o' sz off φ:=by subst h;rfl
theorem M5 (sz:Option Nat) (id off:Nat) (H:List aa) (φ:AV→Prop):aY sz (.ptr id off) H φ=c8 H[id]? sz off φ:=by
 unfold aY c8;rfl
theorem Rk (es:List AV) (off:Nat) (φ:AV→Prop):c8 (some (.cells es)) none off φ=(off < es.length∧φ (es.getD off .any).ab):=agI
theorem IB (a b c:AV) (φ:AV→Prop):c8 (some (.cells [a,b,c])) (some 3) 0 φ=φ (.agg [a.drop,b.drop,c.drop]):=by simp [c8]
theorem Rl (a b:AV) (φ:AV→Prop):c8 (some (.cells [a,b])) (some 2) 0 φ=φ (.agg [a.drop,b.drop]):=by simp [c8]
def iS (o:Option aa) (m id off:Nat) (x:AV) (H:List aa) (K:List aa→Prop):Prop:=
 match o with
 | some (.cells es)=>x.val=true∧x.cells.length=m∧off + m≤es.length∧x.cells.all AV.one=true∧al (id + 1) (x.cells.map AV.ab)=true∧
    K (H.set id (.cells (ah es off (x.cells.map AV.ab))))
 | _=>False
@[congr] theorem Rm {o o':Option aa} {m id off:Nat} {x:AV} {H:List aa} {K:List aa→Prop} (h:iv o=o') {x':AV} (h2:x=x'):iS o m id off x H K=iS o' m id off x' H K:=by subst h;subst h2;rfl
theorem Kv (m id off:Nat) (x:AV) (H:List aa) (K:List aa→Prop):jn m (.ptr id off) x H K=iS H[id]? m id off x H K:=by
 unfold jn iS;rfl
theorem xV (es:List AV) (m id off:Nat) (x:AV) (H:List aa) (K:List aa→Prop):iS (some (.cells es)) m id off x H K=(x.val=true∧x.cells.length=m∧off + m≤es.length∧x.cells.all AV.one=true∧al (id + 1) (x.cells.map AV.ab)=true∧
 K (H.set id (.cells (ah es off (x.cells.map AV.ab))))):=agI
def sH (o:Option aa) (l m id off:Nat) (x:AV) (H:List aa) (K:List aa→Prop):Prop:=
 match o with
 | some (.cells es)=>l≤id∧x.val=true∧x.cells.length=m∧off + m≤es.length∧x.cells.all AV.one=true∧al H.length (x.cells.map AV.ab)=true∧
    K (H.set id (.cells (ah es off (x.cells.map AV.ab))))
 | _=>False
@[congr] theorem OZ {o o':Option aa} {l m id off:Nat} {x:AV} {H:List aa} {K:List aa→Prop} (h:iv o=o') {x':AV} (h2:x=x'):sH o l m id off x H K=sH o' l m id off x' H K:=by subst h;subst h2;rfl
theorem GZ (l m id off:Nat) (x:AV) (H:List aa) (K:List aa→Prop):iL l m (.ptr id off) x H K=sH H[id]? l m id off x H K:=by
 unfold iL sH;rfl
theorem Kw (es:List AV) (l m id off:Nat) (x:AV) (H:List aa) (K:List aa→Prop):sH (some (.cells es)) l m id off x H K=(l≤id∧x.val=true∧x.cells.length=m∧off + m≤es.length∧x.cells.all AV.one=true∧al H.length (x.cells.map AV.ab)=true∧
 K (H.set id (.cells (ah es off (x.cells.map AV.ab))))):=agI
@[congr] theorem O0 {l m:Nat} {p p' x:AV} {H H':List aa} {K:List aa→Prop} (h:iv p=p') (h2:H=H'):iL l m p x H K=iL l m p' x H' K:=by subst h;subst h2;rfl
theorem Kx (e:Nat) (xs:List AV) (H:List aa) (K:AV→List aa→Prop):gf e (.agg xs) H K=kO e xs H fun ys H'=>K (.agg ys) H':=agI
theorem G8 (e:Nat) (H:List aa) (K:List AV→List aa→Prop):kO e [] H K=K [] H:=agI
theorem Es (e:Nat) (x:AV) (r:List AV) (H:List aa) (K:List AV→List aa→Prop):kO e (x::r) H K=ee e x H fun y H'=>kO e r H' fun ys H''=>K (y::ys) H'':=agI
theorem G9 (e:Nat) (k:IntKind) (n:Int) (H:List aa) (K:AV→List aa→Prop):ee e (.int k n) H K=K (.int k n) H:=agI
def M6:=hV @Kk (hV @GZ (hV @Kw (hV @ML (hV @Kx (hV @G8 (hV @Es @G9))))))
def gJ (o:Option aa) (kd:Nat) (zero k:AV) (ok:Bool) (φ:AV→Prop):Prop:=
 match o with
 | some (.map es)=>match dn kd k es 0 with
   | some (some (_,v))=>φ (if ok then .tuple [v.drop,.bool true] else v.drop)
   | some none=>cK kd k k=some true∧φ (if ok then .tuple [aU zero,.bool false] else aU zero)
   | none=>False
 | _=>False
@[congr] theorem O4 {o o':Option aa} {kd:Nat} {z k k':AV} {ok:Bool} {φ:AV→Prop} (h:iv o=o') (h2:k=k'):gJ o kd z k ok φ=gJ o' kd z k' ok φ:=by subst h;subst h2;rfl
theorem Ha (kd id:Nat) (z k:AV) (ok:Bool) (H:List aa) (φ:AV→Prop):cB kd z (.map id) k ok H φ=gJ H[id]? kd z k ok φ:=by
 unfold cB gJ;rfl
def ft (o:Option aa) (kd id:Nat) (k x:AV) (H:List aa) (K:List aa→Prop):Prop:=
 match o with
 | some (.map es)=>k.bb (id + 1)=true∧x.bb (id + 1)=true∧x.val=true∧match dn kd k es 0 with
    | some (some (i,_))=>K (H.set id (.map (es.set i (k,aU x))))
    | some none=>cK kd k k=some true∧K (H.set id (.map (es++[(k,aU x)])))
    | none=>False
 | _=>False
@[congr] theorem O5 {o o':Option aa} {kd id:Nat} {k k' x x':AV} {H:List aa} {K:List aa→Prop} (h:iv o=o') (h2:k=k') (h3:x=x'):ft o kd id k x H K=ft o' kd id k' x' H K:=by subst h;subst h2;subst h3;rfl
theorem Hb (kd id:Nat) (k x:AV) (H:List aa) (K:List aa→Prop):fV kd (.map id) k x H K=ft H[id]? kd id k x H K:=by
 unfold fV ft;rfl
def Au (o:Option aa) (d id off:Nat) (env:Env) (H:List aa) (K:Env→List aa→Prop):Prop:=
 match o with
 | some (.cells es)=>off < es.length∧K ((d,es.getD off .any)::env) (H.set id (.cells (es.set off (es.getD off .any).ab)))
 | _=>False
@[congr] theorem Te {o o':Option aa} {d id off:Nat} {env:Env} {H:List aa} {K:Env→List aa→Prop} (h:iv o=o'):Au o d id off env H K=Au o' d id off env H K:=by subst h;rfl
theorem Rn (es:List AV) (d id off:Nat) (env:Env) (H:List aa) (K:Env→List aa→Prop):Au (some (.cells es)) d id off env H K=(off < es.length∧K ((d,es.getD off .any)::env) (H.set id (.cells (es.set off (es.getD off .any).ab)))):=agI
def Et (v:AV) (d:Nat) (env:Env) (H:List aa) (K:Env→List aa→Prop):Prop:=
 match v with
 | .ptr id off=>Au H[id]? d id off env H K
 | _=>False
@[congr] theorem Tf {v v':AV} {d:Nat} {env:Env} {H:List aa} {K:Env→List aa→Prop} (h:iv v=v'):Et v d env H K=Et v' d env H K:=by subst h;rfl
theorem Ro (id off d:Nat) (env:Env) (H:List aa) (K:Env→List aa→Prop):Et (.ptr id off) d env H K=Au H[id]? d id off env H K:=agI
theorem M7 {P:Px} (a:IX) (d:Nat) (env:Env) (H:List aa) (K:Env→List aa→Prop):bD P (.eY a) (some d) env H K=Et (au env a) d env H K:=by
 simp only [bD,Et,Au]
 cases au env a <;> rfl
def M8 (o:Option aa) (id off:Nat) (x:AV) (H:List aa) (K:List aa→Prop):Prop:=
 match o with
 | some (.cells es)=>off < es.length∧x.one=true∧x.bb (id + 1)=true∧K (H.set id (.cells (es.set off x)))
 | _=>False
@[congr] theorem VV {o o':Option aa} {id off:Nat} {x x':AV} {H:List aa} {K:List aa→Prop} (h:iv o=o') (h2:x=x'):M8 o id off x H K=M8 o' id off x' H K:=by subst h;subst h2;rfl
theorem Rp (id off:Nat) (x:AV) (H:List aa) (K:List aa→Prop):eF (.ptr id off) x H K=M8 H[id]? id off x H K:=by
 unfold eF M8;rfl
theorem VW (es:List AV) (id off:Nat) (x:AV) (H:List aa) (K:List aa→Prop):M8 (some (.cells es)) id off x H K=(off < es.length∧x.one=true∧x.bb (id + 1)=true∧K (H.set id (.cells (es.set off x)))):=agI
theorem bd2 (x y:AV) (φ:AV→Prop):cD [.int .i64 0,.int .i64 0,.ag] [(0,1,x),(1,1,y)] φ=(x.val=true∧x.cells.length=1∧y.val=true∧y.cells.length=1∧φ (.agg (ah (ah [.int .i64 0,.int .i64 0,.ag] 0 (x.cells.map AV.ab)) 1 (y.cells.map AV.ab)))):=by
 simp only [cD,iJ,eq_iff_iff]
 constructor
 ·rintro ⟨h1,h2,h3,h4,h5,h6,h7⟩;exact ⟨h1,h2,h4,h5,h7⟩
 ·rintro ⟨h1,h2,h4,h5,h7⟩
  have e1:(x.cells.map AV.ab).length=1:=by simpa using h2
  refine ⟨h1,h2,by simp,h4,h5,?_,h7⟩
  simp [ah,h2]
theorem bd0 (cs:List AV) (φ:AV→Prop):cD cs [] φ=φ (.agg cs):=agI
theorem lE (e b:Nat) (ys:List AV) (o:Nat) (ψ:List AV→Prop):bw e b .ag (.aj o ys) ψ=(ys.length * b≤140737488355328∧qQ e ys∧ψ ys):=by
 simp [bw,oa,dA]
theorem j3 (e b:Nat) (xs ys:List AV) (o:Nat) (ψ:List AV→Prop):bw e b (.aj e xs) (.aj o ys) ψ=((xs.length + ys.length) * b≤140737488355328∧qQ e ys∧ψ (xs++ys)):=by
 simp [bw,oa,dA]
theorem adG (n:Nat):(IX.t n).slot=some n:=agI
theorem adH (v:AV):(IX.c v).slot=none:=agI
theorem VX (id:Nat) (H:List aa) (φ:AV→Prop):aY none (.ai (.map id)) H φ=φ (.map id):=by simp [aY,AV.one,Mj]
theorem VY (id off:Nat) (H:List aa) (φ:AV→Prop):aY none (.ai (.ptr id off)) H φ=φ (.ptr id off):=by simp [aY,AV.one,Mi]
theorem Rq (b:Bool):(AV.bool b).one=true:=agI
theorem VZ (k:IntKind) (n:Int):(AV.int k n).one=true:=agI
theorem V0 (s:ByteArray):(AV.str s).one=true:=agI
theorem V1 (o:Nat) (xs:List AV):(AV.aj o xs).one=true:=agI
theorem Rr:AV.ag.one=true:=agI
theorem ZV (f:Fn) (a b:List AV):(AV.fn f a b).one=true:=agI
theorem V2 (a b:Nat):(AV.ptr a b).one=true:=agI
theorem Ru (x:AV):(AV.ai x).one=true:=agI
theorem V3 (a:Nat):(AV.map a).one=true:=agI
theorem adI {α:Type} (p:α→Bool) (x:α) (r:List α):(x::r).all p=(p x && r.all p):=agI
theorem adJ {α:Type} (p:α→Bool):([]:List α).all p=true:=agI
theorem dk (n:Int) (h:-9223372036854775808≤n∧n≤9223372036854775807):IntKind.i64.wrap n=n:=by
 rw [show IntKind.i64.wrap n=(n + 9223372036854775808) % 18446744073709551616 - 9223372036854775808 from IntKind.wrap_i64 n];omega
theorem aG {P:Program} {n0:Nat} {env:Env} {H:List aa} {Q:Exit→Env→List aa→Prop} {a:IR} {ι:Type} (N:Nat) (I:Nat→ι→Prop) (se:Nat→ι→Env) (sh:Nat→ι→List aa) (s0:ι) (h0:I 0 s0∧sle n0 env H (se 0 s0) (sh 0 s0))
 (hs:∀ i s,i≤N→I i s→mC P n0 a (se i s) (sh i s) fun e aK H'=>match e with
   | .normal=>∃ j t,(j≤N∧I j t)∧N - j < N - i∧sle n0 aK H' (se j t) (sh j t)
   | e=>Q e aK H'):mC P n0 (.loop a) env H Q:=
 ⟨Nat×ι,fun p=>p.1≤N∧I p.1 p.2,fun p=>se p.1 p.2,fun p=>sh p.1 p.2,fun p=>N - p.1,⟨(0,s0),⟨acR _,h0.1⟩,h0.2⟩,fun p hp=>mE (hs p.1 p.2 hp.1 hp.2) fun x e H' h=>by
   cases x with
   | normal=>obtain ⟨j,t,h1,h2,h3⟩:=h;exact ⟨(j,t),h1,h2,h3⟩
   | _=>exact h⟩
theorem iT {P:Program} {l:Nat} {n0:Nat} {env:Env} {H:List aa} {Q:Exit→Env→List aa→Prop} {a:IR} {ι:Type} (N:Nat) (I:Nat→ι→Prop) (se:Nat→ι→Env) (sh:Nat→ι→List aa) (s0:ι) (h0:I 0 s0∧JF n0 env H (se 0 s0) (sh 0 s0))
 (hs:∀ i s,i≤N→I i s→mC ⟨P,some l⟩ n0 a (se i s) (sh i s) fun e aK H'=>match e with
   | .normal=>∃ j t,(j≤N∧I j t)∧N - j < N - i∧JF n0 aK H' (se j t) (sh j t)
   | e=>Q e aK H'):mC ⟨P,some l⟩ n0 (.loop a) env H Q:=
 ⟨Nat×ι,fun p=>p.1≤N∧I p.1 p.2,fun p=>se p.1 p.2,fun p=>sh p.1 p.2,fun p=>N - p.1,⟨(0,s0),⟨acR _,h0.1⟩,h0.2⟩,fun p hp=>mE (hs p.1 p.2 hp.1 hp.2) fun x e H' h=>by
   cases x with
   | normal=>obtain ⟨j,t,h1,h2,h3⟩:=h;exact ⟨(j,t),h1,h2,h3⟩
   | _=>exact h⟩
theorem aM {H:List aa} {s:Nat} {v v':AV} (hb:v.bb H.length=true) (hv:v=v'):bS H.length [.t s] [(s,v)] H fun r H'=>r=v'∧H'=H:=
 a8 _ (tv _) (by rw [aC,if_pos rfl];exact hb) ⟨by rw [aC,if_pos rfl];exact hv,by simp⟩
theorem M9 {H e:List aa} {s:Nat} {v v':AV} (hb:v.bb H.length=true) (hv:v=v'):bS H.length [.t s] [(s,v)] (H++e) fun r H'=>r=v'∧H'=H:=
 a8 _ (tv _) (by rw [aC,if_pos rfl];exact hb) ⟨by rw [aC,if_pos rfl];exact hv,by simp⟩
theorem ZW {H:List aa} {s:Nat} {v v':AV} (hl:v.le v') (hb:v'.bb H.length=true):bS H.length [.t s] [(s,v)] H fun r H'=>r=v'∧H'=H:=
 ⟨H.length,tv _,_,by rw [aC,if_pos rfl];exact hl,hb,rfl,by simp⟩
theorem ZX {H e:List aa} {s:Nat} {v v':AV} (hl:v.le v') (hb:v'.bb H.length=true):bS H.length [.t s] [(s,v)] (H++e) fun r H'=>r=v'∧H'=H:=
 ⟨H.length,tv _,_,by rw [aC,if_pos rfl];exact hl,hb,rfl,by simp⟩
theorem V4 {H H':List aa} {n0 s:Nat} {v v':AV} (hn:n0=H.length) (hb:v.bb n0=true) (hv:v=v') (hl:H=H'):bS n0 [.t s] [(s,v)] H fun r H''=>r=v'∧H''=H':=by
 subst hn hl;exact aM hb hv
theorem jJ {H H':List aa} {n0:Nat} {env:Env} (hn:n0=H.length) (hl:H=H'):bS n0 [] env H fun r H''=>r=.tuple []∧H''=H':=by
 subst hn hl
 exact ⟨H.length,tv _,[],trivial,rfl,rfl,by simp⟩
theorem xW {H e:List aa} {s s':Nat} {v v' x y:AV} (hs:s'≠s) (hb:x.bb H.length=true) (ey:y.bb H.length=true) (hx:v.ab=x) (hy:v'.ab=y) :
 bS H.length [.t s,.t s'] [(s,v),(s',v')] (H++e) fun r H'=>r=.tuple [x,y]∧H'=H:=by
 subst hx hy
 refine ⟨H.length,tv _,[v.ab,v'.ab],?_,?_,rfl,by simp⟩
 ·simp only [aC,if_neg hs,if_true,List.map]
  exact bZ _
 ·simp only [al,hb,ey,acS]
theorem IC {H:List aa} {s s':Nat} {v v' x y:AV} (hs:s'≠s) (hb:x.bb H.length=true) (ey:y.bb H.length=true) (hx:v.ab=x) (hy:v'.ab=y) :
 bS H.length [.t s,.t s'] [(s,v),(s',v')] H fun r H'=>r=.tuple [x,y]∧H'=H:=by
 have:=xW (e:=[]) hs hb ey hx hy
 rw [ack] at this
 exact this
def Av (n0:Nat) (x:AV) (H:List aa) (R:AV→List aa→Prop):Prop:=∃ m,n0≤m∧∃ r,x.le r∧r.bb m=true∧R r (H.take m)
@[congr] theorem Th {n0:Nat} {x x':AV} {H H':List aa} {R:AV→List aa→Prop} (h:iv x=x') (h2:H=H'):Av n0 x H R=Av n0 x' H' R:=by subst h;subst h2;rfl
def vD (n0:Nat) (xs:List AV) (H:List aa) (R:AV→List aa→Prop):Prop:=∃ m,n0≤m∧∃ ys,ze (xs.map AV.ab) ys∧al m ys=true∧R (.tuple ys) (H.take m)
@[congr] theorem Ti {n0:Nat} {x x':List AV} {H H':List aa} {R:AV→List aa→Prop} (h:iv x=x') (h2:H=H'):vD n0 x H R=vD n0 x' H' R:=by subst h;subst h2;rfl
theorem V5 (n0 s:Nat) (sz:Option Nat) (env:Env) (H:List aa) (R:AV→List aa→Prop):bS n0 [.c s sz] env H R=aY sz (get env s) H fun x=>Av n0 x H R:=agI
theorem Rv (n0 s s':Nat) (sz:Option Nat) (env:Env) (H:List aa) (R:AV→List aa→Prop):bS n0 [.c s sz,.t s'] env H R=aY sz (get env s) H fun x=>vD n0 [x,get env s'] H R:=agI
theorem ID {H e:List aa} {v v':AV} (hb:v.bb H.length=true) (hv:v=v'):Av H.length v (H++e) fun r H'=>r=v'∧H'=H:=by
 subst hv;exact ⟨H.length,tv _,v,le_refl _,hb,rfl,by simp⟩
theorem bA {i n:Nat} (h:(i:Int) < (n:Int)):i < n:=by omega
theorem cc {i n:Nat} (h:(n:Int)≤(i:Int)):n≤i:=by omega
def nK:=(hV @Ei (hV @Em (hV @At @Kl)))
def V6:=(hV (hV (hV (hV (hV (hV (hV (hV @Vz @Mv) (hV @GJ @Mw)) (hV (hV @QX @Eg) (hV @Kf (hV @Mx @QY)))) (hV (hV (hV @My @VE) (hV @VF @ZN)) (hV (hV @ZO @Kg) (hV @Mz (hV @VG @VH))))) (hV (hV (hV (hV @QZ @Mq) (hV @Mr @aC)) (hV (hV @Vx @VL) (hV @MG (hV @Kj @MH)))) (hV (hV (hV @ZP @VM) (hV @Q8 (hV @Q9 @MJ))) (hV (hV @MK @zy) (hV @Ra (hV @M7 @Ro)))))) (hV (hV (hV (hV (hV @Rn @Rp) (hV @VW @Ha)) (hV (hV @Hb @lE) (hV @j3 (hV @VX @VY)))) (hV (hV (hV @adG @adH) (hV @V5 (hV @Rv @bd0))) (hV (hV @bd2 @MM) (hV @GK (hV @Eh @Ca))))) (hV (hV (hV (hV @MN @Cb) (hV @Ej @MO)) (hV (hV @Rb @Ek) (hV @VN (hV @Km (hV @MP (hV @wG @GL)))))) (hV (hV (hV @MQ @MR) (hV @Ko (hV @Kp @ZQ))) (hV (hV @GM @GN) (hV @GO (hV @GP @MS))))))) (hV (hV (hV (hV (hV (hV @ZR @Rc) (hV @MT @VO)) (hV (hV @Re @MU) (hV @Rf (hV @Rg @VP)))) (hV (hV (hV @Rh @VQ) (hV @MV @Kq)) (hV (hV @MW @ZS) (hV @Ri (hV @MX @zz))))) (hV (hV (hV (hV @Cc @zA) (hV @El @Cd)) (hV (hV @MY @Ce) (hV @En (hV @MZ @Eo)))) (hV (hV (hV @Ep @Cf) (hV @xU (hV @v7 @ZT))) (hV (hV @GQ @GR) (hV @ZU (hV @Rj @GS)))))) (hV (hV (hV (hV (hV @Kr @GU) (hV @GV @Er)) (hV (hV @VR @VS) (hV @mD (hV @GW @Ks)))) (hV (hV (hV @Kt @M4) (hV @Ku (hV @QQ @QR))) (hV (hV @QS @QT) (hV @ZH (hV @ZI @ZJ))))) (hV (hV (hV (hV @ZK @adx) (hV @ZL @ZM)) (hV (hV @QV @Kc) (hV @UB (hV @pS @pg)))) (hV (hV (hV @B5 @Ix) (hV @xL (hV @UC @UD))) (hV (hV @Mh @Mi) (hV @Iy (hV @Qp @Mj)))))))) (hV (hV (hV (hV (hV (hV (hV @Qq @S1) (hV @Qr @Qs)) (hV (hV @UE @UF) (hV @Qt (hV @UG @UH)))) (hV (hV (hV @ZC @Qu) (hV @UI @Qv)) (hV (hV @UJ @nJ) (hV @UK (hV @UL @Qw))))) (hV (hV (hV (hV @UM @UN) (hV @ZD @Qx)) (hV (hV @UO @Qy) (hV @UP (hV @wF @UQ)))) (hV (hV (hV @UR @Qz) (hV @US (hV @UT @ZE))) (hV (hV @QA @UU) (hV @QB (hV @UW @sD)))))) (hV (hV (hV (hV (hV @iR @Mk) (hV @Iz @bM)) (hV (hV @xM @Ml) (hV @rf (hV @Mm @fL)))) (hV (hV (hV @B6 @ZF) (hV @QC (hV @da @bN))) (hV (hV @Vy @QN) (hV @UX (hV @UY @UZ))))) (hV (hV (hV (hV @U0 @U1) (hV @U2 @U4)) (hV (hV @U5 @U6) (hV @U7 (hV @U8 @U9)))) (hV (hV (hV @Vb @Vc) (hV @Vd (hV @Ve @Vf))) (hV (hV @Vg @adw) (hV @Vh (hV @QD @Vi))))))) (hV (hV (hV (hV (hV (hV @Vj @QE) (hV @Vk @QF)) (hV (hV @Vl @Vm) (hV @QG (hV @Vn @QH)))) (hV (hV (hV @Vo @Vp) (hV @Vq @QI)) (hV (hV @ZG @Vr) (hV @QJ (hV @Mn @Vs))))) (hV (hV (hV (hV @Mo @Vt) (hV @Vu @Vv)) (hV (hV @Vw @J4) (hV @QK (hV @QL @QM)))) (hV (hV (hV @J5 @J6) (hV @J7 (hV @J8 @J9))) (hV (hV @D7 @D8) (hV @ga0 (hV @ga @sa0)))))) (hV (hV (hV (hV (hV @sa @ady) (hV @XU @g0)) (hV (hV @g1 @g2) (hV @s0 (hV @s1 @s2)))) (hV (hV (hV @d0 @d1) (hV @d2 (hV @sp1 @adA))) (hV (hV @adB @adC) (hV @adD (hV @adE @adF))))) (hV (hV (hV (hV @VT @VU) (hV @IB @Rl)) (hV (hV @M5 @Rk) (hV @Kv (hV @xV @Rq)))) (hV (hV (hV @VZ @V0) (hV @V1 (hV @Rr @ZV))) (hV (hV @V2 @Ru) (hV @V3 (hV @adI @adJ)))))))))
end Go.aI
end
section
namespace Go.aI
open Go Go.RowKit
def eH (w:World):Mem:=fun b o=>w.cell? ⟨b,o,none⟩
def Hc (w:World):Perm:=⟨fun b=>w.heap.size≤b,fun id=>some (id + 1),(fun id n h=>by cases h;omega),0⟩
theorem Cg (w:World):(Hc w).entry false ([]:List aa).length:=⟨fun id h=>absurd h (Nat.not_lt_zero _),fun id _=>rfl⟩
theorem St.start {w:World} {vs:Array Value} {xs:List AV} (h:aN (eH w) [] vs.toList xs) (hf:∀ x∈xs,∀ own ys,x=.aj own ys→own=0) :
 St (Hc w) (eH w) [] w [] (fun t=>vs.getD t undef) (fun t=>xs.getD t .any) (fun _=>none) where
 len:=rfl
 nodup:=by simp
 env:=fun t=>by
  have:=h.getD t
  rw [tu] at this
  rw [acd]
  simpa using this
 mem:=fun b o v hv=>hv
 obj:=fun id o b ho=>by simp at ho
 bG:=fun id o ho=>by simp at ho
 lt:=fun b hb=>by cases hb
 je:=fun t=>by
  refine bj.free fun own ys e=>?_
  rw [tu] at e
  cases hx:xs[t]? with
  | none=>rw [hx] at e;cases e
  | some x=>rw [hx] at e;exact hf x (abm hx) own ys e
 jc:=fun id j=>by simp [bE,bj]
 cq:=fun p q b hp=>by cases hp
 cC:=fun p b hp=>by cases hp
 fP:=fun p b hp=>by cases hp
 La:=fun b hb=>by cases hb
 Oa:=fun p b hp=>by cases hp
 fresh:=fun b hb=>hb
theorem Ext.below {M M':Mem} {w w':World} (h:Ext (Hc w) M w M' w'):Below w.heap.size w w':=
 ⟨h.os,h.tape,h.output,h.size,fun k hk=>(h.kH k hk (by show ¬ w.heap.size≤k;omega)).1⟩
theorem Pure.lift {P:Program} {f:FuncId} {xs:List AV} {b:Bool} (hp:Pure P f xs (.bool b)) (he:∀ (as:Array Value) (w:World),(callFunc f as).run P w=.ok (.enter f as) w)
 {w:World} {vs:Array Value} (hr:aN (eH w) [] vs.toList xs) (hf:∀ x∈xs,∀ own ys,x=.aj own ys→own=0) :
 Calls P f vs w fun e w'=>e=.returned (.bool b)∧Below w.heap.size w w':=by
 have hs:vs.size=xs.length:=by have:=hr.length;simpa using this
 refine ((hp []).body he (Cg w) hs (St.start hr hf)).mono ?_
 rintro e w' ⟨v,r,H',M',L',O',rfl,⟨rfl,rfl⟩,bV,cJ,_⟩
 have:=bV.env 0
 simp only [Ll] at this
 cases this
 exact ⟨rfl,cJ.below⟩
theorem Eu {a:Addr} {n:Nat} (h:a.spot=none):a.add n=⟨a.block,a.off + n,none⟩:=by
 obtain ⟨b,o,s⟩:=a
 simp only at h
 subst h
 unfold Addr.add
 split
 ·rename_i e;subst e;rfl
 ·rfl
theorem Ky {w:World} {a:Addr} {v:Value} (h:w.cell? a=some v):a.spot=none:=by
 unfold World.cell? at h
 split at h
 ·split at h
  ·cases h
  ·rename_i hs;cases HV:a.spot <;> simp_all
 ·cases h
theorem Aw {M:Mem} {L:List Nat}:∀ {n:Nat} {cs:Nat→List Value} {f:Nat→AV},(∀ i,i < n→aN M L (cs i) (f i).cells)→aN M L ((List.range n).flatMap cs) (flat ((List.range n).map f))
 | 0,_,_,_=>by simp [flat];exact .nil
 | n + 1,cs,f,h=>by
   have ih:=Aw (n:=n) (fun i hi=>h i (by omega))
   simp only [adi,adz,acG,flat] at ih ⊢
   refine ih.append ?_
   simpa using h n (by omega)
theorem Ev {n e:Nat} {cs:Nat→List Value}:(∀ i,i < n→(cs i).length=e)→∀ (j:Nat) (v:Value),((List.range n).flatMap cs)[j]?=some v→∃ i k,i < n∧k < e∧j=i * e + k∧(cs i)[k]?=some v:=by
 induction n with
 | zero=>intro _ j v h;simp at h
 | succ n ih=>
   intro hl j v h
   simp only [adi,adz] at h
   have hlen:((List.range n).flatMap cs).length=n * e:=by
    clear h ih
    induction n with
    | zero=>simp
    | succ n ih2=>
      simp only [adi,adz,aaj]
      rw [ih2 (fun i hi=>hl i (by omega))]
      simp [hl n (by omega),Nat.succ_mul]
   rcases afs j (n * e) with hj | hj
   ·rw [zR (by omega)] at h
    obtain ⟨i,k,h1,h2,h3,h4⟩:=ih (fun i hi=>hl i (by omega)) j v h
    exact ⟨i,k,by omega,h2,h3,h4⟩
   ·rw [aba (by omega),hlen] at h
    simp only [List.flatMap_cons,agb,ack] at h
    have hk:=(aa0.1 h).1
    rw [hl n (by omega)] at hk
    exact ⟨n,j - n * e,by omega,hk,by omega,h⟩
theorem Ax {w:World} {base e len cap:Nat} {a:Addr} (he:0 < e) (hl:len≤cap) (hc:cap≤maxLen) (cs:Nat→List Value) (f:Nat→AV)
 (h:∀ i,i < len→w.cells? base (a.add (i * e)) e=some (cs i)∧aN (eH w) [] (cs i) (f i).cells):aZ (eH w) [] (.slice (some a) len cap) (.aj 0 ((List.range len).map f)):=by
 have cr:cap < 9223372036854775808:=by have:maxLen=9223372036854775807:=rfl;omega
 rcases Nat.eq_zero_or_pos len with h0 | h0
 ·subst h0
  exact .iG _ _ _ cr
 have hlen:∀ i,i < len→(cs i).length=e:=fun i hi=>(World.cells?_some (h i hi).1).2.1
 have hcell:∀ i,i < len→∀ k,k < e→w.cell? ((a.add (i * e)).add k)=(cs i)[k]?:=fun i hi=>(World.cells?_some (h i hi).1).2.2
 have hspot:a.spot=none:=by
  have h1:=hcell 0 h0 0 he
  rw [T1 (by rw [hlen 0 h0];exact he)] at h1
  have h2:=Ky h1
  simpa [Addr.add] using h2
 have key:aZ (eH w) [] (.slice (some ⟨a.block,a.off,none⟩) ((List.range len).map f).length cap) (.aj 0 ((List.range len).map f)):=by
  refine .aj a.block a.off cap 0 e ((List.range len).flatMap cs) _ he ?_ (by simpa using h0) (by simpa using hl) cr (Aw fun i hi=>(h i hi).2) ?_
  ·intro x hx
   obtain ⟨i,hi,rfl⟩:=aan.1 hx
   have hi:=acf.1 hi
   rw [← (h i hi).2.length,hlen i hi]
  ·intro j v hv
   obtain ⟨i,k,h1,h2,rfl,h4⟩:=Ev hlen j v hv
   have:=hcell i h1 k h2
   rw [Eu hspot,Eu (by rfl)] at this
   show w.cell? ⟨a.block,a.off + (i * e + k),none⟩=some v
   rw [← ado,this,h4]
 have ea:(some a:Option Addr)=some ⟨a.block,a.off,none⟩:=by obtain ⟨b,o,s⟩:=a;simp only at hspot;rw [hspot]
 rw [ea]
 simpa using key
section
variable {H:Type} {enc:TypeId×Value→H} {P:Program}
theorem qI (hl:laidOutB P=true) {W W':World} (hb:Below W.heap.size W W'):∀ {ts:List TypeId} {vs:List Value} {ds:List (DataW H)} {ps:List MemPlace},(∀ t∈ts,P.readableRec t=true∧t < P.types.size)→
 DataW.TrodAll enc P W 0 (fun _=>true) true ts vs ds ps→(∀ x∈ps,x.block < W.heap.size)→DataW.TrodAll enc P W' 0 (fun b=>decide (b < W.heap.size)) true ts vs ds ps
 | [],[],[],_,_,h,_=>h
 | t::ts,v::vs,d::ds,_,ht,⟨p,q,h1,h2,e⟩,hp=>by
   subst e
   exact ⟨p,q,Below.trod hl (ht t (by simp)).1 (ht t (by simp)).2 h1 hb (fun x hx=>hp x (by simp [hx])),qI hl hb (fun t ht'=>ht t (by simp [ht'])) h2 (fun x hx=>hp x (by simp [hx])),rfl⟩
theorem Na {fn:Func} {s:ChangeSpec} {apart:Bool} {W W':World} {args:Array Value} {ds gs:List (DataW H)} {before:List MemPlace} {t:TypeId} (hl:laidOutB P=true) (hb:Below W.heap.size W W')
 (hW:DataW.Whole enc P fn.params.toList s.vars apart W args.toList ds gs before) (hv:s.vars=[]) (v8:fn.resultTypes=#[t]) (ht:P.underlying t=some .bool) (hs:s.fn H ds={ results:=[.lit (.bool true)],args:=ds })
 (hp:fn.params.toList.all (fun t=>P.readableRec t && decide (t < P.types.size))=true):s.post enc P fn apart true false false W args (.bool true) W':=by
 have aP:∀ x∈before,x.block < W.heap.size:=fun x hx=>by simpa using hW.lt x hx
 have hW0:=hW
 obtain ⟨p,q,h1,h2,h3,h4,h5⟩:=hW
 rw [hv] at h2
 obtain ⟨rfl,rfl⟩:=ChangeShapes.trodVars_none h2
 simp only [ack] at h3
 subst h3
 refine ⟨ds,[],before,[],before,[],hW0,?_,?_,?_,hb.frame _,fun h=>by cases h⟩
 ·simp only [ack,hs,v8]
  exact ChangeShapes.trodAll_mk1 (shut_bool ht true)
 ·simp only [ack,hs]
  exact qI hl hb (fun t ht=>by simpa using aaO.1 hp t ht) h1 aP
 ·simp only [hv,ack,hs]
  rfl
end
end Go.aI
end
section
namespace Go.aI
open Go
structure Fam {σ:Type} (S:σ→List aa) (p:Nat) (obj:σ→aa) (n:Nat):Prop where
 get:∀ s,(S s)[p]?=some (obj s)
 set:∀ s s',(S s).set p (obj s')=S s'
 len:∀ s,(S s).length=n
namespace Fam
variable {σ:Type} {S:σ→List aa} {p:Nat} {obj:σ→aa} {n:Nat} (F:Fam S p obj n)
include F
end Fam
theorem Tj {Hs G:List aa} {n0:Nat} {v w x y:AV} {R:AV→List aa→Prop} (hH:Hs.take n0=G) (hb:x.bb n0=true) (ey:y.bb n0=true) (hx:v.ab=x) (hy:w.ab=y) (hR:R (.tuple [x,y]) G) :
 vD n0 [v,w] Hs R:=by
 subst hx hy hH
 exact ⟨n0,tv _,[v.ab,w.ab],bZ _,by simp only [al,hb,ey,acS],hR⟩
theorem Tk {Hs G:List aa} {n0:Nat} {v x:AV} {R:AV→List aa→Prop} (hH:Hs.take n0=G) (hb:x.bb n0=true) (hx:v=x) (hR:R x G):Av n0 v Hs R:=by
 subst hx hH
 exact ⟨n0,tv _,v,le_refl _,hb,hR⟩
theorem Rw {Hs G:List aa} {n0 s:Nat} {v x:AV} {R:AV→List aa→Prop} (hH:Hs.take n0=G) (hb:x.bb n0=true) (hx:v=x) (hR:R x G):bS n0 [.t s] [(s,v)] Hs R:=by
 subst hx hH
 exact a8 _ (tv _) (by rw [aC,if_pos rfl];exact hb) (by rw [aC,if_pos rfl];exact hR)
end Go.aI
end
section
namespace Go.aI
open Go
def xX (C:List aa→Nat→List aa→Prop) (n0:Nat) (v:AV) (H:List aa) (R:AV→List aa→Prop):Prop:=
 ∃ m H',n0≤m∧C H m H'∧∃ r,v.le r∧r.bb m=true∧R r H'
@[congr] theorem Rx {C:List aa→Nat→List aa→Prop} {n0:Nat} {x x':AV} {H H':List aa} {R:AV→List aa→Prop} (h:iv x=x') (h2:H=H'):xX C n0 x H R=xX C n0 x' H' R:=by subst h;subst h2;rfl
theorem Ry {C:List aa→Nat→List aa→Prop} {n0 s:Nat} {sz:Option Nat} {env:Env} {H:List aa} {R:AV→List aa→Prop}:jH C n0 [.c s sz] env H R=aY sz (get env s) H fun v=>xX C n0 v H R:=agI
theorem Rz {C:List aa→Nat→List aa→Prop} {n0 s:Nat} {env:Env} {H:List aa} {R:AV→List aa→Prop}:jH C n0 [.t s] env H R=xX C n0 (get env s) H R:=agI
theorem Ay {n0:Nat} {H G:List aa} (h:G.take n0=H) (hl:H.length=n0):oc n0 G n0 H:=by
 subst h
 refine ⟨by simp,fun id o ho=>?_⟩
 rw [aaM] at ho
 split at ho
 ·exact .inr ⟨ho,fun h=>by omega⟩
 ·cases ho
def only (n0 id:Nat) (G:List aa):List aa:=G.mapIdx fun j o=>if j < n0∨j=id then o else .dead
theorem kA (n0:Nat) (env:Env) (H:List aa):JF n0 env H env H:=⟨fun t=>le_refl _,.inl rfl⟩
theorem sI {n0:Nat} {env aK:Env} {H H':List aa} (he:env=aK) (hH:H=H'):JF n0 env H aK H':=by
 subst he;subst hH;exact kA _ _ _
def l7:=hV @Ry (hV @Rz M6)
end Go.aI
end
