/- Part 10 of 19 of the proof. -/
import Derived.Test.YtljchnfgjdjobaaGreatUah
import Derived.ProofKit
import Derived.Deep.Slices
import Derived.Deep.Strs
set_option linter.unusedVariables false
set_option linter.unusedSimpArgs false
set_option linter.defProp false
set_option linter.unusedSectionVars false
section
namespace Go.aI
open Go
theorem S7:AV.any.ab=.any:=ae0
theorem pd (b:Bool):(AV.bool b).ab=.bool b:=ae0
theorem ow (k:IntKind) (n:Int):(AV.int k n).ab=.int k n:=ae0
theorem Bh (s:ByteArray):(AV.str s).ab=.str s:=ae0
theorem Ho:AV.ag.ab=.ag:=ae0
theorem wX (o:Nat) (xs:List AV):(AV.ap o xs).ab=.ap 0 xs:=ae0
theorem S8 (a b c d:Nat):(AV.aW a b c d).ab=.aW a b c d:=ae0
theorem S9 (xs:List AV):(AV.agg xs).ab=.agg xs:=ae0
theorem KW (xs:List AV):(AV.tuple xs).ab=.tuple xs:=ae0
theorem KX (a b:Nat):(AV.ptr a b).ab=.ptr a b:=ae0
theorem Hp (x:AV):(AV.ai x).ab=.ai x:=ae0
theorem OM:AV.sv.ab=.sv:=ae0
theorem KY (a:Nat):(AV.map a).ab=.map a:=ae0
theorem ON:AV.ju.ab=.ju:=ae0
theorem Rl (f:Fn) (a b:List AV):(AV.fn f a b).ab=.fn f a b:=ae0
theorem OO:AV.fT.ab=.fT:=ae0
theorem OP (b:Bool):(AV.bool b).cells=[.bool b]:=ae0
theorem Ta (k:IntKind) (n:Int):(AV.int k n).cells=[.int k n]:=ae0
theorem Tc (s:ByteArray):(AV.str s).cells=[.str s]:=ae0
theorem OQ:AV.ag.cells=[.ag]:=ae0
theorem Td (o:Nat) (xs:List AV):(AV.ap o xs).cells=[.ap o xs]:=ae0
theorem Te (xs:List AV):(AV.agg xs).cells=xs:=ae0
theorem Yb (f:Fn) (a b:List AV):(AV.fn f a b).cells=[.fn f a b]:=ae0
theorem OR:AV.fT.cells=[.fT]:=ae0
theorem Tf (a b:Nat):(AV.ptr a b).cells=[.ptr a b]:=ae0
theorem OS (x:AV):(AV.ai x).cells=[.ai x]:=ae0
theorem Th (a:Nat):(AV.map a).cells=[.map a]:=ae0
theorem vD (b:Bool):(AV.bool b).drop=.bool b:=ae0
theorem Ti (k:IntKind) (n:Int):(AV.int k n).drop=.int k n:=ae0
theorem Tj (s:ByteArray):(AV.str s).drop=.str s:=ae0
theorem OT:AV.ag.drop=.ap 0 []:=ae0
theorem Tk (o:Nat) (xs:List AV):(AV.ap o xs).drop=.ap 0 xs:=ae0
theorem Tl (xs:List AV):(AV.agg xs).drop=.agg xs:=ae0
theorem Yc (f:Fn) (a b:List AV):(AV.fn f a b).drop=.fn f a b:=ae0
theorem OU:AV.fT.drop=.fT:=ae0
theorem Tm (a b:Nat):(AV.ptr a b).drop=.ptr a b:=ae0
theorem OV (x:AV):(AV.ai x).drop=.ai x:=ae0
theorem Tn (a:Nat):(AV.map a).drop=.map a:=ae0
theorem Hq (b:Bool):(AV.bool b).val=true:=ae0
theorem To (k:IntKind) (n:Int):(AV.int k n).val=true:=ae0
theorem Tp (s:ByteArray):(AV.str s).val=true:=ae0
theorem OW:AV.ag.val=true:=ae0
theorem Tq (o:Nat) (xs:List AV):(AV.ap o xs).val=true:=ae0
theorem Tr (xs:List AV):(AV.agg xs).val=true:=ae0
theorem Yd (f:Fn) (a b:List AV):(AV.fn f a b).val=true:=ae0
theorem OX:AV.fT.val=true:=ae0
theorem Ts (a b:Nat):(AV.ptr a b).val=true:=ae0
theorem OY (x:AV):(AV.ai x).val=true:=ae0
theorem Tv (a:Nat):(AV.map a).val=true:=ae0
theorem Bi (n:Nat) (b:Bool):(AV.bool b).a9 n=true:=ae0
theorem jD (n:Nat) (k:IntKind) (m:Int):(AV.int k m).a9 n=true:=ae0
theorem KZ (n:Nat) (s:ByteArray):(AV.str s).a9 n=true:=ae0
theorem Hr (n:Nat):AV.ag.a9 n=true:=ae0
theorem cc (n o:Nat) (xs:List AV):(AV.ap o xs).a9 n=aj n xs:=by rw [AV.a9]
theorem wY (n:Nat) (xs:List AV):(AV.agg xs).a9 n=aj n xs:=by rw [AV.a9]
theorem K0 (n:Nat) (xs:List AV):(AV.tuple xs).a9 n=aj n xs:=by rw [AV.a9]
theorem qo (n a b:Nat):(AV.ptr a b).a9 n=decide (a < n):=by rw [AV.a9]
theorem K3 (n a:Nat):(AV.map a).a9 n=decide (a < n):=by rw [AV.a9]
theorem ft (n a b c d:Nat):(AV.aW a b c d).a9 n=decide (a < n):=by rw [AV.a9]
theorem Bj (n:Nat) (x:AV):(AV.ai x).a9 n=x.a9 n:=by rw [AV.a9]
theorem Ye (n:Nat) (f:Fn) (a b:List AV):(AV.fn f a b).a9 n=(aj n a && aj n b):=by rw [AV.a9]
theorem OZ (n:Nat):AV.fT.a9 n=true:=ae0
theorem cZ (n:Nat):aj n []=true:=ae0
theorem bM (n:Nat) (x:AV) (xs:List AV):aj n (x::xs)=(x.a9 n && aj n xs):=by rw [aj]
section
variable (k:IntKind) (a b:Int) (φ:AV→Prop)
theorem Tw:dh .add (.int k a) (.int k b) φ=φ (.int k (k.wrap (a + b))):=by simp [dh]
theorem Tx:dh .sub (.int k a) (.int k b) φ=φ (.int k (k.wrap (a - b))):=by simp [dh]
theorem Tz:dh .mul (.int k a) (.int k b) φ=φ (.int k (k.wrap (a * b))):=by simp [dh]
theorem TA:dh .rem (.int k a) (.int k b) φ=(b≠0∧φ (.int k (a.tmod b))):=by simp [dh]
theorem TB:dh .quo (.int k a) (.int k b) φ=(b≠0∧φ (.int k (k.wrap (a.tdiv b)))):=by simp [dh]
theorem TC:dh .eql (.int k a) (.int k b) φ=φ (.bool (decide (a=b))):=by simp [dh]
theorem TD:dh .neq (.int k a) (.int k b) φ=φ (.bool (decide (a≠b))):=by simp [dh]
theorem TE:dh .lss (.int k a) (.int k b) φ=φ (.bool (decide (a < b))):=by simp [dh]
theorem TF:dh .leq (.int k a) (.int k b) φ=φ (.bool (decide (a≤b))):=by simp [dh]
theorem TG:dh .gtr (.int k a) (.int k b) φ=φ (.bool (decide (b < a))):=by simp [dh]
theorem TH:dh .geq (.int k a) (.int k b) φ=φ (.bool (decide (b≤a))):=by simp [dh]
theorem TI (s t:ByteArray):dh .eql (.str s) (.str t) φ=φ (.bool (decide (s=t))):=by simp [dh]
theorem TJ (s t:ByteArray):dh .neq (.str s) (.str t) φ=φ (.bool (decide (s≠t))):=by simp [dh]
theorem TK (s t:ByteArray):dh .add (.str s) (.str t) φ=(s.size + t.size < 9223372036854775808∧φ (.str (s++t))):=by simp [dh]
theorem TL (q:Bool):As .not (.bool q) φ=φ (.bool (!q)):=ae0
theorem TM:As .neg (.int k a) φ=φ (.int k (k.wrap (0 - a))):=ae0
theorem TN (p q:Bool):c9 true (.bool p) (.bool q) φ=φ (.bool (decide (p≠q))):=ae0
theorem TO (p q:Bool):c9 false (.bool p) (.bool q) φ=φ (.bool (decide (p=q))):=ae0
theorem abI (q:Bool) (ψ:Bool→Prop):fe (.bool q) ψ=ψ q:=ae0
theorem TP (s:ByteArray) (H:List aa):eU (.str s) H φ=φ (.int .i64 s.size):=ae0
theorem O0 (H:List aa):eU .ag H φ=φ (.int .i64 0):=ae0
theorem TQ (o:Nat) (xs:List AV) (H:List aa):eU (.ap o xs) H φ=(xs.length < 9223372036854775808→φ (.int .i64 xs.length)):=ae0
theorem TR (x y l c:Nat) (H:List aa):eU (.aW x y l c) H φ=φ (.int .i64 l):=ae0
theorem O4 (H:List aa):eU .ju H φ=φ (.int .i64 0):=ae0
theorem TS (s:ByteArray):aL 0 (.str s)=True:=ae0
theorem O5:aL 1 .ag=True:=ae0
theorem TT (o:Nat) (xs:List AV):aL 1 (.ap o xs)=True:=ae0
theorem TU (x y l c:Nat):aL 1 (.aW x y l c)=True:=ae0
theorem O6:aL 2 .ju=True:=ae0
theorem TV (x:Nat):aL 2 (.map x)=True:=ae0
theorem O7 (q:Bool) (H:List aa):aU none (.ai (.bool q)) H φ=φ (.bool q):=by simp [aU,AV.one,pd]
theorem TW (H:List aa):aU none (.ai (.int k a)) H φ=φ (.int k a):=by simp [aU,AV.one,ow]
theorem TX (s:ByteArray) (H:List aa):aU none (.ai (.str s)) H φ=φ (.str s):=by simp [aU,AV.one,Bh]
theorem TY (o:Nat) (xs:List AV) (H:List aa):aU none (.ai (.ap o xs)) H φ=φ (.ap 0 xs):=by simp [aU,AV.one,wX]
theorem O8 (H:List aa):aU none (.ai .ag) H φ=φ .ag:=by simp [aU,AV.one,Ho]
theorem Yf (f:Fn) (x y:List AV) (H:List aa):aU none (.ai (.fn f x y)) H φ=φ (.fn f x y):=by simp [aU,AV.one,Rl]
theorem TZ (x y:Nat):bZ (.ptr x y) φ=φ (.ptr x y):=ae0
theorem O9 (x:AV):bZ (.ai x) φ=φ (.ai x):=ae0
theorem K4 (xs:List AV) (i:Nat):bK (.tuple xs) i φ=(i < xs.length∧φ (xs.getD i .any).ab):=ae0
theorem T1 (id o off:Nat) (sz:Option Nat):al off sz (.ptr id o) φ=φ (.ptr id (o + off)):=by simp [al]
end
section
variable {P:Px} {n0:Nat} {env:Env} {H:List aa} {Q:Exit→Env→List aa→Prop}
theorem K5 (pass:Option Nat) (j:Nat):aK env pass j []=[]:=ae0
theorem T2 (pass:Option Nat) (j:Nat) (v:AV) (xs:List IX):aK env pass j (.c v::xs)=v.ab::aK env pass (j + 1) xs:=ae0
theorem T3 (j s:Nat) (xs:List IX):aK env none j (.t s::xs)=(get env s).ab::aK env none (j + 1) xs:=by simp [aK]
theorem T4 (j s:Nat) (xs:List IX):aK env (some 1999) j (.t s::xs)=(if 1999=j then get env s else (get env s).ab)::aK env (some 1999) (j + 1) xs:=by simp [aK]
theorem T5 (p j s:Nat) (xs:List IX):aK env (some p) j (.t s::xs)=(if p=j then get env s else (get env s).ab)::aK env (some p) (j + 1) xs:=by simp [aK]
theorem IZ (args:List IX):bh args none=none:=ae0
theorem Pa (x:Nat) (xs:List IX):bh (.t x::xs) (some 0)=some x:=by simp [bh]
theorem Pb (x:Nat) (y:IX) (xs:List IX):bh (y::.t x::xs) (some 1)=some x:=by simp [bh]
theorem Pc (x:Nat) (y z:IX) (xs:List IX):bh (y::z::.t x::xs) (some 2)=some x:=by simp [bh]
theorem I0:bh [] (some 1999)=none:=ae0
theorem I1 (x:IX):bh [x] (some 1999)=none:=ae0
theorem I2 (x y:IX):bh [x,y] (some 1999)=none:=ae0
theorem I3 (x y z:IX):bh [x,y,z] (some 1999)=none:=ae0
theorem I4 (x y z u:IX):bh [x,y,z,u] (some 1999)=none:=ae0
theorem Da:cG env none=env:=ae0
theorem Db (d:Nat):cG env (some d)=(d,(get env d).ab)::env:=ae0
theorem K6 (z:AV):put none z env=env:=ae0
theorem K7 (d:Nat) (z:AV):put (some d) z env=(d,z)::env:=ae0
theorem aA (k:Nat) (v:AV) (t:Nat):get ((k,v)::env) t=if t=k then v else get env t:=ae0
theorem T6 (t:Nat):get [] t=.any:=ae0
theorem ba {s:Nat} {R:AV→List aa→Prop} (m:Nat) (h0:n0≤m) (hb:(get env s).a9 m=true) (h:R (get env s) (H.take m)):b8 n0 [.t s] env H R:=
 ⟨m,h0,_,le_refl _,hb,h⟩
end
def Pure (P:Program) (g:FuncId) (xs:List AV) (v:AV):Prop:=∀ H,aw P g xs H fun r H'=>r=v∧H'=H
theorem Pure.mk {P:Program} {g:FuncId} {xs:List AV} {v:AV} (hb:aj 0 xs=true) (h:aw P g xs [] fun r H'=>r=v∧H'=[]):Pure P g xs v:=
 aw.frame (fun x hx=>(aY 0 xs).1 hb x hx) h
def qp (n:Nat) (env:Env):Bool:=env.all fun p=>p.2.a9 n
theorem Fu {n:Nat} {env:Env} (h:qp n env=true) (t:Nat):(get env t).a9 n=true:=by
 rcases get_mem (env:=env) (t:=t) rfl with h' | h'
 ·rw [h'];rfl
 ·exact aaJ.1 h _ h'
theorem T7 (n:Nat):qp n []=true:=ae0
theorem Pd (n k:Nat) (v:AV) (env:Env):qp n ((k,v)::env)=(v.a9 n && qp n env):=ae0
theorem Dc {n0:Nat} {env aH:Env} {H H':List aa} (he:env=aH) (h0:n0≤H'.length) (hb:qp H'.length aH=true) (e:List aa) (hH:H=H'++e):sle n0 env H aH H':=by
 subst he;subst hH
 exact ⟨fun t=>le_refl _,.inr ⟨H'.length,h0,by simp,Fu hb⟩⟩
theorem aD {n0:Nat} {env aH:Env} {H H':List aa} (he:env=aH) (hH:H=H'):sle n0 env H aH H':=by
 subst he;subst hH;exact aB _ _ _
theorem au (i:Nat) (h:i + 1 < 9223372036854775808):IntKind.i64.wrap ((i:Int) + 1)=((i + 1:Nat):Int):=by
 show IntKind.wrap .i64 ((i:Int) + 1)=_
 unfold IntKind.wrap
 simp [IntKind.signed,IntKind.bits]
 omega
end Go.aI
end
section
namespace Go.aI
open Go
def gN {α:Type} (x:α):α:=x
theorem T8 {α:Type} (x:α):gN x=x:=ae0
section
variable {φ:AV→Prop}
theorem K8 {op:BinOp} {x y:AV} (h:dh op x y φ):∃ z,dh op x y (fun w=>w=z)∧φ z:=by
 unfold dh at *
 split at h <;> (try exact h.elim)
 ·obtain ⟨h0,h⟩:=h
  split at h <;> first | exact ⟨_,⟨h0,rfl⟩,h⟩ | exact ⟨_,⟨h0,h.1,rfl⟩,h.2⟩ | exact h.elim
 ·split at h <;> first | exact ⟨_,rfl,h⟩ | exact ⟨_,⟨h.1,rfl⟩,h.2⟩ | exact h.elim
theorem Fv {op:BinOp} {x y:AV} (h:dX op x y φ):∃ z,dX op x y (fun w=>w=z)∧φ z:=by
 unfold dX at *
 split at h <;> (try exact h.elim)
 obtain ⟨h0,h⟩:=h
 split at h <;> first | exact ⟨_,⟨h0,rfl⟩,h⟩ | exact h.elim
theorem Dd {neq:Bool} {x y:AV} (h:c9 neq x y φ):∃ z,c9 neq x y (fun w=>w=z)∧φ z:=by
 unfold c9 at *
 split at h <;> first | exact ⟨_,rfl,h⟩ | exact h.elim
theorem Pe {op:UnOp} {x:AV} (h:As op x φ):∃ z,As op x (fun w=>w=z)∧φ z:=by
 unfold As at *
 split at h <;> first | exact ⟨_,rfl,h⟩ | exact h.elim
theorem I5 {sz:Option Nat} {x:AV} {H:List aa} (h:aU sz x H φ):∃ z,aU sz x H (fun w=>w=z)∧φ z:=by
 unfold aU at *
 split at h <;> (try exact h.elim) <;> (split at h <;> (try exact h.elim)) <;> first | exact ⟨_,⟨h.1,rfl⟩,h.2⟩ | (split at h <;> exact ⟨_,⟨h.1,rfl⟩,h.2⟩)
theorem zq {off:Nat} {sz:Option Nat} {xs:List AV} {g:AV→AV} (h:apart off sz xs fun z=>φ (g z)):∃ z,(apart off sz xs fun w=>g w=z)∧φ z:=by
 unfold apart at *
 split at h <;> first | exact ⟨_,⟨h.1,rfl⟩,h.2⟩ | exact ⟨_,⟨h.1,h.2.1,rfl⟩,h.2.2⟩
theorem Fx {off:Nat} {sz:Option Nat} {x:AV} (h:ff off sz x φ):∃ z,ff off sz x (fun w=>w=z)∧φ z:=by
 unfold ff at *
 split at h <;> (try exact h.elim)
 exact zq h
theorem wZ {off:Nat} {sz:Option Nat} {x:AV} (h:al off sz x φ):∃ z,al off sz x (fun w=>w=z)∧φ z:=by
 unfold al at *
 split at h <;> (try exact h.elim)
 ·exact ⟨_,rfl,h⟩
 ·exact zq h
theorem w5 {esz:Nat} {x i:AV} (h:ax esz x i φ):∃ z,ax esz x i (fun w=>w=z)∧φ z:=by
 unfold ax at *
 split at h <;> first | exact ⟨_,⟨h.1,h.2.1,rfl⟩,h.2.2⟩ | exact h.elim
theorem yv {x i:AV} (h:bN x i φ):∃ z,bN x i (fun w=>w=z)∧φ z:=by
 unfold bN at *
 split at h <;> first | exact ⟨_,⟨h.1,h.2.1,rfl⟩,h.2.2⟩ | exact h.elim
theorem yw {n:Nat} {x i:AV} (h:bY n x i φ):∃ z,bY n x i (fun w=>w=z)∧φ z:=by
 unfold bY at *
 split at h <;> first | exact ⟨_,⟨h.1,h.2.1,h.2.2.1,rfl⟩,h.2.2.2⟩ | exact h.elim
theorem Bk {x:AV} {i:Nat} (h:bK x i φ):∃ z,bK x i (fun w=>w=z)∧φ z:=by
 unfold bK at *
 split at h <;> first | exact ⟨_,⟨h.1,rfl⟩,h.2⟩ | exact h.elim
theorem yx {x:AV} (h:bZ x φ):∃ z,bZ x (fun w=>w=z)∧φ z:=by
 unfold bZ at *
 split at h <;> first | exact ⟨_,rfl,h⟩ | exact h.elim
theorem Bl {k:IntKind} {x:AV} (h:cD k x φ):∃ z,cD k x (fun w=>w=z)∧φ z:=by
 unfold cD at *
 split at h <;> first | exact ⟨_,rfl,h⟩ | exact h.elim
theorem Pf {big:Bool} {x y:AV} (h:ya big x y φ):∃ z,ya big x y (fun w=>w=z)∧φ z:=by
 unfold ya at *
 split at h <;> first | exact ⟨_,rfl,h⟩ | exact h.elim
theorem pe {x:Option AV} {d:Nat} {c1 c2:Nat→Prop} {g:Nat→AV} (h:dR x d fun k=>c1 k∧c2 k∧φ (g k)):∃ z,(dR x d fun k=>c1 k∧c2 k∧g k=z)∧φ z:=by
 unfold dR at *
 split at h
 ·exact ⟨_,⟨h.1,h.2.1,rfl⟩,h.2.2⟩
 ·exact ⟨_,⟨h.1,h.2.1,h.2.2.1,rfl⟩,h.2.2.2⟩
 ·exact h.elim
theorem jj {x:Option AV} {d:Nat} {ψ:(AV→Prop)→Nat→Prop} (h:dR x d (ψ φ)) (hd:∀ k,ψ φ k→∃ z,ψ (fun w=>w=z) k∧φ z):∃ z,dR x d (ψ fun w=>w=z)∧φ z:=by
 unfold dR at *
 split at h
 ·exact hd _ h
 ·obtain ⟨z,h2,h3⟩:=hd _ h.2;exact ⟨z,⟨h.1,h2⟩,h3⟩
 ·exact h.elim
theorem Fy {esz:Nat} {x:AV} {lo hi mx:Option AV} (h:fm esz x lo hi mx φ):∃ z,fm esz x lo hi mx (fun w=>w=z)∧φ z:=by
 unfold fm at *
 split at h <;> (try exact h.elim)
 rename_i xs fS
 cases mx with
 | none=>exact jj (ψ:=fun φ h=>dR lo 0 fun l=>l≤h∧h≤xs.length∧φ (.ap 0 ((xs.take h).drop l))) h fun k h=>pe (c1:=fun l=>l≤k) (c2:=fun _=>k≤xs.length) (g:=fun l=>.ap 0 ((xs.take k).drop l)) h
 | some m=>
   refine jj (ψ:=fun φ h=>dR lo 0 fun l=>l≤h∧h≤xs.length∧hi.isSome=true∧dR (some m) 0 fun m=>m=h∧(∀ y∈xs,y.cells.length=esz)∧φ (.ap esz ((xs.take h).drop l))) h fun k h=>?_
   refine jj (ψ:=fun φ l=>l≤k∧k≤xs.length∧hi.isSome=true∧dR (some m) 0 fun m=>m=k∧(∀ y∈xs,y.cells.length=esz)∧φ (.ap esz ((xs.take k).drop l))) h fun l h=>?_
   obtain ⟨h1,h2,h3,h4⟩:=h
   obtain ⟨z,k1,k2⟩:=pe (g:=fun _=>.ap esz ((xs.take k).drop l)) h4
   exact ⟨z,⟨h1,h2,h3,k1⟩,k2⟩
theorem De {esz:Nat} {x:AV} {lo hi mx:Option AV} (h:bA esz x lo hi mx φ):∃ z,bA esz x lo hi mx (fun w=>w=z)∧φ z:=by
 unfold bA ic oS at *
 split at h
 ·rename_i id off len cap
  split at h
  rotate_left
  ·rename_i m
   obtain ⟨h1,h2⟩:=h
   have:=jj (ψ:=fun φ m=>dR hi len fun h=>dR lo 0 fun l=>l≤h∧h≤m∧m≤cap∧φ (.aW id (if m=l then off else off + l * esz) (h - l) (m - l))) h2 fun m h=>
    jj (ψ:=fun φ h=>dR lo 0 fun l=>l≤h∧h≤m∧m≤cap∧φ (.aW id (if m=l then off else off + l * esz) (h - l) (m - l))) h fun k h=>
     jj (ψ:=fun φ l=>l≤k∧k≤m∧m≤cap∧φ (.aW id (if m=l then off else off + l * esz) (k - l) (m - l))) h fun l h=>⟨_,⟨h.1,h.2.1,h.2.2.1,rfl⟩,h.2.2.2⟩
   obtain ⟨z,k1,k2⟩:=this
   exact ⟨z,⟨h1,k1⟩,k2⟩
  have h2:=h
  have:=jj (ψ:=fun φ h=>dR lo 0 fun l=>l≤h∧h≤cap∧φ (.aW id (if cap=l then off else off + l * esz) (h - l) (cap - l))) h2 fun k h=>pe (c1:=fun l=>l≤k) (c2:=fun _=>k≤cap) (g:=fun l=>.aW id (if cap=l then off else off + l * esz) (k - l) (cap - l)) h
  obtain ⟨z,k1,k2⟩:=this
  exact ⟨z,k1,k2⟩
 ·obtain ⟨z,k1,k2⟩:=Fy h.2
  exact ⟨z,⟨h.1,k1⟩,k2⟩
theorem yy {x:AV} {lo hi:Option AV} (h:cn x lo hi φ):∃ z,cn x lo hi (fun w=>w=z)∧φ z:=by
 unfold cn at *
 split at h <;> (try exact h.elim)
 rename_i s
 exact jj (ψ:=fun φ h=>dR lo 0 fun l=>l≤h∧h≤s.size∧φ (.str (s.extract l h))) h fun k h=>pe (c1:=fun l=>l≤k) (c2:=fun _=>k≤s.size) (g:=fun l=>.str (s.extract l k)) h
theorem Df {kd:Nat} {z m k:AV} {ok:Bool} {H:List aa} (h:cu kd z m k ok H φ):∃ y,cu kd z m k ok H (fun w=>w=y)∧φ y:=by
 unfold cu at *
 split at h <;> (try exact h.elim) <;> first | exact ⟨_,rfl,h⟩ | exact ⟨_,⟨h.1,rfl⟩,h.2⟩ | (split at h <;> (try exact h.elim) <;> first | exact ⟨_,rfl,h⟩ | exact ⟨_,⟨h.1,rfl⟩,h.2⟩ | (split at h <;> (try exact h.elim) <;> first | exact ⟨_,rfl,h⟩ | exact ⟨_,⟨h.1,rfl⟩,h.2⟩))
theorem ux {esz:Nat} {own:Nat}:∀ {ps:List (Nat×AV)} {zs:List AV},bu zs esz ps (fun v=>φ (.ap own v))→∃ z,bu zs esz ps (fun v=>.ap own v=z)∧φ z
 | [],zs,h=>⟨_,rfl,h⟩
 | (i,x)::r,zs,h=>by
   obtain ⟨z,k1,k2⟩:=ux h.2.2.2
   exact ⟨z,⟨h.1,h.2.1,h.2.2.1,k1⟩,k2⟩
theorem zr:∀ {ps:List (Nat×Nat×AV)} {zs:List AV},gZ zs ps (fun v=>φ (.agg v))→∃ z,gZ zs ps (fun v=>.agg v=z)∧φ z
 | [],zs,h=>⟨_,rfl,h⟩
 | (off,sz,x)::r,zs,h=>by
   obtain ⟨z,k1,k2⟩:=zr h.2.2.2
   exact ⟨z,⟨h.1,h.2.1,h.2.2.1,k1⟩,k2⟩
end
def fY (v:AV) (A B:Prop):Prop:=fe v fun q=>(q=true→A)∧(q=false→B)
@[congr] theorem Rm {v v':AV} {A B:Prop} (h:gN v=v'):fY v A B=fY v' A B:=by subst h;rfl
theorem Pg (A B:Prop):fY (.bool true) A B=A:=by simp [fY,fe]
theorem Ph (A B:Prop):fY (.bool false) A B=B:=by simp [fY,fe]
theorem Pj (b:Bool) (A B:Prop):fY (.bool (!b)) A B=fY (.bool b) B A:=by cases b <;> simp [fY,fe]
theorem Pk (p:Prop) [Decidable p] (A B:Prop):fY (.bool (decide p)) A B=((p→A)∧(¬ p→B)):=by simp [fY,fe]
theorem vE {b:Bool} {A B:Prop} (h1:b=true→A) (h2:b=false→B):fY (.bool b) A B:=⟨h1,h2⟩
def dO (v:AV) (g:Nat) (want:Bool) (env:Env) (yes no:Env→Prop):Prop:=
 match v with
 | .bool b=>(b=want→yes ((g,.bool want)::env))∧(b=(!want)→no ((g,.bool (!want))::env))
 | .tuple []=>no env
 | _=>False
@[congr] theorem Pl {v v':AV} {g:Nat} {want:Bool} {env:Env} {yes no:Env→Prop} (h:gN v=v'):dO v g want env yes no=dO v' g want env yes no:=by subst h;rfl
section
variable (g:Nat) (env:Env) (yes no:Env→Prop)
theorem Yg:dO (.bool true) g true env yes no=yes ((g,.bool true)::env):=by simp [dO]
theorem Yh:dO (.bool true) g false env yes no=no ((g,.bool true)::env):=by simp [dO]
theorem Yi:dO (.bool false) g true env yes no=no ((g,.bool false)::env):=by simp [dO]
theorem Yj:dO (.bool false) g false env yes no=yes ((g,.bool false)::env):=by simp [dO]
theorem abJ (want:Bool):dO (.tuple []) g want env yes no=no env:=ae0
theorem Yk (p:Prop) [Decidable p]:dO (.bool (decide p)) g true env yes no=((p→yes ((g,.bool true)::env))∧(¬ p→no ((g,.bool false)::env))):=by simp [dO]
theorem Yl (p:Prop) [Decidable p]:dO (.bool (decide p)) g false env yes no=((¬ p→yes ((g,.bool false)::env))∧(p→no ((g,.bool true)::env))):=by simp [dO]
end
def zt (P:Px) (g:FuncId) (xs:List AV) (H:List aa) (K:AV→List aa→Prop):Prop:=∃ bU,yY xs bU∧dD P g bU H K
@[congr] theorem Rn {P:Px} {g:FuncId} {xs xs':List AV} {H H':List aa} {K:AV→List aa→Prop} (h:gN xs=xs') (h2:H=H'):zt P g xs H K=zt P g xs' H' K:=by subst h;subst h2;rfl
theorem af {P:Program} {lo:Option Nat} {g:FuncId} {xs:List AV} {H:List aa} {R K:AV→List aa→Prop} (hc:aw P g xs H R) (hk:∀ r H',R r H'→K r H'):zt ⟨P,lo⟩ g xs H K:=⟨xs,bW _,dD.of (hc.mono hk)⟩
theorem zw {P:Program} {l:Nat} {g:FuncId} {xs:List AV} {H:List aa} {R K:AV→List aa→Prop} (hl:l≤H.length) (hc:jc P g xs H R) (hk:∀ r H',R r H'→K r H'):zt ⟨P,some l⟩ g xs H K:=⟨xs,bW _,dD.ofL hl (hc.mono hk)⟩
theorem ae {P:Program} {lo:Option Nat} {g:FuncId} {xs:List AV} {v:AV} {H:List aa} {K:AV→List aa→Prop} (hc:Pure P g xs v) (hk:K v H):zt ⟨P,lo⟩ g xs H K:=
 ⟨xs,bW _,dD.of ((hc H).mono fun r H' ⟨h1,h2⟩=>by rw [h1,h2];exact hk)⟩
theorem Pm {P:Px} {env:Env} {H:List aa} (g:FuncId) (first cap:List AV) (args:List IX) (pass:Option Nat) (K:AV→Env→List aa→Prop):pK P (.fn (.func g) first cap) args pass env H K =
 zt P g (first.map AV.ab++aK env pass 0 args++cap.map AV.ab) H (fun r H'=>K r (cG env (bh args pass)) H'):=ae0
@[congr] theorem Ro {P:Px} {f f':AV} {args:List IX} {pass:Option Nat} {env:Env} {H:List aa} {K:AV→Env→List aa→Prop} (h:gN f=f'):pK P f args pass env H K=pK P f' args pass env H K:=by subst h;rfl
def zx (P:Px) (st:Bool) (g:FuncId) (xs:List AV) (H:List aa) (K:AV→Prop):Prop:=
 ∃ x,(match st with
  | true=>∃ bU,yY xs bU∧aw P.prog g bU H (fun r H'=>r=x∧H'=H)
  | false=>∀ H,∃ bU,yY xs bU∧aw P.prog g bU H (fun r H'=>r=x∧H'=H))∧K x
@[congr] theorem Rp {P:Px} {st:Bool} {g:FuncId} {xs xs':List AV} {H:List aa} {K:AV→Prop} (h:gN xs=xs'):zx P st g xs H K=zx P st g xs' H K:=by subst h;rfl
theorem aE {P:Program} {lo:Option Nat} {st:Bool} {g:FuncId} {xs:List AV} {v:AV} {H:List aa} {K:AV→Prop} (hc:Pure P g xs v) (hk:K v):zx ⟨P,lo⟩ st g xs H K:=
 ⟨v,(by cases st <;> first | exact ⟨xs,bW _,hc H⟩ | exact fun H=>⟨xs,bW _,hc H⟩),hk⟩
def qq (P:Px) (st:Bool) (f:AV) (xs:List AV) (H:List aa) (K:AV→Prop):Prop:=
 match f with
 | .fn (.func g) first cap=>zx P st g (first.map AV.ab++xs++cap.map AV.ab) H K
 | _=>False
@[congr] theorem Pn {P:Px} {st:Bool} {f f':AV} {xs xs':List AV} {H:List aa} {K:AV→Prop} (h:gN f=f') (h2:xs=xs'):qq P st f xs H K=qq P st f' xs' H K:=by subst h;subst h2;rfl
theorem I6 {P:Px} {st:Bool} (g:FuncId) (first cap xs:List AV) (H:List aa) (K:AV→Prop):qq P st (.fn (.func g) first cap) xs H K=zx P st g (first.map AV.ab++xs++cap.map AV.ab) H K:=ae0
def iO (x:AV) (H:List aa) (φ:AV→Prop):Prop:=match x with | .ap _ xs=>φ (.int .i64 xs.length) | x=>eU x H φ
@[congr] theorem Rq {x x':AV} {H:List aa} {φ:AV→Prop} (h:gN x=x'):iO x H φ=iO x' H φ:=by subst h;rfl
theorem I7 {x:AV} {H:List aa} {φ:AV→Prop} (h:iO x H φ):∃ z,eU x H (fun w=>w=z)∧φ z:=by
 cases x with
 | ap o xs=>exact ⟨_,fun _=>rfl,h⟩
 | map id=>
   simp only [iO,eU] at h ⊢
   split at h
   ·exact ⟨_,rfl,h⟩
   ·exact h.elim
 | _=>first | exact ⟨_,rfl,h⟩ | exact False.elim h
def pf (kd:Nat) (neq:Bool) (x:AV) (φ:AV→Prop):Prop:=match isNil kd x with | some b=>φ (.bool (if neq then !b else b)) | none=>False
@[congr] theorem Nw {kd:Nat} {neq:Bool} {x x':AV} {φ:AV→Prop} (h:gN x=x'):pf kd neq x φ=pf kd neq x' φ:=by subst h;rfl
def w6 (o:cb) (ρ:IX→AV) (H:List aa) (K:AV→Prop):Prop:=
 match o with
 | .set i false=>K (ρ i).ab
 | .pick c a b=>fY (ρ c) (K (ρ a).ab) (K (ρ b).ab)
 | .bin op i j=>dh op (ρ i) (ρ j) K
 | .shift op i j=>dX op (ρ i) (ρ j) K
 | .iR neq i j=>c9 neq (ρ i) (ρ j) K
 | .jI kd neq i=>pf kd neq (ρ i) K
 | .un op i=>As op (ρ i) K
 | .ms i=>(ρ i).val=true∧K (.ai (ρ i))
 | .build z ps=>cw z.cells (ps.map fun q=>(q.1,q.2.1,ρ q.2.2)) K
 | .buildSlice own esz z len ps=>bu (List.replicate len (aV z)) esz (ps.map fun q=>(q.1,ρ q.2)) fun xs=>K (.ap own xs)
 | .load sz i=>aU sz (ρ i) H K
 | .nilCheck i=>bZ (ρ i) K
 | .fieldAddr off sz i=>al off sz (ρ i) K
 | .field off sz i=>ff off sz (ρ i) K
 | .indexAddr esz i j=>(∀ own xs,ρ i=.ap own xs→∀ z∈xs,z.cells.length=esz)∧ax esz (ρ i) (ρ j) K
 | .di i j=>bN (ρ i) (ρ j) K
 | .dV n i j=>bY n (ρ i) (ρ j) K
 | .slice esz i lo hi mx=>bA esz (ρ i) (lo.map ρ) (hi.map ρ) (mx.map ρ) K
 | .dW i lo hi=>cn (ρ i) (lo.map ρ) (hi.map ρ) K
 | .len kd i=>aL kd (ρ i)∧iO (ρ i) H K
 | .lookup kd z m k ok=>cu kd z (ρ m) (ρ k) ok H K
 | .fn f first cap=>K (.fn f (first.map fun x=>(ρ x).ab) (cap.map fun x=>(ρ x).ab))
 | .extract i k=>bK (ρ i) k K
 | .eX k i=>cD k (ρ i) K
 | .mx big i j=>ya big (ρ i) (ρ j) K
 | _=>False
theorem Dg {P:Px} {o:cb} {ρ:IX→AV} {H:List aa} {K:AV→Prop} (h:w6 o ρ H K):∃ x,df P o ρ H x∧K x:=by
 unfold w6 at h
 split at h
 ·exact ⟨_,rfl,h⟩
 ·unfold fY fe at h
  simp only [df,fe]
  split at h
  ·rename_i b hb
   cases b with
   | true=>exact ⟨_,⟨fun _=>rfl,fun e=>by cases e⟩,h.1 rfl⟩
   | false=>exact ⟨_,⟨fun e=>(by cases e),fun _=>rfl⟩,h.2 rfl⟩
  ·exact h.elim
 ·exact K8 h
 ·exact Fv h
 ·exact Dd h
 ·unfold pf at h
  split at h
  ·rename_i b hb
   refine ⟨_,?_,h⟩
   simp only [df,dk,hb]
  ·exact h.elim
 ·exact Pe h
 ·exact ⟨_,⟨h.1,rfl⟩,h.2⟩
 ·exact zr h
 ·exact ux h
 ·exact I5 h
 ·exact yx h
 ·exact wZ h
 ·exact Fx h
 ·obtain ⟨z,k1,k2⟩:=w5 h.2
  exact ⟨z,⟨h.1,k1⟩,k2⟩
 ·exact yv h
 ·exact yw h
 ·exact De h
 ·exact yy h
 ·obtain ⟨z,k1,k2⟩:=I7 h.2
  exact ⟨z,⟨h.1,k1⟩,k2⟩
 ·exact Df h
 ·exact ⟨_,rfl,h⟩
 ·exact Bk h
 ·exact Bl h
 ·exact Pf h
 ·exact h.elim
theorem I8 {P:Px} {o:cb} {ρ:IX→AV} {K:AV→Prop} (h:w6 o ρ [] K):∃ x,(∀ H,df P o ρ H x)∧K x:=by
 obtain ⟨x,h1,h2⟩:=Dg (P:=P) h
 have hs:o.stays=true:=by
  cases o <;> first | rfl | exact h.elim
 exact ⟨x,fun H=>by have:=zc (e:=H) hs h1;simpa using this,h2⟩
def mq (P:Px) (st:Bool) (o:cb) (ρ:IX→AV) (H:List aa) (K:AV→Prop):Prop:=
 match o with
 | .call f args none=>qq P st (ρ f) (args.map fun x=>(ρ x).ab) H K
 | o=>w6 o ρ (match st with | true=>H | false=>[]) K
theorem K9 {P:Px} {st:Bool} {o:cb} {ρ:IX→AV} {H:List aa} {K:AV→Prop} (h:mq P st o ρ H K):∃ x,dv P st o ρ H x∧K x:=by
 unfold mq at h
 split at h
 ·rename_i f args
  unfold qq at h
  split at h
  ·rename_i g first cap e
   obtain ⟨x,h1,h2⟩:=h
   cases st with
   | true=>exact ⟨x,by simp only [dv,df,e];exact h1,h2⟩
   | false=>exact ⟨x,by simp only [dv,df,e];exact h1,h2⟩
  ·exact h.elim
 ·cases st with
  | true=>exact Dg h
  | false=>exact I8 h
def Ht (P:Px) (st:Bool) (o:bH) (env:Env) (H:List aa) (K:Env→Prop):Prop:=
 match o.g with
 | none=>mq P st o.op (aq env) H fun x=>K (put o.dst x env)
 | some (g,want)=>dO (get env g) g want env (fun _=>mq P st o.op (aq env) H fun x=>K (put o.dst x env)) (fun _=>K (put o.dst (.tuple []) env))
theorem Dh {P:Px} {st:Bool} {o:bH} {env:Env} {H:List aa} {K1 K2:Env→Prop} (h:Ht P st o env H K1) (hK:∀ e,K1 e→K2 e):ud P st o env H K2:=by
 unfold Ht at h
 unfold ud
 split at h
 ·rename_i e
  rw [e]
  obtain ⟨x,h1,h2⟩:=K9 h
  exact ⟨x,h1,hK _ h2⟩
 ·rename_i g want e
  rw [e]
  unfold dO at h
  unfold iU
  dsimp only
  split at h
  ·rename_i b hb
   rw [hb]
   refine ⟨fun eb=>?_,fun eb=>hK _ (h.2 eb)⟩
   obtain ⟨x,h1,h2⟩:=K9 (h.1 eb)
   exact ⟨x,h1,hK _ h2⟩
  ·rename_i hb
   rw [hb]
   exact hK _ h
  ·exact h.elim
theorem Di {P:Px} {o:cb} {dst:Option Nat} {env:Env} {H:List aa} {K1 K2:Env→List aa→Prop} (h:bB P o dst env H K1) (hK:∀ e H',K1 e H'→K2 e H'):bB P o dst env H K2:=
 oY (fun _ _=>rfl) h fun mods H' _ _ _ hk=>hK _ _ hk
theorem sV {P:Px} {o:bH} {env:Env} {H:List aa} {K1 K2:Env→List aa→Prop} (h:sH P o env H K1) (hK:∀ e H',K1 e H'→K2 e H'):sH P o env H K2:=by
 unfold sH at *
 split at h
 ·exact Di h hK
 ·rename_i g want e
  unfold iU at *
  split at h
  ·exact ⟨fun eb=>Di (h.1 eb) hK,fun eb=>hK _ _ (h.2 eb)⟩
  ·exact hK _ _ h
  ·exact h.elim
theorem sW {P:Px}:∀ {ops:List bH} {env:Env} {H:List aa} {K1 K2:Env→List aa→Prop},jP P ops env H K1→(∀ e H',K1 e H'→K2 e H')→jP P ops env H K2
 | [],_,_,_,_,h,hK=>hK _ _ h
 | o::r,_,_,_,_,h,hK=>sV h fun _ _ h=>sW h hK
def jE (P:Px):DT→Env→List aa→(Env→List aa→Prop)→Prop
 | .done,env,H,K=>K env H
 | .take st o r,env,H,K=>Ht P st o env H fun env=>jE P r env H K
 | .br o t rest,env,H,K=>sH P o env H (fun env H=>jE P t env H K)∧jE P rest env H K
 | .nil,_,_,_=>True
theorem rK {P:Px}:∀ {t:DT} {env:Env} {H:List aa} {K1 K2:Env→List aa→Prop},jE P t env H K1→(∀ e H',K1 e H'→K2 e H')→vr P t env H K2
 | .done,_,_,_,_,h,hK=>hK _ _ h
 | .take st o r,_,_,_,_,h,hK=>Dh h fun _ h=>rK h hK
 | .br o t rest,_,_,_,_,h,hK=>⟨sV h.1 fun _ _ h=>rK h hK,rK h.2 hK⟩
 | .nil,_,_,_,_,h,hK=>trivial
def w7 (P:Px) (f:AV) (lc:jg) (env:Env) (H:List aa) (K:Option Code→List aa→Prop):Prop:=
 match f with
 | .fn (.func g) first cap=>(∀ (as:Array Value) (w:World),(callFunc g as).run P.prog w=.ok (.enter g as) w)∧
    ∃ bU,yY (first.map AV.ab++[.nN H.length]++cap.map AV.ab) bU∧dD P g bU (H++[.loop .ready lc (ln lc.n env)]) fun _ H'=>behind H.length H' K
 | _=>False
theorem zy {j:Option Code} {Q1 Q2:Exit→Env→List aa→Prop} {env:Env} {H:List aa} (h:qd j Q1 env H) (hQ:∀ x e H',Q1 x e H'→Q2 x e H'):qd j Q2 env H:=by
 unfold qd at *
 split at h <;> first | exact hQ _ _ _ h | exact h.elim
theorem uy {id:Nat} {H:List aa} {K1 K2:Option Code→List aa→Prop} (h:behind id H K1) (hK:∀ j H',K1 j H'→K2 j H'):behind id H K2:=by
 unfold behind at *
 split at h <;> first | exact hK _ _ h | exact h.elim
def lT (P:Px) (n0:Nat):IR→Env→List aa→(Exit→Env→List aa→Prop)→Prop
 | .skip,env,H,Q=>Q .normal env H
 | .region ops live,env,H,Q=>jP P ops env H fun aH H'=>Q .normal (eM live aH) H'
 | .draw t live,env,H,Q=>jE P t env H fun aH H'=>Q .normal (eM live aH) H'
 | .seq a b,env,H,Q=>lT P n0 a env H fun e aH H'=>match e with
   | .normal=>lT P n0 b aH H' Q
   | e=>Q e aH H'
 | .cond x a b,env,H,Q=>fY (aq env x) (lT P n0 a env H Q) (lT P n0 b env H Q)
 | .block id a,env,H,Q=>lT P n0 a env H fun e aH H'=>match e with
   | .exit id'=>if id'=id then Q .normal aH H' else Q (.exit id') aH H'
   | e=>Q e aH H'
 | .loop a,env,H,Q=>∃ (ι:Type) (I:ι→Prop) (se:ι→Env) (sh:ι→List aa) (μ:ι→Nat),(∃ i,I i∧Iy P.lo n0 env H (se i) (sh i))∧
    ∀ i,I i→lT P n0 a (se i) (sh i) fun e aH H'=>match e with
     | .normal=>∃ j,I j∧μ j < μ i∧Iy P.lo n0 aH H' (se j) (sh j)
     | e=>Q e aH H'
 | .exit id,env,H,Q=>Q (.exit id) env H
 | .ret,env,H,Q=>Q .ret env H
 | .never,env,H,Q=>False
 | .jA f lc,env,H,Q=>w7 P (aq env f) lc env H fun j H''=>qd j Q env H''
theorem rL {P:Px} {n0:Nat}:∀ {ir:IR} {env:Env} {H:List aa} {Q1 Q2:Exit→Env→List aa→Prop},lT P n0 ir env H Q1→(∀ x e H',Q1 x e H'→Q2 x e H')→mn P n0 ir env H Q2:=by
 intro ir
 induction ir with
 | skip=>exact fun h hQ=>hQ _ _ _ h
 | region ops live=>exact fun h hQ=>sW h fun _ _ h=>hQ _ _ _ h
 | draw t live=>exact fun h hQ=>rK h fun _ _ h=>hQ _ _ _ h
 | seq a b Fz T9=>
   exact fun h hQ=>Fz h fun x e H' h=>by
    cases x with
    | normal=>exact T9 h hQ
    | _=>exact hQ _ _ _ h
 | cond x a b Fz T9=>
   intro env H Q1 Q2 h hQ
   unfold lT fY fe at h
   unfold mn fe
   split at h
   ·exact ⟨fun e=>Fz (h.1 e) hQ,fun e=>T9 (h.2 e) hQ⟩
   ·exact h.elim
 | block id a Fz=>
   exact fun h hQ=>Fz h fun x e H' h=>by
    cases x with
    | exit id'=>
      dsimp only at h ⊢
      split
      ·rename_i bm;rw [if_pos bm] at h;exact hQ _ _ _ h
      ·rename_i bm;rw [if_neg bm] at h;exact hQ _ _ _ h
    | _=>exact hQ _ _ _ h
 | loop a Fz=>
   intro env H Q1 Q2 h hQ
   obtain ⟨ι,I,se,sh,μ,h0,hs⟩:=h
   exact ⟨ι,I,se,sh,μ,h0,fun i hi=>Fz (hs i hi) fun x e H' h=>by
    cases x with
    | normal=>exact h
    | _=>exact hQ _ _ _ h⟩
 | exit id=>exact fun h hQ=>hQ _ _ _ h
 | ret=>exact fun h hQ=>hQ _ _ _ h
 | never=>exact fun h _=>h.elim
 | jA f lc=>
   intro env H Q1 Q2 h hQ
   unfold lT w7 at h
   unfold mn
   split at h
   ·rename_i g first cap e
    obtain ⟨h1,bU,h2,h3⟩:=h
    rw [e]
    exact ⟨h1,bU,h2,h3.mono fun _ H' hb=>uy hb fun j H'' hg=>zy hg hQ⟩
   ·exact h.elim
theorem fX.calls {P:Program} {f:FuncId} {fi:pD} (h:fX P f fi) {args:List AV} {H:List aa} {R:AV→List aa→Prop} (hn:Nat.ble args.length fi.n=true)
 (hw:lT P H.length fi.ir (bV 0 args) H fun e env H'=>(e=.normal∨e=.ret)∧b8 H.length fi.rs env H' R):aw P f args H R:=
 h.Ba (ac0 hn) (rL hw fun _ _ _ h=>h)
theorem fX.w8 {P:Program} {f:FuncId} {fi:pD} (h:fX P f fi) {args:List AV} {H:List aa} {R:AV→List aa→Prop} (hn:Nat.ble args.length fi.n=true)
 (hw:lT ⟨P,some H.length⟩ H.length fi.ir (bV 0 args) H fun e env H'=>(e=.normal∨e=.ret)∧ji (nu H.length) H.length fi.rs env H' R):aw P f args H R:=
 h.Ol (ac0 hn) (rL hw fun _ _ _ h=>h)
theorem fX.Ua {P:Program} {f:FuncId} {fi:pD} (h:fX P f fi) {args:List AV} {H:List aa} {R:AV→List aa→Prop} (hn:Nat.ble args.length fi.n=true)
 (hw:lT ⟨P,some H.length⟩ H.length fi.ir (bV 0 args) H fun e env H'=>(e=.normal∨e=.ret)∧ji (wG H.length) H.length fi.rs env H' R):jc P f args H R:=
 h.Om (ac0 hn) (rL hw fun _ _ _ h=>h)
section
variable {P:Px} {n0:Nat} {env:Env} {H:List aa} {Q:Exit→Env→List aa→Prop}
theorem Lb:lT P n0 .skip env H Q=Q .normal env H:=ae0
theorem FA (ops:List bH) (live:Option (List Nat)):lT P n0 (.region ops live) env H Q=jP P ops env H fun aH H'=>Q .normal (eM live aH) H':=ae0
theorem Lc (t:DT) (live:Option (List Nat)):lT P n0 (.draw t live) env H Q=jE P t env H fun aH H'=>Q .normal (eM live aH) H':=ae0
theorem Po (a b:IR):lT P n0 (.seq a b) env H Q=lT P n0 a env H fun e aH H'=>match e with
 | .normal=>lT P n0 b aH H' Q
 | e=>Q e aH H':=ae0
theorem Dj (x:IX) (a b:IR):lT P n0 (.cond x a b) env H Q=fY (aq env x) (lT P n0 a env H Q) (lT P n0 b env H Q):=ae0
theorem I9 (id:Nat) (a:IR):lT P n0 (.block id a) env H Q=lT P n0 a env H fun e aH H'=>match e with
 | .exit id'=>if id'=id then Q .normal aH H' else Q (.exit id') aH H'
 | e=>Q e aH H':=ae0
theorem zz (f:IX) (lc:jg):lT P n0 (.jA f lc) env H Q=w7 P (aq env f) lc env H fun j H''=>qd j Q env H'':=ae0
theorem Ld (id:Nat):lT P n0 (.exit id) env H Q=Q (.exit id) env H:=ae0
theorem Pp:lT P n0 .ret env H Q=Q .ret env H:=ae0
@[congr] theorem VX {ir:IR} {aH:Env} {H':List aa} (h:gN env=aH) (h2:H=H'):lT P n0 ir env H Q=lT P n0 ir aH H' Q:=by subst h;subst h2;rfl
@[congr] theorem Ub {ops:List bH} {aH:Env} {H':List aa} {K:Env→List aa→Prop} (h:gN env=aH) (h2:H=H'):jP P ops env H K=jP P ops aH H' K:=by subst h;subst h2;rfl
@[congr] theorem Uc {t:DT} {aH:Env} {H':List aa} {K:Env→List aa→Prop} (h:gN env=aH) (h2:H=H'):jE P t env H K=jE P t aH H' K:=by subst h;subst h2;rfl
theorem Lf (K:Env→List aa→Prop):jP P [] env H K=K env H:=ae0
theorem Ud (d:Option Nat) (op:cb) (r:List bH) (K:Env→List aa→Prop):jP P (⟨none,d,op⟩::r) env H K=bB P op d env H fun env H=>jP P r env H K:=ae0
theorem Ue (g:Nat) (w:Bool) (d:Option Nat) (op:cb) (r:List bH) (K:Env→List aa→Prop):jP P (⟨some (g,w),d,op⟩::r) env H K =
 dO (get env g) g w env (fun env=>bB P op d env H fun env H=>jP P r env H K) (fun env=>jP P r (put d (.tuple []) env) H K):=ae0
theorem Ym (d:Option Nat) (op:cb) (K:Env→List aa→Prop):sH P ⟨none,d,op⟩ env H K=bB P op d env H K:=ae0
theorem Yn (g:Nat) (w:Bool) (d:Option Nat) (op:cb) (K:Env→List aa→Prop):sH P ⟨some (g,w),d,op⟩ env H K =
 dO (get env g) g w env (fun env=>bB P op d env H K) (fun env=>K (put d (.tuple []) env) H):=ae0
@[congr] theorem VY {o:bH} {K:Env→List aa→Prop} {H':List aa} (h:gN H=H'):sH P o env H K=sH P o env H' K:=by subst h;rfl
@[congr] theorem VZ {o:cb} {d:Option Nat} {K:Env→List aa→Prop} {H':List aa} (h:gN H=H'):bB P o d env H K=bB P o d env H' K:=by subst h;rfl
theorem Ja (K:Env→List aa→Prop):jE P .done env H K=K env H:=ae0
theorem Lg (K:Env→List aa→Prop):jE P .nil env H K=True:=ae0
theorem Uf (st:Bool) (d:Option Nat) (op:cb) (r:DT) (K:Env→List aa→Prop):jE P (.take st ⟨none,d,op⟩ r) env H K=mq P st op (aq env) H fun x=>jE P r (put d x env) H K:=ae0
theorem Ug (st:Bool) (g:Nat) (w:Bool) (d:Option Nat) (op:cb) (r:DT) (K:Env→List aa→Prop):jE P (.take st ⟨some (g,w),d,op⟩ r) env H K =
 dO (get env g) g w env (fun _=>mq P st op (aq env) H fun x=>jE P r (put d x env) H K) (fun _=>jE P r (put d (.tuple []) env) H K):=ae0
theorem Pq (o:bH) (t rest:DT) (K:Env→List aa→Prop):jE P (.br o t rest) env H K=(sH P o env H (fun env H=>jE P t env H K)∧jE P rest env H K):=ae0
@[congr] theorem V0 {st:Bool} {o:cb} {ρ:IX→AV} {K:AV→Prop} {H':List aa} (h:gN H=H'):mq P st o ρ H K=mq P st o ρ H' K:=by subst h;rfl
theorem Lh {P:Program} {a:IR} (ι:Type) (I:ι→Prop) (se:ι→Env) (sh:ι→List aa) (μ:ι→Nat) (i0:ι) (h0:I i0) (hs0:sle n0 env H (se i0) (sh i0))
 (hs:∀ i,I i→lT P n0 a (se i) (sh i) fun e aH H'=>match e with
   | .normal=>∃ j,I j∧μ j < μ i∧sle n0 aH H' (se j) (sh j)
   | e=>Q e aH H'):lT P n0 (.loop a) env H Q:=⟨ι,I,se,sh,μ,⟨i0,h0,hs0⟩,hs⟩
theorem aC {P:Program} {a:IR} (N:Nat) (I:Nat→Prop) (se:Nat→Env) (sh:Nat→List aa) (h0:I 0∧sle n0 env H (se 0) (sh 0))
 (hs:∀ i,i≤N→I i→lT P n0 a (se i) (sh i) fun e aH H'=>match e with
   | .normal=>∃ j,(j≤N∧I j)∧N - j < N - i∧sle n0 aH H' (se j) (sh j)
   | e=>Q e aH H'):lT P n0 (.loop a) env H Q:=
 ⟨Nat,fun i=>i≤N∧I i,se,sh,fun i=>N - i,⟨0,⟨ab0 _,h0.1⟩,h0.2⟩,fun i hi=>hs i hi.1 hi.2⟩
end
section
variable {φ:AV→Prop}
@[congr] theorem Rr {v v':AV} {ψ:Bool→Prop} (h:gN v=v'):fe v ψ=fe v' ψ:=by subst h;rfl
@[congr] theorem Uh {op:BinOp} {x x' y y':AV} (h:gN x=x') (h2:y=y'):dh op x y φ=dh op x' y' φ:=by subst h;subst h2;rfl
@[congr] theorem Ps {op:BinOp} {x x' y y':AV} (h:gN x=x') (h2:y=y'):dX op x y φ=dX op x' y' φ:=by subst h;subst h2;rfl
@[congr] theorem Nx {n:Bool} {x x' y y':AV} (h:gN x=x') (h2:y=y'):c9 n x y φ=c9 n x' y' φ:=by subst h;subst h2;rfl
@[congr] theorem Pt {k:Nat} {n:Bool} {x x':AV} (h:gN x=x'):dk k n x φ=dk k n x' φ:=by subst h;rfl
@[congr] theorem V1 {op:UnOp} {x x':AV} (h:gN x=x'):As op x φ=As op x' φ:=by subst h;rfl
@[congr] theorem Ru {sz:Option Nat} {x x':AV} {H H':List aa} (h:gN x=x') (h2:H=H'):aU sz x H φ=aU sz x' H' φ:=by subst h;subst h2;rfl
@[congr] theorem Jb {off:Nat} {sz:Option Nat} {x x':AV} (h:gN x=x'):al off sz x φ=al off sz x' φ:=by subst h;rfl
@[congr] theorem Pu {off:Nat} {sz:Option Nat} {x x':AV} (h:gN x=x'):ff off sz x φ=ff off sz x' φ:=by subst h;rfl
@[congr] theorem Jc {e:Nat} {x x' y y':AV} (h:gN x=x') (h2:y=y'):ax e x y φ=ax e x' y' φ:=by subst h;subst h2;rfl
@[congr] theorem JY {n:Nat} {x x' y y':AV} (h:gN x=x') (h2:y=y'):bY n x y φ=bY n x' y' φ:=by subst h;subst h2;rfl
@[congr] theorem JZ {x x' y y':AV} (h:gN x=x') (h2:y=y'):bN x y φ=bN x' y' φ:=by subst h;subst h2;rfl
@[congr] theorem Ui {x x':AV} {H H':List aa} (h:gN x=x') (h2:H=H'):eU x H φ=eU x' H' φ:=by subst h;subst h2;rfl
@[congr] theorem Li {x x':AV} {i:Nat} (h:gN x=x'):bK x i φ=bK x' i φ:=by subst h;rfl
@[congr] theorem J0 {x x':AV} (h:gN x=x'):bZ x φ=bZ x' φ:=by subst h;rfl
@[congr] theorem Lj {k:IntKind} {x x':AV} (h:gN x=x'):cD k x φ=cD k x' φ:=by subst h;rfl
@[congr] theorem V2 {b:Bool} {x x' y y':AV} (h:gN x=x') (h2:y=y'):ya b x y φ=ya b x' y' φ:=by subst h;subst h2;rfl
@[congr] theorem Ny {kd:Nat} {z m m' k k':AV} {ok:Bool} {H H':List aa} (h:gN m=m') (h2:k=k') (h3:H=H'):cu kd z m k ok H φ=cu kd z m' k' ok H' φ:=by subst h;subst h2;subst h3;rfl
@[congr] theorem Nz {kd:Nat} {m m' k k' x x':AV} {H H':List aa} {K:List aa→Prop} (h:gN m=m') (h2:k=k') (h3:x=x') (h4:H=H'):fD kd m k x H K=fD kd m' k' x' H' K:=by subst h;subst h2;subst h3;subst h4;rfl
@[congr] theorem Pv {m:Nat} {p p' x x':AV} {H H':List aa} {K:List aa→Prop} (h:gN p=p') (h2:x=x') (h3:H=H'):iT m p x H K=iT m p' x' H' K:=by subst h;subst h2;subst h3;rfl
@[congr] theorem Lk {p p' x x':AV} {H H':List aa} {K:List aa→Prop} (h:gN p=p') (h2:x=x') (h3:H=H'):dY p x H K=dY p' x' H' K:=by subst h;subst h2;subst h3;rfl
@[congr] theorem NA {e b:Nat} {s s' x x':AV} {ψ:List AV→Prop} (h:gN s=s') (h2:x=x'):bE e b s x ψ=bE e b s' x' ψ:=by subst h;subst h2;rfl
@[congr] theorem Pw {e b:Nat} {z n n':AV} {H H':List aa} {K:AV→List aa→Prop} (h:gN n=n') (h2:H=H'):fj e b z n H K=fj e b z n' H' K:=by subst h;subst h2;rfl
@[congr] theorem Ll {e b:Nat} {z s s' x x':AV} {H H':List aa} {K:AV→List aa→Prop} (h:gN s=s') (h2:x=x') (h3:H=H'):cS e b z s x H K=cS e b z s' x' H' K:=by subst h;subst h2;subst h3;rfl
@[congr] theorem Lm {lo e b:Nat} {z s s' x x':AV} {H H':List aa} {K:AV→List aa→Prop} (h:gN s=s') (h2:x=x') (h3:H=H'):fp lo e b z s x H K=fp lo e b z s' x' H' K:=by subst h;subst h2;subst h3;rfl
@[congr] theorem NB {e:Nat} {z x x':AV} {H H':List aa} {K:List aa→Prop} (h:gN x=x') (h2:H=H'):jb e z x H K=jb e z x' H' K:=by subst h;subst h2;rfl
@[congr] theorem Rv {xs xs':List AV} {H H':List aa} {K:AV→List aa→Prop} (h:gN xs=xs') (h2:H=H'):tZ xs H K=tZ xs' H' K:=by subst h;subst h2;rfl
@[congr] theorem Py {e b:Nat} {n n':AV} (h:gN n=n'):jy e b n φ=jy e b n' φ:=by subst h;rfl
@[congr] theorem Rw {e:Nat} {d d' s s':AV} {H H':List aa} {K:AV→List aa→Prop} (h:gN d=d') (h2:s=s') (h3:H=H'):kj e d s H K=kj e d' s' H' K:=by subst h;subst h2;subst h3;rfl
@[congr] theorem Rx {e:Nat} {x x':AV} {H H':List aa} {K:AV→List aa→Prop} (h:gN x=x') (h2:H=H'):fL e x H K=fL e x' H' K:=by subst h;subst h2;rfl
@[congr] theorem NC {e:Nat} {x x':AV} {lo lo' hi lM m m':Option AV} (h:gN x=x') (h1:lo=lo') (h2:hi=lM) (h3:m=m'):bA e x lo hi m φ=bA e x' lo' lM m' φ:=by subst h;subst h1;subst h2;subst h3;rfl
@[congr] theorem J1 {x x':AV} {lo lo' hi lM:Option AV} (h:gN x=x') (h1:lo=lo') (h2:hi=lM):cn x lo hi φ=cn x lo' lM φ:=by subst h;subst h1;subst h2;rfl
@[congr] theorem Uj {n0:Nat} {rs:List RX} {env aH:Env} {H H':List aa} {R:AV→List aa→Prop} (h:gN env=aH) (h2:H=H'):b8 n0 rs env H R=b8 n0 rs aH H' R:=by subst h;subst h2;rfl
end
end Go.aI
end
section
namespace Go.aI
open Go
section
variable {P:Px} {env:Env} {H:List aa} {dst:Option Nat} {K:Env→List aa→Prop}
theorem Uk (op:BinOp) (x:IX) (y:IX):bB P (.bin op x y) dst env H K=(dh op (aq env x) (aq env y) fun z=>K (put dst z env) H):=ae0
theorem Ln (op:BinOp) (x:IX) (y:IX):bB P (.shift op x y) dst env H K=(dX op (aq env x) (aq env y) fun z=>K (put dst z env) H):=ae0
theorem Jd (neq:Bool) (x:IX) (y:IX):bB P (.iR neq x y) dst env H K=(c9 neq (aq env x) (aq env y) fun z=>K (put dst z env) H):=ae0
theorem Lo (kd:Nat) (neq:Bool) (x:IX):bB P (.jI kd neq x) dst env H K=(dk kd neq (aq env x) fun z=>K (put dst z env) H):=ae0
theorem Yo (op:UnOp) (x:IX):bB P (.un op x) dst env H K=(As op (aq env x) fun z=>K (put dst z env) H):=ae0
theorem Ul (x:IX):bB P (.box x) dst env H K=((aq env x).val=true∧aj (H.length + 1) ((aq env x).cells.map AV.ab)=true∧K (put dst (.ptr H.length 0) env) (H++[.cells ((aq env x).cells.map AV.ab)])):=ae0
theorem Pz (x:IX):bB P (.ms x) dst env H K=((aq env x).val=true∧K (put dst (.ai (aq env x)) env) H):=ae0
theorem PD (m:Nat) (x:IX):bB P (.sx m x) dst env H K=((aq env x).val=true∧(aq env x).cells.length=m∧(aq env x).cells.all AV.one=true∧K (put dst (.ai (aq env x)) env) H):=ae0
theorem Lp (z:AV):bB P (.alloc z) dst env H K=(aj (H.length + 1) (z.cells.map AV.ab)=true∧K (put dst (.ptr H.length 0) env) (H++[.cells (z.cells.map AV.ab)])):=ae0
theorem Lq (z:AV) (ps:List (Nat×Nat×IX)):bB P (.build z ps) dst env H K=(cw z.cells (ps.map fun q=>(q.1,q.2.1,aq env q.2.2)) fun v=>K (put dst v env) H):=ae0
theorem yz (own:Nat) (esz:Nat) (z:AV) (len:Nat) (ps:List (Nat×IX)):bB P (.buildSlice own esz z len ps) dst env H K=(bu (List.replicate len (aV z)) esz (ps.map fun q=>(q.1,aq env q.2)) fun xs=>K (put dst (.ap own xs) env) H):=ae0
theorem PE (sz:Option Nat) (a:IX):bB P (.load sz a) dst env H K=(aU sz (aq env a) H fun z=>K (put dst z env) H):=ae0
theorem Lr (sz:Option Nat) (esz:Nat) (a:IX):bB P (.tQ sz esz a) dst env H K=(aU sz (aq env a) H fun z=>fL esz z H fun y H'=>K (put dst y env) H'):=ae0
theorem Ls (m:Nat) (a:IX) (x:IX):bB P (.store m a x) dst env H K=(iT m (aq env a) (aq env x) H fun H'=>K env H'):=ae0
theorem Je {P:Program} {l:Nat} (m:Nat) (a:IX) (x:IX):bB ⟨P,some l⟩ (.nQ m a x) dst env H K=(hZ l m (aq env a) (aq env x) H fun H'=>K env H'):=ae0
theorem w9 {P:Program} {l:Nat} (esz bytes:Nat) (z:AV) (s x:IX):bB ⟨P,some l⟩ (.jL esz bytes z s x) dst env H K=(fp l esz bytes z (aq env s) (aq env x) H fun v H'=>K (put dst v env) H'):=ae0
theorem FB (a:IX) (s:Nat):bB P (.fA a s) dst env H K=(dY (aq env a) (get env s) H fun H'=>K ((s,(get env s).ab)::env) H'):=ae0
theorem Dk (x:IX):bB P (.nilCheck x) dst env H K=(bZ (aq env x) fun z=>K (put dst z env) H):=ae0
theorem Bm (off:Nat) (sz:Option Nat) (x:IX):bB P (.fieldAddr off sz x) dst env H K=(al off sz (aq env x) fun z=>K (put dst z env) H):=ae0
theorem Lt (off:Nat) (sz:Option Nat) (x:IX):bB P (.field off sz x) dst env H K=(ff off sz (aq env x) fun z=>K (put dst z env) H):=ae0
theorem Bn (esz:Nat) (x:IX) (i:IX):bB P (.indexAddr esz x i) dst env H K=((∀ own xs,aq env x=.ap own xs→∀ z∈xs,z.cells.length=esz)∧ax esz (aq env x) (aq env i) fun z=>K (put dst z env) H):=ae0
theorem Dl (n:Nat) (x:IX) (i:IX):bB P (.dV n x i) dst env H K=(bY n (aq env x) (aq env i) fun z=>K (put dst z env) H):=ae0
theorem Jf (esz:Nat) (x:IX) (lo:Option IX) (hi:Option IX) (mx:Option IX):bB P (.pY esz x lo hi mx) dst env H K=((∀ own xs,aq env x=.ap own xs→∀ z∈xs,z.cells.length=esz)∧fm esz (aq env x) (gE env lo) (gE env hi) (gE env mx) fun z=>z=.ap esz []∧K (put dst .nL env) H):=ae0
theorem Dm (x:IX) (i:IX):bB P (.di x i) dst env H K=(bN (aq env x) (aq env i) fun z=>K (put dst z env) H):=ae0
theorem Lu (esz:Nat) (x:IX) (lo:Option IX) (hi:Option IX) (mx:Option IX):bB P (.slice esz x lo hi mx) dst env H K=(bA esz (aq env x) (gE env lo) (gE env hi) (gE env mx) fun z=>K (put dst z env) H):=ae0
theorem PF (esz:Nat) (d:IX) (s:IX):bB P (.copy esz d s) dst env H K=(kj esz (aq env d) (aq env s) H fun z H'=>K (put dst z env) H'):=ae0
theorem Dn (x:IX) (lo:Option IX) (hi:Option IX):bB P (.dW x lo hi) dst env H K=(cn (aq env x) (gE env lo) (gE env hi) fun z=>K (put dst z env) H):=ae0
theorem Um (kd:Nat) (x:IX):bB P (.len kd x) dst env H K=(aL kd (aq env x)∧eU (aq env x) H fun z=>K (put dst z env) H):=ae0
theorem Jg (esz:Nat) (bytes:Nat) (s:IX) (x:IX):bB P (.append esz bytes s x) dst env H K=(bE esz bytes (aq env s) (aq env x) fun zs=>K (put dst (.ap esz zs) (cG env s.slot)) H):=ae0
theorem Lv (esz:Nat) (bytes:Nat) (z:AV) (n:IX):bB P (.tS esz bytes z n) dst env H K=(fj esz bytes z (aq env n) H fun v H'=>K (put dst v env) H'):=ae0
theorem vF (esz:Nat) (z:AV) (len:Nat) (ps:List (Nat×IX)):bB P (.Cg esz z len ps) dst env H K=(bu (List.replicate len (aV z)) esz (ps.map fun q=>(q.1,aq env q.2)) fun xs=>tZ xs H fun v H'=>K (put dst v env) H'):=ae0
theorem Jh (esz:Nat) (z:AV) (x:IX):bB P (.nT esz z x) dst env H K=(jb esz z (aq env x) H fun H'=>K (put dst (.tuple []) env) H'):=ae0
theorem FC (esz bytes:Nat) (z:AV) (s x:IX):bB P (.jK esz bytes z s x) dst env H K=(cS esz bytes z (aq env s) (aq env x) H fun v H'=>K (put dst v env) H'):=ae0
theorem Lw (esz:Nat) (bytes:Nat) (n:IX):bB P (.nR esz bytes n) dst env H K=(jy esz bytes (aq env n) fun v=>K (put dst v env) H):=ae0
theorem Ly :bB P (.nS ) dst env H K=(K (put dst (.map H.length) env) (H++[.map []])):=ae0
theorem Ji (kd:Nat) (z:AV) (m:IX) (k:IX) (ok:Bool):bB P (.lookup kd z m k ok) dst env H K=(cu kd z (aq env m) (aq env k) ok H fun v=>K (put dst v env) H):=ae0
theorem Jj (kd:Nat) (m:IX) (k:IX) (x:IX):bB P (.k7 kd m k x) dst env H K=(fD kd (aq env m) (aq env k) (aq env x) H fun H'=>K env H'):=ae0
theorem Yp (f:Fn) (first:List IX) (cap:List IX):bB P (.fn f first cap) dst env H K=(K (put dst (.fn f (first.map fun x=>(aq env x).ab) (cap.map fun x=>(aq env x).ab)) env) H):=ae0
theorem FD (x:IX) (i:Nat):bB P (.extract x i) dst env H K=(bK (aq env x) i fun z=>K (put dst z env) H):=ae0
theorem FE (k:IntKind) (x:IX):bB P (.eX k x) dst env H K=(cD k (aq env x) fun z=>K (put dst z env) H):=ae0
theorem FF (x:IX):bB P (.gY x) dst env H K=(fU (aq env x) fun z=>K (put dst z env) H):=ae0
theorem FG (x:IX):bB P (.bytesOf x) dst env H K=(fo 1 (aq env x) fun z=>K (put dst z env) H):=ae0
theorem Lz (x:IX):bB P (.strOf x) dst env H K=(kh (aq env x) fun z=>K (put dst z env) H):=ae0
theorem Yq (big:Bool) (a:IX) (b:IX):bB P (.mx big a b) dst env H K=(ya big (aq env a) (aq env b) fun z=>K (put dst z env) H):=ae0
theorem PG (esz:Nat) (x:IX):bB P (.Aq esz x) dst env H K=(fL esz (aq env x) H fun z H'=>K (put dst z env) H'):=ae0
theorem LA (x:IX) (take:Bool):bB P (.set x take) none env H K=K env H:=ae0
theorem Un (d:Nat) (x:IX):bB P (.set x false) (some d) env H K=K ((d,(aq env x).ab)::env) H:=by cases x <;> rfl
theorem PH (d s:Nat):bB P (.set (.t s) true) (some d) env H K=K ((d,get env s)::(s,(get env s).ab)::env) H:=ae0
theorem LB (d:Nat) (v:AV):bB P (.set (.c v) true) (some d) env H K=K ((d,v.ab)::env) H:=ae0
theorem PI (c a b:IX):bB P (.pick c a b) dst env H K=fY (aq env c) (K (put dst (aq env a).ab env) H) (K (put dst (aq env b).ab env) H):=ae0
theorem PJ (f:IX) (args:List IX) (pass:Option Nat):bB P (.call f args pass) dst env H K=pK P (aq env f) args pass env H (fun r aH H'=>K (put dst r aH) H'):=ae0
end
section
variable {P:Px} {st:Bool} {ρ:IX→AV} {H:List aa} {K:AV→Prop}
theorem Uo (i:IX):mq P st (.set i false) ρ H K=K (ρ i).ab:=by cases st <;> rfl
theorem PK (c:IX) (a:IX) (b:IX):mq P st (.pick c a b) ρ H K=(fY (ρ c) (K (ρ a).ab) (K (ρ b).ab)):=ae0
theorem Uq (op:BinOp) (i:IX) (j:IX):mq P st (.bin op i j) ρ H K=(dh op (ρ i) (ρ j) K):=ae0
theorem LC (op:BinOp) (i:IX) (j:IX):mq P st (.shift op i j) ρ H K=(dX op (ρ i) (ρ j) K):=ae0
theorem Jk (neq:Bool) (i:IX) (j:IX):mq P st (.iR neq i j) ρ H K=(c9 neq (ρ i) (ρ j) K):=ae0
theorem LD (kd:Nat) (neq:Bool) (i:IX):mq P st (.jI kd neq i) ρ H K=(pf kd neq (ρ i) K):=ae0
theorem Yr (op:UnOp) (i:IX):mq P st (.un op i) ρ H K=(As op (ρ i) K):=ae0
theorem PL (i:IX):mq P st (.ms i) ρ H K=((ρ i).val=true∧K (.ai (ρ i))):=ae0
theorem LF (z:AV) (ps:List (Nat×Nat×IX)):mq P st (.build z ps) ρ H K=(cw z.cells (ps.map fun q=>(q.1,q.2.1,ρ q.2.2)) K):=ae0
theorem yA (own:Nat) (esz:Nat) (z:AV) (len:Nat) (ps:List (Nat×IX)):mq P st (.buildSlice own esz z len ps) ρ H K=(bu (List.replicate len (aV z)) esz (ps.map fun q=>(q.1,ρ q.2)) fun xs=>K (.ap own xs)):=ae0
theorem Bo (sz:Option Nat) (i:IX):mq P true (.load sz i) ρ H K=(aU sz (ρ i) H K):=ae0
theorem yB (sz:Option Nat) (i:IX):mq P false (.load sz i) ρ H K=(aU sz (ρ i) [] K):=ae0
theorem Dp (i:IX):mq P st (.nilCheck i) ρ H K=(bZ (ρ i) K):=ae0
theorem Bp (off:Nat) (sz:Option Nat) (i:IX):mq P st (.fieldAddr off sz i) ρ H K=(al off sz (ρ i) K):=ae0
theorem LG (off:Nat) (sz:Option Nat) (i:IX):mq P st (.field off sz i) ρ H K=(ff off sz (ρ i) K):=ae0
theorem Bq (esz:Nat) (i:IX) (j:IX):mq P st (.indexAddr esz i j) ρ H K=((∀ own xs,ρ i=.ap own xs→∀ z∈xs,z.cells.length=esz)∧ax esz (ρ i) (ρ j) K):=ae0
theorem Dq (n:Nat) (i:IX) (j:IX):mq P st (.dV n i j) ρ H K=(bY n (ρ i) (ρ j) K):=ae0
theorem Dr (i:IX) (j:IX):mq P st (.di i j) ρ H K=(bN (ρ i) (ρ j) K):=ae0
theorem LH (esz:Nat) (i:IX) (lo:Option IX) (hi:Option IX) (mx:Option IX):mq P st (.slice esz i lo hi mx) ρ H K=(bA esz (ρ i) (lo.map ρ) (hi.map ρ) (mx.map ρ) K):=ae0
theorem Ds (i:IX) (lo:Option IX) (hi:Option IX):mq P st (.dW i lo hi) ρ H K=(cn (ρ i) (lo.map ρ) (hi.map ρ) K):=ae0
theorem Dt (kd:Nat) (i:IX):mq P true (.len kd i) ρ H K=(aL kd (ρ i)∧iO (ρ i) H K):=ae0
theorem Br (kd:Nat) (i:IX):mq P false (.len kd i) ρ H K=(aL kd (ρ i)∧iO (ρ i) [] K):=ae0
theorem xa (kd:Nat) (z:AV) (m:IX) (k:IX) (ok:Bool):mq P true (.lookup kd z m k ok) ρ H K=(cu kd z (ρ m) (ρ k) ok H K):=ae0
theorem uW (kd:Nat) (z:AV) (m:IX) (k:IX) (ok:Bool):mq P false (.lookup kd z m k ok) ρ H K=(cu kd z (ρ m) (ρ k) ok [] K):=ae0
theorem Ys (f:Fn) (first:List IX) (cap:List IX):mq P st (.fn f first cap) ρ H K=(K (.fn f (first.map fun x=>(ρ x).ab) (cap.map fun x=>(ρ x).ab))):=ae0
theorem FH (i:IX) (k:Nat):mq P st (.extract i k) ρ H K=(bK (ρ i) k K):=ae0
theorem FI (k:IntKind) (i:IX):mq P st (.eX k i) ρ H K=(cD k (ρ i) K):=ae0
theorem Yt (big:Bool) (i:IX) (j:IX):mq P st (.mx big i j) ρ H K=(ya big (ρ i) (ρ j) K):=ae0
theorem PM (f:IX) (args:List IX):mq P st (.call f args none) ρ H K=qq P st (ρ f) (args.map fun x=>(ρ x).ab) H K:=ae0
end
theorem FJ (env:Env):eM none env=env:=ae0
theorem Jl (env:Env):eM (some []) env=[]:=ae0
theorem FK (env:Env) (t:Nat) (l:List Nat):eM (some (t::l)) env=(t,get env t)::eM (some l) env:=ae0
theorem FL (k:Nat):bV k []=[]:=ae0
theorem Dv (k:Nat) (x:AV) (xs:List AV):bV k (x::xs)=(k,x)::bV (k + 1) xs:=ae0
theorem Ur (env:Env) (s:Nat):aq env (.t s)=get env s:=ae0
theorem Us (env:Env) (v:AV):aq env (.c v)=v:=ae0
theorem lU (o:Nat) (xs:List AV) (H:List aa) (φ:AV→Prop):iO (.ap o xs) H φ=φ (.int .i64 xs.length):=ae0
theorem FM (H:List aa) (φ:AV→Prop):iO .ag H φ=φ (.int .i64 0):=ae0
theorem Jm (s:ByteArray) (H:List aa) (φ:AV→Prop):iO (.str s) H φ=φ (.int .i64 s.size):=ae0
theorem Jn (a b c d:Nat) (H:List aa) (φ:AV→Prop):iO (.aW a b c d) H φ=φ (.int .i64 c):=ae0
theorem LI {α β:Type} (f:α→β):List.map f []=[]:=ae0
theorem Jo {α β:Type} (f:α→β) (x:α) (xs:List α):List.map f (x::xs)=f x::List.map f xs:=ae0
end Go.aI
end
section
namespace Go.aI
open Go
theorem ga0 (H e:List aa):(H++e)[H.length]?=e[0]?:=by
 rw [aaE (oN _),ado]
theorem ga (H e:List aa) (i:Nat):(H++e)[H.length + i]?=e[i]?:=by
 rw [aaE (Nat.le_add_right _ _),Nat.add_sub_cancel_left]
theorem sa0 (H e:List aa) (x:aa):(H++e).set H.length x=H++e.set 0 x:=by
 rw [ac1 _ _ (oN _),ado]
theorem sa (H e:List aa) (i:Nat) (x:aa):(H++e).set (H.length + i) x=H++e.set i x:=by
 rw [ac1 _ _ (Nat.le_add_right _ _),Nat.add_sub_cancel_left]
theorem abK (H e f:List aa):(H++e)++f=H++(e++f):=aaD _ _ _
theorem Wr (H e:List aa):(H++e).length=H.length + e.length:=aap
theorem g0 {α:Type} (x:α) (r:List α):(x::r)[0]?=some x:=by simp
theorem g1 {α:Type} (x y:α) (r:List α):(x::y::r)[1]?=some y:=by simp
theorem g2 {α:Type} (x y z:α) (r:List α):(x::y::z::r)[2]?=some z:=by simp
theorem s0 {α:Type} (x u:α) (r:List α):(x::r).set 0 u=u::r:=by simp
theorem s1 {α:Type} (x y u:α) (r:List α):(x::y::r).set 1 u=x::u::r:=by simp
theorem s2 {α:Type} (x y z u:α) (r:List α):(x::y::z::r).set 2 u=x::y::u::r:=by simp
theorem d0 {α:Type} (x d:α) (r:List α):(x::r).getD 0 d=x:=by simp
theorem d1 {α:Type} (x y d:α) (r:List α):(x::y::r).getD 1 d=y:=by simp
theorem d2 {α:Type} (x y z d:α) (r:List α):(x::y::z::r).getD 2 d=z:=by simp
theorem sp1 (x y:AV):ah [x] 0 [y]=[y]:=by simp [ah]
theorem FN {x:AV} {H:List aa} {φ ψ:AV→Prop} (hm:∀ z,φ z→ψ z) (h:iO x H φ):iO x H ψ:=by
 unfold iO at *
 split at h
 ·exact hm _ h
 ·exact sL hm h
theorem FO {o:cb} {ρ:IX→AV} {H:List aa} {K K':AV→Prop} (h:w6 o ρ H K) (hK:∀ x,K x→K' x):w6 o ρ H K':=by
 unfold w6 at *
 split at h
 ·exact hK _ h
 ·unfold fY fe at *
  split at h
  ·exact ⟨fun e=>hK _ (h.1 e),fun e=>hK _ (h.2 e)⟩
  ·exact h.elim
 ·exact sK hK h
 ·exact n9 hK h
 ·exact mH hK h
 ·unfold pf at *
  split at h
  ·exact hK _ h
  ·exact h.elim
 ·exact wB hK h
 ·exact ⟨h.1,hK _ h.2⟩
 ·exact mK (fun _ h=>hK _ h) h
 ·exact iq (fun _ h=>hK _ h) h
 ·exact kr hK h
 ·exact kw hK h
 ·exact jB hK h
 ·exact oa hK h
 ·exact ⟨h.1,jC hK h.2⟩
 ·exact ku hK h
 ·exact kv hK h
 ·exact mJ hK h
 ·exact kx hK h
 ·exact ⟨h.1,FN hK h.2⟩
 ·exact mI hK h
 ·exact hK _ h
 ·exact lq hK h
 ·exact lr hK h
 ·exact wC hK h
 ·exact h.elim
theorem dI {P:Px}:∀ {t:DT} {env:Env} {H:List aa} {K1 K2:Env→List aa→Prop},jE P t env H K1→(∀ e H',K1 e H'→K2 e H')→jE P t env H K2
 | .done,_,_,_,_,h,hK=>hK _ _ h
 | .take st o r,_,_,_,_,h,hK=>by
   unfold jE Ht at *
   have key:∀ {env:Env} {H:List aa} {K:AV→Prop} {K':AV→Prop},mq P st o.op (aq env) H K→(∀ x,K x→K' x)→mq P st o.op (aq env) H K':=by
    intro env H K K' h hK
    unfold mq at *
    split at h
    ·unfold qq at *
     split at h
     ·obtain ⟨x,h1,h2⟩:=h;exact ⟨x,h1,hK _ h2⟩
     ·exact h.elim
    ·exact FO h hK
   split at h
   ·exact key h fun _ h=>dI h hK
   ·unfold dO at *
    split at h
    ·exact ⟨fun e=>key (h.1 e) fun _ h=>dI h hK,fun e=>dI (h.2 e) hK⟩
    ·exact dI h hK
    ·exact h.elim
 | .br o t rest,_,_,_,_,h,hK=>⟨sV h.1 fun _ _ h=>dI h hK,dI h.2 hK⟩
 | .nil,_,_,_,_,h,hK=>trivial
theorem lV {P:Px} {n0:Nat}:∀ {ir:IR} {env:Env} {H:List aa} {Q1 Q2:Exit→Env→List aa→Prop},lT P n0 ir env H Q1→(∀ x e H',Q1 x e H'→Q2 x e H')→lT P n0 ir env H Q2:=by
 intro ir
 induction ir with
 | skip=>exact fun h hQ=>hQ _ _ _ h
 | region ops live=>exact fun h hQ=>sW h fun _ _ h=>hQ _ _ _ h
 | draw t live=>exact fun h hQ=>dI h fun _ _ h=>hQ _ _ _ h
 | seq a b Fz T9=>
   exact fun h hQ=>Fz h fun x e H' h=>by
    cases x with
    | normal=>exact T9 h hQ
    | _=>exact hQ _ _ _ h
 | cond x a b Fz T9=>
   intro env H Q1 Q2 h hQ
   rw [Dj] at *
   unfold fY fe at *
   split at h
   ·exact ⟨fun e=>Fz (h.1 e) hQ,fun e=>T9 (h.2 e) hQ⟩
   ·exact h.elim
 | block id a Fz=>
   exact fun h hQ=>Fz h fun x e H' h=>by
    cases x with
    | exit id'=>
      dsimp only at h ⊢
      split
      ·rename_i bm;rw [if_pos bm] at h;exact hQ _ _ _ h
      ·rename_i bm;rw [if_neg bm] at h;exact hQ _ _ _ h
    | _=>exact hQ _ _ _ h
 | loop a Fz=>
   intro env H Q1 Q2 h hQ
   obtain ⟨ι,I,se,sh,μ,h0,hs⟩:=h
   exact ⟨ι,I,se,sh,μ,h0,fun i hi=>Fz (hs i hi) fun x e H' h=>by
    cases x with
    | normal=>exact h
    | _=>exact hQ _ _ _ h⟩
 | exit id=>exact fun h hQ=>hQ _ _ _ h
 | ret=>exact fun h hQ=>hQ _ _ _ h
 | never=>exact fun h _=>h.elim
 | jA f lc=>
   intro env H Q1 Q2 h hQ
   rw [zz] at *
   unfold w7 at *
   split at h
   ·obtain ⟨h1,bU,h2,h3⟩:=h
    exact ⟨h1,bU,h2,h3.mono fun _ H' hb=>uy hb fun j H'' hg=>zy hg hQ⟩
   ·exact h.elim
theorem abM (a b y:AV):ah [a,b] 0 [y]=[y,b]:=by simp [ah]
theorem abN (a b y:AV):ah [a,b] 1 [y]=[a,y]:=by simp [ah]
theorem abO (a b c y:AV):ah [a,b,c] 0 [y]=[y,b,c]:=by simp [ah]
theorem abP (a b c y:AV):ah [a,b,c] 1 [y]=[a,y,c]:=by simp [ah]
theorem abQ (a b c y:AV):ah [a,b,c] 2 [y]=[a,b,y]:=by simp [ah]
theorem abR (a b c x y z:AV):ah [a,b,c] 0 [x,y,z]=[x,y,z]:=by simp [ah]
theorem Ut (k k':IntKind) (a b:Int) (φ:AV→Prop):ya true (.int k a) (.int k' b) φ=φ (.int k (max a b)):=by
 have:(if a < b then b else a)=max a b:=by rw [Int.max_def];split <;> split <;> omega
 simp [ya,this]
theorem Uu (k k':IntKind) (a b:Int) (φ:AV→Prop):ya false (.int k a) (.int k' b) φ=φ (.int k (min a b)):=by
 have:(if b < a then b else a)=min a b:=by rw [Int.min_def];split <;> split <;> omega
 simp [ya,this]
def cV (o:Option aa) (sz:Option Nat) (off:Nat) (φ:AV→Prop):Prop:=
 match o with
 | some (.cells es)=>match sz with
   | some m=>off + m≤es.length∧φ (.agg (((es.drop off).take m).map AV.drop))
   | none=>off < es.length∧φ (es.getD off .any).ab
 | _=>False
@[congr] theorem Ry {o o':Option aa} {sz:Option Nat} {off:Nat} {φ:AV→Prop} (h:gN o=o'):cV o sz off φ=cV o' sz off φ:=by subst h;rfl
theorem LJ (sz:Option Nat) (id off:Nat) (H:List aa) (φ:AV→Prop):aU sz (.ptr id off) H φ=cV H[id]? sz off φ:=by
 unfold aU cV;rfl
theorem PN (es:List AV) (off:Nat) (φ:AV→Prop):cV (some (.cells es)) none off φ=(off < es.length∧φ (es.getD off .any).ab):=ae0
theorem Hu (a b c:AV) (φ:AV→Prop):cV (some (.cells [a,b,c])) (some 3) 0 φ=φ (.agg [a.drop,b.drop,c.drop]):=by simp [cV]
theorem PO (a b:AV) (φ:AV→Prop):cV (some (.cells [a,b])) (some 2) 0 φ=φ (.agg [a.drop,b.drop]):=by simp [cV]
def iw (o:Option aa) (m id off:Nat) (x:AV) (H:List aa) (K:List aa→Prop):Prop:=
 match o with
 | some (.cells es)=>x.val=true∧x.cells.length=m∧off + m≤es.length∧x.cells.all AV.one=true∧aj (id + 1) (x.cells.map AV.ab)=true∧
    K (H.set id (.cells (ah es off (x.cells.map AV.ab))))
 | _=>False
@[congr] theorem PR {o o':Option aa} {m id off:Nat} {x:AV} {H:List aa} {K:List aa→Prop} (h:gN o=o') {x':AV} (h2:x=x'):iw o m id off x H K=iw o' m id off x' H K:=by subst h;subst h2;rfl
theorem Jp (m id off:Nat) (x:AV) (H:List aa) (K:List aa→Prop):iT m (.ptr id off) x H K=iw H[id]? m id off x H K:=by
 unfold iT iw;rfl
theorem xc (es:List AV) (m id off:Nat) (x:AV) (H:List aa) (K:List aa→Prop):iw (some (.cells es)) m id off x H K=(x.val=true∧x.cells.length=m∧off + m≤es.length∧x.cells.all AV.one=true∧aj (id + 1) (x.cells.map AV.ab)=true∧
 K (H.set id (.cells (ah es off (x.cells.map AV.ab))))):=ae0
def rM (o:Option aa) (l m id off:Nat) (x:AV) (H:List aa) (K:List aa→Prop):Prop:=
 match o with
 | some (.cells es)=>l≤id∧x.val=true∧x.cells.length=m∧off + m≤es.length∧x.cells.all AV.one=true∧aj H.length (x.cells.map AV.ab)=true∧
    K (H.set id (.cells (ah es off (x.cells.map AV.ab))))
 | _=>False
@[congr] theorem ND {o o':Option aa} {l m id off:Nat} {x:AV} {H:List aa} {K:List aa→Prop} (h:gN o=o') {x':AV} (h2:x=x'):rM o l m id off x H K=rM o' l m id off x' H K:=by subst h;subst h2;rfl
theorem FP (l m id off:Nat) (x:AV) (H:List aa) (K:List aa→Prop):hZ l m (.ptr id off) x H K=rM H[id]? l m id off x H K:=by
 unfold hZ rM;rfl
theorem Jq (es:List AV) (l m id off:Nat) (x:AV) (H:List aa) (K:List aa→Prop):rM (some (.cells es)) l m id off x H K=(l≤id∧x.val=true∧x.cells.length=m∧off + m≤es.length∧x.cells.all AV.one=true∧aj H.length (x.cells.map AV.ab)=true∧
 K (H.set id (.cells (ah es off (x.cells.map AV.ab))))):=ae0
@[congr] theorem NE {l m:Nat} {p p' x:AV} {H H':List aa} {K:List aa→Prop} (h:gN p=p') (h2:H=H'):hZ l m p x H K=hZ l m p' x H' K:=by subst h;subst h2;rfl
theorem Jr (e:Nat) (xs:List AV) (H:List aa) (K:AV→List aa→Prop):fL e (.agg xs) H K=km e xs H fun ys H'=>K (.agg ys) H':=ae0
theorem FQ (e:Nat) (H:List aa) (K:List AV→List aa→Prop):km e [] H K=K [] H:=ae0
theorem Dw (e:Nat) (x:AV) (r:List AV) (H:List aa) (K:List AV→List aa→Prop):km e (x::r) H K=dN e x H fun y H'=>km e r H' fun ys H''=>K (y::ys) H'':=ae0
theorem FR (e:Nat) (k:IntKind) (n:Int) (H:List aa) (K:AV→List aa→Prop):dN e (.int k n) H K=K (.int k n) H:=ae0
def LK:=hV @Je (hV @FP (hV @Jq (hV @Lr (hV @Jr (hV @FQ (hV @Dw @FR))))))
def jd (o:Option aa) (kd:Nat) (zero k:AV) (ok:Bool) (φ:AV→Prop):Prop:=
 match o with
 | some (.map es)=>match dZ kd k es 0 with
   | some (some (_,v))=>φ (if ok then .tuple [v.drop,.bool true] else v.drop)
   | some none=>dd kd k k=some true∧φ (if ok then .tuple [aV zero,.bool false] else aV zero)
   | none=>False
 | _=>False
@[congr] theorem NF {o o':Option aa} {kd:Nat} {z k k':AV} {ok:Bool} {φ:AV→Prop} (h:gN o=o') (h2:k=k'):jd o kd z k ok φ=jd o' kd z k' ok φ:=by subst h;subst h2;rfl
theorem FT (kd id:Nat) (z k:AV) (ok:Bool) (H:List aa) (φ:AV→Prop):cu kd z (.map id) k ok H φ=jd H[id]? kd z k ok φ:=by
 unfold cu jd;rfl
def je (o:Option aa) (kd id:Nat) (k x:AV) (H:List aa) (K:List aa→Prop):Prop:=
 match o with
 | some (.map es)=>k.a9 (id + 1)=true∧x.a9 (id + 1)=true∧x.val=true∧match dZ kd k es 0 with
    | some (some (i,_))=>K (H.set id (.map (es.set i (k,aV x))))
    | some none=>dd kd k k=some true∧K (H.set id (.map (es++[(k,aV x)])))
    | none=>False
 | _=>False
@[congr] theorem NG {o o':Option aa} {kd id:Nat} {k k' x x':AV} {H:List aa} {K:List aa→Prop} (h:gN o=o') (h2:k=k') (h3:x=x'):je o kd id k x H K=je o' kd id k' x' H K:=by subst h;subst h2;subst h3;rfl
theorem FU (kd id:Nat) (k x:AV) (H:List aa) (K:List aa→Prop):fD kd (.map id) k x H K=je H[id]? kd id k x H K:=by
 unfold fD je;rfl
def zA (o:Option aa) (d id off:Nat) (env:Env) (H:List aa) (K:Env→List aa→Prop):Prop:=
 match o with
 | some (.cells es)=>off < es.length∧K ((d,es.getD off .any)::env) (H.set id (.cells (es.set off (es.getD off .any).ab)))
 | _=>False
@[congr] theorem Rz {o o':Option aa} {d id off:Nat} {env:Env} {H:List aa} {K:Env→List aa→Prop} (h:gN o=o'):zA o d id off env H K=zA o' d id off env H K:=by subst h;rfl
theorem PT (es:List AV) (d id off:Nat) (env:Env) (H:List aa) (K:Env→List aa→Prop):zA (some (.cells es)) d id off env H K=(off < es.length∧K ((d,es.getD off .any)::env) (H.set id (.cells (es.set off (es.getD off .any).ab)))):=ae0
def Dx (v:AV) (d:Nat) (env:Env) (H:List aa) (K:Env→List aa→Prop):Prop:=
 match v with
 | .ptr id off=>zA H[id]? d id off env H K
 | _=>False
@[congr] theorem RA {v v':AV} {d:Nat} {env:Env} {H:List aa} {K:Env→List aa→Prop} (h:gN v=v'):Dx v d env H K=Dx v' d env H K:=by subst h;rfl
theorem PU (id off d:Nat) (env:Env) (H:List aa) (K:Env→List aa→Prop):Dx (.ptr id off) d env H K=zA H[id]? d id off env H K:=ae0
theorem LL {P:Px} (a:IX) (d:Nat) (env:Env) (H:List aa) (K:Env→List aa→Prop):bB P (.eK a) (some d) env H K=Dx (aq env a) d env H K:=by
 simp only [bB,Dx,zA]
 cases aq env a <;> rfl
def LM (o:Option aa) (id off:Nat) (x:AV) (H:List aa) (K:List aa→Prop):Prop:=
 match o with
 | some (.cells es)=>off < es.length∧x.one=true∧x.a9 (id + 1)=true∧K (H.set id (.cells (es.set off x)))
 | _=>False
@[congr] theorem Uv {o o':Option aa} {id off:Nat} {x x':AV} {H:List aa} {K:List aa→Prop} (h:gN o=o') (h2:x=x'):LM o id off x H K=LM o' id off x' H K:=by subst h;subst h2;rfl
theorem PV (id off:Nat) (x:AV) (H:List aa) (K:List aa→Prop):dY (.ptr id off) x H K=LM H[id]? id off x H K:=by
 unfold dY LM;rfl
theorem Uw (es:List AV) (id off:Nat) (x:AV) (H:List aa) (K:List aa→Prop):LM (some (.cells es)) id off x H K=(off < es.length∧x.one=true∧x.a9 (id + 1)=true∧K (H.set id (.cells (es.set off x)))):=ae0
theorem bd2 (x y:AV) (φ:AV→Prop):cw [.int .i64 0,.int .i64 0,.ag] [(0,1,x),(1,1,y)] φ=(x.val=true∧x.cells.length=1∧y.val=true∧y.cells.length=1∧φ (.agg (ah (ah [.int .i64 0,.int .i64 0,.ag] 0 (x.cells.map AV.ab)) 1 (y.cells.map AV.ab)))):=by
 simp only [cw,gZ,eq_iff_iff]
 constructor
 ·rintro ⟨h1,h2,h3,h4,h5,h6,h7⟩;exact ⟨h1,h2,h4,h5,h7⟩
 ·rintro ⟨h1,h2,h4,h5,h7⟩
  have e1:(x.cells.map AV.ab).length=1:=by simpa using h2
  refine ⟨h1,h2,by simp,h4,h5,?_,h7⟩
  simp [ah,h2]
theorem bd0 (cs:List AV) (φ:AV→Prop):cw cs [] φ=φ (.agg cs):=ae0
theorem mT (e b:Nat) (ys:List AV) (o:Nat) (ψ:List AV→Prop):bE e b .ag (.ap o ys) ψ=(ys.length * b≤140737488355328∧qP e ys∧ψ ys):=by
 simp [bE,ns,dn]
theorem mU (e b:Nat) (xs ys:List AV) (o:Nat) (ψ:List AV→Prop):bE e b (.ap e xs) (.ap o ys) ψ=((xs.length + ys.length) * b≤140737488355328∧qP e ys∧ψ (xs++ys)):=by
 simp [bE,ns,dn]
theorem abS (n:Nat):(IX.t n).slot=some n:=ae0
theorem abT (v:AV):(IX.c v).slot=none:=ae0
theorem Ux (id:Nat) (H:List aa) (φ:AV→Prop):aU none (.ai (.map id)) H φ=φ (.map id):=by simp [aU,AV.one,KY]
theorem Uy (id off:Nat) (H:List aa) (φ:AV→Prop):aU none (.ai (.ptr id off)) H φ=φ (.ptr id off):=by simp [aU,AV.one,KX]
theorem PW (b:Bool):(AV.bool b).one=true:=ae0
theorem Uz (k:IntKind) (n:Int):(AV.int k n).one=true:=ae0
theorem UA (s:ByteArray):(AV.str s).one=true:=ae0
theorem UB (o:Nat) (xs:List AV):(AV.ap o xs).one=true:=ae0
theorem PX:AV.ag.one=true:=ae0
theorem Yu (f:Fn) (a b:List AV):(AV.fn f a b).one=true:=ae0
theorem UC (a b:Nat):(AV.ptr a b).one=true:=ae0
theorem PY (x:AV):(AV.ai x).one=true:=ae0
theorem UD (a:Nat):(AV.map a).one=true:=ae0
theorem abU {α:Type} (p:α→Bool) (x:α) (r:List α):(x::r).all p=(p x && r.all p):=ae0
theorem abV {α:Type} (p:α→Bool):([]:List α).all p=true:=ae0
theorem cR (n:Int) (h:-9223372036854775808≤n∧n≤9223372036854775807):IntKind.i64.wrap n=n:=by
 rw [show IntKind.i64.wrap n=(n + 9223372036854775808) % 18446744073709551616 - 9223372036854775808 from IntKind.wrap_i64 n];omega
theorem aM {P:Program} {n0:Nat} {env:Env} {H:List aa} {Q:Exit→Env→List aa→Prop} {a:IR} {ι:Type} (N:Nat) (I:Nat→ι→Prop) (se:Nat→ι→Env) (sh:Nat→ι→List aa) (s0:ι) (h0:I 0 s0∧sle n0 env H (se 0 s0) (sh 0 s0))
 (hs:∀ i s,i≤N→I i s→lT P n0 a (se i s) (sh i s) fun e aH H'=>match e with
   | .normal=>∃ j t,(j≤N∧I j t)∧N - j < N - i∧sle n0 aH H' (se j t) (sh j t)
   | e=>Q e aH H'):lT P n0 (.loop a) env H Q:=
 ⟨Nat×ι,fun p=>p.1≤N∧I p.1 p.2,fun p=>se p.1 p.2,fun p=>sh p.1 p.2,fun p=>N - p.1,⟨(0,s0),⟨ab0 _,h0.1⟩,h0.2⟩,fun p hp=>lV (hs p.1 p.2 hp.1 hp.2) fun x e H' h=>by
   cases x with
   | normal=>obtain ⟨j,t,h1,h2,h3⟩:=h;exact ⟨(j,t),h1,h2,h3⟩
   | _=>exact h⟩
theorem iz {P:Program} {l:Nat} {n0:Nat} {env:Env} {H:List aa} {Q:Exit→Env→List aa→Prop} {a:IR} {ι:Type} (N:Nat) (I:Nat→ι→Prop) (se:Nat→ι→Env) (sh:Nat→ι→List aa) (s0:ι) (h0:I 0 s0∧Ix n0 env H (se 0 s0) (sh 0 s0))
 (hs:∀ i s,i≤N→I i s→lT ⟨P,some l⟩ n0 a (se i s) (sh i s) fun e aH H'=>match e with
   | .normal=>∃ j t,(j≤N∧I j t)∧N - j < N - i∧Ix n0 aH H' (se j t) (sh j t)
   | e=>Q e aH H'):lT ⟨P,some l⟩ n0 (.loop a) env H Q:=
 ⟨Nat×ι,fun p=>p.1≤N∧I p.1 p.2,fun p=>se p.1 p.2,fun p=>sh p.1 p.2,fun p=>N - p.1,⟨(0,s0),⟨ab0 _,h0.1⟩,h0.2⟩,fun p hp=>lV (hs p.1 p.2 hp.1 hp.2) fun x e H' h=>by
   cases x with
   | normal=>obtain ⟨j,t,h1,h2,h3⟩:=h;exact ⟨(j,t),h1,h2,h3⟩
   | _=>exact h⟩
theorem bc {H:List aa} {s:Nat} {v v':AV} (hb:v.a9 H.length=true) (hv:v=v'):b8 H.length [.t s] [(s,v)] H fun r H'=>r=v'∧H'=H:=
 ba _ (oN _) (by rw [aA,if_pos rfl];exact hb) ⟨by rw [aA,if_pos rfl];exact hv,by simp⟩
theorem LN {H e:List aa} {s:Nat} {v v':AV} (hb:v.a9 H.length=true) (hv:v=v'):b8 H.length [.t s] [(s,v)] (H++e) fun r H'=>r=v'∧H'=H:=
 ba _ (oN _) (by rw [aA,if_pos rfl];exact hb) ⟨by rw [aA,if_pos rfl];exact hv,by simp⟩
theorem UE {H H':List aa} {n0 s:Nat} {v v':AV} (hn:n0=H.length) (hb:v.a9 n0=true) (hv:v=v') (hl:H=H'):b8 n0 [.t s] [(s,v)] H fun r H''=>r=v'∧H''=H':=by
 subst hn hl;exact bc hb hv
theorem rN {H H':List aa} {n0:Nat} {env:Env} (hn:n0=H.length) (hl:H=H'):b8 n0 [] env H fun r H''=>r=.tuple []∧H''=H':=by
 subst hn hl
 exact ⟨H.length,oN _,[],trivial,rfl,rfl,by simp⟩
theorem zB {H e:List aa} {s s':Nat} {v v' x y:AV} (hs:s'≠s) (hb:x.a9 H.length=true) (dU:y.a9 H.length=true) (hx:v.ab=x) (hy:v'.ab=y) :
 b8 H.length [.t s,.t s'] [(s,v),(s',v')] (H++e) fun r H'=>r=.tuple [x,y]∧H'=H:=by
 subst hx hy
 refine ⟨H.length,oN _,[v.ab,v'.ab],?_,?_,rfl,by simp⟩
 ·simp only [aA,if_neg hs,if_true,List.map]
  exact bW _
 ·simp only [aj,hb,dU,ab7]
theorem Hv {H:List aa} {s s':Nat} {v v' x y:AV} (hs:s'≠s) (hb:x.a9 H.length=true) (dU:y.a9 H.length=true) (hx:v.ab=x) (hy:v'.ab=y) :
 b8 H.length [.t s,.t s'] [(s,v),(s',v')] H fun r H'=>r=.tuple [x,y]∧H'=H:=by
 have:=zB (e:=[]) hs hb dU hx hy
 rw [aaV] at this
 exact this
def zC (n0:Nat) (x:AV) (H:List aa) (R:AV→List aa→Prop):Prop:=∃ m,n0≤m∧∃ r,x.le r∧r.a9 m=true∧R r (H.take m)
@[congr] theorem RB {n0:Nat} {x x':AV} {H H':List aa} {R:AV→List aa→Prop} (h:gN x=x') (h2:H=H'):zC n0 x H R=zC n0 x' H' R:=by subst h;subst h2;rfl
def uz (n0:Nat) (xs:List AV) (H:List aa) (R:AV→List aa→Prop):Prop:=∃ m,n0≤m∧∃ ys,yY (xs.map AV.ab) ys∧aj m ys=true∧R (.tuple ys) (H.take m)
@[congr] theorem RC {n0:Nat} {x x':List AV} {H H':List aa} {R:AV→List aa→Prop} (h:gN x=x') (h2:H=H'):uz n0 x H R=uz n0 x' H' R:=by subst h;subst h2;rfl
theorem UF (n0 s:Nat) (sz:Option Nat) (env:Env) (H:List aa) (R:AV→List aa→Prop):b8 n0 [.c s sz] env H R=aU sz (get env s) H fun x=>zC n0 x H R:=ae0
theorem PZ (n0 s s':Nat) (sz:Option Nat) (env:Env) (H:List aa) (R:AV→List aa→Prop):b8 n0 [.c s sz,.t s'] env H R=aU sz (get env s) H fun x=>uz n0 [x,get env s'] H R:=ae0
theorem Hw {H e:List aa} {v v':AV} (hb:v.a9 H.length=true) (hv:v=v'):zC H.length v (H++e) fun r H'=>r=v'∧H'=H:=by
 subst hv;exact ⟨H.length,oN _,v,le_refl _,hb,rfl,by simp⟩
theorem b9 {i n:Nat} (h:(i:Int) < (n:Int)):i < n:=by omega
theorem dl {i n:Nat} (h:(n:Int)≤(i:Int)):n≤i:=by omega
def mV:=(hV @Dl (hV @Dq (hV @zz @Jf)))
def UG:=(hV (hV (hV (hV (hV (hV (hV (hV @T8 @Lb) (hV @FA @Lc)) (hV (hV @Po @Dj) (hV @I9 (hV @Ld @Pp)))) (hV (hV (hV @Lf @Ud) (hV @Ue @Ym)) (hV (hV @Yn @Ja) (hV @Lg (hV @Uf @Ug))))) (hV (hV (hV (hV @Pq @K6) (hV @K7 @aA)) (hV (hV @T6 @Uk) (hV @Ln (hV @Jd @Lo)))) (hV (hV (hV @Yo @Ul) (hV @Pz (hV @PD @Lp))) (hV (hV @Lq @yz) (hV @PE (hV @LL @PU)))))) (hV (hV (hV (hV (hV @PT @PV) (hV @Uw @FT)) (hV (hV @FU @mT) (hV @mU (hV @Ux @Uy)))) (hV (hV (hV @abS @abT) (hV @UF (hV @PZ @bd0))) (hV (hV @bd2 @Ls) (hV @FB (hV @Dk @Bm))))) (hV (hV (hV (hV @Lt @Bn) (hV @Dm @Lu)) (hV (hV @PF @Dn) (hV @Um (hV @Jg (hV @Lv (hV @vF @FC)))))) (hV (hV (hV @Lw @Ly) (hV @Ji (hV @Jj @Yp))) (hV (hV @FD @FE) (hV @FF (hV @FG @Lz))))))) (hV (hV (hV (hV (hV (hV @Yq @PG) (hV @LA @Un)) (hV (hV @PH @LB) (hV @PI (hV @PJ @Uo)))) (hV (hV (hV @PK @Uq) (hV @LC @Jk)) (hV (hV @LD @Yr) (hV @PL (hV @LF @yA))))) (hV (hV (hV (hV @Bo @yB) (hV @Dp @Bp)) (hV (hV @LG @Bq) (hV @Dr (hV @LH @Ds)))) (hV (hV (hV @Dt @Br) (hV @xa (hV @uW @Ys))) (hV (hV @FH @FI) (hV @Yt (hV @PM @FJ)))))) (hV (hV (hV (hV (hV @Jl @FK) (hV @FL @Dv)) (hV (hV @Ur @Us) (hV @lU (hV @FM @Jm)))) (hV (hV (hV @Jn @LI) (hV @Jo (hV @Pg @Ph))) (hV (hV @Pj @Pk) (hV @Yg (hV @Yh @Yi))))) (hV (hV (hV (hV @Yj @abJ) (hV @Yk @Yl)) (hV (hV @Pm @I6) (hV @S7 (hV @pd @ow)))) (hV (hV (hV @Bh @Ho) (hV @wX (hV @S8 @S9))) (hV (hV @KW @KX) (hV @Hp (hV @OM @KY)))))))) (hV (hV (hV (hV (hV (hV (hV @ON @Rl) (hV @OO @OP)) (hV (hV @Ta @Tc) (hV @OQ (hV @Td @Te)))) (hV (hV (hV @Yb @OR) (hV @Tf @OS)) (hV (hV @Th @vD) (hV @Ti (hV @Tj @OT))))) (hV (hV (hV (hV @Tk @Tl) (hV @Yc @OU)) (hV (hV @Tm @OV) (hV @Tn (hV @Hq @To)))) (hV (hV (hV @Tp @OW) (hV @Tq (hV @Tr @Yd))) (hV (hV @OX @Ts) (hV @OY (hV @Tv @Bi)))))) (hV (hV (hV (hV (hV @jD @KZ) (hV @Hr @cc)) (hV (hV @wY @K0) (hV @qo (hV @K3 @ft)))) (hV (hV (hV @Bj @Ye) (hV @OZ (hV @cZ @bM))) (hV (hV @T7 @Pd) (hV @Tw (hV @Tx @Tz))))) (hV (hV (hV (hV @TA @TB) (hV @TC @TD)) (hV (hV @TE @TF) (hV @TG (hV @TH @TI)))) (hV (hV (hV @TJ @TK) (hV @TL (hV @TM @TN))) (hV (hV @TO @abI) (hV @TP (hV @O0 @TQ))))))) (hV (hV (hV (hV (hV (hV @TR @O4) (hV @TS @O5)) (hV (hV @TT @TU) (hV @O6 (hV @TV @O7)))) (hV (hV (hV @TW @TX) (hV @TY @O8)) (hV (hV @Yf @TZ) (hV @O9 (hV @K4 @T1))))) (hV (hV (hV (hV @K5 @T2) (hV @T3 @T4)) (hV (hV @T5 @IZ) (hV @Pa (hV @Pb @Pc)))) (hV (hV (hV @I0 @I1) (hV @I2 (hV @I3 @I4))) (hV (hV @Da @Db) (hV @ga0 (hV @ga @sa0)))))) (hV (hV (hV (hV (hV @sa @abK) (hV @Wr @g0)) (hV (hV @g1 @g2) (hV @s0 (hV @s1 @s2)))) (hV (hV (hV @d0 @d1) (hV @d2 (hV @sp1 @abM))) (hV (hV @abN @abO) (hV @abP (hV @abQ @abR))))) (hV (hV (hV (hV @Ut @Uu) (hV @Hu @PO)) (hV (hV @LJ @PN) (hV @Jp (hV @xc @PW)))) (hV (hV (hV @Uz @UA) (hV @UB (hV @PX @Yu))) (hV (hV @UC @PY) (hV @UD (hV @abU @abV)))))))))
end Go.aI
end
section
namespace Go.aI
open Go Go.RowKit
def fZ (w:World):Mem:=fun b o=>w.cell? ⟨b,o,none⟩
def FV (w:World):Perm:=⟨fun b=>w.heap.size≤b,fun id=>some (id + 1),(fun id n h=>by cases h;omega),0⟩
theorem Bs (w:World):(FV w).entry false ([]:List aa).length:=⟨fun id h=>absurd h (Nat.not_lt_zero _),fun id _=>rfl⟩
theorem St.start {w:World} {vs:Array Value} {xs:List AV} (h:aN (fZ w) [] vs.toList xs) (hf:∀ x∈xs,∀ own ys,x=.ap own ys→own=0) :
 St (FV w) (fZ w) [] w [] (fun t=>vs.getD t undef) (fun t=>xs.getD t .any) (fun _=>none) where
 len:=rfl
 nodup:=by simp
 env:=fun t=>by
  have:=h.getD t
  rw [oM] at this
  rw [aaL]
  simpa using this
 mem:=fun b o v hv=>hv
 obj:=fun id o b ho=>by simp at ho
 bG:=fun id o ho=>by simp at ho
 lt:=fun b hb=>by cases hb
 iL:=fun t=>by
  refine bj.free fun own ys e=>?_
  rw [oM] at e
  cases hx:xs[t]? with
  | none=>rw [hx] at e;cases e
  | some x=>rw [hx] at e;exact hf x (aaI hx) own ys e
 iI:=fun id j=>by simp [bC,bj]
 cj:=fun p q b hp=>by cases hp
 cv:=fun p b hp=>by cases hp
 fy:=fun p b hp=>by cases hp
 La:=fun b hb=>by cases hb
 Oa:=fun p b hp=>by cases hp
 fresh:=fun b hb=>hb
theorem Ext.below {M M':Mem} {w w':World} (h:Ext (FV w) M w M' w'):Below w.heap.size w w':=
 ⟨h.os,h.tape,h.output,h.size,fun k hk=>(h.j4 k hk (by show ¬ w.heap.size≤k;omega)).1⟩
theorem Pure.lift {P:Program} {f:FuncId} {xs:List AV} {b:Bool} (hp:Pure P f xs (.bool b)) (he:∀ (as:Array Value) (w:World),(callFunc f as).run P w=.ok (.enter f as) w)
 {w:World} {vs:Array Value} (hr:aN (fZ w) [] vs.toList xs) (hf:∀ x∈xs,∀ own ys,x=.ap own ys→own=0) :
 Calls P f vs w fun e w'=>e=.returned (.bool b)∧Below w.heap.size w w':=by
 have hs:vs.size=xs.length:=by have:=hr.length;simpa using this
 refine ((hp []).body he (Bs w) hs (St.start hr hf)).mono ?_
 rintro e w' ⟨v,r,H',M',L',O',rfl,⟨rfl,rfl⟩,bS,cF,_⟩
 have:=bS.env 0
 simp only [J6] at this
 cases this
 exact ⟨rfl,cF.below⟩
theorem Dy {a:Addr} {n:Nat} (h:a.spot=none):a.add n=⟨a.block,a.off + n,none⟩:=by
 obtain ⟨b,o,s⟩:=a
 simp only at h
 subst h
 unfold Addr.add
 split
 ·rename_i e;subst e;rfl
 ·rfl
theorem Js {w:World} {a:Addr} {v:Value} (h:w.cell? a=some v):a.spot=none:=by
 unfold World.cell? at h
 split at h
 ·split at h
  ·cases h
  ·rename_i hs;cases GL:a.spot <;> simp_all
 ·cases h
theorem zD {M:Mem} {L:List Nat}:∀ {n:Nat} {cs:Nat→List Value} {f:Nat→AV},(∀ i,i < n→aN M L (cs i) (f i).cells)→aN M L ((List.range n).flatMap cs) (flat ((List.range n).map f))
 | 0,_,_,_=>by simp [flat];exact .nil
 | n + 1,cs,f,h=>by
   have ih:=zD (n:=n) (fun i hi=>h i (by omega))
   simp only [acr,acK,abf,flat] at ih ⊢
   refine ih.append ?_
   simpa using h n (by omega)
theorem Dz {n e:Nat} {cs:Nat→List Value}:(∀ i,i < n→(cs i).length=e)→∀ (j:Nat) (v:Value),((List.range n).flatMap cs)[j]?=some v→∃ i k,i < n∧k < e∧j=i * e + k∧(cs i)[k]?=some v:=by
 induction n with
 | zero=>intro _ j v h;simp at h
 | succ n ih=>
   intro hl j v h
   simp only [acr,acK] at h
   have hlen:((List.range n).flatMap cs).length=n * e:=by
    clear h ih
    induction n with
    | zero=>simp
    | succ n ih2=>
      simp only [acr,acK,aap]
      rw [ih2 (fun i hi=>hl i (by omega))]
      simp [hl n (by omega),Nat.succ_mul]
   rcases aet j (n * e) with hj | hj
   ·rw [tK (by omega)] at h
    obtain ⟨i,k,h1,h2,h3,h4⟩:=ih (fun i hi=>hl i (by omega)) j v h
    exact ⟨i,k,by omega,h2,h3,h4⟩
   ·rw [aaE (by omega),hlen] at h
    simp only [List.flatMap_cons,aeE,aaV] at h
    have hk:=(aaz.1 h).1
    rw [hl n (by omega)] at hk
    exact ⟨n,j - n * e,by omega,hk,by omega,h⟩
theorem zE {w:World} {base e len cap:Nat} {a:Addr} (he:0 < e) (hl:len≤cap) (hc:cap≤maxLen) (cs:Nat→List Value) (f:Nat→AV)
 (h:∀ i,i < len→w.cells? base (a.add (i * e)) e=some (cs i)∧aN (fZ w) [] (cs i) (f i).cells):aT (fZ w) [] (.slice (some a) len cap) (.ap 0 ((List.range len).map f)):=by
 have cE:cap < 9223372036854775808:=by have:maxLen=9223372036854775807:=rfl;omega
 rcases Nat.eq_zero_or_pos len with h0 | h0
 ·subst h0
  exact .gW _ _ _ cE
 have hlen:∀ i,i < len→(cs i).length=e:=fun i hi=>(World.cells?_some (h i hi).1).2.1
 have hcell:∀ i,i < len→∀ k,k < e→w.cell? ((a.add (i * e)).add k)=(cs i)[k]?:=fun i hi=>(World.cells?_some (h i hi).1).2.2
 have hspot:a.spot=none:=by
  have h1:=hcell 0 h0 0 he
  rw [Nq (by rw [hlen 0 h0];exact he)] at h1
  have h2:=Js h1
  simpa [Addr.add] using h2
 have key:aT (fZ w) [] (.slice (some ⟨a.block,a.off,none⟩) ((List.range len).map f).length cap) (.ap 0 ((List.range len).map f)):=by
  refine .ap a.block a.off cap 0 e ((List.range len).flatMap cs) _ he ?_ (by simpa using h0) (by simpa using hl) cE (zD fun i hi=>(h i hi).2) ?_
  ·intro x hx
   obtain ⟨i,hi,rfl⟩:=aaq.1 hx
   have hi:=aaP.1 hi
   rw [← (h i hi).2.length,hlen i hi]
  ·intro j v hv
   obtain ⟨i,k,h1,h2,rfl,h4⟩:=Dz hlen j v hv
   have:=hcell i h1 k h2
   rw [Dy hspot,Dy (by rfl)] at this
   show w.cell? ⟨a.block,a.off + (i * e + k),none⟩=some v
   rw [← acG,this,h4]
 have ea:(some a:Option Addr)=some ⟨a.block,a.off,none⟩:=by obtain ⟨b,o,s⟩:=a;simp only at hspot;rw [hspot]
 rw [ea]
 simpa using key
section
variable {H:Type} {enc:TypeId×Value→H} {P:Program}
theorem pR (hl:laidOutB P=true) {W W':World} (hb:Below W.heap.size W W'):∀ {ts:List TypeId} {vs:List Value} {ds:List (DataW H)} {ps:List MemPlace},(∀ t∈ts,P.readableRec t=true∧t < P.types.size)→
 DataW.TrodAll enc P W 0 (fun _=>true) true ts vs ds ps→(∀ x∈ps,x.block < W.heap.size)→DataW.TrodAll enc P W' 0 (fun b=>decide (b < W.heap.size)) true ts vs ds ps
 | [],[],[],_,_,h,_=>h
 | t::ts,v::vs,d::ds,_,ht,⟨p,q,h1,h2,e⟩,hp=>by
   subst e
   exact ⟨p,q,Below.trod hl (ht t (by simp)).1 (ht t (by simp)).2 h1 hb (fun x hx=>hp x (by simp [hx])),pR hl hb (fun t ht'=>ht t (by simp [ht'])) h2 (fun x hx=>hp x (by simp [hx])),rfl⟩
theorem LO {fn:Func} {s:ChangeSpec} {apart:Bool} {W W':World} {args:Array Value} {ds gs:List (DataW H)} {before:List MemPlace} {t:TypeId} (hl:laidOutB P=true) (hb:Below W.heap.size W W')
 (hW:DataW.Whole enc P fn.params.toList s.vars apart W args.toList ds gs before) (hv:s.vars=[]) (uX:fn.resultTypes=#[t]) (ht:P.underlying t=some .bool) (hs:s.fn H ds={ results:=[.lit (.bool true)],args:=ds })
 (hp:fn.params.toList.all (fun t=>P.readableRec t && decide (t < P.types.size))=true):s.post enc P fn apart true false false W args (.bool true) W':=by
 have aX:∀ x∈before,x.block < W.heap.size:=fun x hx=>by simpa using hW.lt x hx
 have hW0:=hW
 obtain ⟨p,q,h1,h2,h3,h4,h5⟩:=hW
 rw [hv] at h2
 obtain ⟨rfl,rfl⟩:=ChangeShapes.trodVars_none h2
 simp only [aaV] at h3
 subst h3
 refine ⟨ds,[],before,[],before,[],hW0,?_,?_,?_,hb.frame _,fun h=>by cases h⟩
 ·simp only [aaV,hs,uX]
  exact ChangeShapes.trodAll_mk1 (shut_bool ht true)
 ·simp only [aaV,hs]
  exact pR hl hb (fun t ht=>by simpa using aaJ.1 hp t ht) h1 aX
 ·simp only [hv,aaV,hs]
  rfl
end
end Go.aI
end
section
namespace Go.aI
open Go
structure Fam {σ:Type} (S:σ→List aa) (p:Nat) (obj:σ→aa) (n:Nat):Prop where
 get:∀ s,(S s)[p]?=some (obj s)
 set:∀ s s',(S s).set p (obj s')=S s'
 len:∀ s,(S s).length=n
namespace Fam
variable {σ:Type} {S:σ→List aa} {p:Nat} {obj:σ→aa} {n:Nat} (F:Fam S p obj n)
include F
end Fam
theorem RE {Hs G:List aa} {n0:Nat} {v w x y:AV} {R:AV→List aa→Prop} (hH:Hs.take n0=G) (hb:x.a9 n0=true) (dU:y.a9 n0=true) (hx:v.ab=x) (hy:w.ab=y) (hR:R (.tuple [x,y]) G) :
 uz n0 [v,w] Hs R:=by
 subst hx hy hH
 exact ⟨n0,oN _,[v.ab,w.ab],bW _,by simp only [aj,hb,dU,ab7],hR⟩
theorem RF {Hs G:List aa} {n0:Nat} {v x:AV} {R:AV→List aa→Prop} (hH:Hs.take n0=G) (hb:x.a9 n0=true) (hx:v=x) (hR:R x G):zC n0 v Hs R:=by
 subst hx hH
 exact ⟨n0,oN _,v,le_refl _,hb,hR⟩
theorem P1 {Hs G:List aa} {n0 s:Nat} {v x:AV} {R:AV→List aa→Prop} (hH:Hs.take n0=G) (hb:x.a9 n0=true) (hx:v=x) (hR:R x G):b8 n0 [.t s] [(s,v)] Hs R:=by
 subst hx hH
 exact ba _ (oN _) (by rw [aA,if_pos rfl];exact hb) (by rw [aA,if_pos rfl];exact hR)
end Go.aI
end
section
namespace Go.aI
open Go
def xd (C:List aa→Nat→List aa→Prop) (n0:Nat) (v:AV) (H:List aa) (R:AV→List aa→Prop):Prop:=
 ∃ m H',n0≤m∧C H m H'∧∃ r,v.le r∧r.a9 m=true∧R r H'
@[congr] theorem P2 {C:List aa→Nat→List aa→Prop} {n0:Nat} {x x':AV} {H H':List aa} {R:AV→List aa→Prop} (h:gN x=x') (h2:H=H'):xd C n0 x H R=xd C n0 x' H' R:=by subst h;subst h2;rfl
theorem P3 {C:List aa→Nat→List aa→Prop} {n0 s:Nat} {sz:Option Nat} {env:Env} {H:List aa} {R:AV→List aa→Prop}:ji C n0 [.c s sz] env H R=aU sz (get env s) H fun v=>xd C n0 v H R:=ae0
theorem P4 {C:List aa→Nat→List aa→Prop} {n0 s:Nat} {env:Env} {H:List aa} {R:AV→List aa→Prop}:ji C n0 [.t s] env H R=xd C n0 (get env s) H R:=ae0
theorem sX {n0:Nat} {H G:List aa} (h:G.take n0=H) (hl:H.length=n0):nu n0 G n0 H:=by
 subst h
 refine ⟨by simp,fun id o ho=>?_⟩
 rw [aax] at ho
 split at ho
 ·exact .inr ⟨ho,fun h=>by omega⟩
 ·cases ho
def only (n0 id:Nat) (G:List aa):List aa:=G.mapIdx fun j o=>if j < n0∨j=id then o else .dead
theorem jW (n0:Nat) (env:Env) (H:List aa):Ix n0 env H env H:=⟨fun t=>le_refl _,.inl rfl⟩
theorem rO {n0:Nat} {env aH:Env} {H H':List aa} (he:env=aH) (hH:H=H'):Ix n0 env H aH H':=by
 subst he;subst hH;exact jW _ _ _
def kz:=hV @P3 (hV @P4 LK)
end Go.aI
end
