/- Part 10 of 20 of the proof. -/
import Derived.Test.YtljchnfgjdjobaaGreatVah
import Derived.ProofKit
import Derived.Deep.Slices
import Derived.Deep.Strs
set_option linter.unusedVariables false
set_option linter.unusedSimpArgs false
set_option linter.defProp false
set_option linter.unusedSectionVars false
section
namespace Go.aK
open Go
theorem T3:AV.any.ab=.any:=af4
theorem pH (b:Bool):(AV.bool b).ab=.bool b:=af4
theorem oW (k:IntKind) (n:Int):(AV.int k n).ab=.int k n:=af4
theorem B5 (s:ByteArray):(AV.str s).ab=.str s:=af4
theorem Iq:AV.ag.ab=.ag:=af4
theorem xF (o:Nat) (xs:List AV):(AV.al o xs).ab=.al 0 xs:=af4
theorem T4 (a b c d:Nat):(AV.aZ a b c d).ab=.aZ a b c d:=af4
theorem T5 (xs:List AV):(AV.agg xs).ab=.agg xs:=af4
theorem LX (xs:List AV):(AV.tuple xs).ab=.tuple xs:=af4
theorem LY (a b:Nat):(AV.ptr a b).ab=.ptr a b:=af4
theorem Ir (x:AV):(AV.ai x).ab=.ai x:=af4
theorem PO:AV.tg.ab=.tg:=af4
theorem LZ (a:Nat):(AV.map a).ab=.map a:=af4
theorem PR:AV.jN.ab=.jN:=af4
theorem So (f:Fn) (a b:List AV):(AV.fn f a b).ab=.fn f a b:=af4
theorem PT:AV.gn.ab=.gn:=af4
theorem PU (b:Bool):(AV.bool b).cells=[.bool b]:=af4
theorem T6 (k:IntKind) (n:Int):(AV.int k n).cells=[.int k n]:=af4
theorem T7 (s:ByteArray):(AV.str s).cells=[.str s]:=af4
theorem PV:AV.ag.cells=[.ag]:=af4
theorem T8 (o:Nat) (xs:List AV):(AV.al o xs).cells=[.al o xs]:=af4
theorem T9 (xs:List AV):(AV.agg xs).cells=xs:=af4
theorem Zi (f:Fn) (a b:List AV):(AV.fn f a b).cells=[.fn f a b]:=af4
theorem PW:AV.gn.cells=[.gn]:=af4
theorem Ua (a b:Nat):(AV.ptr a b).cells=[.ptr a b]:=af4
theorem PX (x:AV):(AV.ai x).cells=[.ai x]:=af4
theorem Ub (a:Nat):(AV.map a).cells=[.map a]:=af4
theorem wz (b:Bool):(AV.bool b).drop=.bool b:=af4
theorem Uc (k:IntKind) (n:Int):(AV.int k n).drop=.int k n:=af4
theorem Ud (s:ByteArray):(AV.str s).drop=.str s:=af4
theorem PY:AV.ag.drop=.al 0 []:=af4
theorem Ue (o:Nat) (xs:List AV):(AV.al o xs).drop=.al 0 xs:=af4
theorem Uf (xs:List AV):(AV.agg xs).drop=.agg xs:=af4
theorem Zj (f:Fn) (a b:List AV):(AV.fn f a b).drop=.fn f a b:=af4
theorem PZ:AV.gn.drop=.gn:=af4
theorem Ug (a b:Nat):(AV.ptr a b).drop=.ptr a b:=af4
theorem P1 (x:AV):(AV.ai x).drop=.ai x:=af4
theorem Uh (a:Nat):(AV.map a).drop=.map a:=af4
theorem Is (b:Bool):(AV.bool b).val=true:=af4
theorem Ui (k:IntKind) (n:Int):(AV.int k n).val=true:=af4
theorem Uj (s:ByteArray):(AV.str s).val=true:=af4
theorem P2:AV.ag.val=true:=af4
theorem Uk (o:Nat) (xs:List AV):(AV.al o xs).val=true:=af4
theorem Ul (xs:List AV):(AV.agg xs).val=true:=af4
theorem Zk (f:Fn) (a b:List AV):(AV.fn f a b).val=true:=af4
theorem P3:AV.gn.val=true:=af4
theorem Um (a b:Nat):(AV.ptr a b).val=true:=af4
theorem P4 (x:AV):(AV.ai x).val=true:=af4
theorem Un (a:Nat):(AV.map a).val=true:=af4
theorem B6 (n:Nat) (b:Bool):(AV.bool b).bc n=true:=af4
theorem ji (n:Nat) (k:IntKind) (m:Int):(AV.int k m).bc n=true:=af4
theorem L3 (n:Nat) (s:ByteArray):(AV.str s).bc n=true:=af4
theorem It (n:Nat):AV.ag.bc n=true:=af4
theorem bW (n o:Nat) (xs:List AV):(AV.al o xs).bc n=aj n xs:=by rw [AV.bc]
theorem tT (n:Nat) (xs:List AV):(AV.agg xs).bc n=aj n xs:=by rw [AV.bc]
theorem L4 (n:Nat) (xs:List AV):(AV.tuple xs).bc n=aj n xs:=by rw [AV.bc]
theorem qV (n a b:Nat):(AV.ptr a b).bc n=decide (a < n):=by rw [AV.bc]
theorem L5 (n a:Nat):(AV.map a).bc n=decide (a < n):=by rw [AV.bc]
theorem fJ (n a b c d:Nat):(AV.aZ a b c d).bc n=decide (a < n):=by rw [AV.bc]
theorem B7 (n:Nat) (x:AV):(AV.ai x).bc n=x.bc n:=by rw [AV.bc]
theorem Zl (n:Nat) (f:Fn) (a b:List AV):(AV.fn f a b).bc n=(aj n a && aj n b):=by rw [AV.bc]
theorem P5 (n:Nat):AV.gn.bc n=true:=af4
theorem c9 (n:Nat):aj n []=true:=af4
theorem bP (n:Nat) (x:AV) (xs:List AV):aj n (x::xs)=(x.bc n && aj n xs):=by rw [aj]
section
variable (k:IntKind) (a b:Int) (φ:AV→Prop)
theorem Uo:dt .add (.int k a) (.int k b) φ=φ (.int k (k.wrap (a + b))):=by simp [dt]
theorem Uq:dt .sub (.int k a) (.int k b) φ=φ (.int k (k.wrap (a - b))):=by simp [dt]
theorem Ur:dt .mul (.int k a) (.int k b) φ=φ (.int k (k.wrap (a * b))):=by simp [dt]
theorem Us:dt .rem (.int k a) (.int k b) φ=(b≠0∧φ (.int k (a.tmod b))):=by simp [dt]
theorem Ut:dt .quo (.int k a) (.int k b) φ=(b≠0∧φ (.int k (k.wrap (a.tdiv b)))):=by simp [dt]
theorem Uu:dt .eql (.int k a) (.int k b) φ=φ (.bool (decide (a=b))):=by simp [dt]
theorem Uv:dt .neq (.int k a) (.int k b) φ=φ (.bool (decide (a≠b))):=by simp [dt]
theorem Uw:dt .lss (.int k a) (.int k b) φ=φ (.bool (decide (a < b))):=by simp [dt]
theorem Ux:dt .leq (.int k a) (.int k b) φ=φ (.bool (decide (a≤b))):=by simp [dt]
theorem Uy:dt .gtr (.int k a) (.int k b) φ=φ (.bool (decide (b < a))):=by simp [dt]
theorem Uz:dt .geq (.int k a) (.int k b) φ=φ (.bool (decide (b≤a))):=by simp [dt]
theorem UA (s t:ByteArray):dt .eql (.str s) (.str t) φ=φ (.bool (decide (s=t))):=by simp [dt]
theorem UB (s t:ByteArray):dt .neq (.str s) (.str t) φ=φ (.bool (decide (s≠t))):=by simp [dt]
theorem UC (s t:ByteArray):dt .add (.str s) (.str t) φ=(s.size + t.size < 9223372036854775808∧φ (.str (s++t))):=by simp [dt]
theorem UD (q:Bool):Bl .not (.bool q) φ=φ (.bool (!q)):=af4
theorem UE:Bl .neg (.int k a) φ=φ (.int k (k.wrap (0 - a))):=af4
theorem UF (p q:Bool):dg true (.bool p) (.bool q) φ=φ (.bool (decide (p≠q))):=af4
theorem UG (p q:Bool):dg false (.bool p) (.bool q) φ=φ (.bool (decide (p=q))):=af4
theorem acV (q:Bool) (ψ:Bool→Prop):fy (.bool q) ψ=ψ q:=af4
theorem UH (s:ByteArray) (H:List aa):fg (.str s) H φ=φ (.int .i64 s.size):=af4
theorem P6 (H:List aa):fg .ag H φ=φ (.int .i64 0):=af4
theorem UI (o:Nat) (xs:List AV) (H:List aa):fg (.al o xs) H φ=(xs.length < 9223372036854775808→φ (.int .i64 xs.length)):=af4
theorem UJ (x y l c:Nat) (H:List aa):fg (.aZ x y l c) H φ=φ (.int .i64 l):=af4
theorem P7 (H:List aa):fg .jN H φ=φ (.int .i64 0):=af4
theorem UK (s:ByteArray):aO 0 (.str s)=True:=af4
theorem P8:aO 1 .ag=True:=af4
theorem UL (o:Nat) (xs:List AV):aO 1 (.al o xs)=True:=af4
theorem UM (x y l c:Nat):aO 1 (.aZ x y l c)=True:=af4
theorem P9:aO 2 .jN=True:=af4
theorem UN (x:Nat):aO 2 (.map x)=True:=af4
theorem Qa (q:Bool) (H:List aa):aV none (.ai (.bool q)) H φ=φ (.bool q):=by simp [aV,AV.one,pH]
theorem UO (H:List aa):aV none (.ai (.int k a)) H φ=φ (.int k a):=by simp [aV,AV.one,oW]
theorem UP (s:ByteArray) (H:List aa):aV none (.ai (.str s)) H φ=φ (.str s):=by simp [aV,AV.one,B5]
theorem UQ (o:Nat) (xs:List AV) (H:List aa):aV none (.ai (.al o xs)) H φ=φ (.al 0 xs):=by simp [aV,AV.one,xF]
theorem Qb (H:List aa):aV none (.ai .ag) H φ=φ .ag:=by simp [aV,AV.one,Iq]
theorem Zm (f:Fn) (x y:List AV) (H:List aa):aV none (.ai (.fn f x y)) H φ=φ (.fn f x y):=by simp [aV,AV.one,So]
theorem UR (x y:Nat):cj (.ptr x y) φ=φ (.ptr x y):=af4
theorem Qc (x:AV):cj (.ai x) φ=φ (.ai x):=af4
theorem L6 (xs:List AV) (i:Nat):bM (.tuple xs) i φ=(i < xs.length∧φ (xs.getD i .any).ab):=af4
theorem US (id o off:Nat) (sz:Option Nat):ap off sz (.ptr id o) φ=φ (.ptr id (o + off)):=by simp [ap]
end
section
variable {P:Px} {n0:Nat} {env:Env} {H:List aa} {Q:Exit→Env→List aa→Prop}
theorem L7 (pass:Option Nat) (j:Nat):aN env pass j []=[]:=af4
theorem UT (pass:Option Nat) (j:Nat) (v:AV) (xs:List IX):aN env pass j (.c v::xs)=v.ab::aN env pass (j + 1) xs:=af4
theorem UU (j s:Nat) (xs:List IX):aN env none j (.t s::xs)=(get env s).ab::aN env none (j + 1) xs:=by simp [aN]
theorem UW (j s:Nat) (xs:List IX):aN env (some 1999) j (.t s::xs)=(if 1999=j then get env s else (get env s).ab)::aN env (some 1999) (j + 1) xs:=by simp [aN]
theorem UX (p j s:Nat) (xs:List IX):aN env (some p) j (.t s::xs)=(if p=j then get env s else (get env s).ab)::aN env (some p) (j + 1) xs:=by simp [aN]
theorem JS (args:List IX):bh args none=none:=af4
theorem Qd (x:Nat) (xs:List IX):bh (.t x::xs) (some 0)=some x:=by simp [bh]
theorem Qe (x:Nat) (y:IX) (xs:List IX):bh (y::.t x::xs) (some 1)=some x:=by simp [bh]
theorem Qf (x:Nat) (y z:IX) (xs:List IX):bh (y::z::.t x::xs) (some 2)=some x:=by simp [bh]
theorem JT:bh [] (some 1999)=none:=af4
theorem JU (x:IX):bh [x] (some 1999)=none:=af4
theorem JV (x y:IX):bh [x,y] (some 1999)=none:=af4
theorem JW (x y z:IX):bh [x,y,z] (some 1999)=none:=af4
theorem JX (x y z u:IX):bh [x,y,z,u] (some 1999)=none:=af4
theorem DZ:cQ env none=env:=af4
theorem D0 (d:Nat):cQ env (some d)=(d,(get env d).ab)::env:=af4
theorem L8 (z:AV):put none z env=env:=af4
theorem L9 (d:Nat) (z:AV):put (some d) z env=(d,z)::env:=af4
theorem aA (k:Nat) (v:AV) (t:Nat):get ((k,v)::env) t=if t=k then v else get env t:=af4
theorem UY (t:Nat):get [] t=.any:=af4
theorem aX {s:Nat} {R:AV→List aa→Prop} (m:Nat) (h0:n0≤m) (hb:(get env s).bc m=true) (h:R (get env s) (H.take m)):bV n0 [.t s] env H R:=
 ⟨m,h0,_,le_refl _,hb,h⟩
end
def Pure (P:Program) (g:FuncId) (xs:List AV) (v:AV):Prop:=∀ H,ax P g xs H fun r H'=>r=v∧H'=H
theorem Pure.mk {P:Program} {g:FuncId} {xs:List AV} {v:AV} (hb:aj 0 xs=true) (h:ax P g xs [] fun r H'=>r=v∧H'=[]):Pure P g xs v:=
 ax.frame (fun x hx=>(a9 0 xs).1 hb x hx) h
def qW (n:Nat) (env:Env):Bool:=env.all fun p=>p.2.bc n
theorem Gn {n:Nat} {env:Env} (h:qW n env=true) (t:Nat):(get env t).bc n=true:=by
 rcases get_mem (env:=env) (t:=t) rfl with h' | h'
 ·rw [h'];rfl
 ·exact abF.1 h _ h'
theorem UZ (n:Nat):qW n []=true:=af4
theorem Qg (n k:Nat) (v:AV) (env:Env):qW n ((k,v)::env)=(v.bc n && qW n env):=af4
theorem D1 {n0:Nat} {env aL:Env} {H H':List aa} (he:env=aL) (h0:n0≤H'.length) (hb:qW H'.length aL=true) (e:List aa) (hH:H=H'++e):sle n0 env H aL H':=by
 subst he;subst hH
 exact ⟨fun t=>le_refl _,.inr ⟨H'.length,h0,by simp,Gn hb⟩⟩
theorem aE {n0:Nat} {env aL:Env} {H H':List aa} (he:env=aL) (hH:H=H'):sle n0 env H aL H':=by
 subst he;subst hH;exact aB _ _ _
theorem au (i:Nat) (h:i + 1 < 9223372036854775808):IntKind.i64.wrap ((i:Int) + 1)=((i + 1:Nat):Int):=by
 show IntKind.wrap .i64 ((i:Int) + 1)=_
 unfold IntKind.wrap
 simp [IntKind.signed,IntKind.bits]
 omega
end Go.aK
end
section
namespace Go.aK
open Go
def gZ {α:Type} (x:α):α:=x
theorem U0 {α:Type} (x:α):gZ x=x:=af4
section
variable {φ:AV→Prop}
theorem Ma {op:BinOp} {x y:AV} (h:dt op x y φ):∃ z,dt op x y (fun w=>w=z)∧φ z:=by
 unfold dt at *
 split at h <;> (try exact h.elim)
 ·obtain ⟨h0,h⟩:=h
  split at h <;> first | exact ⟨_,⟨h0,rfl⟩,h⟩ | exact ⟨_,⟨h0,h.1,rfl⟩,h.2⟩ | exact h.elim
 ·split at h <;> first | exact ⟨_,rfl,h⟩ | exact ⟨_,⟨h.1,rfl⟩,h.2⟩ | exact h.elim
theorem Gp {op:BinOp} {x y:AV} (h:eE op x y φ):∃ z,eE op x y (fun w=>w=z)∧φ z:=by
 unfold eE at *
 split at h <;> (try exact h.elim)
 obtain ⟨h0,h⟩:=h
 split at h <;> first | exact ⟨_,⟨h0,rfl⟩,h⟩ | exact h.elim
theorem D2 {neq:Bool} {x y:AV} (h:dg neq x y φ):∃ z,dg neq x y (fun w=>w=z)∧φ z:=by
 unfold dg at *
 split at h <;> first | exact ⟨_,rfl,h⟩ | exact h.elim
theorem Qh {op:UnOp} {x:AV} (h:Bl op x φ):∃ z,Bl op x (fun w=>w=z)∧φ z:=by
 unfold Bl at *
 split at h <;> first | exact ⟨_,rfl,h⟩ | exact h.elim
theorem JY {sz:Option Nat} {x:AV} {H:List aa} (h:aV sz x H φ):∃ z,aV sz x H (fun w=>w=z)∧φ z:=by
 unfold aV at *
 split at h <;> (try exact h.elim) <;> (split at h <;> (try exact h.elim)) <;> first | exact ⟨_,⟨h.1,rfl⟩,h.2⟩ | (split at h <;> exact ⟨_,⟨h.1,rfl⟩,h.2⟩)
theorem Am {off:Nat} {sz:Option Nat} {xs:List AV} {g:AV→AV} (h:apart off sz xs fun z=>φ (g z)):∃ z,(apart off sz xs fun w=>g w=z)∧φ z:=by
 unfold apart at *
 split at h <;> first | exact ⟨_,⟨h.1,rfl⟩,h.2⟩ | exact ⟨_,⟨h.1,h.2.1,rfl⟩,h.2.2⟩
theorem Gq {off:Nat} {sz:Option Nat} {x:AV} (h:fz off sz x φ):∃ z,fz off sz x (fun w=>w=z)∧φ z:=by
 unfold fz at *
 split at h <;> (try exact h.elim)
 exact Am h
theorem xG {off:Nat} {sz:Option Nat} {x:AV} (h:ap off sz x φ):∃ z,ap off sz x (fun w=>w=z)∧φ z:=by
 unfold ap at *
 split at h <;> (try exact h.elim)
 ·exact ⟨_,rfl,h⟩
 ·exact Am h
theorem xH {esz:Nat} {x i:AV} (h:aC esz x i φ):∃ z,aC esz x i (fun w=>w=z)∧φ z:=by
 unfold aC at *
 split at h <;> first | exact ⟨_,⟨h.1,h.2.1,rfl⟩,h.2.2⟩ | exact h.elim
theorem zt {x i:AV} (h:bQ x i φ):∃ z,bQ x i (fun w=>w=z)∧φ z:=by
 unfold bQ at *
 split at h <;> first | exact ⟨_,⟨h.1,h.2.1,rfl⟩,h.2.2⟩ | exact h.elim
theorem zw {n:Nat} {x i:AV} (h:ch n x i φ):∃ z,ch n x i (fun w=>w=z)∧φ z:=by
 unfold ch at *
 split at h <;> first | exact ⟨_,⟨h.1,h.2.1,h.2.2.1,rfl⟩,h.2.2.2⟩ | exact h.elim
theorem B8 {x:AV} {i:Nat} (h:bM x i φ):∃ z,bM x i (fun w=>w=z)∧φ z:=by
 unfold bM at *
 split at h <;> first | exact ⟨_,⟨h.1,rfl⟩,h.2⟩ | exact h.elim
theorem zx {x:AV} (h:cj x φ):∃ z,cj x (fun w=>w=z)∧φ z:=by
 unfold cj at *
 split at h <;> first | exact ⟨_,rfl,h⟩ | exact h.elim
theorem B9 {k:IntKind} {x:AV} (h:cN k x φ):∃ z,cN k x (fun w=>w=z)∧φ z:=by
 unfold cN at *
 split at h <;> first | exact ⟨_,rfl,h⟩ | exact h.elim
theorem Qi {big:Bool} {x y:AV} (h:yZ big x y φ):∃ z,yZ big x y (fun w=>w=z)∧φ z:=by
 unfold yZ at *
 split at h <;> first | exact ⟨_,rfl,h⟩ | exact h.elim
theorem pI {x:Option AV} {d:Nat} {c1 c2:Nat→Prop} {g:Nat→AV} (h:eo x d fun k=>c1 k∧c2 k∧φ (g k)):∃ z,(eo x d fun k=>c1 k∧c2 k∧g k=z)∧φ z:=by
 unfold eo at *
 split at h
 ·exact ⟨_,⟨h.1,h.2.1,rfl⟩,h.2.2⟩
 ·exact ⟨_,⟨h.1,h.2.1,h.2.2.1,rfl⟩,h.2.2.2⟩
 ·exact h.elim
theorem jB {x:Option AV} {d:Nat} {ψ:(AV→Prop)→Nat→Prop} (h:eo x d (ψ φ)) (hd:∀ k,ψ φ k→∃ z,ψ (fun w=>w=z) k∧φ z):∃ z,eo x d (ψ fun w=>w=z)∧φ z:=by
 unfold eo at *
 split at h
 ·exact hd _ h
 ·obtain ⟨z,h2,h3⟩:=hd _ h.2;exact ⟨z,⟨h.1,h2⟩,h3⟩
 ·exact h.elim
theorem Gs {esz:Nat} {x:AV} {lo hi mx:Option AV} (h:fD esz x lo hi mx φ):∃ z,fD esz x lo hi mx (fun w=>w=z)∧φ z:=by
 unfold fD at *
 split at h <;> (try exact h.elim)
 rename_i xs fx
 cases mx with
 | none=>exact jB (ψ:=fun φ h=>eo lo 0 fun l=>l≤h∧h≤xs.length∧φ (.al 0 ((xs.take h).drop l))) h fun k h=>pI (c1:=fun l=>l≤k) (c2:=fun _=>k≤xs.length) (g:=fun l=>.al 0 ((xs.take k).drop l)) h
 | some m=>
   refine jB (ψ:=fun φ h=>eo lo 0 fun l=>l≤h∧h≤xs.length∧hi.isSome=true∧eo (some m) 0 fun m=>m=h∧(∀ y∈xs,y.cells.length=esz)∧φ (.al esz ((xs.take h).drop l))) h fun k h=>?_
   refine jB (ψ:=fun φ l=>l≤k∧k≤xs.length∧hi.isSome=true∧eo (some m) 0 fun m=>m=k∧(∀ y∈xs,y.cells.length=esz)∧φ (.al esz ((xs.take k).drop l))) h fun l h=>?_
   obtain ⟨h1,h2,h3,h4⟩:=h
   obtain ⟨z,k1,k2⟩:=pI (g:=fun _=>.al esz ((xs.take k).drop l)) h4
   exact ⟨z,⟨h1,h2,h3,k1⟩,k2⟩
theorem D3 {esz:Nat} {x:AV} {lo hi mx:Option AV} (h:bA esz x lo hi mx φ):∃ z,bA esz x lo hi mx (fun w=>w=z)∧φ z:=by
 unfold bA iE pq at *
 split at h
 ·rename_i id off len cap
  split at h
  rotate_left
  ·rename_i m
   obtain ⟨h1,h2⟩:=h
   have:=jB (ψ:=fun φ m=>eo hi len fun h=>eo lo 0 fun l=>l≤h∧h≤m∧m≤cap∧φ (.aZ id (if m=l then off else off + l * esz) (h - l) (m - l))) h2 fun m h=>
    jB (ψ:=fun φ h=>eo lo 0 fun l=>l≤h∧h≤m∧m≤cap∧φ (.aZ id (if m=l then off else off + l * esz) (h - l) (m - l))) h fun k h=>
     jB (ψ:=fun φ l=>l≤k∧k≤m∧m≤cap∧φ (.aZ id (if m=l then off else off + l * esz) (k - l) (m - l))) h fun l h=>⟨_,⟨h.1,h.2.1,h.2.2.1,rfl⟩,h.2.2.2⟩
   obtain ⟨z,k1,k2⟩:=this
   exact ⟨z,⟨h1,k1⟩,k2⟩
  have h2:=h
  have:=jB (ψ:=fun φ h=>eo lo 0 fun l=>l≤h∧h≤cap∧φ (.aZ id (if cap=l then off else off + l * esz) (h - l) (cap - l))) h2 fun k h=>pI (c1:=fun l=>l≤k) (c2:=fun _=>k≤cap) (g:=fun l=>.aZ id (if cap=l then off else off + l * esz) (k - l) (cap - l)) h
  obtain ⟨z,k1,k2⟩:=this
  exact ⟨z,k1,k2⟩
 ·obtain ⟨z,k1,k2⟩:=Gs h.2
  exact ⟨z,⟨h.1,k1⟩,k2⟩
theorem zy {x:AV} {lo hi:Option AV} (h:cA x lo hi φ):∃ z,cA x lo hi (fun w=>w=z)∧φ z:=by
 unfold cA at *
 split at h <;> (try exact h.elim)
 rename_i s
 exact jB (ψ:=fun φ h=>eo lo 0 fun l=>l≤h∧h≤s.size∧φ (.str (s.extract l h))) h fun k h=>pI (c1:=fun l=>l≤k) (c2:=fun _=>k≤s.size) (g:=fun l=>.str (s.extract l k)) h
theorem D4 {kd:Nat} {z m k:AV} {ok:Bool} {H:List aa} (h:cF kd z m k ok H φ):∃ y,cF kd z m k ok H (fun w=>w=y)∧φ y:=by
 unfold cF at *
 split at h <;> (try exact h.elim) <;> first | exact ⟨_,rfl,h⟩ | exact ⟨_,⟨h.1,rfl⟩,h.2⟩ | (split at h <;> (try exact h.elim) <;> first | exact ⟨_,rfl,h⟩ | exact ⟨_,⟨h.1,rfl⟩,h.2⟩ | (split at h <;> (try exact h.elim) <;> first | exact ⟨_,rfl,h⟩ | exact ⟨_,⟨h.1,rfl⟩,h.2⟩))
theorem vr {esz:Nat} {own:Nat}:∀ {ps:List (Nat×AV)} {zs:List AV},bw zs esz ps (fun v=>φ (.al own v))→∃ z,bw zs esz ps (fun v=>.al own v=z)∧φ z
 | [],zs,h=>⟨_,rfl,h⟩
 | (i,x)::r,zs,h=>by
   obtain ⟨z,k1,k2⟩:=vr h.2.2.2
   exact ⟨z,⟨h.1,h.2.1,h.2.2.1,k1⟩,k2⟩
theorem An:∀ {ps:List (Nat×Nat×AV)} {zs:List AV},iB zs ps (fun v=>φ (.agg v))→∃ z,iB zs ps (fun v=>.agg v=z)∧φ z
 | [],zs,h=>⟨_,rfl,h⟩
 | (off,sz,x)::r,zs,h=>by
   obtain ⟨z,k1,k2⟩:=An h.2.2.2
   exact ⟨z,⟨h.1,h.2.1,h.2.2.1,k1⟩,k2⟩
end
def gE (v:AV) (A B:Prop):Prop:=fy v fun q=>(q=true→A)∧(q=false→B)
@[congr] theorem Sp {v v':AV} {A B:Prop} (h:gZ v=v'):gE v A B=gE v' A B:=by subst h;rfl
theorem Qj (A B:Prop):gE (.bool true) A B=A:=by simp [gE,fy]
theorem Qk (A B:Prop):gE (.bool false) A B=B:=by simp [gE,fy]
theorem Ql (b:Bool) (A B:Prop):gE (.bool (!b)) A B=gE (.bool b) B A:=by cases b <;> simp [gE,fy]
theorem Qm (p:Prop) [Decidable p] (A B:Prop):gE (.bool (decide p)) A B=((p→A)∧(¬ p→B)):=by simp [gE,fy]
theorem wA {b:Bool} {A B:Prop} (h1:b=true→A) (h2:b=false→B):gE (.bool b) A B:=⟨h1,h2⟩
def ee (v:AV) (g:Nat) (want:Bool) (env:Env) (yes no:Env→Prop):Prop:=
 match v with
 | .bool b=>(b=want→yes ((g,.bool want)::env))∧(b=(!want)→no ((g,.bool (!want))::env))
 | .tuple []=>no env
 | _=>False
@[congr] theorem Qn {v v':AV} {g:Nat} {want:Bool} {env:Env} {yes no:Env→Prop} (h:gZ v=v'):ee v g want env yes no=ee v' g want env yes no:=by subst h;rfl
section
variable (g:Nat) (env:Env) (yes no:Env→Prop)
theorem Zn:ee (.bool true) g true env yes no=yes ((g,.bool true)::env):=by simp [ee]
theorem Zo:ee (.bool true) g false env yes no=no ((g,.bool true)::env):=by simp [ee]
theorem Zp:ee (.bool false) g true env yes no=no ((g,.bool false)::env):=by simp [ee]
theorem Zq:ee (.bool false) g false env yes no=yes ((g,.bool false)::env):=by simp [ee]
theorem acW (want:Bool):ee (.tuple []) g want env yes no=no env:=af4
theorem Zr (p:Prop) [Decidable p]:ee (.bool (decide p)) g true env yes no=((p→yes ((g,.bool true)::env))∧(¬ p→no ((g,.bool false)::env))):=by simp [ee]
theorem Zs (p:Prop) [Decidable p]:ee (.bool (decide p)) g false env yes no=((¬ p→yes ((g,.bool false)::env))∧(p→no ((g,.bool true)::env))):=by simp [ee]
end
def Ao (P:Px) (g:FuncId) (xs:List AV) (H:List aa) (K:AV→List aa→Prop):Prop:=∃ bZ,z5 xs bZ∧dO P g bZ H K
@[congr] theorem Sq {P:Px} {g:FuncId} {xs xs':List AV} {H H':List aa} {K:AV→List aa→Prop} (h:gZ xs=xs') (h2:H=H'):Ao P g xs H K=Ao P g xs' H' K:=by subst h;subst h2;rfl
theorem af {P:Program} {lo:Option Nat} {g:FuncId} {xs:List AV} {H:List aa} {R K:AV→List aa→Prop} (hc:ax P g xs H R) (hk:∀ r H',R r H'→K r H'):Ao ⟨P,lo⟩ g xs H K:=⟨xs,b8 _,dO.of (hc.mono hk)⟩
theorem Ap {P:Program} {l:Nat} {g:FuncId} {xs:List AV} {H:List aa} {R K:AV→List aa→Prop} (hl:l≤H.length) (hc:jo P g xs H R) (hk:∀ r H',R r H'→K r H'):Ao ⟨P,some l⟩ g xs H K:=⟨xs,b8 _,dO.ofL hl (hc.mono hk)⟩
theorem ae {P:Program} {lo:Option Nat} {g:FuncId} {xs:List AV} {v:AV} {H:List aa} {K:AV→List aa→Prop} (hc:Pure P g xs v) (hk:K v H):Ao ⟨P,lo⟩ g xs H K:=
 ⟨xs,b8 _,dO.of ((hc H).mono fun r H' ⟨h1,h2⟩=>by rw [h1,h2];exact hk)⟩
theorem Qo {P:Px} {env:Env} {H:List aa} (g:FuncId) (first cap:List AV) (args:List IX) (pass:Option Nat) (K:AV→Env→List aa→Prop):qo P (.fn (.func g) first cap) args pass env H K =
 Ao P g (first.map AV.ab++aN env pass 0 args++cap.map AV.ab) H (fun r H'=>K r (cQ env (bh args pass)) H'):=af4
@[congr] theorem Sr {P:Px} {f f':AV} {args:List IX} {pass:Option Nat} {env:Env} {H:List aa} {K:AV→Env→List aa→Prop} (h:gZ f=f'):qo P f args pass env H K=qo P f' args pass env H K:=by subst h;rfl
def Aq (P:Px) (st:Bool) (g:FuncId) (xs:List AV) (H:List aa) (K:AV→Prop):Prop:=
 ∃ x,(match st with
  | true=>∃ bZ,z5 xs bZ∧ax P.prog g bZ H (fun r H'=>r=x∧H'=H)
  | false=>∀ H,∃ bZ,z5 xs bZ∧ax P.prog g bZ H (fun r H'=>r=x∧H'=H))∧K x
@[congr] theorem Ss {P:Px} {st:Bool} {g:FuncId} {xs xs':List AV} {H:List aa} {K:AV→Prop} (h:gZ xs=xs'):Aq P st g xs H K=Aq P st g xs' H K:=by subst h;rfl
theorem ay {P:Program} {lo:Option Nat} {st:Bool} {g:FuncId} {xs:List AV} {v:AV} {H:List aa} {K:AV→Prop} (hc:Pure P g xs v) (hk:K v):Aq ⟨P,lo⟩ st g xs H K:=
 ⟨v,(by cases st <;> first | exact ⟨xs,b8 _,hc H⟩ | exact fun H=>⟨xs,b8 _,hc H⟩),hk⟩
def qX (P:Px) (st:Bool) (f:AV) (xs:List AV) (H:List aa) (K:AV→Prop):Prop:=
 match f with
 | .fn (.func g) first cap=>Aq P st g (first.map AV.ab++xs++cap.map AV.ab) H K
 | _=>False
@[congr] theorem Qp {P:Px} {st:Bool} {f f':AV} {xs xs':List AV} {H:List aa} {K:AV→Prop} (h:gZ f=f') (h2:xs=xs'):qX P st f xs H K=qX P st f' xs' H K:=by subst h;subst h2;rfl
theorem JZ {P:Px} {st:Bool} (g:FuncId) (first cap xs:List AV) (H:List aa) (K:AV→Prop):qX P st (.fn (.func g) first cap) xs H K=Aq P st g (first.map AV.ab++xs++cap.map AV.ab) H K:=af4
def ja (x:AV) (H:List aa) (φ:AV→Prop):Prop:=match x with | .al _ xs=>φ (.int .i64 xs.length) | x=>fg x H φ
@[congr] theorem Su {x x':AV} {H:List aa} {φ:AV→Prop} (h:gZ x=x'):ja x H φ=ja x' H φ:=by subst h;rfl
theorem J0 {x:AV} {H:List aa} {φ:AV→Prop} (h:ja x H φ):∃ z,fg x H (fun w=>w=z)∧φ z:=by
 cases x with
 | al o xs=>exact ⟨_,fun _=>rfl,h⟩
 | map id=>
   simp only [ja,fg] at h ⊢
   split at h
   ·exact ⟨_,rfl,h⟩
   ·exact h.elim
 | _=>first | exact ⟨_,rfl,h⟩ | exact False.elim h
def pJ (kd:Nat) (neq:Bool) (x:AV) (φ:AV→Prop):Prop:=match isNil kd x with | some b=>φ (.bool (if neq then !b else b)) | none=>False
@[congr] theorem Ox {kd:Nat} {neq:Bool} {x x':AV} {φ:AV→Prop} (h:gZ x=x'):pJ kd neq x φ=pJ kd neq x' φ:=by subst h;rfl
def xI (o:cv) (ρ:IX→AV) (H:List aa) (K:AV→Prop):Prop:=
 match o with
 | .set i false=>K (ρ i).ab
 | .pick c a b=>gE (ρ c) (K (ρ a).ab) (K (ρ b).ab)
 | .bin op i j=>dt op (ρ i) (ρ j) K
 | .shift op i j=>eE op (ρ i) (ρ j) K
 | .jd neq i j=>dg neq (ρ i) (ρ j) K
 | .jZ kd neq i=>pJ kd neq (ρ i) K
 | .un op i=>Bl op (ρ i) K
 | .mR i=>(ρ i).val=true∧K (.ai (ρ i))
 | .build z ps=>cH z.cells (ps.map fun q=>(q.1,q.2.1,ρ q.2.2)) K
 | .buildSlice own esz z len ps=>bw (List.replicate len (a7 z)) esz (ps.map fun q=>(q.1,ρ q.2)) fun xs=>K (.al own xs)
 | .load sz i=>aV sz (ρ i) H K
 | .nilCheck i=>cj (ρ i) K
 | .fieldAddr off sz i=>ap off sz (ρ i) K
 | .field off sz i=>fz off sz (ρ i) K
 | .indexAddr esz i j=>(∀ own xs,ρ i=.al own xs→∀ z∈xs,z.cells.length=esz)∧aC esz (ρ i) (ρ j) K
 | .dw i j=>bQ (ρ i) (ρ j) K
 | .eC n i j=>ch n (ρ i) (ρ j) K
 | .slice esz i lo hi mx=>bA esz (ρ i) (lo.map ρ) (hi.map ρ) (mx.map ρ) K
 | .eD i lo hi=>cA (ρ i) (lo.map ρ) (hi.map ρ) K
 | .len kd i=>aO kd (ρ i)∧ja (ρ i) H K
 | .lookup kd z m k ok=>cF kd z (ρ m) (ρ k) ok H K
 | .fn f first cap=>K (.fn f (first.map fun x=>(ρ x).ab) (cap.map fun x=>(ρ x).ab))
 | .extract i k=>bM (ρ i) k K
 | .fm k i=>cN k (ρ i) K
 | .mx big i j=>yZ big (ρ i) (ρ j) K
 | _=>False
theorem D5 {P:Px} {o:cv} {ρ:IX→AV} {H:List aa} {K:AV→Prop} (h:xI o ρ H K):∃ x,dm P o ρ H x∧K x:=by
 unfold xI at h
 split at h
 ·exact ⟨_,rfl,h⟩
 ·unfold gE fy at h
  simp only [dm,fy]
  split at h
  ·rename_i b hb
   cases b with
   | true=>exact ⟨_,⟨fun _=>rfl,fun e=>by cases e⟩,h.1 rfl⟩
   | false=>exact ⟨_,⟨fun e=>(by cases e),fun _=>rfl⟩,h.2 rfl⟩
  ·exact h.elim
 ·exact Ma h
 ·exact Gp h
 ·exact D2 h
 ·unfold pJ at h
  split at h
  ·rename_i b hb
   refine ⟨_,?_,h⟩
   simp only [dm,dz,hb]
  ·exact h.elim
 ·exact Qh h
 ·exact ⟨_,⟨h.1,rfl⟩,h.2⟩
 ·exact An h
 ·exact vr h
 ·exact JY h
 ·exact zx h
 ·exact xG h
 ·exact Gq h
 ·obtain ⟨z,k1,k2⟩:=xH h.2
  exact ⟨z,⟨h.1,k1⟩,k2⟩
 ·exact zt h
 ·exact zw h
 ·exact D3 h
 ·exact zy h
 ·obtain ⟨z,k1,k2⟩:=J0 h.2
  exact ⟨z,⟨h.1,k1⟩,k2⟩
 ·exact D4 h
 ·exact ⟨_,rfl,h⟩
 ·exact B8 h
 ·exact B9 h
 ·exact Qi h
 ·exact h.elim
theorem J1 {P:Px} {o:cv} {ρ:IX→AV} {K:AV→Prop} (h:xI o ρ [] K):∃ x,(∀ H,dm P o ρ H x)∧K x:=by
 obtain ⟨x,h1,h2⟩:=D5 (P:=P) h
 have hs:o.stays=true:=by
  cases o <;> first | rfl | exact h.elim
 exact ⟨x,fun H=>by have:=Ab (e:=H) hs h1;simpa using this,h2⟩
def mP (P:Px) (st:Bool) (o:cv) (ρ:IX→AV) (H:List aa) (K:AV→Prop):Prop:=
 match o with
 | .call f args none=>qX P st (ρ f) (args.map fun x=>(ρ x).ab) H K
 | o=>xI o ρ (match st with | true=>H | false=>[]) K
theorem Mb {P:Px} {st:Bool} {o:cv} {ρ:IX→AV} {H:List aa} {K:AV→Prop} (h:mP P st o ρ H K):∃ x,dv P st o ρ H x∧K x:=by
 unfold mP at h
 split at h
 ·rename_i f args
  unfold qX at h
  split at h
  ·rename_i g first cap e
   obtain ⟨x,h1,h2⟩:=h
   cases st with
   | true=>exact ⟨x,by simp only [dv,dm,e];exact h1,h2⟩
   | false=>exact ⟨x,by simp only [dv,dm,e];exact h1,h2⟩
  ·exact h.elim
 ·cases st with
  | true=>exact D5 h
  | false=>exact J1 h
def Iu (P:Px) (st:Bool) (o:bJ) (env:Env) (H:List aa) (K:Env→Prop):Prop:=
 match o.g with
 | none=>mP P st o.op (aq env) H fun x=>K (put o.dst x env)
 | some (g,want)=>ee (get env g) g want env (fun _=>mP P st o.op (aq env) H fun x=>K (put o.dst x env)) (fun _=>K (put o.dst (.tuple []) env))
theorem D6 {P:Px} {st:Bool} {o:bJ} {env:Env} {H:List aa} {K1 K2:Env→Prop} (h:Iu P st o env H K1) (hK:∀ e,K1 e→K2 e):uT P st o env H K2:=by
 unfold Iu at h
 unfold uT
 split at h
 ·rename_i e
  rw [e]
  obtain ⟨x,h1,h2⟩:=Mb h
  exact ⟨x,h1,hK _ h2⟩
 ·rename_i g want e
  rw [e]
  unfold ee at h
  unfold jg
  dsimp only
  split at h
  ·rename_i b hb
   rw [hb]
   refine ⟨fun eb=>?_,fun eb=>hK _ (h.2 eb)⟩
   obtain ⟨x,h1,h2⟩:=Mb (h.1 eb)
   exact ⟨x,h1,hK _ h2⟩
  ·rename_i hb
   rw [hb]
   exact hK _ h
  ·exact h.elim
theorem D7 {P:Px} {o:cv} {dst:Option Nat} {env:Env} {H:List aa} {K1 K2:Env→List aa→Prop} (h:bC P o dst env H K1) (hK:∀ e H',K1 e H'→K2 e H'):bC P o dst env H K2:=
 py (fun _ _=>rfl) h fun mods H' _ _ _ hk=>hK _ _ hk
theorem tU {P:Px} {o:bJ} {env:Env} {H:List aa} {K1 K2:Env→List aa→Prop} (h:tD P o env H K1) (hK:∀ e H',K1 e H'→K2 e H'):tD P o env H K2:=by
 unfold tD at *
 split at h
 ·exact D7 h hK
 ·rename_i g want e
  unfold jg at *
  split at h
  ·exact ⟨fun eb=>D7 (h.1 eb) hK,fun eb=>hK _ _ (h.2 eb)⟩
  ·exact hK _ _ h
  ·exact h.elim
theorem tV {P:Px}:∀ {ops:List bJ} {env:Env} {H:List aa} {K1 K2:Env→List aa→Prop},kg P ops env H K1→(∀ e H',K1 e H'→K2 e H')→kg P ops env H K2
 | [],_,_,_,_,h,hK=>hK _ _ h
 | o::r,_,_,_,_,h,hK=>tU h fun _ _ h=>tV h hK
def jV (P:Px):DT→Env→List aa→(Env→List aa→Prop)→Prop
 | .done,env,H,K=>K env H
 | .take st o r,env,H,K=>Iu P st o env H fun env=>jV P r env H K
 | .br o t rest,env,H,K=>tD P o env H (fun env H=>jV P t env H K)∧jV P rest env H K
 | .nil,_,_,_=>True
theorem sx {P:Px}:∀ {t:DT} {env:Env} {H:List aa} {K1 K2:Env→List aa→Prop},jV P t env H K1→(∀ e H',K1 e H'→K2 e H')→wg P t env H K2
 | .done,_,_,_,_,h,hK=>hK _ _ h
 | .take st o r,_,_,_,_,h,hK=>D6 h fun _ h=>sx h hK
 | .br o t rest,_,_,_,_,h,hK=>⟨tU h.1 fun _ _ h=>sx h hK,sx h.2 hK⟩
 | .nil,_,_,_,_,h,hK=>trivial
def xJ (P:Px) (f:AV) (lc:ju) (env:Env) (H:List aa) (K:Option Code→List aa→Prop):Prop:=
 match f with
 | .fn (.func g) first cap=>(∀ (as:Array Value) (w:World),(callFunc g as).run P.prog w=.ok (.enter g as) w)∧
    ∃ bZ,z5 (first.map AV.ab++[.ou H.length]++cap.map AV.ab) bZ∧dO P g bZ (H++[.loop .ready lc (lQ lc.n env)]) fun _ H'=>behind H.length H' K
 | _=>False
theorem Ar {j:Option Code} {Q1 Q2:Exit→Env→List aa→Prop} {env:Env} {H:List aa} (h:qL j Q1 env H) (hQ:∀ x e H',Q1 x e H'→Q2 x e H'):qL j Q2 env H:=by
 unfold qL at *
 split at h <;> first | exact hQ _ _ _ h | exact h.elim
theorem vt {id:Nat} {H:List aa} {K1 K2:Option Code→List aa→Prop} (h:behind id H K1) (hK:∀ j H',K1 j H'→K2 j H'):behind id H K2:=by
 unfold behind at *
 split at h <;> first | exact hK _ _ h | exact h.elim
def mv (P:Px) (n0:Nat):IR→Env→List aa→(Exit→Env→List aa→Prop)→Prop
 | .skip,env,H,Q=>Q .normal env H
 | .region ops live,env,H,Q=>kg P ops env H fun aL H'=>Q .normal (eZ live aL) H'
 | .draw t live,env,H,Q=>jV P t env H fun aL H'=>Q .normal (eZ live aL) H'
 | .seq a b,env,H,Q=>mv P n0 a env H fun e aL H'=>match e with
   | .normal=>mv P n0 b aL H' Q
   | e=>Q e aL H'
 | .cond x a b,env,H,Q=>gE (aq env x) (mv P n0 a env H Q) (mv P n0 b env H Q)
 | .block id a,env,H,Q=>mv P n0 a env H fun e aL H'=>match e with
   | .exit id'=>if id'=id then Q .normal aL H' else Q (.exit id') aL H'
   | e=>Q e aL H'
 | .loop a,env,H,Q=>∃ (ι:Type) (I:ι→Prop) (se:ι→Env) (sh:ι→List aa) (μ:ι→Nat),(∃ i,I i∧Jw P.lo n0 env H (se i) (sh i))∧
    ∀ i,I i→mv P n0 a (se i) (sh i) fun e aL H'=>match e with
     | .normal=>∃ j,I j∧μ j < μ i∧Jw P.lo n0 aL H' (se j) (sh j)
     | e=>Q e aL H'
 | .exit id,env,H,Q=>Q (.exit id) env H
 | .ret,env,H,Q=>Q .ret env H
 | .never,env,H,Q=>False
 | .jS f lc,env,H,Q=>xJ P (aq env f) lc env H fun j H''=>qL j Q env H''
theorem sy {P:Px} {n0:Nat}:∀ {ir:IR} {env:Env} {H:List aa} {Q1 Q2:Exit→Env→List aa→Prop},mv P n0 ir env H Q1→(∀ x e H',Q1 x e H'→Q2 x e H')→mO P n0 ir env H Q2:=by
 intro ir
 induction ir with
 | skip=>exact fun h hQ=>hQ _ _ _ h
 | region ops live=>exact fun h hQ=>tV h fun _ _ h=>hQ _ _ _ h
 | draw t live=>exact fun h hQ=>sx h fun _ _ h=>hQ _ _ _ h
 | seq a b Gu U1=>
   exact fun h hQ=>Gu h fun x e H' h=>by
    cases x with
    | normal=>exact U1 h hQ
    | _=>exact hQ _ _ _ h
 | cond x a b Gu U1=>
   intro env H Q1 Q2 h hQ
   unfold mv gE fy at h
   unfold mO fy
   split at h
   ·exact ⟨fun e=>Gu (h.1 e) hQ,fun e=>U1 (h.2 e) hQ⟩
   ·exact h.elim
 | block id a Gu=>
   exact fun h hQ=>Gu h fun x e H' h=>by
    cases x with
    | exit id'=>
      dsimp only at h ⊢
      split
      ·rename_i bn;rw [if_pos bn] at h;exact hQ _ _ _ h
      ·rename_i bn;rw [if_neg bn] at h;exact hQ _ _ _ h
    | _=>exact hQ _ _ _ h
 | loop a Gu=>
   intro env H Q1 Q2 h hQ
   obtain ⟨ι,I,se,sh,μ,h0,hs⟩:=h
   exact ⟨ι,I,se,sh,μ,h0,fun i hi=>Gu (hs i hi) fun x e H' h=>by
    cases x with
    | normal=>exact h
    | _=>exact hQ _ _ _ h⟩
 | exit id=>exact fun h hQ=>hQ _ _ _ h
 | ret=>exact fun h hQ=>hQ _ _ _ h
 | never=>exact fun h _=>h.elim
 | jS f lc=>
   intro env H Q1 Q2 h hQ
   unfold mv xJ at h
   unfold mO
   split at h
   ·rename_i g first cap e
    obtain ⟨h1,bZ,h2,h3⟩:=h
    rw [e]
    exact ⟨h1,bZ,h2,h3.mono fun _ H' hb=>vt hb fun j H'' hg=>Ar hg hQ⟩
   ·exact h.elim
theorem gD.calls {P:Program} {f:FuncId} {fi:qf} (h:gD P f fi) {args:List AV} {H:List aa} {R:AV→List aa→Prop} (hn:Nat.ble args.length fi.n=true)
 (hw:mv P H.length fi.ir (b7 0 args) H fun e env H'=>(e=.normal∨e=.ret)∧bV H.length fi.rs env H' R):ax P f args H R:=
 h.BY (adp hn) (sy hw fun _ _ _ h=>h)
theorem gD.xK {P:Program} {f:FuncId} {fi:qf} (h:gD P f fi) {args:List AV} {H:List aa} {R:AV→List aa→Prop} (hn:Nat.ble args.length fi.n=true)
 (hw:mv ⟨P,some H.length⟩ H.length fi.ir (b7 0 args) H fun e env H'=>(e=.normal∨e=.ret)∧jA (nT H.length) H.length fi.rs env H' R):ax P f args H R:=
 h.Pl (adp hn) (sy hw fun _ _ _ h=>h)
theorem gD.U2 {P:Program} {f:FuncId} {fi:qf} (h:gD P f fi) {args:List AV} {H:List aa} {R:AV→List aa→Prop} (hn:Nat.ble args.length fi.n=true)
 (hw:mv ⟨P,some H.length⟩ H.length fi.ir (b7 0 args) H fun e env H'=>(e=.normal∨e=.ret)∧jA (xn H.length) H.length fi.rs env H' R):jo P f args H R:=
 h.Pm (adp hn) (sy hw fun _ _ _ h=>h)
section
variable {P:Px} {n0:Nat} {env:Env} {H:List aa} {Q:Exit→Env→List aa→Prop}
theorem Mc:mv P n0 .skip env H Q=Q .normal env H:=af4
theorem Gv (ops:List bJ) (live:Option (List Nat)):mv P n0 (.region ops live) env H Q=kg P ops env H fun aL H'=>Q .normal (eZ live aL) H':=af4
theorem Md (t:DT) (live:Option (List Nat)):mv P n0 (.draw t live) env H Q=jV P t env H fun aL H'=>Q .normal (eZ live aL) H':=af4
theorem Qq (a b:IR):mv P n0 (.seq a b) env H Q=mv P n0 a env H fun e aL H'=>match e with
 | .normal=>mv P n0 b aL H' Q
 | e=>Q e aL H':=af4
theorem D8 (x:IX) (a b:IR):mv P n0 (.cond x a b) env H Q=gE (aq env x) (mv P n0 a env H Q) (mv P n0 b env H Q):=af4
theorem J2 (id:Nat) (a:IR):mv P n0 (.block id a) env H Q=mv P n0 a env H fun e aL H'=>match e with
 | .exit id'=>if id'=id then Q .normal aL H' else Q (.exit id') aL H'
 | e=>Q e aL H':=af4
theorem As (f:IX) (lc:ju):mv P n0 (.jS f lc) env H Q=xJ P (aq env f) lc env H fun j H''=>qL j Q env H'':=af4
theorem Me (id:Nat):mv P n0 (.exit id) env H Q=Q (.exit id) env H:=af4
theorem Qr:mv P n0 .ret env H Q=Q .ret env H:=af4
@[congr] theorem WU {ir:IR} {aL:Env} {H':List aa} (h:gZ env=aL) (h2:H=H'):mv P n0 ir env H Q=mv P n0 ir aL H' Q:=by subst h;subst h2;rfl
@[congr] theorem U4 {ops:List bJ} {aL:Env} {H':List aa} {K:Env→List aa→Prop} (h:gZ env=aL) (h2:H=H'):kg P ops env H K=kg P ops aL H' K:=by subst h;subst h2;rfl
@[congr] theorem U5 {t:DT} {aL:Env} {H':List aa} {K:Env→List aa→Prop} (h:gZ env=aL) (h2:H=H'):jV P t env H K=jV P t aL H' K:=by subst h;subst h2;rfl
theorem Mf (K:Env→List aa→Prop):kg P [] env H K=K env H:=af4
theorem U6 (d:Option Nat) (op:cv) (r:List bJ) (K:Env→List aa→Prop):kg P (⟨none,d,op⟩::r) env H K=bC P op d env H fun env H=>kg P r env H K:=af4
theorem U7 (g:Nat) (w:Bool) (d:Option Nat) (op:cv) (r:List bJ) (K:Env→List aa→Prop):kg P (⟨some (g,w),d,op⟩::r) env H K =
 ee (get env g) g w env (fun env=>bC P op d env H fun env H=>kg P r env H K) (fun env=>kg P r (put d (.tuple []) env) H K):=af4
theorem Zt (d:Option Nat) (op:cv) (K:Env→List aa→Prop):tD P ⟨none,d,op⟩ env H K=bC P op d env H K:=af4
theorem Zu (g:Nat) (w:Bool) (d:Option Nat) (op:cv) (K:Env→List aa→Prop):tD P ⟨some (g,w),d,op⟩ env H K =
 ee (get env g) g w env (fun env=>bC P op d env H K) (fun env=>K (put d (.tuple []) env) H):=af4
@[congr] theorem WV {o:bJ} {K:Env→List aa→Prop} {H':List aa} (h:gZ H=H'):tD P o env H K=tD P o env H' K:=by subst h;rfl
@[congr] theorem WW {o:cv} {d:Option Nat} {K:Env→List aa→Prop} {H':List aa} (h:gZ H=H'):bC P o d env H K=bC P o d env H' K:=by subst h;rfl
theorem J3 (K:Env→List aa→Prop):jV P .done env H K=K env H:=af4
theorem Mg (K:Env→List aa→Prop):jV P .nil env H K=True:=af4
theorem U8 (st:Bool) (d:Option Nat) (op:cv) (r:DT) (K:Env→List aa→Prop):jV P (.take st ⟨none,d,op⟩ r) env H K=mP P st op (aq env) H fun x=>jV P r (put d x env) H K:=af4
theorem U9 (st:Bool) (g:Nat) (w:Bool) (d:Option Nat) (op:cv) (r:DT) (K:Env→List aa→Prop):jV P (.take st ⟨some (g,w),d,op⟩ r) env H K =
 ee (get env g) g w env (fun _=>mP P st op (aq env) H fun x=>jV P r (put d x env) H K) (fun _=>jV P r (put d (.tuple []) env) H K):=af4
theorem Qs (o:bJ) (t rest:DT) (K:Env→List aa→Prop):jV P (.br o t rest) env H K=(tD P o env H (fun env H=>jV P t env H K)∧jV P rest env H K):=af4
@[congr] theorem WX {st:Bool} {o:cv} {ρ:IX→AV} {K:AV→Prop} {H':List aa} (h:gZ H=H'):mP P st o ρ H K=mP P st o ρ H' K:=by subst h;rfl
theorem Mh {P:Program} {a:IR} (ι:Type) (I:ι→Prop) (se:ι→Env) (sh:ι→List aa) (μ:ι→Nat) (i0:ι) (h0:I i0) (hs0:sle n0 env H (se i0) (sh i0))
 (hs:∀ i,I i→mv P n0 a (se i) (sh i) fun e aL H'=>match e with
   | .normal=>∃ j,I j∧μ j < μ i∧sle n0 aL H' (se j) (sh j)
   | e=>Q e aL H'):mv P n0 (.loop a) env H Q:=⟨ι,I,se,sh,μ,⟨i0,h0,hs0⟩,hs⟩
theorem aD {P:Program} {a:IR} (N:Nat) (I:Nat→Prop) (se:Nat→Env) (sh:Nat→List aa) (h0:I 0∧sle n0 env H (se 0) (sh 0))
 (hs:∀ i,i≤N→I i→mv P n0 a (se i) (sh i) fun e aL H'=>match e with
   | .normal=>∃ j,(j≤N∧I j)∧N - j < N - i∧sle n0 aL H' (se j) (sh j)
   | e=>Q e aL H'):mv P n0 (.loop a) env H Q:=
 ⟨Nat,fun i=>i≤N∧I i,se,sh,fun i=>N - i,⟨0,⟨acA _,h0.1⟩,h0.2⟩,fun i hi=>hs i hi.1 hi.2⟩
end
section
variable {φ:AV→Prop}
@[congr] theorem Sv {v v':AV} {ψ:Bool→Prop} (h:gZ v=v'):fy v ψ=fy v' ψ:=by subst h;rfl
@[congr] theorem Vb {op:BinOp} {x x' y y':AV} (h:gZ x=x') (h2:y=y'):dt op x y φ=dt op x' y' φ:=by subst h;subst h2;rfl
@[congr] theorem Qt {op:BinOp} {x x' y y':AV} (h:gZ x=x') (h2:y=y'):eE op x y φ=eE op x' y' φ:=by subst h;subst h2;rfl
@[congr] theorem Oy {n:Bool} {x x' y y':AV} (h:gZ x=x') (h2:y=y'):dg n x y φ=dg n x' y' φ:=by subst h;subst h2;rfl
@[congr] theorem Qu {k:Nat} {n:Bool} {x x':AV} (h:gZ x=x'):dz k n x φ=dz k n x' φ:=by subst h;rfl
@[congr] theorem WY {op:UnOp} {x x':AV} (h:gZ x=x'):Bl op x φ=Bl op x' φ:=by subst h;rfl
@[congr] theorem Sw {sz:Option Nat} {x x':AV} {H H':List aa} (h:gZ x=x') (h2:H=H'):aV sz x H φ=aV sz x' H' φ:=by subst h;subst h2;rfl
@[congr] theorem J4 {off:Nat} {sz:Option Nat} {x x':AV} (h:gZ x=x'):ap off sz x φ=ap off sz x' φ:=by subst h;rfl
@[congr] theorem Qv {off:Nat} {sz:Option Nat} {x x':AV} (h:gZ x=x'):fz off sz x φ=fz off sz x' φ:=by subst h;rfl
@[congr] theorem J5 {e:Nat} {x x' y y':AV} (h:gZ x=x') (h2:y=y'):aC e x y φ=aC e x' y' φ:=by subst h;subst h2;rfl
@[congr] theorem KR {n:Nat} {x x' y y':AV} (h:gZ x=x') (h2:y=y'):ch n x y φ=ch n x' y' φ:=by subst h;subst h2;rfl
@[congr] theorem KS {x x' y y':AV} (h:gZ x=x') (h2:y=y'):bQ x y φ=bQ x' y' φ:=by subst h;subst h2;rfl
@[congr] theorem Vc {x x':AV} {H H':List aa} (h:gZ x=x') (h2:H=H'):fg x H φ=fg x' H' φ:=by subst h;subst h2;rfl
@[congr] theorem Mi {x x':AV} {i:Nat} (h:gZ x=x'):bM x i φ=bM x' i φ:=by subst h;rfl
@[congr] theorem KT {x x':AV} (h:gZ x=x'):cj x φ=cj x' φ:=by subst h;rfl
@[congr] theorem Mj {k:IntKind} {x x':AV} (h:gZ x=x'):cN k x φ=cN k x' φ:=by subst h;rfl
@[congr] theorem WZ {b:Bool} {x x' y y':AV} (h:gZ x=x') (h2:y=y'):yZ b x y φ=yZ b x' y' φ:=by subst h;subst h2;rfl
@[congr] theorem Oz {kd:Nat} {z m m' k k':AV} {ok:Bool} {H H':List aa} (h:gZ m=m') (h2:k=k') (h3:H=H'):cF kd z m k ok H φ=cF kd z m' k' ok H' φ:=by subst h;subst h2;subst h3;rfl
@[congr] theorem OA {kd:Nat} {m m' k k' x x':AV} {H H':List aa} {K:List aa→Prop} (h:gZ m=m') (h2:k=k') (h3:x=x') (h4:H=H'):fU kd m k x H K=fU kd m' k' x' H' K:=by subst h;subst h2;subst h3;subst h4;rfl
@[congr] theorem Qw {m:Nat} {p p' x x':AV} {H H':List aa} {K:List aa→Prop} (h:gZ p=p') (h2:x=x') (h3:H=H'):jf m p x H K=jf m p' x' H' K:=by subst h;subst h2;subst h3;rfl
@[congr] theorem Mk {p p' x x':AV} {H H':List aa} {K:List aa→Prop} (h:gZ p=p') (h2:x=x') (h3:H=H'):eF p x H K=eF p' x' H' K:=by subst h;subst h2;subst h3;rfl
@[congr] theorem OB {e b:Nat} {s s' x x':AV} {ψ:List AV→Prop} (h:gZ s=s') (h2:x=x'):bF e b s x ψ=bF e b s' x' ψ:=by subst h;subst h2;rfl
@[congr] theorem Qx {e b:Nat} {z n n':AV} {H H':List aa} {K:AV→List aa→Prop} (h:gZ n=n') (h2:H=H'):fC e b z n H K=fC e b z n' H' K:=by subst h;subst h2;rfl
@[congr] theorem Ml {e b:Nat} {z s s' x x':AV} {H H':List aa} {K:AV→List aa→Prop} (h:gZ s=s') (h2:x=x') (h3:H=H'):da e b z s x H K=da e b z s' x' H' K:=by subst h;subst h2;subst h3;rfl
@[congr] theorem Mm {lo e b:Nat} {z s s' x x':AV} {H H':List aa} {K:AV→List aa→Prop} (h:gZ s=s') (h2:x=x') (h3:H=H'):fH lo e b z s x H K=fH lo e b z s' x' H' K:=by subst h;subst h2;subst h3;rfl
@[congr] theorem OC {e:Nat} {z x x':AV} {H H':List aa} {K:List aa→Prop} (h:gZ x=x') (h2:H=H'):jn e z x H K=jn e z x' H' K:=by subst h;subst h2;rfl
@[congr] theorem Sx {xs xs':List AV} {H H':List aa} {K:AV→List aa→Prop} (h:gZ xs=xs') (h2:H=H'):uP xs H K=uP xs' H' K:=by subst h;subst h2;rfl
@[congr] theorem Qy {e b:Nat} {n n':AV} (h:gZ n=n'):jQ e b n φ=jQ e b n' φ:=by subst h;rfl
@[congr] theorem Sy {e:Nat} {d d' s s':AV} {H H':List aa} {K:AV→List aa→Prop} (h:gZ d=d') (h2:s=s') (h3:H=H'):kF e d s H K=kF e d' s' H' K:=by subst h;subst h2;subst h3;rfl
@[congr] theorem Sz {e:Nat} {x x':AV} {H H':List aa} {K:AV→List aa→Prop} (h:gZ x=x') (h2:H=H'):fY e x H K=fY e x' H' K:=by subst h;subst h2;rfl
@[congr] theorem OD {e:Nat} {x x':AV} {lo lo' hi k9 m m':Option AV} (h:gZ x=x') (h1:lo=lo') (h2:hi=k9) (h3:m=m'):bA e x lo hi m φ=bA e x' lo' k9 m' φ:=by subst h;subst h1;subst h2;subst h3;rfl
@[congr] theorem KU {x x':AV} {lo lo' hi k9:Option AV} (h:gZ x=x') (h1:lo=lo') (h2:hi=k9):cA x lo hi φ=cA x lo' k9 φ:=by subst h;subst h1;subst h2;rfl
@[congr] theorem Vd {n0:Nat} {rs:List RX} {env aL:Env} {H H':List aa} {R:AV→List aa→Prop} (h:gZ env=aL) (h2:H=H'):bV n0 rs env H R=bV n0 rs aL H' R:=by subst h;subst h2;rfl
end
end Go.aK
end
section
namespace Go.aK
open Go
section
variable {P:Px} {env:Env} {H:List aa} {dst:Option Nat} {K:Env→List aa→Prop}
theorem Ve (op:BinOp) (x:IX) (y:IX):bC P (.bin op x y) dst env H K=(dt op (aq env x) (aq env y) fun z=>K (put dst z env) H):=af4
theorem Mn (op:BinOp) (x:IX) (y:IX):bC P (.shift op x y) dst env H K=(eE op (aq env x) (aq env y) fun z=>K (put dst z env) H):=af4
theorem J6 (neq:Bool) (x:IX) (y:IX):bC P (.jd neq x y) dst env H K=(dg neq (aq env x) (aq env y) fun z=>K (put dst z env) H):=af4
theorem Mo (kd:Nat) (neq:Bool) (x:IX):bC P (.jZ kd neq x) dst env H K=(dz kd neq (aq env x) fun z=>K (put dst z env) H):=af4
theorem Zv (op:UnOp) (x:IX):bC P (.un op x) dst env H K=(Bl op (aq env x) fun z=>K (put dst z env) H):=af4
theorem Vf (x:IX):bC P (.box x) dst env H K=((aq env x).val=true∧aj (H.length + 1) ((aq env x).cells.map AV.ab)=true∧K (put dst (.ptr H.length 0) env) (H++[.cells ((aq env x).cells.map AV.ab)])):=af4
theorem Qz (x:IX):bC P (.mR x) dst env H K=((aq env x).val=true∧K (put dst (.ai (aq env x)) env) H):=af4
theorem QA (m:Nat) (x:IX):bC P (.tn m x) dst env H K=((aq env x).val=true∧(aq env x).cells.length=m∧(aq env x).cells.all AV.one=true∧K (put dst (.ai (aq env x)) env) H):=af4
theorem Mq (z:AV):bC P (.alloc z) dst env H K=(aj (H.length + 1) (z.cells.map AV.ab)=true∧K (put dst (.ptr H.length 0) env) (H++[.cells (z.cells.map AV.ab)])):=af4
theorem Mr (z:AV) (ps:List (Nat×Nat×IX)):bC P (.build z ps) dst env H K=(cH z.cells (ps.map fun q=>(q.1,q.2.1,aq env q.2.2)) fun v=>K (put dst v env) H):=af4
theorem zz (own:Nat) (esz:Nat) (z:AV) (len:Nat) (ps:List (Nat×IX)):bC P (.buildSlice own esz z len ps) dst env H K=(bw (List.replicate len (a7 z)) esz (ps.map fun q=>(q.1,aq env q.2)) fun xs=>K (put dst (.al own xs) env) H):=af4
theorem QB (sz:Option Nat) (a:IX):bC P (.load sz a) dst env H K=(aV sz (aq env a) H fun z=>K (put dst z env) H):=af4
theorem Ms (sz:Option Nat) (esz:Nat) (a:IX):bC P (.uH sz esz a) dst env H K=(aV sz (aq env a) H fun z=>fY esz z H fun y H'=>K (put dst y env) H'):=af4
theorem Mt (m:Nat) (a:IX) (x:IX):bC P (.store m a x) dst env H K=(jf m (aq env a) (aq env x) H fun H'=>K env H'):=af4
theorem J7 {P:Program} {l:Nat} (m:Nat) (a:IX) (x:IX):bC ⟨P,some l⟩ (.oz m a x) dst env H K=(iD l m (aq env a) (aq env x) H fun H'=>K env H'):=af4
theorem xL {P:Program} {l:Nat} (esz bytes:Nat) (z:AV) (s x:IX):bC ⟨P,some l⟩ (.j5 esz bytes z s x) dst env H K=(fH l esz bytes z (aq env s) (aq env x) H fun v H'=>K (put dst v env) H'):=af4
theorem Gw (a:IX) (s:Nat):bC P (.fR a s) dst env H K=(eF (aq env a) (get env s) H fun H'=>K ((s,(get env s).ab)::env) H'):=af4
theorem D9 (x:IX):bC P (.nilCheck x) dst env H K=(cj (aq env x) fun z=>K (put dst z env) H):=af4
theorem Ca (off:Nat) (sz:Option Nat) (x:IX):bC P (.fieldAddr off sz x) dst env H K=(ap off sz (aq env x) fun z=>K (put dst z env) H):=af4
theorem Mv (off:Nat) (sz:Option Nat) (x:IX):bC P (.field off sz x) dst env H K=(fz off sz (aq env x) fun z=>K (put dst z env) H):=af4
theorem Cb (esz:Nat) (x:IX) (i:IX):bC P (.indexAddr esz x i) dst env H K=((∀ own xs,aq env x=.al own xs→∀ z∈xs,z.cells.length=esz)∧aC esz (aq env x) (aq env i) fun z=>K (put dst z env) H):=af4
theorem Ea (n:Nat) (x:IX) (i:IX):bC P (.eC n x i) dst env H K=(ch n (aq env x) (aq env i) fun z=>K (put dst z env) H):=af4
theorem J8 (esz:Nat) (x:IX) (lo:Option IX) (hi:Option IX) (mx:Option IX):bC P (.qI esz x lo hi mx) dst env H K=((∀ own xs,aq env x=.al own xs→∀ z∈xs,z.cells.length=esz)∧fD esz (aq env x) (gQ env lo) (gQ env hi) (gQ env mx) fun z=>z=.al esz []∧K (put dst .om env) H):=af4
theorem Eb (x:IX) (i:IX):bC P (.dw x i) dst env H K=(bQ (aq env x) (aq env i) fun z=>K (put dst z env) H):=af4
theorem Mw (esz:Nat) (x:IX) (lo:Option IX) (hi:Option IX) (mx:Option IX):bC P (.slice esz x lo hi mx) dst env H K=(bA esz (aq env x) (gQ env lo) (gQ env hi) (gQ env mx) fun z=>K (put dst z env) H):=af4
theorem QC (esz:Nat) (d:IX) (s:IX):bC P (.copy esz d s) dst env H K=(kF esz (aq env d) (aq env s) H fun z H'=>K (put dst z env) H'):=af4
theorem Ec (x:IX) (lo:Option IX) (hi:Option IX):bC P (.eD x lo hi) dst env H K=(cA (aq env x) (gQ env lo) (gQ env hi) fun z=>K (put dst z env) H):=af4
theorem Vg (kd:Nat) (x:IX):bC P (.len kd x) dst env H K=(aO kd (aq env x)∧fg (aq env x) H fun z=>K (put dst z env) H):=af4
theorem J9 (esz:Nat) (bytes:Nat) (s:IX) (x:IX):bC P (.append esz bytes s x) dst env H K=(bF esz bytes (aq env s) (aq env x) fun zs=>K (put dst (.al esz zs) (cQ env s.slot)) H):=af4
theorem Mx (esz:Nat) (bytes:Nat) (z:AV) (n:IX):bC P (.uI esz bytes z n) dst env H K=(fC esz bytes z (aq env n) H fun v H'=>K (put dst v env) H'):=af4
theorem wB (esz:Nat) (z:AV) (len:Nat) (ps:List (Nat×IX)):bC P (.C6 esz z len ps) dst env H K=(bw (List.replicate len (a7 z)) esz (ps.map fun q=>(q.1,aq env q.2)) fun xs=>uP xs H fun v H'=>K (put dst v env) H'):=af4
theorem Ka (esz:Nat) (z:AV) (x:IX):bC P (.oC esz z x) dst env H K=(jn esz z (aq env x) H fun H'=>K (put dst (.tuple []) env) H'):=af4
theorem Gx (esz bytes:Nat) (z:AV) (s x:IX):bC P (.j4 esz bytes z s x) dst env H K=(da esz bytes z (aq env s) (aq env x) H fun v H'=>K (put dst v env) H'):=af4
theorem My (esz:Nat) (bytes:Nat) (n:IX):bC P (.oA esz bytes n) dst env H K=(jQ esz bytes (aq env n) fun v=>K (put dst v env) H):=af4
theorem Mz :bC P (.oB ) dst env H K=(K (put dst (.map H.length) env) (H++[.map []])):=af4
theorem Kb (kd:Nat) (z:AV) (m:IX) (k:IX) (ok:Bool):bC P (.lookup kd z m k ok) dst env H K=(cF kd z (aq env m) (aq env k) ok H fun v=>K (put dst v env) H):=af4
theorem Kc (kd:Nat) (m:IX) (k:IX) (x:IX):bC P (.lJ kd m k x) dst env H K=(fU kd (aq env m) (aq env k) (aq env x) H fun H'=>K env H'):=af4
theorem Zw (f:Fn) (first:List IX) (cap:List IX):bC P (.fn f first cap) dst env H K=(K (put dst (.fn f (first.map fun x=>(aq env x).ab) (cap.map fun x=>(aq env x).ab)) env) H):=af4
theorem Gy (x:IX) (i:Nat):bC P (.extract x i) dst env H K=(bM (aq env x) i fun z=>K (put dst z env) H):=af4
theorem Gz (k:IntKind) (x:IX):bC P (.fm k x) dst env H K=(cN k (aq env x) fun z=>K (put dst z env) H):=af4
theorem GA (x:IX):bC P (.iA x) dst env H K=(gv (aq env x) fun z=>K (put dst z env) H):=af4
theorem GB (x:IX):bC P (.bytesOf x) dst env H K=(fF 1 (aq env x) fun z=>K (put dst z env) H):=af4
theorem MA (x:IX):bC P (.strOf x) dst env H K=(kD (aq env x) fun z=>K (put dst z env) H):=af4
theorem Zx (big:Bool) (a:IX) (b:IX):bC P (.mx big a b) dst env H K=(yZ big (aq env a) (aq env b) fun z=>K (put dst z env) H):=af4
theorem QD (esz:Nat) (x:IX):bC P (.Bj esz x) dst env H K=(fY esz (aq env x) H fun z H'=>K (put dst z env) H'):=af4
theorem MB (x:IX) (take:Bool):bC P (.set x take) none env H K=K env H:=af4
theorem Vh (d:Nat) (x:IX):bC P (.set x false) (some d) env H K=K ((d,(aq env x).ab)::env) H:=by cases x <;> rfl
theorem QE (d s:Nat):bC P (.set (.t s) true) (some d) env H K=K ((d,get env s)::(s,(get env s).ab)::env) H:=af4
theorem MC (d:Nat) (v:AV):bC P (.set (.c v) true) (some d) env H K=K ((d,v.ab)::env) H:=af4
theorem QF (c a b:IX):bC P (.pick c a b) dst env H K=gE (aq env c) (K (put dst (aq env a).ab env) H) (K (put dst (aq env b).ab env) H):=af4
theorem QG (f:IX) (args:List IX) (pass:Option Nat):bC P (.call f args pass) dst env H K=qo P (aq env f) args pass env H (fun r aL H'=>K (put dst r aL) H'):=af4
end
section
variable {P:Px} {st:Bool} {ρ:IX→AV} {H:List aa} {K:AV→Prop}
theorem Vi (i:IX):mP P st (.set i false) ρ H K=K (ρ i).ab:=by cases st <;> rfl
theorem QH (c:IX) (a:IX) (b:IX):mP P st (.pick c a b) ρ H K=(gE (ρ c) (K (ρ a).ab) (K (ρ b).ab)):=af4
theorem Vj (op:BinOp) (i:IX) (j:IX):mP P st (.bin op i j) ρ H K=(dt op (ρ i) (ρ j) K):=af4
theorem MD (op:BinOp) (i:IX) (j:IX):mP P st (.shift op i j) ρ H K=(eE op (ρ i) (ρ j) K):=af4
theorem Kd (neq:Bool) (i:IX) (j:IX):mP P st (.jd neq i j) ρ H K=(dg neq (ρ i) (ρ j) K):=af4
theorem ME (kd:Nat) (neq:Bool) (i:IX):mP P st (.jZ kd neq i) ρ H K=(pJ kd neq (ρ i) K):=af4
theorem Zy (op:UnOp) (i:IX):mP P st (.un op i) ρ H K=(Bl op (ρ i) K):=af4
theorem QI (i:IX):mP P st (.mR i) ρ H K=((ρ i).val=true∧K (.ai (ρ i))):=af4
theorem MF (z:AV) (ps:List (Nat×Nat×IX)):mP P st (.build z ps) ρ H K=(cH z.cells (ps.map fun q=>(q.1,q.2.1,ρ q.2.2)) K):=af4
theorem zA (own:Nat) (esz:Nat) (z:AV) (len:Nat) (ps:List (Nat×IX)):mP P st (.buildSlice own esz z len ps) ρ H K=(bw (List.replicate len (a7 z)) esz (ps.map fun q=>(q.1,ρ q.2)) fun xs=>K (.al own xs)):=af4
theorem Cc (sz:Option Nat) (i:IX):mP P true (.load sz i) ρ H K=(aV sz (ρ i) H K):=af4
theorem zB (sz:Option Nat) (i:IX):mP P false (.load sz i) ρ H K=(aV sz (ρ i) [] K):=af4
theorem Ed (i:IX):mP P st (.nilCheck i) ρ H K=(cj (ρ i) K):=af4
theorem Cd (off:Nat) (sz:Option Nat) (i:IX):mP P st (.fieldAddr off sz i) ρ H K=(ap off sz (ρ i) K):=af4
theorem MG (off:Nat) (sz:Option Nat) (i:IX):mP P st (.field off sz i) ρ H K=(fz off sz (ρ i) K):=af4
theorem Ce (esz:Nat) (i:IX) (j:IX):mP P st (.indexAddr esz i j) ρ H K=((∀ own xs,ρ i=.al own xs→∀ z∈xs,z.cells.length=esz)∧aC esz (ρ i) (ρ j) K):=af4
theorem Ee (n:Nat) (i:IX) (j:IX):mP P st (.eC n i j) ρ H K=(ch n (ρ i) (ρ j) K):=af4
theorem Ef (i:IX) (j:IX):mP P st (.dw i j) ρ H K=(bQ (ρ i) (ρ j) K):=af4
theorem MH (esz:Nat) (i:IX) (lo:Option IX) (hi:Option IX) (mx:Option IX):mP P st (.slice esz i lo hi mx) ρ H K=(bA esz (ρ i) (lo.map ρ) (hi.map ρ) (mx.map ρ) K):=af4
theorem Eg (i:IX) (lo:Option IX) (hi:Option IX):mP P st (.eD i lo hi) ρ H K=(cA (ρ i) (lo.map ρ) (hi.map ρ) K):=af4
theorem Eh (kd:Nat) (i:IX):mP P true (.len kd i) ρ H K=(aO kd (ρ i)∧ja (ρ i) H K):=af4
theorem Cf (kd:Nat) (i:IX):mP P false (.len kd i) ρ H K=(aO kd (ρ i)∧ja (ρ i) [] K):=af4
theorem xM (kd:Nat) (z:AV) (m:IX) (k:IX) (ok:Bool):mP P true (.lookup kd z m k ok) ρ H K=(cF kd z (ρ m) (ρ k) ok H K):=af4
theorem vU (kd:Nat) (z:AV) (m:IX) (k:IX) (ok:Bool):mP P false (.lookup kd z m k ok) ρ H K=(cF kd z (ρ m) (ρ k) ok [] K):=af4
theorem Zz (f:Fn) (first:List IX) (cap:List IX):mP P st (.fn f first cap) ρ H K=(K (.fn f (first.map fun x=>(ρ x).ab) (cap.map fun x=>(ρ x).ab))):=af4
theorem GC (i:IX) (k:Nat):mP P st (.extract i k) ρ H K=(bM (ρ i) k K):=af4
theorem GD (k:IntKind) (i:IX):mP P st (.fm k i) ρ H K=(cN k (ρ i) K):=af4
theorem ZA (big:Bool) (i:IX) (j:IX):mP P st (.mx big i j) ρ H K=(yZ big (ρ i) (ρ j) K):=af4
theorem QJ (f:IX) (args:List IX):mP P st (.call f args none) ρ H K=qX P st (ρ f) (args.map fun x=>(ρ x).ab) H K:=af4
end
theorem GF (env:Env):eZ none env=env:=af4
theorem Ke (env:Env):eZ (some []) env=[]:=af4
theorem GG (env:Env) (t:Nat) (l:List Nat):eZ (some (t::l)) env=(t,get env t)::eZ (some l) env:=af4
theorem GH (k:Nat):b7 k []=[]:=af4
theorem Ei (k:Nat) (x:AV) (xs:List AV):b7 k (x::xs)=(k,x)::b7 (k + 1) xs:=af4
theorem Vk (env:Env) (s:Nat):aq env (.t s)=get env s:=af4
theorem Vl (env:Env) (v:AV):aq env (.c v)=v:=af4
theorem mw (o:Nat) (xs:List AV) (H:List aa) (φ:AV→Prop):ja (.al o xs) H φ=φ (.int .i64 xs.length):=af4
theorem GI (H:List aa) (φ:AV→Prop):ja .ag H φ=φ (.int .i64 0):=af4
theorem Kf (s:ByteArray) (H:List aa) (φ:AV→Prop):ja (.str s) H φ=φ (.int .i64 s.size):=af4
theorem Kg (a b c d:Nat) (H:List aa) (φ:AV→Prop):ja (.aZ a b c d) H φ=φ (.int .i64 c):=af4
theorem MJ {α β:Type} (f:α→β):List.map f []=[]:=af4
theorem Kh {α β:Type} (f:α→β) (x:α) (xs:List α):List.map f (x::xs)=f x::List.map f xs:=af4
end Go.aK
end
section
namespace Go.aK
open Go
theorem ga0 (H e:List aa):(H++e)[H.length]?=e[0]?:=by
 rw [abt (rC _),adj]
theorem ga (H e:List aa) (i:Nat):(H++e)[H.length + i]?=e[i]?:=by
 rw [abt (Nat.le_add_right _ _),Nat.add_sub_cancel_left]
theorem sa0 (H e:List aa) (x:aa):(H++e).set H.length x=H++e.set 0 x:=by
 rw [adr _ _ (rC _),adj]
theorem sa (H e:List aa) (i:Nat) (x:aa):(H++e).set (H.length + i) x=H++e.set i x:=by
 rw [adr _ _ (Nat.le_add_right _ _),Nat.add_sub_cancel_left]
theorem acX (H e f:List aa):(H++e)++f=H++(e++f):=abb _ _ _
theorem Xp (H e:List aa):(H++e).length=H.length + e.length:=aaf
theorem g0 {α:Type} (x:α) (r:List α):(x::r)[0]?=some x:=by simp
theorem g1 {α:Type} (x y:α) (r:List α):(x::y::r)[1]?=some y:=by simp
theorem g2 {α:Type} (x y z:α) (r:List α):(x::y::z::r)[2]?=some z:=by simp
theorem s0 {α:Type} (x u:α) (r:List α):(x::r).set 0 u=u::r:=by simp
theorem s1 {α:Type} (x y u:α) (r:List α):(x::y::r).set 1 u=x::u::r:=by simp
theorem s2 {α:Type} (x y z u:α) (r:List α):(x::y::z::r).set 2 u=x::y::u::r:=by simp
theorem d0 {α:Type} (x d:α) (r:List α):(x::r).getD 0 d=x:=by simp
theorem d1 {α:Type} (x y d:α) (r:List α):(x::y::r).getD 1 d=y:=by simp
theorem d2 {α:Type} (x y z d:α) (r:List α):(x::y::z::r).getD 2 d=z:=by simp
theorem sp1 (x y:AV):ah [x] 0 [y]=[y]:=by simp [ah]
theorem GJ {x:AV} {H:List aa} {φ ψ:AV→Prop} (hm:∀ z,φ z→ψ z) (h:ja x H φ):ja x H ψ:=by
 unfold ja at *
 split at h
 ·exact hm _ h
 ·exact tI hm h
theorem GK {o:cv} {ρ:IX→AV} {H:List aa} {K K':AV→Prop} (h:xI o ρ H K) (hK:∀ x,K x→K' x):xI o ρ H K':=by
 unfold xI at *
 split at h
 ·exact hK _ h
 ·unfold gE fy at *
  split at h
  ·exact ⟨fun e=>hK _ (h.1 e),fun e=>hK _ (h.2 e)⟩
  ·exact h.elim
 ·exact tH hK h
 ·exact oM hK h
 ·exact nc hK h
 ·unfold pJ at *
  split at h
  ·exact hK _ h
  ·exact h.elim
 ·exact xi hK h
 ·exact ⟨h.1,hK _ h.2⟩
 ·exact nj (fun _ h=>hK _ h) h
 ·exact iG (fun _ h=>hK _ h) h
 ·exact kK hK h
 ·exact kN hK h
 ·exact jT hK h
 ·exact oN hK h
 ·exact ⟨h.1,jU hK h.2⟩
 ·exact kL hK h
 ·exact kM hK h
 ·exact ni hK h
 ·exact kO hK h
 ·exact ⟨h.1,GJ hK h.2⟩
 ·exact nh hK h
 ·exact hK _ h
 ·exact lR hK h
 ·exact lS hK h
 ·exact xj hK h
 ·exact h.elim
theorem dS {P:Px}:∀ {t:DT} {env:Env} {H:List aa} {K1 K2:Env→List aa→Prop},jV P t env H K1→(∀ e H',K1 e H'→K2 e H')→jV P t env H K2
 | .done,_,_,_,_,h,hK=>hK _ _ h
 | .take st o r,_,_,_,_,h,hK=>by
   unfold jV Iu at *
   have key:∀ {env:Env} {H:List aa} {K:AV→Prop} {K':AV→Prop},mP P st o.op (aq env) H K→(∀ x,K x→K' x)→mP P st o.op (aq env) H K':=by
    intro env H K K' h hK
    unfold mP at *
    split at h
    ·unfold qX at *
     split at h
     ·obtain ⟨x,h1,h2⟩:=h;exact ⟨x,h1,hK _ h2⟩
     ·exact h.elim
    ·exact GK h hK
   split at h
   ·exact key h fun _ h=>dS h hK
   ·unfold ee at *
    split at h
    ·exact ⟨fun e=>key (h.1 e) fun _ h=>dS h hK,fun e=>dS (h.2 e) hK⟩
    ·exact dS h hK
    ·exact h.elim
 | .br o t rest,_,_,_,_,h,hK=>⟨tU h.1 fun _ _ h=>dS h hK,dS h.2 hK⟩
 | .nil,_,_,_,_,h,hK=>trivial
theorem mA {P:Px} {n0:Nat}:∀ {ir:IR} {env:Env} {H:List aa} {Q1 Q2:Exit→Env→List aa→Prop},mv P n0 ir env H Q1→(∀ x e H',Q1 x e H'→Q2 x e H')→mv P n0 ir env H Q2:=by
 intro ir
 induction ir with
 | skip=>exact fun h hQ=>hQ _ _ _ h
 | region ops live=>exact fun h hQ=>tV h fun _ _ h=>hQ _ _ _ h
 | draw t live=>exact fun h hQ=>dS h fun _ _ h=>hQ _ _ _ h
 | seq a b Gu U1=>
   exact fun h hQ=>Gu h fun x e H' h=>by
    cases x with
    | normal=>exact U1 h hQ
    | _=>exact hQ _ _ _ h
 | cond x a b Gu U1=>
   intro env H Q1 Q2 h hQ
   rw [D8] at *
   unfold gE fy at *
   split at h
   ·exact ⟨fun e=>Gu (h.1 e) hQ,fun e=>U1 (h.2 e) hQ⟩
   ·exact h.elim
 | block id a Gu=>
   exact fun h hQ=>Gu h fun x e H' h=>by
    cases x with
    | exit id'=>
      dsimp only at h ⊢
      split
      ·rename_i bn;rw [if_pos bn] at h;exact hQ _ _ _ h
      ·rename_i bn;rw [if_neg bn] at h;exact hQ _ _ _ h
    | _=>exact hQ _ _ _ h
 | loop a Gu=>
   intro env H Q1 Q2 h hQ
   obtain ⟨ι,I,se,sh,μ,h0,hs⟩:=h
   exact ⟨ι,I,se,sh,μ,h0,fun i hi=>Gu (hs i hi) fun x e H' h=>by
    cases x with
    | normal=>exact h
    | _=>exact hQ _ _ _ h⟩
 | exit id=>exact fun h hQ=>hQ _ _ _ h
 | ret=>exact fun h hQ=>hQ _ _ _ h
 | never=>exact fun h _=>h.elim
 | jS f lc=>
   intro env H Q1 Q2 h hQ
   rw [As] at *
   unfold xJ at *
   split at h
   ·obtain ⟨h1,bZ,h2,h3⟩:=h
    exact ⟨h1,bZ,h2,h3.mono fun _ H' hb=>vt hb fun j H'' hg=>Ar hg hQ⟩
   ·exact h.elim
theorem acZ (a b y:AV):ah [a,b] 0 [y]=[y,b]:=by simp [ah]
theorem ac0 (a b y:AV):ah [a,b] 1 [y]=[a,y]:=by simp [ah]
theorem ac1 (a b c y:AV):ah [a,b,c] 0 [y]=[y,b,c]:=by simp [ah]
theorem ac2 (a b c y:AV):ah [a,b,c] 1 [y]=[a,y,c]:=by simp [ah]
theorem ac3 (a b c y:AV):ah [a,b,c] 2 [y]=[a,b,y]:=by simp [ah]
theorem ac4 (a b c x y z:AV):ah [a,b,c] 0 [x,y,z]=[x,y,z]:=by simp [ah]
theorem Vm (k k':IntKind) (a b:Int) (φ:AV→Prop):yZ true (.int k a) (.int k' b) φ=φ (.int k (max a b)):=by
 have:(if a < b then b else a)=max a b:=by rw [Int.max_def];split <;> split <;> omega
 simp [yZ,this]
theorem Vn (k k':IntKind) (a b:Int) (φ:AV→Prop):yZ false (.int k a) (.int k' b) φ=φ (.int k (min a b)):=by
 have:(if b < a then b else a)=min a b:=by rw [Int.min_def];split <;> split <;> omega
 simp [yZ,this]
def dd (o:Option aa) (sz:Option Nat) (off:Nat) (φ:AV→Prop):Prop:=
 match o with
 | some (.cells es)=>match sz with
   | some m=>off + m≤es.length∧φ (.agg (((es.drop off).take m).map AV.drop))
   | none=>off < es.length∧φ (es.getD off .any).ab
 | _=>False
@[congr] theorem SA {o o':Option aa} {sz:Option Nat} {off:Nat} {φ:AV→Prop} (h:gZ o=o'):dd o sz off φ=dd o' sz off φ:=by subst h;rfl
theorem MK (sz:Option Nat) (id off:Nat) (H:List aa) (φ:AV→Prop):aV sz (.ptr id off) H φ=dd H[id]? sz off φ:=by
 unfold aV dd;rfl
theorem QK (es:List AV) (off:Nat) (φ:AV→Prop):dd (some (.cells es)) none off φ=(off < es.length∧φ (es.getD off .any).ab):=af4
theorem Iv (a b c:AV) (φ:AV→Prop):dd (some (.cells [a,b,c])) (some 3) 0 φ=φ (.agg [a.drop,b.drop,c.drop]):=by simp [dd]
theorem QL (a b:AV) (φ:AV→Prop):dd (some (.cells [a,b])) (some 2) 0 φ=φ (.agg [a.drop,b.drop]):=by simp [dd]
def iJ (o:Option aa) (m id off:Nat) (x:AV) (H:List aa) (K:List aa→Prop):Prop:=
 match o with
 | some (.cells es)=>x.val=true∧x.cells.length=m∧off + m≤es.length∧x.cells.all AV.one=true∧aj (id + 1) (x.cells.map AV.ab)=true∧
    K (H.set id (.cells (ah es off (x.cells.map AV.ab))))
 | _=>False
@[congr] theorem QM {o o':Option aa} {m id off:Nat} {x:AV} {H:List aa} {K:List aa→Prop} (h:gZ o=o') {x':AV} (h2:x=x'):iJ o m id off x H K=iJ o' m id off x' H K:=by subst h;subst h2;rfl
theorem Ki (m id off:Nat) (x:AV) (H:List aa) (K:List aa→Prop):jf m (.ptr id off) x H K=iJ H[id]? m id off x H K:=by
 unfold jf iJ;rfl
theorem xN (es:List AV) (m id off:Nat) (x:AV) (H:List aa) (K:List aa→Prop):iJ (some (.cells es)) m id off x H K=(x.val=true∧x.cells.length=m∧off + m≤es.length∧x.cells.all AV.one=true∧aj (id + 1) (x.cells.map AV.ab)=true∧
 K (H.set id (.cells (ah es off (x.cells.map AV.ab))))):=af4
def sA (o:Option aa) (l m id off:Nat) (x:AV) (H:List aa) (K:List aa→Prop):Prop:=
 match o with
 | some (.cells es)=>l≤id∧x.val=true∧x.cells.length=m∧off + m≤es.length∧x.cells.all AV.one=true∧aj H.length (x.cells.map AV.ab)=true∧
    K (H.set id (.cells (ah es off (x.cells.map AV.ab))))
 | _=>False
@[congr] theorem OE {o o':Option aa} {l m id off:Nat} {x:AV} {H:List aa} {K:List aa→Prop} (h:gZ o=o') {x':AV} (h2:x=x'):sA o l m id off x H K=sA o' l m id off x' H K:=by subst h;subst h2;rfl
theorem GL (l m id off:Nat) (x:AV) (H:List aa) (K:List aa→Prop):iD l m (.ptr id off) x H K=sA H[id]? l m id off x H K:=by
 unfold iD sA;rfl
theorem Kj (es:List AV) (l m id off:Nat) (x:AV) (H:List aa) (K:List aa→Prop):sA (some (.cells es)) l m id off x H K=(l≤id∧x.val=true∧x.cells.length=m∧off + m≤es.length∧x.cells.all AV.one=true∧aj H.length (x.cells.map AV.ab)=true∧
 K (H.set id (.cells (ah es off (x.cells.map AV.ab))))):=af4
@[congr] theorem OF {l m:Nat} {p p' x:AV} {H H':List aa} {K:List aa→Prop} (h:gZ p=p') (h2:H=H'):iD l m p x H K=iD l m p' x H' K:=by subst h;subst h2;rfl
theorem Kk (e:Nat) (xs:List AV) (H:List aa) (K:AV→List aa→Prop):fY e (.agg xs) H K=kH e xs H fun ys H'=>K (.agg ys) H':=af4
theorem GM (e:Nat) (H:List aa) (K:List AV→List aa→Prop):kH e [] H K=K [] H:=af4
theorem Ej (e:Nat) (x:AV) (r:List AV) (H:List aa) (K:List AV→List aa→Prop):kH e (x::r) H K=dZ e x H fun y H'=>kH e r H' fun ys H''=>K (y::ys) H'':=af4
theorem GN (e:Nat) (k:IntKind) (n:Int) (H:List aa) (K:AV→List aa→Prop):dZ e (.int k n) H K=K (.int k n) H:=af4
def ML:=hV @J7 (hV @GL (hV @Kj (hV @Ms (hV @Kk (hV @GM (hV @Ej @GN))))))
def jq (o:Option aa) (kd:Nat) (zero k:AV) (ok:Bool) (φ:AV→Prop):Prop:=
 match o with
 | some (.map es)=>match eG kd k es 0 with
   | some (some (_,v))=>φ (if ok then .tuple [v.drop,.bool true] else v.drop)
   | some none=>dk kd k k=some true∧φ (if ok then .tuple [a7 zero,.bool false] else a7 zero)
   | none=>False
 | _=>False
@[congr] theorem OG {o o':Option aa} {kd:Nat} {z k k':AV} {ok:Bool} {φ:AV→Prop} (h:gZ o=o') (h2:k=k'):jq o kd z k ok φ=jq o' kd z k' ok φ:=by subst h;subst h2;rfl
theorem GO (kd id:Nat) (z k:AV) (ok:Bool) (H:List aa) (φ:AV→Prop):cF kd z (.map id) k ok H φ=jq H[id]? kd z k ok φ:=by
 unfold cF jq;rfl
def jr (o:Option aa) (kd id:Nat) (k x:AV) (H:List aa) (K:List aa→Prop):Prop:=
 match o with
 | some (.map es)=>k.bc (id + 1)=true∧x.bc (id + 1)=true∧x.val=true∧match eG kd k es 0 with
    | some (some (i,_))=>K (H.set id (.map (es.set i (k,a7 x))))
    | some none=>dk kd k k=some true∧K (H.set id (.map (es++[(k,a7 x)])))
    | none=>False
 | _=>False
@[congr] theorem OH {o o':Option aa} {kd id:Nat} {k k' x x':AV} {H:List aa} {K:List aa→Prop} (h:gZ o=o') (h2:k=k') (h3:x=x'):jr o kd id k x H K=jr o' kd id k' x' H K:=by subst h;subst h2;subst h3;rfl
theorem GP (kd id:Nat) (k x:AV) (H:List aa) (K:List aa→Prop):fU kd (.map id) k x H K=jr H[id]? kd id k x H K:=by
 unfold fU jr;rfl
def At (o:Option aa) (d id off:Nat) (env:Env) (H:List aa) (K:Env→List aa→Prop):Prop:=
 match o with
 | some (.cells es)=>off < es.length∧K ((d,es.getD off .any)::env) (H.set id (.cells (es.set off (es.getD off .any).ab)))
 | _=>False
@[congr] theorem SC {o o':Option aa} {d id off:Nat} {env:Env} {H:List aa} {K:Env→List aa→Prop} (h:gZ o=o'):At o d id off env H K=At o' d id off env H K:=by subst h;rfl
theorem QN (es:List AV) (d id off:Nat) (env:Env) (H:List aa) (K:Env→List aa→Prop):At (some (.cells es)) d id off env H K=(off < es.length∧K ((d,es.getD off .any)::env) (H.set id (.cells (es.set off (es.getD off .any).ab)))):=af4
def Ek (v:AV) (d:Nat) (env:Env) (H:List aa) (K:Env→List aa→Prop):Prop:=
 match v with
 | .ptr id off=>At H[id]? d id off env H K
 | _=>False
@[congr] theorem SE {v v':AV} {d:Nat} {env:Env} {H:List aa} {K:Env→List aa→Prop} (h:gZ v=v'):Ek v d env H K=Ek v' d env H K:=by subst h;rfl
theorem QO (id off d:Nat) (env:Env) (H:List aa) (K:Env→List aa→Prop):Ek (.ptr id off) d env H K=At H[id]? d id off env H K:=af4
theorem MM {P:Px} (a:IX) (d:Nat) (env:Env) (H:List aa) (K:Env→List aa→Prop):bC P (.eX a) (some d) env H K=Ek (aq env a) d env H K:=by
 simp only [bC,Ek,At]
 cases aq env a <;> rfl
def MN (o:Option aa) (id off:Nat) (x:AV) (H:List aa) (K:List aa→Prop):Prop:=
 match o with
 | some (.cells es)=>off < es.length∧x.one=true∧x.bc (id + 1)=true∧K (H.set id (.cells (es.set off x)))
 | _=>False
@[congr] theorem Vo {o o':Option aa} {id off:Nat} {x x':AV} {H:List aa} {K:List aa→Prop} (h:gZ o=o') (h2:x=x'):MN o id off x H K=MN o' id off x' H K:=by subst h;subst h2;rfl
theorem QP (id off:Nat) (x:AV) (H:List aa) (K:List aa→Prop):eF (.ptr id off) x H K=MN H[id]? id off x H K:=by
 unfold eF MN;rfl
theorem Vp (es:List AV) (id off:Nat) (x:AV) (H:List aa) (K:List aa→Prop):MN (some (.cells es)) id off x H K=(off < es.length∧x.one=true∧x.bc (id + 1)=true∧K (H.set id (.cells (es.set off x)))):=af4
theorem bd2 (x y:AV) (φ:AV→Prop):cH [.int .i64 0,.int .i64 0,.ag] [(0,1,x),(1,1,y)] φ=(x.val=true∧x.cells.length=1∧y.val=true∧y.cells.length=1∧φ (.agg (ah (ah [.int .i64 0,.int .i64 0,.ag] 0 (x.cells.map AV.ab)) 1 (y.cells.map AV.ab)))):=by
 simp only [cH,iB,eq_iff_iff]
 constructor
 ·rintro ⟨h1,h2,h3,h4,h5,h6,h7⟩;exact ⟨h1,h2,h4,h5,h7⟩
 ·rintro ⟨h1,h2,h4,h5,h7⟩
  have e1:(x.cells.map AV.ab).length=1:=by simpa using h2
  refine ⟨h1,h2,by simp,h4,h5,?_,h7⟩
  simp [ah,h2]
theorem bd0 (cs:List AV) (φ:AV→Prop):cH cs [] φ=φ (.agg cs):=af4
theorem nB (e b:Nat) (ys:List AV) (o:Nat) (ψ:List AV→Prop):bF e b .ag (.al o ys) ψ=(ys.length * b≤140737488355328∧rE e ys∧ψ ys):=by
 simp [bF,nS,dB]
theorem nC (e b:Nat) (xs ys:List AV) (o:Nat) (ψ:List AV→Prop):bF e b (.al e xs) (.al o ys) ψ=((xs.length + ys.length) * b≤140737488355328∧rE e ys∧ψ (xs++ys)):=by
 simp [bF,nS,dB]
theorem ac5 (n:Nat):(IX.t n).slot=some n:=af4
theorem ac6 (v:AV):(IX.c v).slot=none:=af4
theorem Vq (id:Nat) (H:List aa) (φ:AV→Prop):aV none (.ai (.map id)) H φ=φ (.map id):=by simp [aV,AV.one,LZ]
theorem Vr (id off:Nat) (H:List aa) (φ:AV→Prop):aV none (.ai (.ptr id off)) H φ=φ (.ptr id off):=by simp [aV,AV.one,LY]
theorem QQ (b:Bool):(AV.bool b).one=true:=af4
theorem Vs (k:IntKind) (n:Int):(AV.int k n).one=true:=af4
theorem Vt (s:ByteArray):(AV.str s).one=true:=af4
theorem Vu (o:Nat) (xs:List AV):(AV.al o xs).one=true:=af4
theorem QR:AV.ag.one=true:=af4
theorem ZB (f:Fn) (a b:List AV):(AV.fn f a b).one=true:=af4
theorem Vv (a b:Nat):(AV.ptr a b).one=true:=af4
theorem QS (x:AV):(AV.ai x).one=true:=af4
theorem Vw (a:Nat):(AV.map a).one=true:=af4
theorem ac7 {α:Type} (p:α→Bool) (x:α) (r:List α):(x::r).all p=(p x && r.all p):=af4
theorem ac8 {α:Type} (p:α→Bool):([]:List α).all p=true:=af4
theorem cr (n:Int) (h:-9223372036854775808≤n∧n≤9223372036854775807):IntKind.i64.wrap n=n:=by
 rw [show IntKind.i64.wrap n=(n + 9223372036854775808) % 18446744073709551616 - 9223372036854775808 from IntKind.wrap_i64 n];omega
theorem aJ {P:Program} {n0:Nat} {env:Env} {H:List aa} {Q:Exit→Env→List aa→Prop} {a:IR} {ι:Type} (N:Nat) (I:Nat→ι→Prop) (se:Nat→ι→Env) (sh:Nat→ι→List aa) (s0:ι) (h0:I 0 s0∧sle n0 env H (se 0 s0) (sh 0 s0))
 (hs:∀ i s,i≤N→I i s→mv P n0 a (se i s) (sh i s) fun e aL H'=>match e with
   | .normal=>∃ j t,(j≤N∧I j t)∧N - j < N - i∧sle n0 aL H' (se j t) (sh j t)
   | e=>Q e aL H'):mv P n0 (.loop a) env H Q:=
 ⟨Nat×ι,fun p=>p.1≤N∧I p.1 p.2,fun p=>se p.1 p.2,fun p=>sh p.1 p.2,fun p=>N - p.1,⟨(0,s0),⟨acA _,h0.1⟩,h0.2⟩,fun p hp=>mA (hs p.1 p.2 hp.1 hp.2) fun x e H' h=>by
   cases x with
   | normal=>obtain ⟨j,t,h1,h2,h3⟩:=h;exact ⟨(j,t),h1,h2,h3⟩
   | _=>exact h⟩
theorem iK {P:Program} {l:Nat} {n0:Nat} {env:Env} {H:List aa} {Q:Exit→Env→List aa→Prop} {a:IR} {ι:Type} (N:Nat) (I:Nat→ι→Prop) (se:Nat→ι→Env) (sh:Nat→ι→List aa) (s0:ι) (h0:I 0 s0∧Jv n0 env H (se 0 s0) (sh 0 s0))
 (hs:∀ i s,i≤N→I i s→mv ⟨P,some l⟩ n0 a (se i s) (sh i s) fun e aL H'=>match e with
   | .normal=>∃ j t,(j≤N∧I j t)∧N - j < N - i∧Jv n0 aL H' (se j t) (sh j t)
   | e=>Q e aL H'):mv ⟨P,some l⟩ n0 (.loop a) env H Q:=
 ⟨Nat×ι,fun p=>p.1≤N∧I p.1 p.2,fun p=>se p.1 p.2,fun p=>sh p.1 p.2,fun p=>N - p.1,⟨(0,s0),⟨acA _,h0.1⟩,h0.2⟩,fun p hp=>mA (hs p.1 p.2 hp.1 hp.2) fun x e H' h=>by
   cases x with
   | normal=>obtain ⟨j,t,h1,h2,h3⟩:=h;exact ⟨(j,t),h1,h2,h3⟩
   | _=>exact h⟩
theorem a8 {H:List aa} {s:Nat} {v v':AV} (hb:v.bc H.length=true) (hv:v=v'):bV H.length [.t s] [(s,v)] H fun r H'=>r=v'∧H'=H:=
 aX _ (rC _) (by rw [aA,if_pos rfl];exact hb) ⟨by rw [aA,if_pos rfl];exact hv,by simp⟩
theorem MO {H e:List aa} {s:Nat} {v v':AV} (hb:v.bc H.length=true) (hv:v=v'):bV H.length [.t s] [(s,v)] (H++e) fun r H'=>r=v'∧H'=H:=
 aX _ (rC _) (by rw [aA,if_pos rfl];exact hb) ⟨by rw [aA,if_pos rfl];exact hv,by simp⟩
theorem Vx {H H':List aa} {n0 s:Nat} {v v':AV} (hn:n0=H.length) (hb:v.bc n0=true) (hv:v=v') (hl:H=H'):bV n0 [.t s] [(s,v)] H fun r H''=>r=v'∧H''=H':=by
 subst hn hl;exact a8 hb hv
theorem sB {H H':List aa} {n0:Nat} {env:Env} (hn:n0=H.length) (hl:H=H'):bV n0 [] env H fun r H''=>r=.tuple []∧H''=H':=by
 subst hn hl
 exact ⟨H.length,rC _,[],trivial,rfl,rfl,by simp⟩
theorem Au {H e:List aa} {s s':Nat} {v v' x y:AV} (hs:s'≠s) (hb:x.bc H.length=true) (ey:y.bc H.length=true) (hx:v.ab=x) (hy:v'.ab=y) :
 bV H.length [.t s,.t s'] [(s,v),(s',v')] (H++e) fun r H'=>r=.tuple [x,y]∧H'=H:=by
 subst hx hy
 refine ⟨H.length,rC _,[v.ab,v'.ab],?_,?_,rfl,by simp⟩
 ·simp only [aA,if_neg hs,if_true,List.map]
  exact b8 _
 ·simp only [aj,hb,ey,aco]
theorem Iw {H:List aa} {s s':Nat} {v v' x y:AV} (hs:s'≠s) (hb:x.bc H.length=true) (ey:y.bc H.length=true) (hx:v.ab=x) (hy:v'.ab=y) :
 bV H.length [.t s,.t s'] [(s,v),(s',v')] H fun r H'=>r=.tuple [x,y]∧H'=H:=by
 have:=Au (e:=[]) hs hb ey hx hy
 rw [abQ] at this
 exact this
def Av (n0:Nat) (x:AV) (H:List aa) (R:AV→List aa→Prop):Prop:=∃ m,n0≤m∧∃ r,x.le r∧r.bc m=true∧R r (H.take m)
@[congr] theorem SF {n0:Nat} {x x':AV} {H H':List aa} {R:AV→List aa→Prop} (h:gZ x=x') (h2:H=H'):Av n0 x H R=Av n0 x' H' R:=by subst h;subst h2;rfl
def vu (n0:Nat) (xs:List AV) (H:List aa) (R:AV→List aa→Prop):Prop:=∃ m,n0≤m∧∃ ys,z5 (xs.map AV.ab) ys∧aj m ys=true∧R (.tuple ys) (H.take m)
@[congr] theorem SH {n0:Nat} {x x':List AV} {H H':List aa} {R:AV→List aa→Prop} (h:gZ x=x') (h2:H=H'):vu n0 x H R=vu n0 x' H' R:=by subst h;subst h2;rfl
theorem Vy (n0 s:Nat) (sz:Option Nat) (env:Env) (H:List aa) (R:AV→List aa→Prop):bV n0 [.c s sz] env H R=aV sz (get env s) H fun x=>Av n0 x H R:=af4
theorem QT (n0 s s':Nat) (sz:Option Nat) (env:Env) (H:List aa) (R:AV→List aa→Prop):bV n0 [.c s sz,.t s'] env H R=aV sz (get env s) H fun x=>vu n0 [x,get env s'] H R:=af4
theorem vv {H e:List aa} {v v':AV} (hb:v.bc H.length=true) (hv:v=v'):Av H.length v (H++e) fun r H'=>r=v'∧H'=H:=by
 subst hv;exact ⟨H.length,rC _,v,le_refl _,hb,rfl,by simp⟩
theorem bN {i n:Nat} (h:(i:Int) < (n:Int)):i < n:=by omega
theorem dh {i n:Nat} (h:(n:Int)≤(i:Int)):n≤i:=by omega
def nD:=(hV @Ea (hV @Ee (hV @As @J8)))
def Vz:=(hV (hV (hV (hV (hV (hV (hV (hV @U0 @Mc) (hV @Gv @Md)) (hV (hV @Qq @D8) (hV @J2 (hV @Me @Qr)))) (hV (hV (hV @Mf @U6) (hV @U7 @Zt)) (hV (hV @Zu @J3) (hV @Mg (hV @U8 @U9))))) (hV (hV (hV (hV @Qs @L8) (hV @L9 @aA)) (hV (hV @UY @Ve) (hV @Mn (hV @J6 @Mo)))) (hV (hV (hV @Zv @Vf) (hV @Qz (hV @QA @Mq))) (hV (hV @Mr @zz) (hV @QB (hV @MM @QO)))))) (hV (hV (hV (hV (hV @QN @QP) (hV @Vp @GO)) (hV (hV @GP @nB) (hV @nC (hV @Vq @Vr)))) (hV (hV (hV @ac5 @ac6) (hV @Vy (hV @QT @bd0))) (hV (hV @bd2 @Mt) (hV @Gw (hV @D9 @Ca))))) (hV (hV (hV (hV @Mv @Cb) (hV @Eb @Mw)) (hV (hV @QC @Ec) (hV @Vg (hV @J9 (hV @Mx (hV @wB @Gx)))))) (hV (hV (hV @My @Mz) (hV @Kb (hV @Kc @Zw))) (hV (hV @Gy @Gz) (hV @GA (hV @GB @MA))))))) (hV (hV (hV (hV (hV (hV @Zx @QD) (hV @MB @Vh)) (hV (hV @QE @MC) (hV @QF (hV @QG @Vi)))) (hV (hV (hV @QH @Vj) (hV @MD @Kd)) (hV (hV @ME @Zy) (hV @QI (hV @MF @zA))))) (hV (hV (hV (hV @Cc @zB) (hV @Ed @Cd)) (hV (hV @MG @Ce) (hV @Ef (hV @MH @Eg)))) (hV (hV (hV @Eh @Cf) (hV @xM (hV @vU @Zz))) (hV (hV @GC @GD) (hV @ZA (hV @QJ @GF)))))) (hV (hV (hV (hV (hV @Ke @GG) (hV @GH @Ei)) (hV (hV @Vk @Vl) (hV @mw (hV @GI @Kf)))) (hV (hV (hV @Kg @MJ) (hV @Kh (hV @Qj @Qk))) (hV (hV @Ql @Qm) (hV @Zn (hV @Zo @Zp))))) (hV (hV (hV (hV @Zq @acW) (hV @Zr @Zs)) (hV (hV @Qo @JZ) (hV @T3 (hV @pH @oW)))) (hV (hV (hV @B5 @Iq) (hV @xF (hV @T4 @T5))) (hV (hV @LX @LY) (hV @Ir (hV @PO @LZ)))))))) (hV (hV (hV (hV (hV (hV (hV @PR @So) (hV @PT @PU)) (hV (hV @T6 @T7) (hV @PV (hV @T8 @T9)))) (hV (hV (hV @Zi @PW) (hV @Ua @PX)) (hV (hV @Ub @wz) (hV @Uc (hV @Ud @PY))))) (hV (hV (hV (hV @Ue @Uf) (hV @Zj @PZ)) (hV (hV @Ug @P1) (hV @Uh (hV @Is @Ui)))) (hV (hV (hV @Uj @P2) (hV @Uk (hV @Ul @Zk))) (hV (hV @P3 @Um) (hV @P4 (hV @Un @B6)))))) (hV (hV (hV (hV (hV @ji @L3) (hV @It @bW)) (hV (hV @tT @L4) (hV @qV (hV @L5 @fJ)))) (hV (hV (hV @B7 @Zl) (hV @P5 (hV @c9 @bP))) (hV (hV @UZ @Qg) (hV @Uo (hV @Uq @Ur))))) (hV (hV (hV (hV @Us @Ut) (hV @Uu @Uv)) (hV (hV @Uw @Ux) (hV @Uy (hV @Uz @UA)))) (hV (hV (hV @UB @UC) (hV @UD (hV @UE @UF))) (hV (hV @UG @acV) (hV @UH (hV @P6 @UI))))))) (hV (hV (hV (hV (hV (hV @UJ @P7) (hV @UK @P8)) (hV (hV @UL @UM) (hV @P9 (hV @UN @Qa)))) (hV (hV (hV @UO @UP) (hV @UQ @Qb)) (hV (hV @Zm @UR) (hV @Qc (hV @L6 @US))))) (hV (hV (hV (hV @L7 @UT) (hV @UU @UW)) (hV (hV @UX @JS) (hV @Qd (hV @Qe @Qf)))) (hV (hV (hV @JT @JU) (hV @JV (hV @JW @JX))) (hV (hV @DZ @D0) (hV @ga0 (hV @ga @sa0)))))) (hV (hV (hV (hV (hV @sa @acX) (hV @Xp @g0)) (hV (hV @g1 @g2) (hV @s0 (hV @s1 @s2)))) (hV (hV (hV @d0 @d1) (hV @d2 (hV @sp1 @acZ))) (hV (hV @ac0 @ac1) (hV @ac2 (hV @ac3 @ac4))))) (hV (hV (hV (hV @Vm @Vn) (hV @Iv @QL)) (hV (hV @MK @QK) (hV @Ki (hV @xN @QQ)))) (hV (hV (hV @Vs @Vt) (hV @Vu (hV @QR @ZB))) (hV (hV @Vv @QS) (hV @Vw (hV @ac7 @ac8)))))))))
end Go.aK
end
section
namespace Go.aK
open Go Go.RowKit
def eh (w:World):Mem:=fun b o=>w.cell? ⟨b,o,none⟩
def GQ (w:World):Perm:=⟨fun b=>w.heap.size≤b,fun id=>some (id + 1),(fun id n h=>by cases h;omega),0⟩
theorem Cg (w:World):(GQ w).entry false ([]:List aa).length:=⟨fun id h=>absurd h (Nat.not_lt_zero _),fun id _=>rfl⟩
theorem St.start {w:World} {vs:Array Value} {xs:List AV} (h:aP (eh w) [] vs.toList xs) (hf:∀ x∈xs,∀ own ys,x=.al own ys→own=0) :
 St (GQ w) (eh w) [] w [] (fun t=>vs.getD t undef) (fun t=>xs.getD t .any) (fun _=>none) where
 len:=rfl
 nodup:=by simp
 env:=fun t=>by
  have:=h.getD t
  rw [rB] at this
  rw [abH]
  simpa using this
 mem:=fun b o v hv=>hv
 obj:=fun id o b ho=>by simp at ho
 bI:=fun id o ho=>by simp at ho
 lt:=fun b hb=>by cases hb
 iX:=fun t=>by
  refine bj.free fun own ys e=>?_
  rw [rB] at e
  cases hx:xs[t]? with
  | none=>rw [hx] at e;cases e
  | some x=>rw [hx] at e;exact hf x (abE hx) own ys e
 iT:=fun id j=>by simp [bD,bj]
 cz:=fun p q b hp=>by cases hp
 cG:=fun p b hp=>by cases hp
 fP:=fun p b hp=>by cases hp
 La:=fun b hb=>by cases hb
 Oa:=fun p b hp=>by cases hp
 fresh:=fun b hb=>hb
theorem Ext.below {M M':Mem} {w w':World} (h:Ext (GQ w) M w M' w'):Below w.heap.size w w':=
 ⟨h.os,h.tape,h.output,h.size,fun k hk=>(h.ky k hk (by show ¬ w.heap.size≤k;omega)).1⟩
theorem Pure.lift {P:Program} {f:FuncId} {xs:List AV} {b:Bool} (hp:Pure P f xs (.bool b)) (he:∀ (as:Array Value) (w:World),(callFunc f as).run P w=.ok (.enter f as) w)
 {w:World} {vs:Array Value} (hr:aP (eh w) [] vs.toList xs) (hf:∀ x∈xs,∀ own ys,x=.al own ys→own=0) :
 Calls P f vs w fun e w'=>e=.returned (.bool b)∧Below w.heap.size w w':=by
 have hs:vs.size=xs.length:=by have:=hr.length;simpa using this
 refine ((hp []).body he (Cg w) hs (St.start hr hf)).mono ?_
 rintro e w' ⟨v,r,H',M',L',O',rfl,⟨rfl,rfl⟩,bX,cP,_⟩
 have:=bX.env 0
 simp only [K0] at this
 cases this
 exact ⟨rfl,cP.below⟩
theorem El {a:Addr} {n:Nat} (h:a.spot=none):a.add n=⟨a.block,a.off + n,none⟩:=by
 obtain ⟨b,o,s⟩:=a
 simp only at h
 subst h
 unfold Addr.add
 split
 ·rename_i e;subst e;rfl
 ·rfl
theorem Kl {w:World} {a:Addr} {v:Value} (h:w.cell? a=some v):a.spot=none:=by
 unfold World.cell? at h
 split at h
 ·split at h
  ·cases h
  ·rename_i hs;cases HP:a.spot <;> simp_all
 ·cases h
theorem Aw {M:Mem} {L:List Nat}:∀ {n:Nat} {cs:Nat→List Value} {f:Nat→AV},(∀ i,i < n→aP M L (cs i) (f i).cells)→aP M L ((List.range n).flatMap cs) (flat ((List.range n).map f))
 | 0,_,_,_=>by simp [flat];exact .nil
 | n + 1,cs,f,h=>by
   have ih:=Aw (n:=n) (fun i hi=>h i (by omega))
   simp only [acJ,acY,ab3,flat] at ih ⊢
   refine ih.append ?_
   simpa using h n (by omega)
theorem Em {n e:Nat} {cs:Nat→List Value}:(∀ i,i < n→(cs i).length=e)→∀ (j:Nat) (v:Value),((List.range n).flatMap cs)[j]?=some v→∃ i k,i < n∧k < e∧j=i * e + k∧(cs i)[k]?=some v:=by
 induction n with
 | zero=>intro _ j v h;simp at h
 | succ n ih=>
   intro hl j v h
   simp only [acJ,acY] at h
   have hlen:((List.range n).flatMap cs).length=n * e:=by
    clear h ih
    induction n with
    | zero=>simp
    | succ n ih2=>
      simp only [acJ,acY,aaf]
      rw [ih2 (fun i hi=>hl i (by omega))]
      simp [hl n (by omega),Nat.succ_mul]
   rcases aeG j (n * e) with hj | hj
   ·rw [yO (by omega)] at h
    obtain ⟨i,k,h1,h2,h3,h4⟩:=ih (fun i hi=>hl i (by omega)) j v h
    exact ⟨i,k,by omega,h2,h3,h4⟩
   ·rw [abt (by omega),hlen] at h
    simp only [List.flatMap_cons,afB,abQ] at h
    have hk:=(aaJ.1 h).1
    rw [hl n (by omega)] at hk
    exact ⟨n,j - n * e,by omega,hk,by omega,h⟩
theorem tW {w:World} {base e len cap:Nat} {a:Addr} (he:0 < e) (hl:len≤cap) (hc:cap≤maxLen) (cs:Nat→List Value) (f:Nat→AV)
 (h:∀ i,i < len→w.cells? base (a.add (i * e)) e=some (cs i)∧aP (eh w) [] (cs i) (f i).cells):aW (eh w) [] (.slice (some a) len cap) (.al 0 ((List.range len).map f)):=by
 have cp:cap < 9223372036854775808:=by have:maxLen=9223372036854775807:=rfl;omega
 rcases Nat.eq_zero_or_pos len with h0 | h0
 ·subst h0
  exact .iw _ _ _ cp
 have hlen:∀ i,i < len→(cs i).length=e:=fun i hi=>(World.cells?_some (h i hi).1).2.1
 have hcell:∀ i,i < len→∀ k,k < e→w.cell? ((a.add (i * e)).add k)=(cs i)[k]?:=fun i hi=>(World.cells?_some (h i hi).1).2.2
 have hspot:a.spot=none:=by
  have h1:=hcell 0 h0 0 he
  rw [Oq (by rw [hlen 0 h0];exact he)] at h1
  have h2:=Kl h1
  simpa [Addr.add] using h2
 have key:aW (eh w) [] (.slice (some ⟨a.block,a.off,none⟩) ((List.range len).map f).length cap) (.al 0 ((List.range len).map f)):=by
  refine .al a.block a.off cap 0 e ((List.range len).flatMap cs) _ he ?_ (by simpa using h0) (by simpa using hl) cp (Aw fun i hi=>(h i hi).2) ?_
  ·intro x hx
   obtain ⟨i,hi,rfl⟩:=aal.1 hx
   have hi:=abK.1 hi
   rw [← (h i hi).2.length,hlen i hi]
  ·intro j v hv
   obtain ⟨i,k,h1,h2,rfl,h4⟩:=Em hlen j v hv
   have:=hcell i h1 k h2
   rw [El hspot,El (by rfl)] at this
   show w.cell? ⟨a.block,a.off + (i * e + k),none⟩=some v
   rw [← acO,this,h4]
 have ea:(some a:Option Addr)=some ⟨a.block,a.off,none⟩:=by obtain ⟨b,o,s⟩:=a;simp only at hspot;rw [hspot]
 rw [ea]
 simpa using key
section
variable {H:Type} {enc:TypeId×Value→H} {P:Program}
theorem qz (hl:laidOutB P=true) {W W':World} (hb:Below W.heap.size W W'):∀ {ts:List TypeId} {vs:List Value} {ds:List (DataW H)} {ps:List MemPlace},(∀ t∈ts,P.readableRec t=true∧t < P.types.size)→
 DataW.TrodAll enc P W 0 (fun _=>true) true ts vs ds ps→(∀ x∈ps,x.block < W.heap.size)→DataW.TrodAll enc P W' 0 (fun b=>decide (b < W.heap.size)) true ts vs ds ps
 | [],[],[],_,_,h,_=>h
 | t::ts,v::vs,d::ds,_,ht,⟨p,q,h1,h2,e⟩,hp=>by
   subst e
   exact ⟨p,q,Below.trod hl (ht t (by simp)).1 (ht t (by simp)).2 h1 hb (fun x hx=>hp x (by simp [hx])),qz hl hb (fun t ht'=>ht t (by simp [ht'])) h2 (fun x hx=>hp x (by simp [hx])),rfl⟩
theorem MP {fn:Func} {s:ChangeSpec} {apart:Bool} {W W':World} {args:Array Value} {ds gs:List (DataW H)} {before:List MemPlace} {t:TypeId} (hl:laidOutB P=true) (hb:Below W.heap.size W W')
 (hW:DataW.Whole enc P fn.params.toList s.vars apart W args.toList ds gs before) (hv:s.vars=[]) (vV:fn.resultTypes=#[t]) (ht:P.underlying t=some .bool) (hs:s.fn H ds={ results:=[.lit (.bool true)],args:=ds })
 (hp:fn.params.toList.all (fun t=>P.readableRec t && decide (t < P.types.size))=true):s.post enc P fn apart true false false W args (.bool true) W':=by
 have aS:∀ x∈before,x.block < W.heap.size:=fun x hx=>by simpa using hW.lt x hx
 have hW0:=hW
 obtain ⟨p,q,h1,h2,h3,h4,h5⟩:=hW
 rw [hv] at h2
 obtain ⟨rfl,rfl⟩:=ChangeShapes.trodVars_none h2
 simp only [abQ] at h3
 subst h3
 refine ⟨ds,[],before,[],before,[],hW0,?_,?_,?_,hb.frame _,fun h=>by cases h⟩
 ·simp only [abQ,hs,vV]
  exact ChangeShapes.trodAll_mk1 (shut_bool ht true)
 ·simp only [abQ,hs]
  exact qz hl hb (fun t ht=>by simpa using abF.1 hp t ht) h1 aS
 ·simp only [hv,abQ,hs]
  rfl
end
end Go.aK
end
section
namespace Go.aK
open Go
structure Fam {σ:Type} (S:σ→List aa) (p:Nat) (obj:σ→aa) (n:Nat):Prop where
 get:∀ s,(S s)[p]?=some (obj s)
 set:∀ s s',(S s).set p (obj s')=S s'
 len:∀ s,(S s).length=n
namespace Fam
variable {σ:Type} {S:σ→List aa} {p:Nat} {obj:σ→aa} {n:Nat} (F:Fam S p obj n)
include F
end Fam
theorem vw {Hs G:List aa} {n0:Nat} {v w x y:AV} {R:AV→List aa→Prop} (hH:Hs.take n0=G) (hb:x.bc n0=true) (ey:y.bc n0=true) (hx:v.ab=x) (hy:w.ab=y) (hR:R (.tuple [x,y]) G) :
 vu n0 [v,w] Hs R:=by
 subst hx hy hH
 exact ⟨n0,rC _,[v.ab,w.ab],b8 _,by simp only [aj,hb,ey,aco],hR⟩
theorem SJ {Hs G:List aa} {n0:Nat} {v x:AV} {R:AV→List aa→Prop} (hH:Hs.take n0=G) (hb:x.bc n0=true) (hx:v=x) (hR:R x G):Av n0 v Hs R:=by
 subst hx hH
 exact ⟨n0,rC _,v,le_refl _,hb,hR⟩
theorem QU {Hs G:List aa} {n0 s:Nat} {v x:AV} {R:AV→List aa→Prop} (hH:Hs.take n0=G) (hb:x.bc n0=true) (hx:v=x) (hR:R x G):bV n0 [.t s] [(s,v)] Hs R:=by
 subst hx hH
 exact aX _ (rC _) (by rw [aA,if_pos rfl];exact hb) (by rw [aA,if_pos rfl];exact hR)
end Go.aK
end
section
namespace Go.aK
open Go
def xO (C:List aa→Nat→List aa→Prop) (n0:Nat) (v:AV) (H:List aa) (R:AV→List aa→Prop):Prop:=
 ∃ m H',n0≤m∧C H m H'∧∃ r,v.le r∧r.bc m=true∧R r H'
@[congr] theorem QV {C:List aa→Nat→List aa→Prop} {n0:Nat} {x x':AV} {H H':List aa} {R:AV→List aa→Prop} (h:gZ x=x') (h2:H=H'):xO C n0 x H R=xO C n0 x' H' R:=by subst h;subst h2;rfl
theorem QW {C:List aa→Nat→List aa→Prop} {n0 s:Nat} {sz:Option Nat} {env:Env} {H:List aa} {R:AV→List aa→Prop}:jA C n0 [.c s sz] env H R=aV sz (get env s) H fun v=>xO C n0 v H R:=af4
theorem QX {C:List aa→Nat→List aa→Prop} {n0 s:Nat} {env:Env} {H:List aa} {R:AV→List aa→Prop}:jA C n0 [.t s] env H R=xO C n0 (get env s) H R:=af4
theorem tX {n0:Nat} {H G:List aa} (h:G.take n0=H) (hl:H.length=n0):nT n0 G n0 H:=by
 subst h
 refine ⟨by simp,fun id o ho=>?_⟩
 rw [aax] at ho
 split at ho
 ·exact .inr ⟨ho,fun h=>by omega⟩
 ·cases ho
def only (n0 id:Nat) (G:List aa):List aa:=G.mapIdx fun j o=>if j < n0∨j=id then o else .dead
theorem kr (n0:Nat) (env:Env) (H:List aa):Jv n0 env H env H:=⟨fun t=>le_refl _,.inl rfl⟩
theorem sC {n0:Nat} {env aL:Env} {H H':List aa} (he:env=aL) (hH:H=H'):Jv n0 env H aL H':=by
 subst he;subst hH;exact kr _ _ _
def kQ:=hV @QW (hV @QX ML)
end Go.aK
end
