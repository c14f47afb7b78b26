/- Part 10 of 19 of the proof. -/
import Derived.Test.YtljchnfgjdjobaaGreatYah
import Derived.ProofKit
import Derived.Deep.Slices
import Derived.Deep.Strs
set_option linter.unusedVariables false
set_option linter.unusedSimpArgs false
set_option linter.defProp false
set_option linter.unusedSectionVars false
section
namespace Go.aJ
open Go
theorem Sc:AV.any.ae=.any:=aei
theorem oS (b:Bool):(AV.bool b).ae=.bool b:=aei
theorem kX (k:IntKind) (n:Int):(AV.int k n).ae=.int k n:=aei
theorem AN (s:ByteArray):(AV.str s).ae=.str s:=aei
theorem GO:AV.ah.ae=.ah:=aei
theorem wI (o:Nat) (xs:List AV):(AV.al o xs).ae=.al 0 xs:=aei
theorem Sd (a b c d:Nat):(AV.aU a b c d).ae=.aU a b c d:=aei
theorem Se (xs:List AV):(AV.agg xs).ae=.agg xs:=aei
theorem Kt (xs:List AV):(AV.tuple xs).ae=.tuple xs:=aei
theorem Ku (a b:Nat):(AV.ptr a b).ae=.ptr a b:=aei
theorem GP (x:AV):(AV.aj x).ae=.aj x:=aei
theorem Og:AV.si.ae=.si:=aei
theorem Kv (a:Nat):(AV.map a).ae=.map a:=aei
theorem Oh:AV.jf.ae=.jf:=aei
theorem QD (f:Fn) (a b:List AV):(AV.fn f a b).ae=.fn f a b:=aei
theorem Oi:AV.fP.ae=.fP:=aei
theorem Oj (b:Bool):(AV.bool b).cells=[.bool b]:=aei
theorem Sf (k:IntKind) (n:Int):(AV.int k n).cells=[.int k n]:=aei
theorem Si (s:ByteArray):(AV.str s).cells=[.str s]:=aei
theorem Ol:AV.ah.cells=[.ah]:=aei
theorem Sj (o:Nat) (xs:List AV):(AV.al o xs).cells=[.al o xs]:=aei
theorem Sk (xs:List AV):(AV.agg xs).cells=xs:=aei
theorem WR (f:Fn) (a b:List AV):(AV.fn f a b).cells=[.fn f a b]:=aei
theorem Om:AV.fP.cells=[.fP]:=aei
theorem Sl (a b:Nat):(AV.ptr a b).cells=[.ptr a b]:=aei
theorem On (x:AV):(AV.aj x).cells=[.aj x]:=aei
theorem Sm (a:Nat):(AV.map a).cells=[.map a]:=aei
theorem mD (b:Bool):(AV.bool b).drop=.bool b:=aei
theorem Sn (k:IntKind) (n:Int):(AV.int k n).drop=.int k n:=aei
theorem So (s:ByteArray):(AV.str s).drop=.str s:=aei
theorem Oo:AV.ah.drop=.al 0 []:=aei
theorem Sp (o:Nat) (xs:List AV):(AV.al o xs).drop=.al 0 xs:=aei
theorem Sq (xs:List AV):(AV.agg xs).drop=.agg xs:=aei
theorem WS (f:Fn) (a b:List AV):(AV.fn f a b).drop=.fn f a b:=aei
theorem Oq:AV.fP.drop=.fP:=aei
theorem Sr (a b:Nat):(AV.ptr a b).drop=.ptr a b:=aei
theorem Ot (x:AV):(AV.aj x).drop=.aj x:=aei
theorem Ss (a:Nat):(AV.map a).drop=.map a:=aei
theorem ve (b:Bool):(AV.bool b).val=true:=aei
theorem Su (k:IntKind) (n:Int):(AV.int k n).val=true:=aei
theorem Sv (s:ByteArray):(AV.str s).val=true:=aei
theorem Ou:AV.ah.val=true:=aei
theorem Sw (o:Nat) (xs:List AV):(AV.al o xs).val=true:=aei
theorem Sx (xs:List AV):(AV.agg xs).val=true:=aei
theorem WT (f:Fn) (a b:List AV):(AV.fn f a b).val=true:=aei
theorem Ov:AV.fP.val=true:=aei
theorem Sy (a b:Nat):(AV.ptr a b).val=true:=aei
theorem Ow (x:AV):(AV.aj x).val=true:=aei
theorem Sz (a:Nat):(AV.map a).val=true:=aei
theorem rc (n:Nat) (b:Bool):(AV.bool b).a8 n=true:=aei
theorem gW (n:Nat) (k:IntKind) (m:Int):(AV.int k m).a8 n=true:=aei
theorem Kw (n:Nat) (s:ByteArray):(AV.str s).a8 n=true:=aei
theorem GQ (n:Nat):AV.ah.a8 n=true:=aei
theorem ch (n o:Nat) (xs:List AV):(AV.al o xs).a8 n=ak n xs:=by rw [AV.a8]
theorem wJ (n:Nat) (xs:List AV):(AV.agg xs).a8 n=ak n xs:=by rw [AV.a8]
theorem Kx (n:Nat) (xs:List AV):(AV.tuple xs).a8 n=ak n xs:=by rw [AV.a8]
theorem sN (n a b:Nat):(AV.ptr a b).a8 n=decide (a < n):=by rw [AV.a8]
theorem Ky (n a:Nat):(AV.map a).a8 n=decide (a < n):=by rw [AV.a8]
theorem j3 (n a b c d:Nat):(AV.aU a b c d).a8 n=decide (a < n):=by rw [AV.a8]
theorem AO (n:Nat) (x:AV):(AV.aj x).a8 n=x.a8 n:=by rw [AV.a8]
theorem WU (n:Nat) (f:Fn) (a b:List AV):(AV.fn f a b).a8 n=(ak n a && ak n b):=by rw [AV.a8]
theorem Ox (n:Nat):AV.fP.a8 n=true:=aei
theorem cN (n:Nat):ak n []=true:=aei
theorem bE (n:Nat) (x:AV) (xs:List AV):ak n (x::xs)=(x.a8 n && ak n xs):=by rw [ak]
section
variable (k:IntKind) (a b:Int) (φ:AV→Prop)
theorem SA:di .add (.int k a) (.int k b) φ=φ (.int k (k.wrap (a + b))):=by simp [di]
theorem SC:di .sub (.int k a) (.int k b) φ=φ (.int k (k.wrap (a - b))):=by simp [di]
theorem SE:di .mul (.int k a) (.int k b) φ=φ (.int k (k.wrap (a * b))):=by simp [di]
theorem SF:di .rem (.int k a) (.int k b) φ=(b≠0∧φ (.int k (a.tmod b))):=by simp [di]
theorem SH:di .quo (.int k a) (.int k b) φ=(b≠0∧φ (.int k (k.wrap (a.tdiv b)))):=by simp [di]
theorem SJ:di .eql (.int k a) (.int k b) φ=φ (.bool (decide (a=b))):=by simp [di]
theorem SK:di .neq (.int k a) (.int k b) φ=φ (.bool (decide (a≠b))):=by simp [di]
theorem SL:di .lss (.int k a) (.int k b) φ=φ (.bool (decide (a < b))):=by simp [di]
theorem SM:di .leq (.int k a) (.int k b) φ=φ (.bool (decide (a≤b))):=by simp [di]
theorem SN:di .gtr (.int k a) (.int k b) φ=φ (.bool (decide (b < a))):=by simp [di]
theorem SO:di .geq (.int k a) (.int k b) φ=φ (.bool (decide (b≤a))):=by simp [di]
theorem SP (s t:ByteArray):di .eql (.str s) (.str t) φ=φ (.bool (decide (s=t))):=by simp [di]
theorem SQ (s t:ByteArray):di .neq (.str s) (.str t) φ=φ (.bool (decide (s≠t))):=by simp [di]
theorem SR (s t:ByteArray):di .add (.str s) (.str t) φ=(s.size + t.size < 9223372036854775808∧φ (.str (s++t))):=by simp [di]
theorem SS (q:Bool):zZ .not (.bool q) φ=φ (.bool (!q)):=aei
theorem SU:zZ .neg (.int k a) φ=φ (.int k (k.wrap (0 - a))):=aei
theorem SV (p q:Bool):da true (.bool p) (.bool q) φ=φ (.bool (decide (p≠q))):=aei
theorem SW (p q:Bool):da false (.bool p) (.bool q) φ=φ (.bool (decide (p=q))):=aei
theorem aat (q:Bool) (ψ:Bool→Prop):fc (.bool q) ψ=ψ q:=aei
theorem SX (s:ByteArray) (H:List aa):fz (.str s) H φ=φ (.int .i64 s.size):=aei
theorem Oy (H:List aa):fz .ah H φ=φ (.int .i64 0):=aei
theorem SY (o:Nat) (xs:List AV) (H:List aa):fz (.al o xs) H φ=(xs.length < 9223372036854775808→φ (.int .i64 xs.length)):=aei
theorem SZ (x y l c:Nat) (H:List aa):fz (.aU x y l c) H φ=φ (.int .i64 l):=aei
theorem Oz (H:List aa):fz .jf H φ=φ (.int .i64 0):=aei
theorem S0 (s:ByteArray):aN 0 (.str s)=True:=aei
theorem OA:aN 1 .ah=True:=aei
theorem S2 (o:Nat) (xs:List AV):aN 1 (.al o xs)=True:=aei
theorem S3 (x y l c:Nat):aN 1 (.aU x y l c)=True:=aei
theorem OB:aN 2 .jf=True:=aei
theorem S4 (x:Nat):aN 2 (.map x)=True:=aei
theorem OC (q:Bool) (H:List aa):aV none (.aj (.bool q)) H φ=φ (.bool q):=by simp [aV,AV.one,oS]
theorem S5 (H:List aa):aV none (.aj (.int k a)) H φ=φ (.int k a):=by simp [aV,AV.one,kX]
theorem S6 (s:ByteArray) (H:List aa):aV none (.aj (.str s)) H φ=φ (.str s):=by simp [aV,AV.one,AN]
theorem S7 (o:Nat) (xs:List AV) (H:List aa):aV none (.aj (.al o xs)) H φ=φ (.al 0 xs):=by simp [aV,AV.one,wI]
theorem OD (H:List aa):aV none (.aj .ah) H φ=φ .ah:=by simp [aV,AV.one,GO]
theorem WV (f:Fn) (x y:List AV) (H:List aa):aV none (.aj (.fn f x y)) H φ=φ (.fn f x y):=by simp [aV,AV.one,QD]
theorem S8 (x y:Nat):bU (.ptr x y) φ=φ (.ptr x y):=aei
theorem OE (x:AV):bU (.aj x) φ=φ (.aj x):=aei
theorem Kz (xs:List AV) (i:Nat):bG (.tuple xs) i φ=(i < xs.length∧φ (xs.getD i .any).ae):=aei
theorem S9 (id o off:Nat) (sz:Option Nat):aq off sz (.ptr id o) φ=φ (.ptr id (o + off)):=by simp [aq]
end
section
variable {P:Px} {n0:Nat} {env:Env} {H:List aa} {Q:Exit→Env→List aa→Prop}
theorem KA (pass:Option Nat) (j:Nat):aH env pass j []=[]:=aei
theorem Ta (pass:Option Nat) (j:Nat) (v:AV) (xs:List IX):aH env pass j (.c v::xs)=v.ae::aH env pass (j + 1) xs:=aei
theorem Tb (j s:Nat) (xs:List IX):aH env none j (.t s::xs)=(get env s).ae::aH env none (j + 1) xs:=by simp [aH]
theorem Tc (j s:Nat) (xs:List IX):aH env (some 1999) j (.t s::xs)=(if 1999=j then get env s else (get env s).ae)::aH env (some 1999) (j + 1) xs:=by simp [aH]
theorem Td (p j s:Nat) (xs:List IX):aH env (some p) j (.t s::xs)=(if p=j then get env s else (get env s).ae)::aH env (some p) (j + 1) xs:=by simp [aH]
theorem Ir (args:List IX):bh args none=none:=aei
theorem OF (x:Nat) (xs:List IX):bh (.t x::xs) (some 0)=some x:=by simp [bh]
theorem OG (x:Nat) (y:IX) (xs:List IX):bh (y::.t x::xs) (some 1)=some x:=by simp [bh]
theorem OH (x:Nat) (y z:IX) (xs:List IX):bh (y::z::.t x::xs) (some 2)=some x:=by simp [bh]
theorem Is:bh [] (some 1999)=none:=aei
theorem It (x:IX):bh [x] (some 1999)=none:=aei
theorem Iu (x y:IX):bh [x,y] (some 1999)=none:=aei
theorem Iv (x y z:IX):bh [x,y,z] (some 1999)=none:=aei
theorem Iw (x y z u:IX):bh [x,y,z,u] (some 1999)=none:=aei
theorem CL:cP env none=env:=aei
theorem CM (d:Nat):cP env (some d)=(d,(get env d).ae)::env:=aei
theorem KB (z:AV):put none z env=env:=aei
theorem KC (d:Nat) (z:AV):put (some d) z env=(d,z)::env:=aei
theorem aA (k:Nat) (v:AV) (t:Nat):get ((k,v)::env) t=if t=k then v else get env t:=aei
theorem Te (t:Nat):get [] t=.any:=aei
theorem aX {s:Nat} {R:AV→List aa→Prop} (m:Nat) (h0:n0≤m) (hb:(get env s).a8 m=true) (h:R (get env s) (H.take m)):bV n0 [.t s] env H R:=
 ⟨m,h0,_,le_refl _,hb,h⟩
end
def Pure (P:Program) (g:FuncId) (xs:List AV) (v:AV):Prop:=∀ H,aw P g xs H fun r H'=>r=v∧H'=H
theorem Pure.mk {P:Program} {g:FuncId} {xs:List AV} {v:AV} (hb:ak 0 xs=true) (h:aw P g xs [] fun r H'=>r=v∧H'=[]):Pure P g xs v:=
 aw.frame (fun x hx=>(bb 0 xs).1 hb x hx) h
def kY (n:Nat) (env:Env):Bool:=env.all fun p=>p.2.a8 n
theorem E4 {n:Nat} {env:Env} (h:kY n env=true) (t:Nat):(get env t).a8 n=true:=by
 rcases get_mem (env:=env) (t:=t) rfl with h' | h'
 ·rw [h'];rfl
 ·exact aaL.1 h _ h'
theorem Tf (n:Nat):kY n []=true:=aei
theorem OI (n k:Nat) (v:AV) (env:Env):kY n ((k,v)::env)=(v.a8 n && kY n env):=aei
theorem oa {n0:Nat} {env aF:Env} {H H':List aa} (he:env=aF) (h0:n0≤H'.length) (hb:kY H'.length aF=true) (e:List aa) (hH:H=H'++e):sle n0 env H aF H':=by
 subst he;subst hH
 exact ⟨fun t=>le_refl _,.inr ⟨H'.length,h0,by simp,E4 hb⟩⟩
theorem aE {n0:Nat} {env aF:Env} {H H':List aa} (he:env=aF) (hH:H=H'):sle n0 env H aF H':=by
 subst he;subst hH;exact aD _ _ _
theorem ay (i:Nat) (h:i + 1 < 9223372036854775808):IntKind.i64.wrap ((i:Int) + 1)=((i + 1:Nat):Int):=by
 show IntKind.wrap .i64 ((i:Int) + 1)=_
 unfold IntKind.wrap
 simp [IntKind.signed,IntKind.bits]
 omega
end Go.aJ
end
section
namespace Go.aJ
open Go
def gG {α:Type} (x:α):α:=x
theorem Tg {α:Type} (x:α):gG x=x:=aei
section
variable {φ:AV→Prop}
theorem KD {op:BinOp} {x y:AV} (h:di op x y φ):∃ z,di op x y (fun w=>w=z)∧φ z:=by
 unfold di at *
 split at h <;> (try exact h.elim)
 ·obtain ⟨h0,h⟩:=h
  split at h <;> first | exact ⟨_,⟨h0,rfl⟩,h⟩ | exact ⟨_,⟨h0,h.1,rfl⟩,h.2⟩ | exact h.elim
 ·split at h <;> first | exact ⟨_,rfl,h⟩ | exact ⟨_,⟨h.1,rfl⟩,h.2⟩ | exact h.elim
theorem E5 {op:BinOp} {x y:AV} (h:dT op x y φ):∃ z,dT op x y (fun w=>w=z)∧φ z:=by
 unfold dT at *
 split at h <;> (try exact h.elim)
 obtain ⟨h0,h⟩:=h
 split at h <;> first | exact ⟨_,⟨h0,rfl⟩,h⟩ | exact h.elim
theorem CN {neq:Bool} {x y:AV} (h:da neq x y φ):∃ z,da neq x y (fun w=>w=z)∧φ z:=by
 unfold da at *
 split at h <;> first | exact ⟨_,rfl,h⟩ | exact h.elim
theorem OJ {op:UnOp} {x:AV} (h:zZ op x φ):∃ z,zZ op x (fun w=>w=z)∧φ z:=by
 unfold zZ at *
 split at h <;> first | exact ⟨_,rfl,h⟩ | exact h.elim
theorem Ix {sz:Option Nat} {x:AV} {H:List aa} (h:aV sz x H φ):∃ z,aV sz x H (fun w=>w=z)∧φ z:=by
 unfold aV at *
 split at h <;> (try exact h.elim) <;> (split at h <;> (try exact h.elim)) <;> first | exact ⟨_,⟨h.1,rfl⟩,h.2⟩ | (split at h <;> exact ⟨_,⟨h.1,rfl⟩,h.2⟩)
theorem yX {off:Nat} {sz:Option Nat} {xs:List AV} {g:AV→AV} (h:apart off sz xs fun z=>φ (g z)):∃ z,(apart off sz xs fun w=>g w=z)∧φ z:=by
 unfold apart at *
 split at h <;> first | exact ⟨_,⟨h.1,rfl⟩,h.2⟩ | exact ⟨_,⟨h.1,h.2.1,rfl⟩,h.2.2⟩
theorem E6 {off:Nat} {sz:Option Nat} {x:AV} (h:fe off sz x φ):∃ z,fe off sz x (fun w=>w=z)∧φ z:=by
 unfold fe at *
 split at h <;> (try exact h.elim)
 exact yX h
theorem wK {off:Nat} {sz:Option Nat} {x:AV} (h:aq off sz x φ):∃ z,aq off sz x (fun w=>w=z)∧φ z:=by
 unfold aq at *
 split at h <;> (try exact h.elim)
 ·exact ⟨_,rfl,h⟩
 ·exact yX h
theorem wL {esz:Nat} {x i:AV} (h:aC esz x i φ):∃ z,aC esz x i (fun w=>w=z)∧φ z:=by
 unfold aC at *
 split at h <;> first | exact ⟨_,⟨h.1,h.2.1,rfl⟩,h.2.2⟩ | exact h.elim
theorem xZ {x i:AV} (h:bK x i φ):∃ z,bK x i (fun w=>w=z)∧φ z:=by
 unfold bK at *
 split at h <;> first | exact ⟨_,⟨h.1,h.2.1,rfl⟩,h.2.2⟩ | exact h.elim
theorem x7 {n:Nat} {x i:AV} (h:bT n x i φ):∃ z,bT n x i (fun w=>w=z)∧φ z:=by
 unfold bT at *
 split at h <;> first | exact ⟨_,⟨h.1,h.2.1,h.2.2.1,rfl⟩,h.2.2.2⟩ | exact h.elim
theorem AP {x:AV} {i:Nat} (h:bG x i φ):∃ z,bG x i (fun w=>w=z)∧φ z:=by
 unfold bG at *
 split at h <;> first | exact ⟨_,⟨h.1,rfl⟩,h.2⟩ | exact h.elim
theorem x8 {x:AV} (h:bU x φ):∃ z,bU x (fun w=>w=z)∧φ z:=by
 unfold bU at *
 split at h <;> first | exact ⟨_,rfl,h⟩ | exact h.elim
theorem AQ {k:IntKind} {x:AV} (h:cC k x φ):∃ z,cC k x (fun w=>w=z)∧φ z:=by
 unfold cC at *
 split at h <;> first | exact ⟨_,rfl,h⟩ | exact h.elim
theorem OK {big:Bool} {x y:AV} (h:xG big x y φ):∃ z,xG big x y (fun w=>w=z)∧φ z:=by
 unfold xG at *
 split at h <;> first | exact ⟨_,rfl,h⟩ | exact h.elim
theorem oU {x:Option AV} {d:Nat} {c1 c2:Nat→Prop} {g:Nat→AV} (h:dV x d fun k=>c1 k∧c2 k∧φ (g k)):∃ z,(dV x d fun k=>c1 k∧c2 k∧g k=z)∧φ z:=by
 unfold dV at *
 split at h
 ·exact ⟨_,⟨h.1,h.2.1,rfl⟩,h.2.2⟩
 ·exact ⟨_,⟨h.1,h.2.1,h.2.2.1,rfl⟩,h.2.2.2⟩
 ·exact h.elim
theorem iT {x:Option AV} {d:Nat} {ψ:(AV→Prop)→Nat→Prop} (h:dV x d (ψ φ)) (hd:∀ k,ψ φ k→∃ z,ψ (fun w=>w=z) k∧φ z):∃ z,dV x d (ψ fun w=>w=z)∧φ z:=by
 unfold dV at *
 split at h
 ·exact hd _ h
 ·obtain ⟨z,h2,h3⟩:=hd _ h.2;exact ⟨z,⟨h.1,h2⟩,h3⟩
 ·exact h.elim
theorem E7 {esz:Nat} {x:AV} {lo hi mx:Option AV} (h:fN esz x lo hi mx φ):∃ z,fN esz x lo hi mx (fun w=>w=z)∧φ z:=by
 unfold fN at *
 split at h <;> (try exact h.elim)
 rename_i xs ew
 cases mx with
 | none=>exact iT (ψ:=fun φ h=>dV lo 0 fun l=>l≤h∧h≤xs.length∧φ (.al 0 ((xs.take h).drop l))) h fun k h=>oU (c1:=fun l=>l≤k) (c2:=fun _=>k≤xs.length) (g:=fun l=>.al 0 ((xs.take k).drop l)) h
 | some m=>
   refine iT (ψ:=fun φ h=>dV lo 0 fun l=>l≤h∧h≤xs.length∧hi.isSome=true∧dV (some m) 0 fun m=>m=h∧(∀ y∈xs,y.cells.length=esz)∧φ (.al esz ((xs.take h).drop l))) h fun k h=>?_
   refine iT (ψ:=fun φ l=>l≤k∧k≤xs.length∧hi.isSome=true∧dV (some m) 0 fun m=>m=k∧(∀ y∈xs,y.cells.length=esz)∧φ (.al esz ((xs.take k).drop l))) h fun l h=>?_
   obtain ⟨h1,h2,h3,h4⟩:=h
   obtain ⟨z,k1,k2⟩:=oU (g:=fun _=>.al esz ((xs.take k).drop l)) h4
   exact ⟨z,⟨h1,h2,h3,k1⟩,k2⟩
theorem CO {esz:Nat} {x:AV} {lo hi mx:Option AV} (h:bD esz x lo hi mx φ):∃ z,bD esz x lo hi mx (fun w=>w=z)∧φ z:=by
 unfold bD gR oH at *
 split at h
 ·rename_i id off len cap
  split at h
  rotate_left
  ·rename_i m
   obtain ⟨h1,h2⟩:=h
   have:=iT (ψ:=fun φ m=>dV hi len fun h=>dV lo 0 fun l=>l≤h∧h≤m∧m≤cap∧φ (.aU id (if m=l then off else off + l * esz) (h - l) (m - l))) h2 fun m h=>
    iT (ψ:=fun φ h=>dV lo 0 fun l=>l≤h∧h≤m∧m≤cap∧φ (.aU id (if m=l then off else off + l * esz) (h - l) (m - l))) h fun k h=>
     iT (ψ:=fun φ l=>l≤k∧k≤m∧m≤cap∧φ (.aU id (if m=l then off else off + l * esz) (k - l) (m - l))) h fun l h=>⟨_,⟨h.1,h.2.1,h.2.2.1,rfl⟩,h.2.2.2⟩
   obtain ⟨z,k1,k2⟩:=this
   exact ⟨z,⟨h1,k1⟩,k2⟩
  have h2:=h
  have:=iT (ψ:=fun φ h=>dV lo 0 fun l=>l≤h∧h≤cap∧φ (.aU id (if cap=l then off else off + l * esz) (h - l) (cap - l))) h2 fun k h=>oU (c1:=fun l=>l≤k) (c2:=fun _=>k≤cap) (g:=fun l=>.aU id (if cap=l then off else off + l * esz) (k - l) (cap - l)) h
  obtain ⟨z,k1,k2⟩:=this
  exact ⟨z,k1,k2⟩
 ·obtain ⟨z,k1,k2⟩:=E7 h.2
  exact ⟨z,⟨h.1,k1⟩,k2⟩
theorem x9 {x:AV} {lo hi:Option AV} (h:cj x lo hi φ):∃ z,cj x lo hi (fun w=>w=z)∧φ z:=by
 unfold cj at *
 split at h <;> (try exact h.elim)
 rename_i s
 exact iT (ψ:=fun φ h=>dV lo 0 fun l=>l≤h∧h≤s.size∧φ (.str (s.extract l h))) h fun k h=>oU (c1:=fun l=>l≤k) (c2:=fun _=>k≤s.size) (g:=fun l=>.str (s.extract l k)) h
theorem CP {kd:Nat} {z m k:AV} {ok:Bool} {H:List aa} (h:ct kd z m k ok H φ):∃ y,ct kd z m k ok H (fun w=>w=y)∧φ y:=by
 unfold ct at *
 split at h <;> (try exact h.elim) <;> first | exact ⟨_,rfl,h⟩ | exact ⟨_,⟨h.1,rfl⟩,h.2⟩ | (split at h <;> (try exact h.elim) <;> first | exact ⟨_,rfl,h⟩ | exact ⟨_,⟨h.1,rfl⟩,h.2⟩ | (split at h <;> (try exact h.elim) <;> first | exact ⟨_,rfl,h⟩ | exact ⟨_,⟨h.1,rfl⟩,h.2⟩))
theorem uh {esz:Nat} {own:Nat}:∀ {ps:List (Nat×AV)} {zs:List AV},bj zs esz ps (fun v=>φ (.al own v))→∃ z,bj zs esz ps (fun v=>.al own v=z)∧φ z
 | [],zs,h=>⟨_,rfl,h⟩
 | (i,x)::r,zs,h=>by
   obtain ⟨z,k1,k2⟩:=uh h.2.2.2
   exact ⟨z,⟨h.1,h.2.1,h.2.2.1,k1⟩,k2⟩
theorem yY:∀ {ps:List (Nat×Nat×AV)} {zs:List AV},gE zs ps (fun v=>φ (.agg v))→∃ z,gE zs ps (fun v=>.agg v=z)∧φ z
 | [],zs,h=>⟨_,rfl,h⟩
 | (off,sz,x)::r,zs,h=>by
   obtain ⟨z,k1,k2⟩:=yY h.2.2.2
   exact ⟨z,⟨h.1,h.2.1,h.2.2.1,k1⟩,k2⟩
end
def fU (v:AV) (A B:Prop):Prop:=fc v fun q=>(q=true→A)∧(q=false→B)
@[congr] theorem QE {v v':AV} {A B:Prop} (h:gG v=v'):fU v A B=fU v' A B:=by subst h;rfl
theorem OL (A B:Prop):fU (.bool true) A B=A:=by simp [fU,fc]
theorem OM (A B:Prop):fU (.bool false) A B=B:=by simp [fU,fc]
theorem ON (b:Bool) (A B:Prop):fU (.bool (!b)) A B=fU (.bool b) B A:=by cases b <;> simp [fU,fc]
theorem OO (p:Prop) [Decidable p] (A B:Prop):fU (.bool (decide p)) A B=((p→A)∧(¬ p→B)):=by simp [fU,fc]
theorem rf {b:Bool} {A B:Prop} (h1:b=true→A) (h2:b=false→B):fU (.bool b) A B:=⟨h1,h2⟩
def dN (v:AV) (g:Nat) (want:Bool) (env:Env) (yes no:Env→Prop):Prop:=
 match v with
 | .bool b=>(b=want→yes ((g,.bool want)::env))∧(b=(!want)→no ((g,.bool (!want))::env))
 | .tuple []=>no env
 | _=>False
@[congr] theorem OP {v v':AV} {g:Nat} {want:Bool} {env:Env} {yes no:Env→Prop} (h:gG v=v'):dN v g want env yes no=dN v' g want env yes no:=by subst h;rfl
section
variable (g:Nat) (env:Env) (yes no:Env→Prop)
theorem WW:dN (.bool true) g true env yes no=yes ((g,.bool true)::env):=by simp [dN]
theorem WX:dN (.bool true) g false env yes no=no ((g,.bool true)::env):=by simp [dN]
theorem WY:dN (.bool false) g true env yes no=no ((g,.bool false)::env):=by simp [dN]
theorem WZ:dN (.bool false) g false env yes no=yes ((g,.bool false)::env):=by simp [dN]
theorem aau (want:Bool):dN (.tuple []) g want env yes no=no env:=aei
theorem W0 (p:Prop) [Decidable p]:dN (.bool (decide p)) g true env yes no=((p→yes ((g,.bool true)::env))∧(¬ p→no ((g,.bool false)::env))):=by simp [dN]
theorem W1 (p:Prop) [Decidable p]:dN (.bool (decide p)) g false env yes no=((¬ p→yes ((g,.bool false)::env))∧(p→no ((g,.bool true)::env))):=by simp [dN]
end
def yZ (P:Px) (g:FuncId) (xs:List AV) (H:List aa) (K:AV→List aa→Prop):Prop:=∃ bR,xP xs bR∧dW P g bR H K
@[congr] theorem QF {P:Px} {g:FuncId} {xs xs':List AV} {H H':List aa} {K:AV→List aa→Prop} (h:gG xs=xs') (h2:H=H'):yZ P g xs H K=yZ P g xs' H' K:=by subst h;subst h2;rfl
theorem CQ {P:Program} {lo:Option Nat} {g:FuncId} {xs ys:List AV} {H:List aa} {R K:AV→List aa→Prop} (hc:aw P g ys H R) (hl:xP xs ys) (hk:∀ r H',R r H'→K r H'):yZ ⟨P,lo⟩ g xs H K:=⟨ys,hl,dW.of (hc.mono hk)⟩
theorem ag {P:Program} {lo:Option Nat} {g:FuncId} {xs:List AV} {H:List aa} {R K:AV→List aa→Prop} (hc:aw P g xs H R) (hk:∀ r H',R r H'→K r H'):yZ ⟨P,lo⟩ g xs H K:=⟨xs,b9 _,dW.of (hc.mono hk)⟩
theorem af {P:Program} {lo:Option Nat} {g:FuncId} {xs:List AV} {v:AV} {H:List aa} {K:AV→List aa→Prop} (hc:Pure P g xs v) (hk:K v H):yZ ⟨P,lo⟩ g xs H K:=
 ⟨xs,b9 _,dW.of ((hc H).mono fun r H' ⟨h1,h2⟩=>by rw [h1,h2];exact hk)⟩
theorem OQ {P:Px} {env:Env} {H:List aa} (g:FuncId) (first cap:List AV) (args:List IX) (pass:Option Nat) (K:AV→Env→List aa→Prop):pw P (.fn (.func g) first cap) args pass env H K =
 yZ P g (first.map AV.ae++aH env pass 0 args++cap.map AV.ae) H (fun r H'=>K r (cP env (bh args pass)) H'):=aei
@[congr] theorem QG {P:Px} {f f':AV} {args:List IX} {pass:Option Nat} {env:Env} {H:List aa} {K:AV→Env→List aa→Prop} (h:gG f=f'):pw P f args pass env H K=pw P f' args pass env H K:=by subst h;rfl
def CR (P:Px) (st:Bool) (g:FuncId) (xs:List AV) (H:List aa) (K:AV→Prop):Prop:=
 ∃ x,(match st with
  | true=>∃ bR,xP xs bR∧aw P.prog g bR H (fun r H'=>r=x∧H'=H)
  | false=>∀ H,∃ bR,xP xs bR∧aw P.prog g bR H (fun r H'=>r=x∧H'=H))∧K x
@[congr] theorem QH {P:Px} {st:Bool} {g:FuncId} {xs xs':List AV} {H:List aa} {K:AV→Prop} (h:gG xs=xs'):CR P st g xs H K=CR P st g xs' H K:=by subst h;rfl
theorem aL {P:Program} {lo:Option Nat} {st:Bool} {g:FuncId} {xs:List AV} {v:AV} {H:List aa} {K:AV→Prop} (hc:Pure P g xs v) (hk:K v):CR ⟨P,lo⟩ st g xs H K:=
 ⟨v,(by cases st <;> first | exact ⟨xs,b9 _,hc H⟩ | exact fun H=>⟨xs,b9 _,hc H⟩),hk⟩
def pY (P:Px) (st:Bool) (f:AV) (xs:List AV) (H:List aa) (K:AV→Prop):Prop:=
 match f with
 | .fn (.func g) first cap=>CR P st g (first.map AV.ae++xs++cap.map AV.ae) H K
 | _=>False
@[congr] theorem OR {P:Px} {st:Bool} {f f':AV} {xs xs':List AV} {H:List aa} {K:AV→Prop} (h:gG f=f') (h2:xs=xs'):pY P st f xs H K=pY P st f' xs' H K:=by subst h;subst h2;rfl
theorem Iy {P:Px} {st:Bool} (g:FuncId) (first cap xs:List AV) (H:List aa) (K:AV→Prop):pY P st (.fn (.func g) first cap) xs H K=CR P st g (first.map AV.ae++xs++cap.map AV.ae) H K:=aei
def iw (x:AV) (H:List aa) (φ:AV→Prop):Prop:=match x with | .al _ xs=>φ (.int .i64 xs.length) | x=>fz x H φ
@[congr] theorem QI {x x':AV} {H:List aa} {φ:AV→Prop} (h:gG x=x'):iw x H φ=iw x' H φ:=by subst h;rfl
theorem Iz {x:AV} {H:List aa} {φ:AV→Prop} (h:iw x H φ):∃ z,fz x H (fun w=>w=z)∧φ z:=by
 cases x with
 | al o xs=>exact ⟨_,fun _=>rfl,h⟩
 | map id=>
   simp only [iw,fz] at h ⊢
   split at h
   ·exact ⟨_,rfl,h⟩
   ·exact h.elim
 | _=>first | exact ⟨_,rfl,h⟩ | exact False.elim h
def oV (kd:Nat) (neq:Bool) (x:AV) (φ:AV→Prop):Prop:=match isNil kd x with | some b=>φ (.bool (if neq then !b else b)) | none=>False
@[congr] theorem MQ {kd:Nat} {neq:Bool} {x x':AV} {φ:AV→Prop} (h:gG x=x'):oV kd neq x φ=oV kd neq x' φ:=by subst h;rfl
def wM (o:bZ) (ρ:IX→AV) (H:List aa) (K:AV→Prop):Prop:=
 match o with
 | .set i false=>K (ρ i).ae
 | .pick c a b=>fU (ρ c) (K (ρ a).ae) (K (ρ b).ae)
 | .bin op i j=>di op (ρ i) (ρ j) K
 | .shift op i j=>dT op (ρ i) (ρ j) K
 | .iB neq i j=>da neq (ρ i) (ρ j) K
 | .ju kd neq i=>oV kd neq (ρ i) K
 | .un op i=>zZ op (ρ i) K
 | .lY i=>(ρ i).val=true∧K (.aj (ρ i))
 | .build z ps=>b7 z.cells (ps.map fun q=>(q.1,q.2.1,ρ q.2.2)) K
 | .buildSlice own esz z len ps=>bj (List.replicate len (aP z)) esz (ps.map fun q=>(q.1,ρ q.2)) fun xs=>K (.al own xs)
 | .load sz i=>aV sz (ρ i) H K
 | .nilCheck i=>bU (ρ i) K
 | .fieldAddr off sz i=>aq off sz (ρ i) K
 | .field off sz i=>fe off sz (ρ i) K
 | .indexAddr esz i j=>(∀ own xs,ρ i=.al own xs→∀ z∈xs,z.cells.length=esz)∧aC esz (ρ i) (ρ j) K
 | .dj i j=>bK (ρ i) (ρ j) K
 | .dR n i j=>bT n (ρ i) (ρ j) K
 | .slice esz i lo hi mx=>bD esz (ρ i) (lo.map ρ) (hi.map ρ) (mx.map ρ) K
 | .dS i lo hi=>cj (ρ i) (lo.map ρ) (hi.map ρ) K
 | .len kd i=>aN kd (ρ i)∧iw (ρ i) H K
 | .lookup kd z m k ok=>ct kd z (ρ m) (ρ k) ok H K
 | .fn f first cap=>K (.fn f (first.map fun x=>(ρ x).ae) (cap.map fun x=>(ρ x).ae))
 | .extract i k=>bG (ρ i) k K
 | .eV k i=>cC k (ρ i) K
 | .mx big i j=>xG big (ρ i) (ρ j) K
 | _=>False
theorem CU {P:Px} {o:bZ} {ρ:IX→AV} {H:List aa} {K:AV→Prop} (h:wM o ρ H K):∃ x,de P o ρ H x∧K x:=by
 unfold wM at h
 split at h
 ·exact ⟨_,rfl,h⟩
 ·unfold fU fc at h
  simp only [de,fc]
  split at h
  ·rename_i b hb
   cases b with
   | true=>exact ⟨_,⟨fun _=>rfl,fun e=>by cases e⟩,h.1 rfl⟩
   | false=>exact ⟨_,⟨fun e=>(by cases e),fun _=>rfl⟩,h.2 rfl⟩
  ·exact h.elim
 ·exact KD h
 ·exact E5 h
 ·exact CN h
 ·unfold oV at h
  split at h
  ·rename_i b hb
   refine ⟨_,?_,h⟩
   simp only [de,dl,hb]
  ·exact h.elim
 ·exact OJ h
 ·exact ⟨_,⟨h.1,rfl⟩,h.2⟩
 ·exact yY h
 ·exact uh h
 ·exact Ix h
 ·exact x8 h
 ·exact wK h
 ·exact E6 h
 ·obtain ⟨z,k1,k2⟩:=wL h.2
  exact ⟨z,⟨h.1,k1⟩,k2⟩
 ·exact xZ h
 ·exact x7 h
 ·exact CO h
 ·exact x9 h
 ·obtain ⟨z,k1,k2⟩:=Iz h.2
  exact ⟨z,⟨h.1,k1⟩,k2⟩
 ·exact CP h
 ·exact ⟨_,rfl,h⟩
 ·exact AP h
 ·exact AQ h
 ·exact OK h
 ·exact h.elim
theorem IA {P:Px} {o:bZ} {ρ:IX→AV} {K:AV→Prop} (h:wM o ρ [] K):∃ x,(∀ H,de P o ρ H x)∧K x:=by
 obtain ⟨x,h1,h2⟩:=CU (P:=P) h
 have hs:o.stays=true:=by
  cases o <;> first | rfl | exact h.elim
 exact ⟨x,fun H=>by have:=yM (e:=H) hs h1;simpa using this,h2⟩
def lV (P:Px) (st:Bool) (o:bZ) (ρ:IX→AV) (H:List aa) (K:AV→Prop):Prop:=
 match o with
 | .call f args none=>pY P st (ρ f) (args.map fun x=>(ρ x).ae) H K
 | o=>wM o ρ (match st with | true=>H | false=>[]) K
theorem KE {P:Px} {st:Bool} {o:bZ} {ρ:IX→AV} {H:List aa} {K:AV→Prop} (h:lV P st o ρ H K):∃ x,dv P st o ρ H x∧K x:=by
 unfold lV at h
 split at h
 ·rename_i f args
  unfold pY at h
  split at h
  ·rename_i g first cap e
   obtain ⟨x,h1,h2⟩:=h
   cases st with
   | true=>exact ⟨x,by simp only [dv,de,e];exact h1,h2⟩
   | false=>exact ⟨x,by simp only [dv,de,e];exact h1,h2⟩
  ·exact h.elim
 ·cases st with
  | true=>exact CU h
  | false=>exact IA h
def GR (P:Px) (st:Bool) (o:bA) (env:Env) (H:List aa) (K:Env→Prop):Prop:=
 match o.g with
 | none=>lV P st o.op (au env) H fun x=>K (put o.dst x env)
 | some (g,want)=>dN (get env g) g want env (fun _=>lV P st o.op (au env) H fun x=>K (put o.dst x env)) (fun _=>K (put o.dst (.tuple []) env))
theorem CV {P:Px} {st:Bool} {o:bA} {env:Env} {H:List aa} {K1 K2:Env→Prop} (h:GR P st o env H K1) (hK:∀ e,K1 e→K2 e):tT P st o env H K2:=by
 unfold GR at h
 unfold tT
 split at h
 ·rename_i e
  rw [e]
  obtain ⟨x,h1,h2⟩:=KE h
  exact ⟨x,h1,hK _ h2⟩
 ·rename_i g want e
  rw [e]
  unfold dN at h
  unfold iE
  dsimp only
  split at h
  ·rename_i b hb
   rw [hb]
   refine ⟨fun eb=>?_,fun eb=>hK _ (h.2 eb)⟩
   obtain ⟨x,h1,h2⟩:=KE (h.1 eb)
   exact ⟨x,h1,hK _ h2⟩
  ·rename_i hb
   rw [hb]
   exact hK _ h
  ·exact h.elim
theorem CW {P:Px} {o:bZ} {dst:Option Nat} {env:Env} {H:List aa} {K1 K2:Env→List aa→Prop} (h:bp P o dst env H K1) (hK:∀ e H',K1 e H'→K2 e H'):bp P o dst env H K2:=
 oL (fun _ _=>rfl) h fun mods H' _ _ _ hk=>hK _ _ hk
theorem sO {P:Px} {o:bA} {env:Env} {H:List aa} {K1 K2:Env→List aa→Prop} (h:sy P o env H K1) (hK:∀ e H',K1 e H'→K2 e H'):sy P o env H K2:=by
 unfold sy at *
 split at h
 ·exact CW h hK
 ·rename_i g want e
  unfold iE at *
  split at h
  ·exact ⟨fun eb=>CW (h.1 eb) hK,fun eb=>hK _ _ (h.2 eb)⟩
  ·exact hK _ _ h
  ·exact h.elim
theorem sP {P:Px}:∀ {ops:List bA} {env:Env} {H:List aa} {K1 K2:Env→List aa→Prop},jB P ops env H K1→(∀ e H',K1 e H'→K2 e H')→jB P ops env H K2
 | [],_,_,_,_,h,hK=>hK _ _ h
 | o::r,_,_,_,_,h,hK=>sO h fun _ _ h=>sP h hK
def jn (P:Px):DT→Env→List aa→(Env→List aa→Prop)→Prop
 | .done,env,H,K=>K env H
 | .take st o r,env,H,K=>GR P st o env H fun env=>jn P r env H K
 | .br o t rest,env,H,K=>sy P o env H (fun env H=>jn P t env H K)∧jn P rest env H K
 | .nil,_,_,_=>True
theorem rh {P:Px}:∀ {t:DT} {env:Env} {H:List aa} {K1 K2:Env→List aa→Prop},jn P t env H K1→(∀ e H',K1 e H'→K2 e H')→uS P t env H K2
 | .done,_,_,_,_,h,hK=>hK _ _ h
 | .take st o r,_,_,_,_,h,hK=>CV h fun _ h=>rh h hK
 | .br o t rest,_,_,_,_,h,hK=>⟨sO h.1 fun _ _ h=>rh h hK,rh h.2 hK⟩
 | .nil,_,_,_,_,h,hK=>trivial
def wN (P:Px) (f:AV) (lc:iP) (env:Env) (H:List aa) (K:Option Code→List aa→Prop):Prop:=
 match f with
 | .fn (.func g) first cap=>(∀ (as:Array Value) (w:World),(callFunc g as).run P.prog w=.ok (.enter g as) w)∧
    ∃ bR,xP (first.map AV.ae++[.nF H.length]++cap.map AV.ae) bR∧dW P g bR (H++[.loop .ready lc (kS lc.n env)]) fun _ H'=>behind H.length H' K
 | _=>False
theorem y0 {j:Option Code} {Q1 Q2:Exit→Env→List aa→Prop} {env:Env} {H:List aa} (h:pP j Q1 env H) (hQ:∀ x e H',Q1 x e H'→Q2 x e H'):pP j Q2 env H:=by
 unfold pP at *
 split at h <;> first | exact hQ _ _ _ h | exact h.elim
theorem ui {id:Nat} {H:List aa} {K1 K2:Option Code→List aa→Prop} (h:behind id H K1) (hK:∀ j H',K1 j H'→K2 j H'):behind id H K2:=by
 unfold behind at *
 split at h <;> first | exact hK _ _ h | exact h.elim
def lW (P:Px) (n0:Nat):IR→Env→List aa→(Exit→Env→List aa→Prop)→Prop
 | .skip,env,H,Q=>Q .normal env H
 | .region ops live,env,H,Q=>jB P ops env H fun aF H'=>Q .normal (eJ live aF) H'
 | .draw t live,env,H,Q=>jn P t env H fun aF H'=>Q .normal (eJ live aF) H'
 | .seq a b,env,H,Q=>lW P n0 a env H fun e aF H'=>match e with
   | .normal=>lW P n0 b aF H' Q
   | e=>Q e aF H'
 | .cond x a b,env,H,Q=>fU (au env x) (lW P n0 a env H Q) (lW P n0 b env H Q)
 | .block id a,env,H,Q=>lW P n0 a env H fun e aF H'=>match e with
   | .exit id'=>if id'=id then Q .normal aF H' else Q (.exit id') aF H'
   | e=>Q e aF H'
 | .loop a,env,H,Q=>∃ (ι:Type) (I:ι→Prop) (se:ι→Env) (sh:ι→List aa) (μ:ι→Nat),(∃ i,I i∧HX P.lo n0 env H (se i) (sh i))∧
    ∀ i,I i→lW P n0 a (se i) (sh i) fun e aF H'=>match e with
     | .normal=>∃ j,I j∧μ j < μ i∧HX P.lo n0 aF H' (se j) (sh j)
     | e=>Q e aF H'
 | .exit id,env,H,Q=>Q (.exit id) env H
 | .ret,env,H,Q=>Q .ret env H
 | .never,env,H,Q=>False
 | .jk f lc,env,H,Q=>wN P (au env f) lc env H fun j H''=>pP j Q env H''
theorem vf {P:Px} {n0:Nat}:∀ {ir:IR} {env:Env} {H:List aa} {Q1 Q2:Exit→Env→List aa→Prop},lW P n0 ir env H Q1→(∀ x e H',Q1 x e H'→Q2 x e H')→m9 P n0 ir env H Q2:=by
 intro ir
 induction ir with
 | skip=>exact fun h hQ=>hQ _ _ _ h
 | region ops live=>exact fun h hQ=>sP h fun _ _ h=>hQ _ _ _ h
 | draw t live=>exact fun h hQ=>rh h fun _ _ h=>hQ _ _ _ h
 | seq a b E8 Th=>
   exact fun h hQ=>E8 h fun x e H' h=>by
    cases x with
    | normal=>exact Th h hQ
    | _=>exact hQ _ _ _ h
 | cond x a b E8 Th=>
   intro env H Q1 Q2 h hQ
   unfold lW fU fc at h
   unfold m9 fc
   split at h
   ·exact ⟨fun e=>E8 (h.1 e) hQ,fun e=>Th (h.2 e) hQ⟩
   ·exact h.elim
 | block id a E8=>
   exact fun h hQ=>E8 h fun x e H' h=>by
    cases x with
    | exit id'=>
      dsimp only at h ⊢
      split
      ·rename_i bm;rw [if_pos bm] at h;exact hQ _ _ _ h
      ·rename_i bm;rw [if_neg bm] at h;exact hQ _ _ _ h
    | _=>exact hQ _ _ _ h
 | loop a E8=>
   intro env H Q1 Q2 h hQ
   obtain ⟨ι,I,se,sh,μ,h0,hs⟩:=h
   exact ⟨ι,I,se,sh,μ,h0,fun i hi=>E8 (hs i hi) fun x e H' h=>by
    cases x with
    | normal=>exact h
    | _=>exact hQ _ _ _ h⟩
 | exit id=>exact fun h hQ=>hQ _ _ _ h
 | ret=>exact fun h hQ=>hQ _ _ _ h
 | never=>exact fun h _=>h.elim
 | jk f lc=>
   intro env H Q1 Q2 h hQ
   unfold lW wN at h
   unfold m9
   split at h
   ·rename_i g first cap e
    obtain ⟨h1,bR,h2,h3⟩:=h
    rw [e]
    exact ⟨h1,bR,h2,h3.mono fun _ H' hb=>ui hb fun j H'' hg=>y0 hg hQ⟩
   ·exact h.elim
theorem iS.calls {P:Program} {f:FuncId} {fi:ra} (h:iS P f fi) {args:List AV} {H:List aa} {R:AV→List aa→Prop} (hn:Nat.ble args.length fi.n=true)
 (hw:lW P H.length fi.ir (b8 0 args) H fun e env H'=>(e=.normal∨e=.ret)∧bV H.length fi.rs env H' R):aw P f args H R:=
 h.AG (adD hn) (vf hw fun _ _ _ h=>h)
theorem iS.E9 {P:Program} {f:FuncId} {fi:ra} (h:iS P f fi) {args:List AV} {H:List aa} {R:AV→List aa→Prop} (hn:Nat.ble args.length fi.n=true)
 (hw:lW ⟨P,some H.length⟩ H.length fi.ir (b8 0 args) H fun e env H'=>(e=.normal∨e=.ret)∧lD (nc H.length) H.length fi.rs env H' R):aw P f args H R:=
 h.ND (adD hn) (vf hw fun _ _ _ h=>h)
section
variable {P:Px} {n0:Nat} {env:Env} {H:List aa} {Q:Exit→Env→List aa→Prop}
theorem KF:lW P n0 .skip env H Q=Q .normal env H:=aei
theorem Fa (ops:List bA) (live:Option (List Nat)):lW P n0 (.region ops live) env H Q=jB P ops env H fun aF H'=>Q .normal (eJ live aF) H':=aei
theorem KG (t:DT) (live:Option (List Nat)):lW P n0 (.draw t live) env H Q=jn P t env H fun aF H'=>Q .normal (eJ live aF) H':=aei
theorem OS (a b:IR):lW P n0 (.seq a b) env H Q=lW P n0 a env H fun e aF H'=>match e with
 | .normal=>lW P n0 b aF H' Q
 | e=>Q e aF H':=aei
theorem CX (x:IX) (a b:IR):lW P n0 (.cond x a b) env H Q=fU (au env x) (lW P n0 a env H Q) (lW P n0 b env H Q):=aei
theorem IB (id:Nat) (a:IR):lW P n0 (.block id a) env H Q=lW P n0 a env H fun e aF H'=>match e with
 | .exit id'=>if id'=id then Q .normal aF H' else Q (.exit id') aF H'
 | e=>Q e aF H':=aei
theorem y7 (f:IX) (lc:iP):lW P n0 (.jk f lc) env H Q=wN P (au env f) lc env H fun j H''=>pP j Q env H'':=aei
theorem KH (id:Nat):lW P n0 (.exit id) env H Q=Q (.exit id) env H:=aei
theorem OT:lW P n0 .ret env H Q=Q .ret env H:=aei
@[congr] theorem U4 {ir:IR} {aF:Env} {H':List aa} (h:gG env=aF) (h2:H=H'):lW P n0 ir env H Q=lW P n0 ir aF H' Q:=by subst h;subst h2;rfl
@[congr] theorem Ti {ops:List bA} {aF:Env} {H':List aa} {K:Env→List aa→Prop} (h:gG env=aF) (h2:H=H'):jB P ops env H K=jB P ops aF H' K:=by subst h;subst h2;rfl
@[congr] theorem Tj {t:DT} {aF:Env} {H':List aa} {K:Env→List aa→Prop} (h:gG env=aF) (h2:H=H'):jn P t env H K=jn P t aF H' K:=by subst h;subst h2;rfl
theorem KI (K:Env→List aa→Prop):jB P [] env H K=K env H:=aei
theorem Tk (d:Option Nat) (op:bZ) (r:List bA) (K:Env→List aa→Prop):jB P (⟨none,d,op⟩::r) env H K=bp P op d env H fun env H=>jB P r env H K:=aei
theorem Tl (g:Nat) (w:Bool) (d:Option Nat) (op:bZ) (r:List bA) (K:Env→List aa→Prop):jB P (⟨some (g,w),d,op⟩::r) env H K =
 dN (get env g) g w env (fun env=>bp P op d env H fun env H=>jB P r env H K) (fun env=>jB P r (put d (.tuple []) env) H K):=aei
theorem W2 (d:Option Nat) (op:bZ) (K:Env→List aa→Prop):sy P ⟨none,d,op⟩ env H K=bp P op d env H K:=aei
theorem W3 (g:Nat) (w:Bool) (d:Option Nat) (op:bZ) (K:Env→List aa→Prop):sy P ⟨some (g,w),d,op⟩ env H K =
 dN (get env g) g w env (fun env=>bp P op d env H K) (fun env=>K (put d (.tuple []) env) H):=aei
@[congr] theorem U5 {o:bA} {K:Env→List aa→Prop} {H':List aa} (h:gG H=H'):sy P o env H K=sy P o env H' K:=by subst h;rfl
@[congr] theorem U6 {o:bZ} {d:Option Nat} {K:Env→List aa→Prop} {H':List aa} (h:gG H=H'):bp P o d env H K=bp P o d env H' K:=by subst h;rfl
theorem IC (K:Env→List aa→Prop):jn P .done env H K=K env H:=aei
theorem KJ (K:Env→List aa→Prop):jn P .nil env H K=True:=aei
theorem Tm (st:Bool) (d:Option Nat) (op:bZ) (r:DT) (K:Env→List aa→Prop):jn P (.take st ⟨none,d,op⟩ r) env H K=lV P st op (au env) H fun x=>jn P r (put d x env) H K:=aei
theorem Tn (st:Bool) (g:Nat) (w:Bool) (d:Option Nat) (op:bZ) (r:DT) (K:Env→List aa→Prop):jn P (.take st ⟨some (g,w),d,op⟩ r) env H K =
 dN (get env g) g w env (fun _=>lV P st op (au env) H fun x=>jn P r (put d x env) H K) (fun _=>jn P r (put d (.tuple []) env) H K):=aei
theorem OU (o:bA) (t rest:DT) (K:Env→List aa→Prop):jn P (.br o t rest) env H K=(sy P o env H (fun env H=>jn P t env H K)∧jn P rest env H K):=aei
@[congr] theorem U7 {st:Bool} {o:bZ} {ρ:IX→AV} {K:AV→Prop} {H':List aa} (h:gG H=H'):lV P st o ρ H K=lV P st o ρ H' K:=by subst h;rfl
theorem KK {P:Program} {a:IR} (ι:Type) (I:ι→Prop) (se:ι→Env) (sh:ι→List aa) (μ:ι→Nat) (i0:ι) (h0:I i0) (VK:sle n0 env H (se i0) (sh i0))
 (hs:∀ i,I i→lW P n0 a (se i) (sh i) fun e aF H'=>match e with
   | .normal=>∃ j,I j∧μ j < μ i∧sle n0 aF H' (se j) (sh j)
   | e=>Q e aF H'):lW P n0 (.loop a) env H Q:=⟨ι,I,se,sh,μ,⟨i0,h0,VK⟩,hs⟩
theorem aR {P:Program} {a:IR} (N:Nat) (I:Nat→Prop) (se:Nat→Env) (sh:Nat→List aa) (h0:I 0∧sle n0 env H (se 0) (sh 0))
 (hs:∀ i,i≤N→I i→lW P n0 a (se i) (sh i) fun e aF H'=>match e with
   | .normal=>∃ j,(j≤N∧I j)∧N - j < N - i∧sle n0 aF H' (se j) (sh j)
   | e=>Q e aF H'):lW P n0 (.loop a) env H Q:=
 ⟨Nat,fun i=>i≤N∧I i,se,sh,fun i=>N - i,⟨0,⟨ac1 _,h0.1⟩,h0.2⟩,fun i hi=>hs i hi.1 hi.2⟩
end
section
variable {φ:AV→Prop}
@[congr] theorem QJ {v v':AV} {ψ:Bool→Prop} (h:gG v=v'):fc v ψ=fc v' ψ:=by subst h;rfl
@[congr] theorem To {op:BinOp} {x x' y y':AV} (h:gG x=x') (h2:y=y'):di op x y φ=di op x' y' φ:=by subst h;subst h2;rfl
@[congr] theorem OV {op:BinOp} {x x' y y':AV} (h:gG x=x') (h2:y=y'):dT op x y φ=dT op x' y' φ:=by subst h;subst h2;rfl
@[congr] theorem MR {n:Bool} {x x' y y':AV} (h:gG x=x') (h2:y=y'):da n x y φ=da n x' y' φ:=by subst h;subst h2;rfl
@[congr] theorem OW {k:Nat} {n:Bool} {x x':AV} (h:gG x=x'):dl k n x φ=dl k n x' φ:=by subst h;rfl
@[congr] theorem U8 {op:UnOp} {x x':AV} (h:gG x=x'):zZ op x φ=zZ op x' φ:=by subst h;rfl
@[congr] theorem QK {sz:Option Nat} {x x':AV} {H H':List aa} (h:gG x=x') (h2:H=H'):aV sz x H φ=aV sz x' H' φ:=by subst h;subst h2;rfl
@[congr] theorem ID {off:Nat} {sz:Option Nat} {x x':AV} (h:gG x=x'):aq off sz x φ=aq off sz x' φ:=by subst h;rfl
@[congr] theorem OX {off:Nat} {sz:Option Nat} {x x':AV} (h:gG x=x'):fe off sz x φ=fe off sz x' φ:=by subst h;rfl
@[congr] theorem IE {e:Nat} {x x' y y':AV} (h:gG x=x') (h2:y=y'):aC e x y φ=aC e x' y' φ:=by subst h;subst h2;rfl
@[congr] theorem Jy {n:Nat} {x x' y y':AV} (h:gG x=x') (h2:y=y'):bT n x y φ=bT n x' y' φ:=by subst h;subst h2;rfl
@[congr] theorem Jz {x x' y y':AV} (h:gG x=x') (h2:y=y'):bK x y φ=bK x' y' φ:=by subst h;subst h2;rfl
@[congr] theorem Tp {x x':AV} {H H':List aa} (h:gG x=x') (h2:H=H'):fz x H φ=fz x' H' φ:=by subst h;subst h2;rfl
@[congr] theorem KL {x x':AV} {i:Nat} (h:gG x=x'):bG x i φ=bG x' i φ:=by subst h;rfl
@[congr] theorem JA {x x':AV} (h:gG x=x'):bU x φ=bU x' φ:=by subst h;rfl
@[congr] theorem KM {k:IntKind} {x x':AV} (h:gG x=x'):cC k x φ=cC k x' φ:=by subst h;rfl
@[congr] theorem U9 {b:Bool} {x x' y y':AV} (h:gG x=x') (h2:y=y'):xG b x y φ=xG b x' y' φ:=by subst h;subst h2;rfl
@[congr] theorem MS {kd:Nat} {z m m' k k':AV} {ok:Bool} {H H':List aa} (h:gG m=m') (h2:k=k') (h3:H=H'):ct kd z m k ok H φ=ct kd z m' k' ok H' φ:=by subst h;subst h2;subst h3;rfl
@[congr] theorem MT {kd:Nat} {m m' k k' x x':AV} {H H':List aa} {K:List aa→Prop} (h:gG m=m') (h2:k=k') (h3:x=x') (h4:H=H'):fD kd m k x H K=fD kd m' k' x' H' K:=by subst h;subst h2;subst h3;subst h4;rfl
@[congr] theorem OY {m:Nat} {p p' x x':AV} {H H':List aa} {K:List aa→Prop} (h:gG p=p') (h2:x=x') (h3:H=H'):iD m p x H K=iD m p' x' H' K:=by subst h;subst h2;subst h3;rfl
@[congr] theorem KN {p p' x x':AV} {H H':List aa} {K:List aa→Prop} (h:gG p=p') (h2:x=x') (h3:H=H'):dU p x H K=dU p' x' H' K:=by subst h;subst h2;subst h3;rfl
@[congr] theorem MU {e b:Nat} {s s' x x':AV} {ψ:List AV→Prop} (h:gG s=s') (h2:x=x'):bw e b s x ψ=bw e b s' x' ψ:=by subst h;subst h2;rfl
@[congr] theorem OZ {e b:Nat} {z n n':AV} {H H':List aa} {K:AV→List aa→Prop} (h:gG n=n') (h2:H=H'):gv e b z n H K=gv e b z n' H' K:=by subst h;subst h2;rfl
@[congr] theorem KO {e b:Nat} {z s s' x x':AV} {H H':List aa} {K:AV→List aa→Prop} (h:gG s=s') (h2:x=x') (h3:H=H'):cT e b z s x H K=cT e b z s' x' H' K:=by subst h;subst h2;subst h3;rfl
@[congr] theorem KP {lo e b:Nat} {z s s' x x':AV} {H H':List aa} {K:AV→List aa→Prop} (h:gG s=s') (h2:x=x') (h3:H=H'):lq lo e b z s x H K=lq lo e b z s' x' H' K:=by subst h;subst h2;subst h3;rfl
@[congr] theorem MV {e:Nat} {z x x':AV} {H H':List aa} {K:List aa→Prop} (h:gG x=x') (h2:H=H'):iM e z x H K=iM e z x' H' K:=by subst h;subst h2;rfl
@[congr] theorem QL {xs xs':List AV} {H H':List aa} {K:AV→List aa→Prop} (h:gG xs=xs') (h2:H=H'):tP xs H K=tP xs' H' K:=by subst h;subst h2;rfl
@[congr] theorem O0 {e b:Nat} {n n':AV} (h:gG n=n'):ji e b n φ=ji e b n' φ:=by subst h;rfl
@[congr] theorem QM {e:Nat} {d d' s s':AV} {H H':List aa} {K:AV→List aa→Prop} (h:gG d=d') (h2:s=s') (h3:H=H'):jP e d s H K=jP e d' s' H' K:=by subst h;subst h2;subst h3;rfl
@[congr] theorem QN {e:Nat} {x x':AV} {H H':List aa} {K:AV→List aa→Prop} (h:gG x=x') (h2:H=H'):fH e x H K=fH e x' H' K:=by subst h;subst h2;rfl
@[congr] theorem MW {e:Nat} {x x':AV} {lo lo' hi l9 m m':Option AV} (h:gG x=x') (h1:lo=lo') (h2:hi=l9) (h3:m=m'):bD e x lo hi m φ=bD e x' lo' l9 m' φ:=by subst h;subst h1;subst h2;subst h3;rfl
@[congr] theorem JB {x x':AV} {lo lo' hi l9:Option AV} (h:gG x=x') (h1:lo=lo') (h2:hi=l9):cj x lo hi φ=cj x lo' l9 φ:=by subst h;subst h1;subst h2;rfl
@[congr] theorem Tq {n0:Nat} {rs:List RX} {env aF:Env} {H H':List aa} {R:AV→List aa→Prop} (h:gG env=aF) (h2:H=H'):bV n0 rs env H R=bV n0 rs aF H' R:=by subst h;subst h2;rfl
end
end Go.aJ
end
section
namespace Go.aJ
open Go
section
variable {P:Px} {env:Env} {H:List aa} {dst:Option Nat} {K:Env→List aa→Prop}
theorem Tr (op:BinOp) (x:IX) (y:IX):bp P (.bin op x y) dst env H K=(di op (au env x) (au env y) fun z=>K (put dst z env) H):=aei
theorem KQ (op:BinOp) (x:IX) (y:IX):bp P (.shift op x y) dst env H K=(dT op (au env x) (au env y) fun z=>K (put dst z env) H):=aei
theorem IF (neq:Bool) (x:IX) (y:IX):bp P (.iB neq x y) dst env H K=(da neq (au env x) (au env y) fun z=>K (put dst z env) H):=aei
theorem KR (kd:Nat) (neq:Bool) (x:IX):bp P (.ju kd neq x) dst env H K=(dl kd neq (au env x) fun z=>K (put dst z env) H):=aei
theorem W4 (op:UnOp) (x:IX):bp P (.un op x) dst env H K=(zZ op (au env x) fun z=>K (put dst z env) H):=aei
theorem Ts (x:IX):bp P (.box x) dst env H K=((au env x).val=true∧ak (H.length + 1) ((au env x).cells.map AV.ae)=true∧K (put dst (.ptr H.length 0) env) (H++[.cells ((au env x).cells.map AV.ae)])):=aei
theorem O4 (x:IX):bp P (.lY x) dst env H K=((au env x).val=true∧K (put dst (.aj (au env x)) env) H):=aei
theorem O5 (m:Nat) (x:IX):bp P (.sk m x) dst env H K=((au env x).val=true∧(au env x).cells.length=m∧(au env x).cells.all AV.one=true∧K (put dst (.aj (au env x)) env) H):=aei
theorem KS (z:AV):bp P (.alloc z) dst env H K=(ak (H.length + 1) (z.cells.map AV.ae)=true∧K (put dst (.ptr H.length 0) env) (H++[.cells (z.cells.map AV.ae)])):=aei
theorem KT (z:AV) (ps:List (Nat×Nat×IX)):bp P (.build z ps) dst env H K=(b7 z.cells (ps.map fun q=>(q.1,q.2.1,au env q.2.2)) fun v=>K (put dst v env) H):=aei
theorem ya (own:Nat) (esz:Nat) (z:AV) (len:Nat) (ps:List (Nat×IX)):bp P (.buildSlice own esz z len ps) dst env H K=(bj (List.replicate len (aP z)) esz (ps.map fun q=>(q.1,au env q.2)) fun xs=>K (put dst (.al own xs) env) H):=aei
theorem O6 (sz:Option Nat) (a:IX):bp P (.load sz a) dst env H K=(aV sz (au env a) H fun z=>K (put dst z env) H):=aei
theorem KU (sz:Option Nat) (esz:Nat) (a:IX):bp P (.tG sz esz a) dst env H K=(aV sz (au env a) H fun z=>fH esz z H fun y H'=>K (put dst y env) H'):=aei
theorem KV (m:Nat) (a:IX) (x:IX):bp P (.store m a x) dst env H K=(iD m (au env a) (au env x) H fun H'=>K env H'):=aei
theorem IG {P:Program} {l:Nat} (m:Nat) (a:IX) (x:IX):bp ⟨P,some l⟩ (.nI m a x) dst env H K=(gQ l m (au env a) (au env x) H fun H'=>K env H'):=aei
theorem Fb (a:IX) (s:Nat):bp P (.fy a s) dst env H K=(dU (au env a) (get env s) H fun H'=>K ((s,(get env s).ae)::env) H'):=aei
theorem CY (x:IX):bp P (.nilCheck x) dst env H K=(bU (au env x) fun z=>K (put dst z env) H):=aei
theorem AR (off:Nat) (sz:Option Nat) (x:IX):bp P (.fieldAddr off sz x) dst env H K=(aq off sz (au env x) fun z=>K (put dst z env) H):=aei
theorem KW (off:Nat) (sz:Option Nat) (x:IX):bp P (.field off sz x) dst env H K=(fe off sz (au env x) fun z=>K (put dst z env) H):=aei
theorem AS (esz:Nat) (x:IX) (i:IX):bp P (.indexAddr esz x i) dst env H K=((∀ own xs,au env x=.al own xs→∀ z∈xs,z.cells.length=esz)∧aC esz (au env x) (au env i) fun z=>K (put dst z env) H):=aei
theorem CZ (n:Nat) (x:IX) (i:IX):bp P (.dR n x i) dst env H K=(bT n (au env x) (au env i) fun z=>K (put dst z env) H):=aei
theorem IH (esz:Nat) (x:IX) (lo:Option IX) (hi:Option IX) (mx:Option IX):bp P (.pL esz x lo hi mx) dst env H K=((∀ own xs,au env x=.al own xs→∀ z∈xs,z.cells.length=esz)∧fN esz (au env x) (gS env lo) (gS env hi) (gS env mx) fun z=>z=.al esz []∧K (put dst .nC env) H):=aei
theorem C0 (x:IX) (i:IX):bp P (.dj x i) dst env H K=(bK (au env x) (au env i) fun z=>K (put dst z env) H):=aei
theorem KX (esz:Nat) (x:IX) (lo:Option IX) (hi:Option IX) (mx:Option IX):bp P (.slice esz x lo hi mx) dst env H K=(bD esz (au env x) (gS env lo) (gS env hi) (gS env mx) fun z=>K (put dst z env) H):=aei
theorem O7 (esz:Nat) (d:IX) (s:IX):bp P (.copy esz d s) dst env H K=(jP esz (au env d) (au env s) H fun z H'=>K (put dst z env) H'):=aei
theorem C1 (x:IX) (lo:Option IX) (hi:Option IX):bp P (.dS x lo hi) dst env H K=(cj (au env x) (gS env lo) (gS env hi) fun z=>K (put dst z env) H):=aei
theorem Tt (kd:Nat) (x:IX):bp P (.len kd x) dst env H K=(aN kd (au env x)∧fz (au env x) H fun z=>K (put dst z env) H):=aei
theorem II (esz:Nat) (bytes:Nat) (s:IX) (x:IX):bp P (.append esz bytes s x) dst env H K=(bw esz bytes (au env s) (au env x) fun zs=>K (put dst (.al esz zs) (cP env s.slot)) H):=aei
theorem KY (esz:Nat) (bytes:Nat) (z:AV) (n:IX):bp P (.tH esz bytes z n) dst env H K=(gv esz bytes z (au env n) H fun v H'=>K (put dst v env) H'):=aei
theorem vg (esz:Nat) (z:AV) (len:Nat) (ps:List (Nat×IX)):bp P (.BT esz z len ps) dst env H K=(bj (List.replicate len (aP z)) esz (ps.map fun q=>(q.1,au env q.2)) fun xs=>tP xs H fun v H'=>K (put dst v env) H'):=aei
theorem IJ (esz:Nat) (z:AV) (x:IX):bp P (.nL esz z x) dst env H K=(iM esz z (au env x) H fun H'=>K (put dst (.tuple []) env) H'):=aei
theorem Fc (esz bytes:Nat) (z:AV) (s x:IX):bp P (.jy esz bytes z s x) dst env H K=(cT esz bytes z (au env s) (au env x) H fun v H'=>K (put dst v env) H'):=aei
theorem KZ (esz:Nat) (bytes:Nat) (n:IX):bp P (.nJ esz bytes n) dst env H K=(ji esz bytes (au env n) fun v=>K (put dst v env) H):=aei
theorem K0 :bp P (.nK ) dst env H K=(K (put dst (.map H.length) env) (H++[.map []])):=aei
theorem IK (kd:Nat) (z:AV) (m:IX) (k:IX) (ok:Bool):bp P (.lookup kd z m k ok) dst env H K=(ct kd z (au env m) (au env k) ok H fun v=>K (put dst v env) H):=aei
theorem IM (kd:Nat) (m:IX) (k:IX) (x:IX):bp P (.kL kd m k x) dst env H K=(fD kd (au env m) (au env k) (au env x) H fun H'=>K env H'):=aei
theorem W5 (f:Fn) (first:List IX) (cap:List IX):bp P (.fn f first cap) dst env H K=(K (put dst (.fn f (first.map fun x=>(au env x).ae) (cap.map fun x=>(au env x).ae)) env) H):=aei
theorem Fe (x:IX) (i:Nat):bp P (.extract x i) dst env H K=(bG (au env x) i fun z=>K (put dst z env) H):=aei
theorem Ff (k:IntKind) (x:IX):bp P (.eV k x) dst env H K=(cC k (au env x) fun z=>K (put dst z env) H):=aei
theorem Fg (x:IX):bp P (.gO x) dst env H K=(fQ (au env x) fun z=>K (put dst z env) H):=aei
theorem Fh (x:IX):bp P (.bytesOf x) dst env H K=(fm 1 (au env x) fun z=>K (put dst z env) H):=aei
theorem K3 (x:IX):bp P (.strOf x) dst env H K=(jN (au env x) fun z=>K (put dst z env) H):=aei
theorem W6 (big:Bool) (a:IX) (b:IX):bp P (.mx big a b) dst env H K=(xG big (au env a) (au env b) fun z=>K (put dst z env) H):=aei
theorem O8 (esz:Nat) (x:IX):bp P (.zX esz x) dst env H K=(fH esz (au env x) H fun z H'=>K (put dst z env) H'):=aei
theorem K4 (x:IX) (take:Bool):bp P (.set x take) none env H K=K env H:=aei
theorem Tv (d:Nat) (x:IX):bp P (.set x false) (some d) env H K=K ((d,(au env x).ae)::env) H:=by cases x <;> rfl
theorem O9 (d s:Nat):bp P (.set (.t s) true) (some d) env H K=K ((d,get env s)::(s,(get env s).ae)::env) H:=aei
theorem K5 (d:Nat) (v:AV):bp P (.set (.c v) true) (some d) env H K=K ((d,v.ae)::env) H:=aei
theorem Pa (c a b:IX):bp P (.pick c a b) dst env H K=fU (au env c) (K (put dst (au env a).ae env) H) (K (put dst (au env b).ae env) H):=aei
theorem Pb (f:IX) (args:List IX) (pass:Option Nat):bp P (.call f args pass) dst env H K=pw P (au env f) args pass env H (fun r aF H'=>K (put dst r aF) H'):=aei
end
section
variable {P:Px} {st:Bool} {ρ:IX→AV} {H:List aa} {K:AV→Prop}
theorem Tw (i:IX):lV P st (.set i false) ρ H K=K (ρ i).ae:=by cases st <;> rfl
theorem Pc (c:IX) (a:IX) (b:IX):lV P st (.pick c a b) ρ H K=(fU (ρ c) (K (ρ a).ae) (K (ρ b).ae)):=aei
theorem Tx (op:BinOp) (i:IX) (j:IX):lV P st (.bin op i j) ρ H K=(di op (ρ i) (ρ j) K):=aei
theorem K6 (op:BinOp) (i:IX) (j:IX):lV P st (.shift op i j) ρ H K=(dT op (ρ i) (ρ j) K):=aei
theorem IN (neq:Bool) (i:IX) (j:IX):lV P st (.iB neq i j) ρ H K=(da neq (ρ i) (ρ j) K):=aei
theorem K7 (kd:Nat) (neq:Bool) (i:IX):lV P st (.ju kd neq i) ρ H K=(oV kd neq (ρ i) K):=aei
theorem W7 (op:UnOp) (i:IX):lV P st (.un op i) ρ H K=(zZ op (ρ i) K):=aei
theorem Pd (i:IX):lV P st (.lY i) ρ H K=((ρ i).val=true∧K (.aj (ρ i))):=aei
theorem K8 (z:AV) (ps:List (Nat×Nat×IX)):lV P st (.build z ps) ρ H K=(b7 z.cells (ps.map fun q=>(q.1,q.2.1,ρ q.2.2)) K):=aei
theorem yb (own:Nat) (esz:Nat) (z:AV) (len:Nat) (ps:List (Nat×IX)):lV P st (.buildSlice own esz z len ps) ρ H K=(bj (List.replicate len (aP z)) esz (ps.map fun q=>(q.1,ρ q.2)) fun xs=>K (.al own xs)):=aei
theorem AT (sz:Option Nat) (i:IX):lV P true (.load sz i) ρ H K=(aV sz (ρ i) H K):=aei
theorem yc (sz:Option Nat) (i:IX):lV P false (.load sz i) ρ H K=(aV sz (ρ i) [] K):=aei
theorem C2 (i:IX):lV P st (.nilCheck i) ρ H K=(bU (ρ i) K):=aei
theorem AU (off:Nat) (sz:Option Nat) (i:IX):lV P st (.fieldAddr off sz i) ρ H K=(aq off sz (ρ i) K):=aei
theorem K9 (off:Nat) (sz:Option Nat) (i:IX):lV P st (.field off sz i) ρ H K=(fe off sz (ρ i) K):=aei
theorem AW (esz:Nat) (i:IX) (j:IX):lV P st (.indexAddr esz i j) ρ H K=((∀ own xs,ρ i=.al own xs→∀ z∈xs,z.cells.length=esz)∧aC esz (ρ i) (ρ j) K):=aei
theorem C3 (n:Nat) (i:IX) (j:IX):lV P st (.dR n i j) ρ H K=(bT n (ρ i) (ρ j) K):=aei
theorem C4 (i:IX) (j:IX):lV P st (.dj i j) ρ H K=(bK (ρ i) (ρ j) K):=aei
theorem Lb (esz:Nat) (i:IX) (lo:Option IX) (hi:Option IX) (mx:Option IX):lV P st (.slice esz i lo hi mx) ρ H K=(bD esz (ρ i) (lo.map ρ) (hi.map ρ) (mx.map ρ) K):=aei
theorem C5 (i:IX) (lo:Option IX) (hi:Option IX):lV P st (.dS i lo hi) ρ H K=(cj (ρ i) (lo.map ρ) (hi.map ρ) K):=aei
theorem C6 (kd:Nat) (i:IX):lV P true (.len kd i) ρ H K=(aN kd (ρ i)∧iw (ρ i) H K):=aei
theorem AX (kd:Nat) (i:IX):lV P false (.len kd i) ρ H K=(aN kd (ρ i)∧iw (ρ i) [] K):=aei
theorem wO (kd:Nat) (z:AV) (m:IX) (k:IX) (ok:Bool):lV P true (.lookup kd z m k ok) ρ H K=(ct kd z (ρ m) (ρ k) ok H K):=aei
theorem uK (kd:Nat) (z:AV) (m:IX) (k:IX) (ok:Bool):lV P false (.lookup kd z m k ok) ρ H K=(ct kd z (ρ m) (ρ k) ok [] K):=aei
theorem W8 (f:Fn) (first:List IX) (cap:List IX):lV P st (.fn f first cap) ρ H K=(K (.fn f (first.map fun x=>(ρ x).ae) (cap.map fun x=>(ρ x).ae))):=aei
theorem Fi (i:IX) (k:Nat):lV P st (.extract i k) ρ H K=(bG (ρ i) k K):=aei
theorem Fj (k:IntKind) (i:IX):lV P st (.eV k i) ρ H K=(cC k (ρ i) K):=aei
theorem W9 (big:Bool) (i:IX) (j:IX):lV P st (.mx big i j) ρ H K=(xG big (ρ i) (ρ j) K):=aei
theorem Pe (f:IX) (args:List IX):lV P st (.call f args none) ρ H K=pY P st (ρ f) (args.map fun x=>(ρ x).ae) H K:=aei
end
theorem Fk (env:Env):eJ none env=env:=aei
theorem IP (env:Env):eJ (some []) env=[]:=aei
theorem Fl (env:Env) (t:Nat) (l:List Nat):eJ (some (t::l)) env=(t,get env t)::eJ (some l) env:=aei
theorem Fp (k:Nat):b8 k []=[]:=aei
theorem C7 (k:Nat) (x:AV) (xs:List AV):b8 k (x::xs)=(k,x)::b8 (k + 1) xs:=aei
theorem Tz (env:Env) (s:Nat):au env (.t s)=get env s:=aei
theorem TA (env:Env) (v:AV):au env (.c v)=v:=aei
theorem lF (o:Nat) (xs:List AV) (H:List aa) (φ:AV→Prop):iw (.al o xs) H φ=φ (.int .i64 xs.length):=aei
theorem Fq (H:List aa) (φ:AV→Prop):iw .ah H φ=φ (.int .i64 0):=aei
theorem IQ (s:ByteArray) (H:List aa) (φ:AV→Prop):iw (.str s) H φ=φ (.int .i64 s.size):=aei
theorem IS (a b c d:Nat) (H:List aa) (φ:AV→Prop):iw (.aU a b c d) H φ=φ (.int .i64 c):=aei
theorem Lc {α β:Type} (f:α→β):List.map f []=[]:=aei
theorem IT {α β:Type} (f:α→β) (x:α) (xs:List α):List.map f (x::xs)=f x::List.map f xs:=aei
end Go.aJ
end
section
namespace Go.aJ
open Go
theorem ga0 (H e:List aa):(H++e)[H.length]?=e[0]?:=by
 rw [aaN (yo _),adP]
theorem ga (H e:List aa) (i:Nat):(H++e)[H.length + i]?=e[i]?:=by
 rw [aaN (Nat.le_add_right _ _),Nat.add_sub_cancel_left]
theorem sa0 (H e:List aa) (x:aa):(H++e).set H.length x=H++e.set 0 x:=by
 rw [ac5 _ _ (yo _),adP]
theorem sa (H e:List aa) (i:Nat) (x:aa):(H++e).set (H.length + i) x=H++e.set i x:=by
 rw [ac5 _ _ (Nat.le_add_right _ _),Nat.add_sub_cancel_left]
theorem aav (H e f:List aa):(H++e)++f=H++(e++f):=aa2 _ _ _
theorem Vz (H e:List aa):(H++e).length=H.length + e.length:=aab
theorem g0 {α:Type} (x:α) (r:List α):(x::r)[0]?=some x:=by simp
theorem g1 {α:Type} (x y:α) (r:List α):(x::y::r)[1]?=some y:=by simp
theorem g2 {α:Type} (x y z:α) (r:List α):(x::y::z::r)[2]?=some z:=by simp
theorem s0 {α:Type} (x u:α) (r:List α):(x::r).set 0 u=u::r:=by simp
theorem s1 {α:Type} (x y u:α) (r:List α):(x::y::r).set 1 u=x::u::r:=by simp
theorem s2 {α:Type} (x y z u:α) (r:List α):(x::y::z::r).set 2 u=x::y::u::r:=by simp
theorem d0 {α:Type} (x d:α) (r:List α):(x::r).getD 0 d=x:=by simp
theorem d1 {α:Type} (x y d:α) (r:List α):(x::y::r).getD 1 d=y:=by simp
theorem d2 {α:Type} (x y z d:α) (r:List α):(x::y::z::r).getD 2 d=z:=by simp
theorem sp1 (x y:AV):ai [x] 0 [y]=[y]:=by simp [ai]
theorem Ft {x:AV} {H:List aa} {φ ψ:AV→Prop} (hm:∀ z,φ z→ψ z) (h:iw x H φ):iw x H ψ:=by
 unfold iw at *
 split at h
 ·exact hm _ h
 ·exact sD hm h
theorem Fu {o:bZ} {ρ:IX→AV} {H:List aa} {K K':AV→Prop} (h:wM o ρ H K) (hK:∀ x,K x→K' x):wM o ρ H K':=by
 unfold wM at *
 split at h
 ·exact hK _ h
 ·unfold fU fc at *
  split at h
  ·exact ⟨fun e=>hK _ (h.1 e),fun e=>hK _ (h.2 e)⟩
  ·exact h.elim
 ·exact sC hK h
 ·exact nU hK h
 ·exact mh hK h
 ·unfold oV at *
  split at h
  ·exact hK _ h
  ·exact h.elim
 ·exact v9 hK h
 ·exact ⟨h.1,hK _ h.2⟩
 ·exact mn (fun _ h=>hK _ h) h
 ·exact gU (fun _ h=>hK _ h) h
 ·exact jU hK h
 ·exact jX hK h
 ·exact jl hK h
 ·exact nV hK h
 ·exact ⟨h.1,jm hK h.2⟩
 ·exact jV hK h
 ·exact jW hK h
 ·exact mj hK h
 ·exact jY hK h
 ·exact ⟨h.1,Ft hK h.2⟩
 ·exact mi hK h
 ·exact hK _ h
 ·exact kT hK h
 ·exact kU hK h
 ·exact wa hK h
 ·exact h.elim
theorem dI {P:Px}:∀ {t:DT} {env:Env} {H:List aa} {K1 K2:Env→List aa→Prop},jn P t env H K1→(∀ e H',K1 e H'→K2 e H')→jn P t env H K2
 | .done,_,_,_,_,h,hK=>hK _ _ h
 | .take st o r,_,_,_,_,h,hK=>by
   unfold jn GR at *
   have key:∀ {env:Env} {H:List aa} {K:AV→Prop} {K':AV→Prop},lV P st o.op (au env) H K→(∀ x,K x→K' x)→lV P st o.op (au env) H K':=by
    intro env H K K' h hK
    unfold lV at *
    split at h
    ·unfold pY at *
     split at h
     ·obtain ⟨x,h1,h2⟩:=h;exact ⟨x,h1,hK _ h2⟩
     ·exact h.elim
    ·exact Fu h hK
   split at h
   ·exact key h fun _ h=>dI h hK
   ·unfold dN at *
    split at h
    ·exact ⟨fun e=>key (h.1 e) fun _ h=>dI h hK,fun e=>dI (h.2 e) hK⟩
    ·exact dI h hK
    ·exact h.elim
 | .br o t rest,_,_,_,_,h,hK=>⟨sO h.1 fun _ _ h=>dI h hK,dI h.2 hK⟩
 | .nil,_,_,_,_,h,hK=>trivial
theorem lG {P:Px} {n0:Nat}:∀ {ir:IR} {env:Env} {H:List aa} {Q1 Q2:Exit→Env→List aa→Prop},lW P n0 ir env H Q1→(∀ x e H',Q1 x e H'→Q2 x e H')→lW P n0 ir env H Q2:=by
 intro ir
 induction ir with
 | skip=>exact fun h hQ=>hQ _ _ _ h
 | region ops live=>exact fun h hQ=>sP h fun _ _ h=>hQ _ _ _ h
 | draw t live=>exact fun h hQ=>dI h fun _ _ h=>hQ _ _ _ h
 | seq a b E8 Th=>
   exact fun h hQ=>E8 h fun x e H' h=>by
    cases x with
    | normal=>exact Th h hQ
    | _=>exact hQ _ _ _ h
 | cond x a b E8 Th=>
   intro env H Q1 Q2 h hQ
   rw [CX] at *
   unfold fU fc at *
   split at h
   ·exact ⟨fun e=>E8 (h.1 e) hQ,fun e=>Th (h.2 e) hQ⟩
   ·exact h.elim
 | block id a E8=>
   exact fun h hQ=>E8 h fun x e H' h=>by
    cases x with
    | exit id'=>
      dsimp only at h ⊢
      split
      ·rename_i bm;rw [if_pos bm] at h;exact hQ _ _ _ h
      ·rename_i bm;rw [if_neg bm] at h;exact hQ _ _ _ h
    | _=>exact hQ _ _ _ h
 | loop a E8=>
   intro env H Q1 Q2 h hQ
   obtain ⟨ι,I,se,sh,μ,h0,hs⟩:=h
   exact ⟨ι,I,se,sh,μ,h0,fun i hi=>E8 (hs i hi) fun x e H' h=>by
    cases x with
    | normal=>exact h
    | _=>exact hQ _ _ _ h⟩
 | exit id=>exact fun h hQ=>hQ _ _ _ h
 | ret=>exact fun h hQ=>hQ _ _ _ h
 | never=>exact fun h _=>h.elim
 | jk f lc=>
   intro env H Q1 Q2 h hQ
   rw [y7] at *
   unfold wN at *
   split at h
   ·obtain ⟨h1,bR,h2,h3⟩:=h
    exact ⟨h1,bR,h2,h3.mono fun _ H' hb=>ui hb fun j H'' hg=>y0 hg hQ⟩
   ·exact h.elim
theorem aax (a b y:AV):ai [a,b] 0 [y]=[y,b]:=by simp [ai]
theorem aay (a b y:AV):ai [a,b] 1 [y]=[a,y]:=by simp [ai]
theorem aaz (a b c y:AV):ai [a,b,c] 0 [y]=[y,b,c]:=by simp [ai]
theorem aaA (a b c y:AV):ai [a,b,c] 1 [y]=[a,y,c]:=by simp [ai]
theorem aaB (a b c y:AV):ai [a,b,c] 2 [y]=[a,b,y]:=by simp [ai]
theorem aaC (a b c x y z:AV):ai [a,b,c] 0 [x,y,z]=[x,y,z]:=by simp [ai]
theorem TB (k k':IntKind) (a b:Int) (φ:AV→Prop):xG true (.int k a) (.int k' b) φ=φ (.int k (max a b)):=by
 have:(if a < b then b else a)=max a b:=by rw [Int.max_def];split <;> split <;> omega
 simp [xG,this]
theorem TC (k k':IntKind) (a b:Int) (φ:AV→Prop):xG false (.int k a) (.int k' b) φ=φ (.int k (min a b)):=by
 have:(if b < a then b else a)=min a b:=by rw [Int.min_def];split <;> split <;> omega
 simp [xG,this]
def cL (o:Option aa) (sz:Option Nat) (off:Nat) (φ:AV→Prop):Prop:=
 match o with
 | some (.cells es)=>match sz with
   | some m=>off + m≤es.length∧φ (.agg (((es.drop off).take m).map AV.drop))
   | none=>off < es.length∧φ (es.getD off .any).ae
 | _=>False
@[congr] theorem QO {o o':Option aa} {sz:Option Nat} {off:Nat} {φ:AV→Prop} (h:gG o=o'):cL o sz off φ=cL o' sz off φ:=by subst h;rfl
theorem C8 (sz:Option Nat) (id off:Nat) (H:List aa) (φ:AV→Prop):aV sz (.ptr id off) H φ=cL H[id]? sz off φ:=by
 unfold aV cL;rfl
theorem Pf (es:List AV) (off:Nat) (φ:AV→Prop):cL (some (.cells es)) none off φ=(off < es.length∧φ (es.getD off .any).ae):=aei
theorem GS (a b c:AV) (φ:AV→Prop):cL (some (.cells [a,b,c])) (some 3) 0 φ=φ (.agg [a.drop,b.drop,c.drop]):=by simp [cL]
theorem Pg (a b:AV) (φ:AV→Prop):cL (some (.cells [a,b])) (some 2) 0 φ=φ (.agg [a.drop,b.drop]):=by simp [cL]
def iH (o:Option aa) (m id off:Nat) (x:AV) (H:List aa) (K:List aa→Prop):Prop:=
 match o with
 | some (.cells es)=>x.val=true∧x.cells.length=m∧off + m≤es.length∧x.cells.all AV.one=true∧ak (id + 1) (x.cells.map AV.ae)=true∧
    K (H.set id (.cells (ai es off (x.cells.map AV.ae))))
 | _=>False
@[congr] theorem Ph {o o':Option aa} {m id off:Nat} {x:AV} {H:List aa} {K:List aa→Prop} (h:gG o=o') {x':AV} (h2:x=x'):iH o m id off x H K=iH o' m id off x' H K:=by subst h;subst h2;rfl
theorem IU (m id off:Nat) (x:AV) (H:List aa) (K:List aa→Prop):iD m (.ptr id off) x H K=iH H[id]? m id off x H K:=by
 unfold iD iH;rfl
theorem C9 (es:List AV) (m id off:Nat) (x:AV) (H:List aa) (K:List aa→Prop):iH (some (.cells es)) m id off x H K=(x.val=true∧x.cells.length=m∧off + m≤es.length∧x.cells.all AV.one=true∧ak (id + 1) (x.cells.map AV.ae)=true∧
 K (H.set id (.cells (ai es off (x.cells.map AV.ae))))):=aei
def ri (o:Option aa) (l m id off:Nat) (x:AV) (H:List aa) (K:List aa→Prop):Prop:=
 match o with
 | some (.cells es)=>l≤id∧x.val=true∧x.cells.length=m∧off + m≤es.length∧x.cells.all AV.one=true∧ak H.length (x.cells.map AV.ae)=true∧
    K (H.set id (.cells (ai es off (x.cells.map AV.ae))))
 | _=>False
@[congr] theorem MX {o o':Option aa} {l m id off:Nat} {x:AV} {H:List aa} {K:List aa→Prop} (h:gG o=o') {x':AV} (h2:x=x'):ri o l m id off x H K=ri o' l m id off x' H K:=by subst h;subst h2;rfl
theorem Fv (l m id off:Nat) (x:AV) (H:List aa) (K:List aa→Prop):gQ l m (.ptr id off) x H K=ri H[id]? l m id off x H K:=by
 unfold gQ ri;rfl
theorem IV (es:List AV) (l m id off:Nat) (x:AV) (H:List aa) (K:List aa→Prop):ri (some (.cells es)) l m id off x H K=(l≤id∧x.val=true∧x.cells.length=m∧off + m≤es.length∧x.cells.all AV.one=true∧ak H.length (x.cells.map AV.ae)=true∧
 K (H.set id (.cells (ai es off (x.cells.map AV.ae))))):=aei
@[congr] theorem MY {l m:Nat} {p p' x:AV} {H H':List aa} {K:List aa→Prop} (h:gG p=p') (h2:H=H'):gQ l m p x H K=gQ l m p' x H' K:=by subst h;subst h2;rfl
theorem IW (e:Nat) (xs:List AV) (H:List aa) (K:AV→List aa→Prop):fH e (.agg xs) H K=jQ e xs H fun ys H'=>K (.agg ys) H':=aei
theorem Fx (e:Nat) (H:List aa) (K:List AV→List aa→Prop):jQ e [] H K=K [] H:=aei
theorem Da (e:Nat) (x:AV) (r:List AV) (H:List aa) (K:List AV→List aa→Prop):jQ e (x::r) H K=dD e x H fun y H'=>jQ e r H' fun ys H''=>K (y::ys) H'':=aei
theorem Fy (e:Nat) (k:IntKind) (n:Int) (H:List aa) (K:AV→List aa→Prop):dD e (.int k n) H K=K (.int k n) H:=aei
def Fz:=rZ @IG (rZ @Fv (rZ @IV (rZ @KU (rZ @IW (rZ @Fx (rZ @Da @Fy))))))
def gg (o:Option aa) (kd:Nat) (zero k:AV) (ok:Bool) (φ:AV→Prop):Prop:=
 match o with
 | some (.map es)=>match dk kd k es 0 with
   | some (some (_,v))=>φ (if ok then .tuple [v.drop,.bool true] else v.drop)
   | some none=>cE kd k k=some true∧φ (if ok then .tuple [aP zero,.bool false] else aP zero)
   | none=>False
 | _=>False
@[congr] theorem MZ {o o':Option aa} {kd:Nat} {z k k':AV} {ok:Bool} {φ:AV→Prop} (h:gG o=o') (h2:k=k'):gg o kd z k ok φ=gg o' kd z k' ok φ:=by subst h;subst h2;rfl
theorem FA (kd id:Nat) (z k:AV) (ok:Bool) (H:List aa) (φ:AV→Prop):ct kd z (.map id) k ok H φ=gg H[id]? kd z k ok φ:=by
 unfold ct gg;rfl
def eX (o:Option aa) (kd id:Nat) (k x:AV) (H:List aa) (K:List aa→Prop):Prop:=
 match o with
 | some (.map es)=>k.a8 (id + 1)=true∧x.a8 (id + 1)=true∧x.val=true∧match dk kd k es 0 with
    | some (some (i,_))=>K (H.set id (.map (es.set i (k,aP x))))
    | some none=>cE kd k k=some true∧K (H.set id (.map (es++[(k,aP x)])))
    | none=>False
 | _=>False
@[congr] theorem M4 {o o':Option aa} {kd id:Nat} {k k' x x':AV} {H:List aa} {K:List aa→Prop} (h:gG o=o') (h2:k=k') (h3:x=x'):eX o kd id k x H K=eX o' kd id k' x' H K:=by subst h;subst h2;subst h3;rfl
theorem FB (kd id:Nat) (k x:AV) (H:List aa) (K:List aa→Prop):fD kd (.map id) k x H K=eX H[id]? kd id k x H K:=by
 unfold fD eX;rfl
def y8 (o:Option aa) (d id off:Nat) (env:Env) (H:List aa) (K:Env→List aa→Prop):Prop:=
 match o with
 | some (.cells es)=>off < es.length∧K ((d,es.getD off .any)::env) (H.set id (.cells (es.set off (es.getD off .any).ae)))
 | _=>False
@[congr] theorem QP {o o':Option aa} {d id off:Nat} {env:Env} {H:List aa} {K:Env→List aa→Prop} (h:gG o=o'):y8 o d id off env H K=y8 o' d id off env H K:=by subst h;rfl
theorem Pj (es:List AV) (d id off:Nat) (env:Env) (H:List aa) (K:Env→List aa→Prop):y8 (some (.cells es)) d id off env H K=(off < es.length∧K ((d,es.getD off .any)::env) (H.set id (.cells (es.set off (es.getD off .any).ae)))):=aei
def Db (v:AV) (d:Nat) (env:Env) (H:List aa) (K:Env→List aa→Prop):Prop:=
 match v with
 | .ptr id off=>y8 H[id]? d id off env H K
 | _=>False
@[congr] theorem QQ {v v':AV} {d:Nat} {env:Env} {H:List aa} {K:Env→List aa→Prop} (h:gG v=v'):Db v d env H K=Db v' d env H K:=by subst h;rfl
theorem Pk (id off d:Nat) (env:Env) (H:List aa) (K:Env→List aa→Prop):Db (.ptr id off) d env H K=y8 H[id]? d id off env H K:=aei
theorem Ld {P:Px} (a:IX) (d:Nat) (env:Env) (H:List aa) (K:Env→List aa→Prop):bp P (.eH a) (some d) env H K=Db (au env a) d env H K:=by
 simp only [bp,Db,y8]
 cases au env a <;> rfl
def Lf (o:Option aa) (id off:Nat) (x:AV) (H:List aa) (K:List aa→Prop):Prop:=
 match o with
 | some (.cells es)=>off < es.length∧x.one=true∧x.a8 (id + 1)=true∧K (H.set id (.cells (es.set off x)))
 | _=>False
@[congr] theorem TD {o o':Option aa} {id off:Nat} {x x':AV} {H:List aa} {K:List aa→Prop} (h:gG o=o') (h2:x=x'):Lf o id off x H K=Lf o' id off x' H K:=by subst h;subst h2;rfl
theorem Pl (id off:Nat) (x:AV) (H:List aa) (K:List aa→Prop):dU (.ptr id off) x H K=Lf H[id]? id off x H K:=by
 unfold dU Lf;rfl
theorem TE (es:List AV) (id off:Nat) (x:AV) (H:List aa) (K:List aa→Prop):Lf (some (.cells es)) id off x H K=(off < es.length∧x.one=true∧x.a8 (id + 1)=true∧K (H.set id (.cells (es.set off x)))):=aei
theorem bd2 (x y:AV) (φ:AV→Prop):b7 [.int .i64 0,.int .i64 0,.ah] [(0,1,x),(1,1,y)] φ=(x.val=true∧x.cells.length=1∧y.val=true∧y.cells.length=1∧φ (.agg (ai (ai [.int .i64 0,.int .i64 0,.ah] 0 (x.cells.map AV.ae)) 1 (y.cells.map AV.ae)))):=by
 simp only [b7,gE,eq_iff_iff]
 constructor
 ·rintro ⟨h1,h2,h3,h4,h5,h6,h7⟩;exact ⟨h1,h2,h4,h5,h7⟩
 ·rintro ⟨h1,h2,h4,h5,h7⟩
  have e1:(x.cells.map AV.ae).length=1:=by simpa using h2
  refine ⟨h1,h2,by simp,h4,h5,?_,h7⟩
  simp [ai,h2]
theorem bd0 (cs:List AV) (φ:AV→Prop):b7 cs [] φ=φ (.agg cs):=aei
theorem mE (e b:Nat) (ys:List AV) (o:Nat) (ψ:List AV→Prop):bw e b .ah (.al o ys) ψ=(ys.length * b≤140737488355328∧sq e ys∧ψ ys):=by
 simp [bw,m8,dB]
theorem kZ (e b:Nat) (xs ys:List AV) (o:Nat) (ψ:List AV→Prop):bw e b (.al e xs) (.al o ys) ψ=((xs.length + ys.length) * b≤140737488355328∧sq e ys∧ψ (xs++ys)):=by
 simp [bw,m8,dB]
theorem aaD (n:Nat):(IX.t n).slot=some n:=aei
theorem aaE (v:AV):(IX.c v).slot=none:=aei
theorem Lg (id:Nat) (H:List aa) (φ:AV→Prop):aV none (.aj (.map id)) H φ=φ (.map id):=by simp [aV,AV.one,Kv]
theorem TF (id off:Nat) (H:List aa) (φ:AV→Prop):aV none (.aj (.ptr id off)) H φ=φ (.ptr id off):=by simp [aV,AV.one,Ku]
theorem Pm (b:Bool):(AV.bool b).one=true:=aei
theorem TG (k:IntKind) (n:Int):(AV.int k n).one=true:=aei
theorem TH (s:ByteArray):(AV.str s).one=true:=aei
theorem TI (o:Nat) (xs:List AV):(AV.al o xs).one=true:=aei
theorem Pn:AV.ah.one=true:=aei
theorem Xa (f:Fn) (a b:List AV):(AV.fn f a b).one=true:=aei
theorem TJ (a b:Nat):(AV.ptr a b).one=true:=aei
theorem Po (x:AV):(AV.aj x).one=true:=aei
theorem TK (a:Nat):(AV.map a).one=true:=aei
theorem aaF {α:Type} (p:α→Bool) (x:α) (r:List α):(x::r).all p=(p x && r.all p):=aei
theorem aaG {α:Type} (p:α→Bool):([]:List α).all p=true:=aei
theorem eD (n:Int) (h:-9223372036854775808≤n∧n≤9223372036854775807):IntKind.i64.wrap n=n:=by
 rw [show IntKind.i64.wrap n=(n + 9223372036854775808) % 18446744073709551616 - 9223372036854775808 from IntKind.wrap_i64 n];omega
theorem aB {P:Program} {n0:Nat} {env:Env} {H:List aa} {Q:Exit→Env→List aa→Prop} {a:IR} {ι:Type} (N:Nat) (I:Nat→ι→Prop) (se:Nat→ι→Env) (sh:Nat→ι→List aa) (s0:ι) (h0:I 0 s0∧sle n0 env H (se 0 s0) (sh 0 s0))
 (hs:∀ i s,i≤N→I i s→lW P n0 a (se i s) (sh i s) fun e aF H'=>match e with
   | .normal=>∃ j t,(j≤N∧I j t)∧N - j < N - i∧sle n0 aF H' (se j t) (sh j t)
   | e=>Q e aF H'):lW P n0 (.loop a) env H Q:=
 ⟨Nat×ι,fun p=>p.1≤N∧I p.1 p.2,fun p=>se p.1 p.2,fun p=>sh p.1 p.2,fun p=>N - p.1,⟨(0,s0),⟨ac1 _,h0.1⟩,h0.2⟩,fun p hp=>lG (hs p.1 p.2 hp.1 hp.2) fun x e H' h=>by
   cases x with
   | normal=>obtain ⟨j,t,h1,h2,h3⟩:=h;exact ⟨(j,t),h1,h2,h3⟩
   | _=>exact h⟩
theorem mF {P:Program} {l:Nat} {n0:Nat} {env:Env} {H:List aa} {Q:Exit→Env→List aa→Prop} {a:IR} {ι:Type} (N:Nat) (I:Nat→ι→Prop) (se:Nat→ι→Env) (sh:Nat→ι→List aa) (s0:ι) (h0:I 0 s0∧HW n0 env H (se 0 s0) (sh 0 s0))
 (hs:∀ i s,i≤N→I i s→lW ⟨P,some l⟩ n0 a (se i s) (sh i s) fun e aF H'=>match e with
   | .normal=>∃ j t,(j≤N∧I j t)∧N - j < N - i∧HW n0 aF H' (se j t) (sh j t)
   | e=>Q e aF H'):lW ⟨P,some l⟩ n0 (.loop a) env H Q:=
 ⟨Nat×ι,fun p=>p.1≤N∧I p.1 p.2,fun p=>se p.1 p.2,fun p=>sh p.1 p.2,fun p=>N - p.1,⟨(0,s0),⟨ac1 _,h0.1⟩,h0.2⟩,fun p hp=>lG (hs p.1 p.2 hp.1 hp.2) fun x e H' h=>by
   cases x with
   | normal=>obtain ⟨j,t,h1,h2,h3⟩:=h;exact ⟨(j,t),h1,h2,h3⟩
   | _=>exact h⟩
theorem bf {H:List aa} {s:Nat} {v v':AV} (hb:v.a8 H.length=true) (hv:v=v'):bV H.length [.t s] [(s,v)] H fun r H'=>r=v'∧H'=H:=
 aX _ (yo _) (by rw [aA,if_pos rfl];exact hb) ⟨by rw [aA,if_pos rfl];exact hv,by simp⟩
theorem Lh {H e:List aa} {s:Nat} {v v':AV} (hb:v.a8 H.length=true) (hv:v=v'):bV H.length [.t s] [(s,v)] (H++e) fun r H'=>r=v'∧H'=H:=
 aX _ (yo _) (by rw [aA,if_pos rfl];exact hb) ⟨by rw [aA,if_pos rfl];exact hv,by simp⟩
theorem Xb {H:List aa} {s:Nat} {v v':AV} (hl:v.le v') (hb:v'.a8 H.length=true):bV H.length [.t s] [(s,v)] H fun r H'=>r=v'∧H'=H:=
 ⟨H.length,yo _,_,by rw [aA,if_pos rfl];exact hl,hb,rfl,by simp⟩
theorem Xc {H e:List aa} {s:Nat} {v v':AV} (hl:v.le v') (hb:v'.a8 H.length=true):bV H.length [.t s] [(s,v)] (H++e) fun r H'=>r=v'∧H'=H:=
 ⟨H.length,yo _,_,by rw [aA,if_pos rfl];exact hl,hb,rfl,by simp⟩
theorem TL {H H':List aa} {n0 s:Nat} {v v':AV} (hn:n0=H.length) (hb:v.a8 n0=true) (hv:v=v') (hl:H=H'):bV n0 [.t s] [(s,v)] H fun r H''=>r=v'∧H''=H':=by
 subst hn hl;exact bf hb hv
theorem iU {H H':List aa} {n0:Nat} {env:Env} (hn:n0=H.length) (hl:H=H'):bV n0 [] env H fun r H''=>r=.tuple []∧H''=H':=by
 subst hn hl
 exact ⟨H.length,yo _,[],trivial,rfl,rfl,by simp⟩
theorem wP {H e:List aa} {s s':Nat} {v v' x y:AV} (hs:s'≠s) (hb:x.a8 H.length=true) (eu:y.a8 H.length=true) (hx:v.ae=x) (hy:v'.ae=y) :
 bV H.length [.t s,.t s'] [(s,v),(s',v')] (H++e) fun r H'=>r=.tuple [x,y]∧H'=H:=by
 subst hx hy
 refine ⟨H.length,yo _,[v.ae,v'.ae],?_,?_,rfl,by simp⟩
 ·simp only [aA,if_neg hs,if_true,List.map]
  exact b9 _
 ·simp only [ak,hb,eu,ac2]
theorem GU {H:List aa} {s s':Nat} {v v' x y:AV} (hs:s'≠s) (hb:x.a8 H.length=true) (eu:y.a8 H.length=true) (hx:v.ae=x) (hy:v'.ae=y) :
 bV H.length [.t s,.t s'] [(s,v),(s',v')] H fun r H'=>r=.tuple [x,y]∧H'=H:=by
 have:=wP (e:=[]) hs hb eu hx hy
 rw [abX] at this
 exact this
def y9 (n0:Nat) (x:AV) (H:List aa) (R:AV→List aa→Prop):Prop:=∃ m,n0≤m∧∃ r,x.le r∧r.a8 m=true∧R r (H.take m)
@[congr] theorem QR {n0:Nat} {x x':AV} {H H':List aa} {R:AV→List aa→Prop} (h:gG x=x') (h2:H=H'):y9 n0 x H R=y9 n0 x' H' R:=by subst h;subst h2;rfl
def rj (n0:Nat) (xs:List AV) (H:List aa) (R:AV→List aa→Prop):Prop:=∃ m,n0≤m∧∃ ys,xP (xs.map AV.ae) ys∧ak m ys=true∧R (.tuple ys) (H.take m)
@[congr] theorem QS {n0:Nat} {x x':List AV} {H H':List aa} {R:AV→List aa→Prop} (h:gG x=x') (h2:H=H'):rj n0 x H R=rj n0 x' H' R:=by subst h;subst h2;rfl
theorem TM (n0 s:Nat) (sz:Option Nat) (env:Env) (H:List aa) (R:AV→List aa→Prop):bV n0 [.c s sz] env H R=aV sz (get env s) H fun x=>y9 n0 x H R:=aei
theorem Pp (n0 s s':Nat) (sz:Option Nat) (env:Env) (H:List aa) (R:AV→List aa→Prop):bV n0 [.c s sz,.t s'] env H R=aV sz (get env s) H fun x=>rj n0 [x,get env s'] H R:=aei
theorem Dc {H e:List aa} {v v':AV} (hb:v.a8 H.length=true) (hv:v=v'):y9 H.length v (H++e) fun r H'=>r=v'∧H'=H:=by
 subst hv;exact ⟨H.length,yo _,v,le_refl _,hb,rfl,by simp⟩
theorem bW {i n:Nat} (h:(i:Int) < (n:Int)):i < n:=by omega
theorem dg {i n:Nat} (h:(n:Int)≤(i:Int)):n≤i:=by omega
def mG:=(rZ @CZ (rZ @C3 (rZ @y7 @IH)))
def TN:=(rZ (rZ (rZ (rZ (rZ (rZ (rZ (rZ @Tg @KF) (rZ @Fa @KG)) (rZ (rZ @OS @CX) (rZ @IB (rZ @KH @OT)))) (rZ (rZ (rZ @KI @Tk) (rZ @Tl @W2)) (rZ (rZ @W3 @IC) (rZ @KJ (rZ @Tm @Tn))))) (rZ (rZ (rZ (rZ @OU @KB) (rZ @KC @aA)) (rZ (rZ @Te @Tr) (rZ @KQ (rZ @IF @KR)))) (rZ (rZ (rZ @W4 @Ts) (rZ @O4 (rZ @O5 @KS))) (rZ (rZ @KT @ya) (rZ @O6 (rZ @Ld @Pk)))))) (rZ (rZ (rZ (rZ (rZ @Pj @Pl) (rZ @TE @FA)) (rZ (rZ @FB @mE) (rZ @kZ (rZ @Lg @TF)))) (rZ (rZ (rZ @aaD @aaE) (rZ @TM (rZ @Pp @bd0))) (rZ (rZ @bd2 @KV) (rZ @Fb (rZ @CY @AR))))) (rZ (rZ (rZ (rZ @KW @AS) (rZ @C0 @KX)) (rZ (rZ @O7 @C1) (rZ @Tt (rZ @II (rZ @KY (rZ @vg @Fc)))))) (rZ (rZ (rZ @KZ @K0) (rZ @IK (rZ @IM @W5))) (rZ (rZ @Fe @Ff) (rZ @Fg (rZ @Fh @K3))))))) (rZ (rZ (rZ (rZ (rZ (rZ @W6 @O8) (rZ @K4 @Tv)) (rZ (rZ @O9 @K5) (rZ @Pa (rZ @Pb @Tw)))) (rZ (rZ (rZ @Pc @Tx) (rZ @K6 @IN)) (rZ (rZ @K7 @W7) (rZ @Pd (rZ @K8 @yb))))) (rZ (rZ (rZ (rZ @AT @yc) (rZ @C2 @AU)) (rZ (rZ @K9 @AW) (rZ @C4 (rZ @Lb @C5)))) (rZ (rZ (rZ @C6 @AX) (rZ @wO (rZ @uK @W8))) (rZ (rZ @Fi @Fj) (rZ @W9 (rZ @Pe @Fk)))))) (rZ (rZ (rZ (rZ (rZ @IP @Fl) (rZ @Fp @C7)) (rZ (rZ @Tz @TA) (rZ @lF (rZ @Fq @IQ)))) (rZ (rZ (rZ @IS @Lc) (rZ @IT (rZ @OL @OM))) (rZ (rZ @ON @OO) (rZ @WW (rZ @WX @WY))))) (rZ (rZ (rZ (rZ @WZ @aau) (rZ @W0 @W1)) (rZ (rZ @OQ @Iy) (rZ @Sc (rZ @oS @kX)))) (rZ (rZ (rZ @AN @GO) (rZ @wI (rZ @Sd @Se))) (rZ (rZ @Kt @Ku) (rZ @GP (rZ @Og @Kv)))))))) (rZ (rZ (rZ (rZ (rZ (rZ (rZ @Oh @QD) (rZ @Oi @Oj)) (rZ (rZ @Sf @Si) (rZ @Ol (rZ @Sj @Sk)))) (rZ (rZ (rZ @WR @Om) (rZ @Sl @On)) (rZ (rZ @Sm @mD) (rZ @Sn (rZ @So @Oo))))) (rZ (rZ (rZ (rZ @Sp @Sq) (rZ @WS @Oq)) (rZ (rZ @Sr @Ot) (rZ @Ss (rZ @ve @Su)))) (rZ (rZ (rZ @Sv @Ou) (rZ @Sw (rZ @Sx @WT))) (rZ (rZ @Ov @Sy) (rZ @Ow (rZ @Sz @rc)))))) (rZ (rZ (rZ (rZ (rZ @gW @Kw) (rZ @GQ @ch)) (rZ (rZ @wJ @Kx) (rZ @sN (rZ @Ky @j3)))) (rZ (rZ (rZ @AO @WU) (rZ @Ox (rZ @cN @bE))) (rZ (rZ @Tf @OI) (rZ @SA (rZ @SC @SE))))) (rZ (rZ (rZ (rZ @SF @SH) (rZ @SJ @SK)) (rZ (rZ @SL @SM) (rZ @SN (rZ @SO @SP)))) (rZ (rZ (rZ @SQ @SR) (rZ @SS (rZ @SU @SV))) (rZ (rZ @SW @aat) (rZ @SX (rZ @Oy @SY))))))) (rZ (rZ (rZ (rZ (rZ (rZ @SZ @Oz) (rZ @S0 @OA)) (rZ (rZ @S2 @S3) (rZ @OB (rZ @S4 @OC)))) (rZ (rZ (rZ @S5 @S6) (rZ @S7 @OD)) (rZ (rZ @WV @S8) (rZ @OE (rZ @Kz @S9))))) (rZ (rZ (rZ (rZ @KA @Ta) (rZ @Tb @Tc)) (rZ (rZ @Td @Ir) (rZ @OF (rZ @OG @OH)))) (rZ (rZ (rZ @Is @It) (rZ @Iu (rZ @Iv @Iw))) (rZ (rZ @CL @CM) (rZ @ga0 (rZ @ga @sa0)))))) (rZ (rZ (rZ (rZ (rZ @sa @aav) (rZ @Vz @g0)) (rZ (rZ @g1 @g2) (rZ @s0 (rZ @s1 @s2)))) (rZ (rZ (rZ @d0 @d1) (rZ @d2 (rZ @sp1 @aax))) (rZ (rZ @aay @aaz) (rZ @aaA (rZ @aaB @aaC))))) (rZ (rZ (rZ (rZ @TB @TC) (rZ @GS @Pg)) (rZ (rZ @C8 @Pf) (rZ @IU (rZ @C9 @Pm)))) (rZ (rZ (rZ @TG @TH) (rZ @TI (rZ @Pn @Xa))) (rZ (rZ @TJ @Po) (rZ @TK (rZ @aaF @aaG)))))))))
end Go.aJ
end
section
namespace Go.aJ
open Go Go.RowKit
def dY (w:World):Mem:=fun b o=>w.cell? ⟨b,o,none⟩
def FC (w:World):Perm:=⟨fun b=>w.heap.size≤b,fun id=>some (id + 1),(fun id n h=>by cases h;omega),0⟩
theorem AY (w:World):(FC w).entry false ([]:List aa).length:=⟨fun id h=>absurd h (Nat.not_lt_zero _),fun id _=>rfl⟩
theorem St.start {w:World} {vs:Array Value} {xs:List AV} (h:aI (dY w) [] vs.toList xs) (hf:∀ x∈xs,∀ own ys,x=.al own ys→own=0) :
 St (FC w) (dY w) [] w [] (fun t=>vs.getD t undef) (fun t=>xs.getD t .any) (fun _=>none) where
 len:=rfl
 nodup:=by simp
 env:=fun t=>by
  have:=h.getD t
  rw [sc] at this
  rw [abe]
  simpa using this
 mem:=fun b o v hv=>hv
 obj:=fun id o b ho=>by simp at ho
 bF:=fun id o ho=>by simp at ho
 lt:=fun b hb=>by cases hb
 iq:=fun t=>by
  refine bg.free fun own ys e=>?_
  rw [sc] at e
  cases hx:xs[t]? with
  | none=>rw [hx] at e;cases e
  | some x=>rw [hx] at e;exact hf x (aaX hx) own ys e
 ic:=fun id j=>by simp [bt,bg]
 cc:=fun p q b hp=>by cases hp
 cu:=fun p b hp=>by cases hp
 fw:=fun p b hp=>by cases hp
 La:=fun b hb=>by cases hb
 Oa:=fun p b hp=>by cases hp
 fresh:=fun b hb=>hb
theorem Ext.below {M M':Mem} {w w':World} (h:Ext (FC w) M w M' w'):Below w.heap.size w w':=
 ⟨h.os,h.tape,h.output,h.size,fun k hk=>(h.kK k hk (by show ¬ w.heap.size≤k;omega)).1⟩
theorem Pure.lift {P:Program} {f:FuncId} {xs:List AV} {b:Bool} (hp:Pure P f xs (.bool b)) (he:∀ (as:Array Value) (w:World),(callFunc f as).run P w=.ok (.enter f as) w)
 {w:World} {vs:Array Value} (hr:aI (dY w) [] vs.toList xs) (hf:∀ x∈xs,∀ own ys,x=.al own ys→own=0) :
 Calls P f vs w fun e w'=>e=.returned (.bool b)∧Below w.heap.size w w':=by
 have hs:vs.size=xs.length:=by have:=hr.length;simpa using this
 refine ((hp []).body he (AY w) hs (St.start hr hf)).mono ?_
 rintro e w' ⟨v,r,H',M',L',O',rfl,⟨rfl,rfl⟩,bP,cD,_⟩
 have:=bP.env 0
 simp only [JF] at this
 cases this
 exact ⟨rfl,cD.below⟩
theorem Dd {a:Addr} {n:Nat} (h:a.spot=none):a.add n=⟨a.block,a.off + n,none⟩:=by
 obtain ⟨b,o,s⟩:=a
 simp only at h
 subst h
 unfold Addr.add
 split
 ·rename_i e;subst e;rfl
 ·rfl
theorem IY {w:World} {a:Addr} {v:Value} (h:w.cell? a=some v):a.spot=none:=by
 unfold World.cell? at h
 split at h
 ·split at h
  ·cases h
  ·rename_i hs;cases MH:a.spot <;> simp_all
 ·cases h
theorem za {M:Mem} {L:List Nat}:∀ {n:Nat} {cs:Nat→List Value} {f:Nat→AV},(∀ i,i < n→aI M L (cs i) (f i).cells)→aI M L ((List.range n).flatMap cs) (flat ((List.range n).map f))
 | 0,_,_,_=>by simp [flat];exact .nil
 | n + 1,cs,f,h=>by
   have ih:=za (n:=n) (fun i hi=>h i (by omega))
   simp only [adx,adr,ac3,flat] at ih ⊢
   refine ih.append ?_
   simpa using h n (by omega)
theorem De {n e:Nat} {cs:Nat→List Value}:(∀ i,i < n→(cs i).length=e)→∀ (j:Nat) (v:Value),((List.range n).flatMap cs)[j]?=some v→∃ i k,i < n∧k < e∧j=i * e + k∧(cs i)[k]?=some v:=by
 induction n with
 | zero=>intro _ j v h;simp at h
 | succ n ih=>
   intro hl j v h
   simp only [adx,adr] at h
   have hlen:((List.range n).flatMap cs).length=n * e:=by
    clear h ih
    induction n with
    | zero=>simp
    | succ n ih2=>
      simp only [adx,adr,aab]
      rw [ih2 (fun i hi=>hl i (by omega))]
      simp [hl n (by omega),Nat.succ_mul]
   rcases adO j (n * e) with hj | hj
   ·rw [yp (by omega)] at h
    obtain ⟨i,k,h1,h2,h3,h4⟩:=ih (fun i hi=>hl i (by omega)) j v h
    exact ⟨i,k,by omega,h2,h3,h4⟩
   ·rw [aaN (by omega),hlen] at h
    simp only [List.flatMap_cons,adZ,abX] at h
    have hk:=(aaw.1 h).1
    rw [hl n (by omega)] at hk
    exact ⟨n,j - n * e,by omega,hk,by omega,h⟩
theorem zc {w:World} {base e len cap:Nat} {a:Addr} (he:0 < e) (hl:len≤cap) (hc:cap≤maxLen) (cs:Nat→List Value) (f:Nat→AV)
 (h:∀ i,i < len→w.cells? base (a.add (i * e)) e=some (cs i)∧aI (dY w) [] (cs i) (f i).cells):aT (dY w) [] (.slice (some a) len cap) (.al 0 ((List.range len).map f)):=by
 have cA:cap < 9223372036854775808:=by have:maxLen=9223372036854775807:=rfl;omega
 rcases Nat.eq_zero_or_pos len with h0 | h0
 ·subst h0
  exact .gM _ _ _ cA
 have hlen:∀ i,i < len→(cs i).length=e:=fun i hi=>(World.cells?_some (h i hi).1).2.1
 have hcell:∀ i,i < len→∀ k,k < e→w.cell? ((a.add (i * e)).add k)=(cs i)[k]?:=fun i hi=>(World.cells?_some (h i hi).1).2.2
 have hspot:a.spot=none:=by
  have h1:=hcell 0 h0 0 he
  rw [aap (by rw [hlen 0 h0];exact he)] at h1
  have h2:=IY h1
  simpa [Addr.add] using h2
 have key:aT (dY w) [] (.slice (some ⟨a.block,a.off,none⟩) ((List.range len).map f).length cap) (.al 0 ((List.range len).map f)):=by
  refine .al a.block a.off cap 0 e ((List.range len).flatMap cs) _ he ?_ (by simpa using h0) (by simpa using hl) cA (za fun i hi=>(h i hi).2) ?_
  ·intro x hx
   obtain ⟨i,hi,rfl⟩:=aag.1 hx
   have hi:=abq.1 hi
   rw [← (h i hi).2.length,hlen i hi]
  ·intro j v hv
   obtain ⟨i,k,h1,h2,rfl,h4⟩:=De hlen j v hv
   have:=hcell i h1 k h2
   rw [Dd hspot,Dd (by rfl)] at this
   show w.cell? ⟨a.block,a.off + (i * e + k),none⟩=some v
   rw [← ac8,this,h4]
 have ea:(some a:Option Addr)=some ⟨a.block,a.off,none⟩:=by obtain ⟨b,o,s⟩:=a;simp only at hspot;rw [hspot]
 rw [ea]
 simpa using key
section
variable {H:Type} {enc:TypeId×Value→H} {P:Program}
theorem pF (hl:laidOutB P=true) {W W':World} (hb:Below W.heap.size W W'):∀ {ts:List TypeId} {vs:List Value} {ds:List (DataW H)} {ps:List MemPlace},(∀ t∈ts,P.readableRec t=true∧t < P.types.size)→
 DataW.TrodAll enc P W 0 (fun _=>true) true ts vs ds ps→(∀ x∈ps,x.block < W.heap.size)→DataW.TrodAll enc P W' 0 (fun b=>decide (b < W.heap.size)) true ts vs ds ps
 | [],[],[],_,_,h,_=>h
 | t::ts,v::vs,d::ds,_,ht,⟨p,q,h1,h2,e⟩,hp=>by
   subst e
   exact ⟨p,q,Below.trod hl (ht t (by simp)).1 (ht t (by simp)).2 h1 hb (fun x hx=>hp x (by simp [hx])),pF hl hb (fun t ht'=>ht t (by simp [ht'])) h2 (fun x hx=>hp x (by simp [hx])),rfl⟩
theorem Li {fn:Func} {s:ChangeSpec} {apart:Bool} {W W':World} {args:Array Value} {ds gs:List (DataW H)} {before:List MemPlace} {t:TypeId} (hl:laidOutB P=true) (hb:Below W.heap.size W W')
 (hW:DataW.Whole enc P fn.params.toList s.vars apart W args.toList ds gs before) (hv:s.vars=[]) (uL:fn.resultTypes=#[t]) (ht:P.underlying t=some .bool) (hs:s.fn H ds={ results:=[.lit (.bool true)],args:=ds })
 (hp:fn.params.toList.all (fun t=>P.readableRec t && decide (t < P.types.size))=true):s.post enc P fn apart true false false W args (.bool true) W':=by
 have aS:∀ x∈before,x.block < W.heap.size:=fun x hx=>by simpa using hW.lt x hx
 have hW0:=hW
 obtain ⟨p,q,h1,h2,h3,h4,h5⟩:=hW
 rw [hv] at h2
 obtain ⟨rfl,rfl⟩:=ChangeShapes.trodVars_none h2
 simp only [abX] at h3
 subst h3
 refine ⟨ds,[],before,[],before,[],hW0,?_,?_,?_,hb.frame _,fun h=>by cases h⟩
 ·simp only [abX,hs,uL]
  exact ChangeShapes.trodAll_mk1 (shut_bool ht true)
 ·simp only [abX,hs]
  exact pF hl hb (fun t ht=>by simpa using aaL.1 hp t ht) h1 aS
 ·simp only [hv,abX,hs]
  rfl
end
end Go.aJ
end
section
namespace Go.aJ
open Go
structure Xd {σ:Type} (S:σ→List aa) (p:Nat) (obj:σ→aa) (n:Nat):Prop where
 get:∀ s,(S s)[p]?=some (obj s)
 set:∀ s s',(S s).set p (obj s')=S s'
 len:∀ s,(S s).length=n
namespace Xd
variable {σ:Type} {S:σ→List aa} {p:Nat} {obj:σ→aa} {n:Nat} (F:Xd S p obj n)
include F
theorem lt (s:σ):p < n:=by
 have:=F.get s
 rw [← F.len s]
 exact (aaw.1 this).1
theorem get' (s:σ) (e:List aa):(S s++e)[p]?=some (obj s):=by
 rw [yp (by rw [F.len];exact F.lt s)];exact F.get s
theorem aaH (s s':σ) (e:List aa):(S s++e).set p (obj s')=S s'++e:=by
 rw [adJ _ _ (by rw [F.len];exact F.lt s),F.set]
end Xd
theorem QT {Hs G:List aa} {n0:Nat} {v w x y:AV} {R:AV→List aa→Prop} (hH:Hs.take n0=G) (hb:x.a8 n0=true) (eu:y.a8 n0=true) (hx:v.ae=x) (hy:w.ae=y) (hR:R (.tuple [x,y]) G) :
 rj n0 [v,w] Hs R:=by
 subst hx hy hH
 exact ⟨n0,yo _,[v.ae,w.ae],b9 _,by simp only [ak,hb,eu,ac2],hR⟩
theorem QU {Hs G:List aa} {n0:Nat} {v x:AV} {R:AV→List aa→Prop} (hH:Hs.take n0=G) (hb:x.a8 n0=true) (hx:v=x) (hR:R x G):y9 n0 v Hs R:=by
 subst hx hH
 exact ⟨n0,yo _,v,le_refl _,hb,hR⟩
theorem Pq {Hs G:List aa} {n0 s:Nat} {v x:AV} {R:AV→List aa→Prop} (hH:Hs.take n0=G) (hb:x.a8 n0=true) (hx:v=x) (hR:R x G):bV n0 [.t s] [(s,v)] Hs R:=by
 subst hx hH
 exact aX _ (yo _) (by rw [aA,if_pos rfl];exact hb) (by rw [aA,if_pos rfl];exact hR)
end Go.aJ
end
section
namespace Go.aJ
open Go
def wQ (C:List aa→Nat→List aa→Prop) (n0:Nat) (v:AV) (H:List aa) (R:AV→List aa→Prop):Prop:=
 ∃ m H',n0≤m∧C H m H'∧∃ r,v.le r∧r.a8 m=true∧R r H'
@[congr] theorem Ps {C:List aa→Nat→List aa→Prop} {n0:Nat} {x x':AV} {H H':List aa} {R:AV→List aa→Prop} (h:gG x=x') (h2:H=H'):wQ C n0 x H R=wQ C n0 x' H' R:=by subst h;subst h2;rfl
theorem Pt {C:List aa→Nat→List aa→Prop} {n0 s:Nat} {sz:Option Nat} {env:Env} {H:List aa} {R:AV→List aa→Prop}:lD C n0 [.c s sz] env H R=aV sz (get env s) H fun v=>wQ C n0 v H R:=aei
theorem Pu {C:List aa→Nat→List aa→Prop} {n0 s:Nat} {env:Env} {H:List aa} {R:AV→List aa→Prop}:lD C n0 [.t s] env H R=wQ C n0 (get env s) H R:=aei
theorem IZ {n0:Nat} {H G:List aa} (h:G.take n0=H) (hl:H.length=n0):nc n0 G n0 H:=by
 subst h
 refine ⟨by simp,fun id o ho=>?_⟩
 rw [aam] at ho
 split at ho
 ·exact .inr ⟨ho,fun h=>by omega⟩
 ·cases ho
def only (n0 id:Nat) (G:List aa):List aa:=G.mapIdx fun j o=>if j < n0∨j=id then o else .dead
theorem oW (n0:Nat) (env:Env) (H:List aa):HW n0 env H env H:=⟨fun t=>le_refl _,.inl rfl⟩
theorem AZ {n0:Nat} {env aF:Env} {H H':List aa} (he:env=aF) (hH:H=H'):HW n0 env H aF H':=by
 subst he;subst hH;exact oW _ _ _
def sQ:=rZ @Pt (rZ @Pu Fz)
end Go.aJ
end
