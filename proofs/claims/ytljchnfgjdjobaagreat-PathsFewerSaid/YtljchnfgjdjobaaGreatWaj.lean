/- Part 10 of 18 of the proof. -/
import Derived.Test.YtljchnfgjdjobaaGreatWah
import Derived.ProofKit
import Derived.Deep.Slices
import Derived.Deep.Strs
set_option linter.unusedVariables false
set_option linter.unusedSimpArgs false
set_option linter.defProp false
set_option linter.unusedSectionVars false
section
namespace Go.aH
open Go
theorem Q3:AV.any.ab=.any:=_root_.id rfl
theorem oA (b:Bool):(AV.bool b).ab=.bool b:=_root_.id rfl
theorem nP (k:IntKind) (n:Int):(AV.int k n).ab=.int k n:=_root_.id rfl
theorem z5 (s:ByteArray):(AV.str s).ab=.str s:=_root_.id rfl
theorem FP:AV.ah.ab=.ah:=_root_.id rfl
theorem vH (o:Nat) (xs:List AV):(AV.ap o xs).ab=.ap 0 xs:=_root_.id rfl
theorem Q4 (a b c d:Nat):(AV.a8 a b c d).ab=.a8 a b c d:=_root_.id rfl
theorem Q5 (xs:List AV):(AV.agg xs).ab=.agg xs:=_root_.id rfl
theorem Jx (xs:List AV):(AV.tuple xs).ab=.tuple xs:=_root_.id rfl
theorem Jy (a b:Nat):(AV.ptr a b).ab=.ptr a b:=_root_.id rfl
theorem FQ (x:AV):(AV.ai x).ab=.ai x:=_root_.id rfl
theorem M7:AV.ru.ab=.ru:=_root_.id rfl
theorem Jz (a:Nat):(AV.map a).ab=.map a:=_root_.id rfl
theorem M8:AV.iS.ab=.iS:=_root_.id rfl
theorem Pt (f:Fn) (a b:List AV):(AV.fn f a b).ab=.fn f a b:=_root_.id rfl
theorem M9:AV.fG.ab=.fG:=_root_.id rfl
theorem Na (b:Bool):(AV.bool b).cells=[.bool b]:=_root_.id rfl
theorem Q6 (k:IntKind) (n:Int):(AV.int k n).cells=[.int k n]:=_root_.id rfl
theorem Q7 (s:ByteArray):(AV.str s).cells=[.str s]:=_root_.id rfl
theorem Nb:AV.ah.cells=[.ah]:=_root_.id rfl
theorem Q8 (o:Nat) (xs:List AV):(AV.ap o xs).cells=[.ap o xs]:=_root_.id rfl
theorem Q9 (xs:List AV):(AV.agg xs).cells=xs:=_root_.id rfl
theorem VF (f:Fn) (a b:List AV):(AV.fn f a b).cells=[.fn f a b]:=_root_.id rfl
theorem Nc:AV.fG.cells=[.fG]:=_root_.id rfl
theorem Ra (a b:Nat):(AV.ptr a b).cells=[.ptr a b]:=_root_.id rfl
theorem Nf (x:AV):(AV.ai x).cells=[.ai x]:=_root_.id rfl
theorem Rb (a:Nat):(AV.map a).cells=[.map a]:=_root_.id rfl
theorem mi (b:Bool):(AV.bool b).drop=.bool b:=_root_.id rfl
theorem Rc (k:IntKind) (n:Int):(AV.int k n).drop=.int k n:=_root_.id rfl
theorem Re (s:ByteArray):(AV.str s).drop=.str s:=_root_.id rfl
theorem Ng:AV.ah.drop=.ap 0 []:=_root_.id rfl
theorem Rf (o:Nat) (xs:List AV):(AV.ap o xs).drop=.ap 0 xs:=_root_.id rfl
theorem Rg (xs:List AV):(AV.agg xs).drop=.agg xs:=_root_.id rfl
theorem VG (f:Fn) (a b:List AV):(AV.fn f a b).drop=.fn f a b:=_root_.id rfl
theorem Nh:AV.fG.drop=.fG:=_root_.id rfl
theorem Rh (a b:Nat):(AV.ptr a b).drop=.ptr a b:=_root_.id rfl
theorem Ni (x:AV):(AV.ai x).drop=.ai x:=_root_.id rfl
theorem Ri (a:Nat):(AV.map a).drop=.map a:=_root_.id rfl
theorem uk (b:Bool):(AV.bool b).val=true:=_root_.id rfl
theorem Rj (k:IntKind) (n:Int):(AV.int k n).val=true:=_root_.id rfl
theorem Rk (s:ByteArray):(AV.str s).val=true:=_root_.id rfl
theorem Nj:AV.ah.val=true:=_root_.id rfl
theorem Rl (o:Nat) (xs:List AV):(AV.ap o xs).val=true:=_root_.id rfl
theorem Rm (xs:List AV):(AV.agg xs).val=true:=_root_.id rfl
theorem VH (f:Fn) (a b:List AV):(AV.fn f a b).val=true:=_root_.id rfl
theorem Nk:AV.fG.val=true:=_root_.id rfl
theorem Rn (a b:Nat):(AV.ptr a b).val=true:=_root_.id rfl
theorem Nl (x:AV):(AV.ai x).val=true:=_root_.id rfl
theorem Ro (a:Nat):(AV.map a).val=true:=_root_.id rfl
theorem qC (n:Nat) (b:Bool):(AV.bool b).aZ n=true:=_root_.id rfl
theorem gb (n:Nat) (k:IntKind) (m:Int):(AV.int k m).aZ n=true:=_root_.id rfl
theorem JA (n:Nat) (s:ByteArray):(AV.str s).aZ n=true:=_root_.id rfl
theorem FR (n:Nat):AV.ah.aZ n=true:=_root_.id rfl
theorem b8 (n o:Nat) (xs:List AV):(AV.ap o xs).aZ n=aj n xs:=by rw [AV.aZ]
theorem vI (n:Nat) (xs:List AV):(AV.agg xs).aZ n=aj n xs:=by rw [AV.aZ]
theorem JB (n:Nat) (xs:List AV):(AV.tuple xs).aZ n=aj n xs:=by rw [AV.aZ]
theorem rV (n a b:Nat):(AV.ptr a b).aZ n=decide (a < n):=by rw [AV.aZ]
theorem JC (n a:Nat):(AV.map a).aZ n=decide (a < n):=by rw [AV.aZ]
theorem jP (n a b c d:Nat):(AV.a8 a b c d).aZ n=decide (a < n):=by rw [AV.aZ]
theorem z6 (n:Nat) (x:AV):(AV.ai x).aZ n=x.aZ n:=by rw [AV.aZ]
theorem VI (n:Nat) (f:Fn) (a b:List AV):(AV.fn f a b).aZ n=(aj n a && aj n b):=by rw [AV.aZ]
theorem Nm (n:Nat):AV.fG.aZ n=true:=_root_.id rfl
theorem cZ (n:Nat):aj n []=true:=_root_.id rfl
theorem bG (n:Nat) (x:AV) (xs:List AV):aj n (x::xs)=(x.aZ n && aj n xs):=by rw [aj]
section
variable (k:IntKind) (a b:Int) (φ:AV→Prop)
theorem Rp:de .add (.int k a) (.int k b) φ=φ (.int k (k.wrap (a + b))):=by simp [de]
theorem Rq:de .sub (.int k a) (.int k b) φ=φ (.int k (k.wrap (a - b))):=by simp [de]
theorem Rr:de .mul (.int k a) (.int k b) φ=φ (.int k (k.wrap (a * b))):=by simp [de]
theorem Ru:de .rem (.int k a) (.int k b) φ=(b≠0∧φ (.int k (a.tmod b))):=by simp [de]
theorem Rv:de .quo (.int k a) (.int k b) φ=(b≠0∧φ (.int k (k.wrap (a.tdiv b)))):=by simp [de]
theorem Rw:de .eql (.int k a) (.int k b) φ=φ (.bool (decide (a=b))):=by simp [de]
theorem Rx:de .neq (.int k a) (.int k b) φ=φ (.bool (decide (a≠b))):=by simp [de]
theorem Ry:de .lss (.int k a) (.int k b) φ=φ (.bool (decide (a < b))):=by simp [de]
theorem Rz:de .leq (.int k a) (.int k b) φ=φ (.bool (decide (a≤b))):=by simp [de]
theorem RA:de .gtr (.int k a) (.int k b) φ=φ (.bool (decide (b < a))):=by simp [de]
theorem RB:de .geq (.int k a) (.int k b) φ=φ (.bool (decide (b≤a))):=by simp [de]
theorem RC (s t:ByteArray):de .eql (.str s) (.str t) φ=φ (.bool (decide (s=t))):=by simp [de]
theorem RD (s t:ByteArray):de .neq (.str s) (.str t) φ=φ (.bool (decide (s≠t))):=by simp [de]
theorem RE (s t:ByteArray):de .add (.str s) (.str t) φ=(s.size + t.size < 9223372036854775808∧φ (.str (s++t))):=by simp [de]
theorem RF (q:Bool):y7 .not (.bool q) φ=φ (.bool (!q)):=_root_.id rfl
theorem RG:y7 .neg (.int k a) φ=φ (.int k (k.wrap (0 - a))):=_root_.id rfl
theorem RH (p q:Bool):cU true (.bool p) (.bool q) φ=φ (.bool (decide (p≠q))):=_root_.id rfl
theorem RI (p q:Bool):cU false (.bool p) (.bool q) φ=φ (.bool (decide (p=q))):=_root_.id rfl
theorem Zd (q:Bool) (ψ:Bool→Prop):eX (.bool q) ψ=ψ q:=_root_.id rfl
theorem RJ (s:ByteArray) (H:List aa):fq (.str s) H φ=φ (.int .i64 s.size):=_root_.id rfl
theorem Nn (H:List aa):fq .ah H φ=φ (.int .i64 0):=_root_.id rfl
theorem RK (o:Nat) (xs:List AV) (H:List aa):fq (.ap o xs) H φ=(xs.length < 9223372036854775808→φ (.int .i64 xs.length)):=_root_.id rfl
theorem RL (x y l c:Nat) (H:List aa):fq (.a8 x y l c) H φ=φ (.int .i64 l):=_root_.id rfl
theorem No (H:List aa):fq .iS H φ=φ (.int .i64 0):=_root_.id rfl
theorem RM (s:ByteArray):aL 0 (.str s)=True:=_root_.id rfl
theorem Np:aL 1 .ah=True:=_root_.id rfl
theorem RN (o:Nat) (xs:List AV):aL 1 (.ap o xs)=True:=_root_.id rfl
theorem RP (x y l c:Nat):aL 1 (.a8 x y l c)=True:=_root_.id rfl
theorem Nq:aL 2 .iS=True:=_root_.id rfl
theorem RQ (x:Nat):aL 2 (.map x)=True:=_root_.id rfl
theorem Nr (q:Bool) (H:List aa):aR none (.ai (.bool q)) H φ=φ (.bool q):=by simp [aR,AV.one,oA]
theorem RR (H:List aa):aR none (.ai (.int k a)) H φ=φ (.int k a):=by simp [aR,AV.one,nP]
theorem RS (s:ByteArray) (H:List aa):aR none (.ai (.str s)) H φ=φ (.str s):=by simp [aR,AV.one,z5]
theorem RT (o:Nat) (xs:List AV) (H:List aa):aR none (.ai (.ap o xs)) H φ=φ (.ap 0 xs):=by simp [aR,AV.one,vH]
theorem Ns (H:List aa):aR none (.ai .ah) H φ=φ .ah:=by simp [aR,AV.one,FP]
theorem VJ (f:Fn) (x y:List AV) (H:List aa):aR none (.ai (.fn f x y)) H φ=φ (.fn f x y):=by simp [aR,AV.one,Pt]
theorem RU (x y:Nat):bQ (.ptr x y) φ=φ (.ptr x y):=_root_.id rfl
theorem Nt (x:AV):bQ (.ai x) φ=φ (.ai x):=_root_.id rfl
theorem JD (xs:List AV) (i:Nat):bB (.tuple xs) i φ=(i < xs.length∧φ (xs.getD i .any).ab):=_root_.id rfl
theorem RV (id o off:Nat) (sz:Option Nat):ak off sz (.ptr id o) φ=φ (.ptr id (o + off)):=by simp [ak]
end
section
variable {P:Px} {n0:Nat} {env:Env} {H:List aa} {Q:Exit→Env→List aa→Prop}
theorem JE (pass:Option Nat) (j:Nat):aD env pass j []=[]:=_root_.id rfl
theorem RW (pass:Option Nat) (j:Nat) (v:AV) (xs:List IX):aD env pass j (.c v::xs)=v.ab::aD env pass (j + 1) xs:=_root_.id rfl
theorem RY (j s:Nat) (xs:List IX):aD env none j (.t s::xs)=(get env s).ab::aD env none (j + 1) xs:=by simp [aD]
theorem RZ (j s:Nat) (xs:List IX):aD env (some 1999) j (.t s::xs)=(if 1999=j then get env s else (get env s).ab)::aD env (some 1999) (j + 1) xs:=by simp [aD]
theorem R0 (p j s:Nat) (xs:List IX):aD env (some p) j (.t s::xs)=(if p=j then get env s else (get env s).ab)::aD env (some p) (j + 1) xs:=by simp [aD]
theorem Hm (args:List IX):bg args none=none:=_root_.id rfl
theorem Nu (x:Nat) (xs:List IX):bg (.t x::xs) (some 0)=some x:=by simp [bg]
theorem Nv (x:Nat) (y:IX) (xs:List IX):bg (y::.t x::xs) (some 1)=some x:=by simp [bg]
theorem Nw (x:Nat) (y z:IX) (xs:List IX):bg (y::z::.t x::xs) (some 2)=some x:=by simp [bg]
theorem Hn:bg [] (some 1999)=none:=_root_.id rfl
theorem Ho (x:IX):bg [x] (some 1999)=none:=_root_.id rfl
theorem Hp (x y:IX):bg [x,y] (some 1999)=none:=_root_.id rfl
theorem Hq (x y z:IX):bg [x,y,z] (some 1999)=none:=_root_.id rfl
theorem Hr (x y z u:IX):bg [x,y,z,u] (some 1999)=none:=_root_.id rfl
theorem BY:cL env none=env:=_root_.id rfl
theorem BZ (d:Nat):cL env (some d)=(d,(get env d).ab)::env:=_root_.id rfl
theorem JF (z:AV):put none z env=env:=_root_.id rfl
theorem JG (d:Nat) (z:AV):put (some d) z env=(d,z)::env:=_root_.id rfl
theorem au (k:Nat) (v:AV) (t:Nat):get ((k,v)::env) t=if t=k then v else get env t:=_root_.id rfl
theorem R1 (t:Nat):get [] t=.any:=_root_.id rfl
theorem aO {s:Nat} {R:AV→List aa→Prop} (m:Nat) (h0:n0≤m) (hb:(get env s).aZ m=true) (h:R (get env s) (H.take m)):bR n0 [.t s] env H R:=
 ⟨m,h0,_,le_refl _,hb,h⟩
end
def Pure (P:Program) (g:FuncId) (xs:List AV) (v:AV):Prop:=∀ H,aq P g xs H fun r H'=>r=v∧H'=H
theorem Pure.mk {P:Program} {g:FuncId} {xs:List AV} {v:AV} (hb:aj 0 xs=true) (h:aq P g xs [] fun r H'=>r=v∧H'=[]):Pure P g xs v:=
 aq.frame (fun x hx=>(ba 0 xs).1 hb x hx) h
def nQ (n:Nat) (env:Env):Bool:=env.all fun p=>p.2.aZ n
theorem Ec {n:Nat} {env:Env} (h:nQ n env=true) (t:Nat):(get env t).aZ n=true:=by
 rcases get_mem (env:=env) (t:=t) rfl with h' | h'
 ·rw [h'];rfl
 ·exact List.all_eq_true.1 h _ h'
theorem R2 (n:Nat):nQ n []=true:=_root_.id rfl
theorem Nx (n k:Nat) (v:AV) (env:Env):nQ n ((k,v)::env)=(v.aZ n && nQ n env):=_root_.id rfl
theorem vJ {n0:Nat} {env aB:Env} {H H':List aa} (he:env=aB) (h0:n0≤H'.length) (hb:nQ H'.length aB=true) (e:List aa) (hH:H=H'++e):sle n0 env H aB H':=by
 subst he;subst hH
 exact ⟨fun t=>le_refl _,.inr ⟨H'.length,h0,by simp,Ec hb⟩⟩
theorem aI {n0:Nat} {env aB:Env} {H H':List aa} (he:env=aB) (hH:H=H'):sle n0 env H aB H':=by
 subst he;subst hH;exact aA _ _ _
theorem ax (i:Nat) (h:i + 1 < 9223372036854775808):IntKind.i64.wrap ((i:Int) + 1)=((i + 1:Nat):Int):=by
 show IntKind.wrap .i64 ((i:Int) + 1)=_
 unfold IntKind.wrap
 simp [IntKind.signed,IntKind.bits]
 omega
end Go.aH
end
section
namespace Go.aH
open Go
def gD {α:Type} (x:α):α:=x
theorem R3 {α:Type} (x:α):gD x=x:=_root_.id rfl
section
variable {φ:AV→Prop}
theorem JH {op:BinOp} {x y:AV} (h:de op x y φ):∃ z,de op x y (fun w=>w=z)∧φ z:=by
 unfold de at *
 split at h <;> (try exact h.elim)
 ·obtain ⟨h0,h⟩:=h
  split at h <;> first | exact ⟨_,⟨h0,rfl⟩,h⟩ | exact ⟨_,⟨h0,h.1,rfl⟩,h.2⟩ | exact h.elim
 ·split at h <;> first | exact ⟨_,rfl,h⟩ | exact ⟨_,⟨h.1,rfl⟩,h.2⟩ | exact h.elim
theorem Ed {op:BinOp} {x y:AV} (h:dS op x y φ):∃ z,dS op x y (fun w=>w=z)∧φ z:=by
 unfold dS at *
 split at h <;> (try exact h.elim)
 obtain ⟨h0,h⟩:=h
 split at h <;> first | exact ⟨_,⟨h0,rfl⟩,h⟩ | exact h.elim
theorem B0 {neq:Bool} {x y:AV} (h:cU neq x y φ):∃ z,cU neq x y (fun w=>w=z)∧φ z:=by
 unfold cU at *
 split at h <;> first | exact ⟨_,rfl,h⟩ | exact h.elim
theorem Ny {op:UnOp} {x:AV} (h:y7 op x φ):∃ z,y7 op x (fun w=>w=z)∧φ z:=by
 unfold y7 at *
 split at h <;> first | exact ⟨_,rfl,h⟩ | exact h.elim
theorem Ht {sz:Option Nat} {x:AV} {H:List aa} (h:aR sz x H φ):∃ z,aR sz x H (fun w=>w=z)∧φ z:=by
 unfold aR at *
 split at h <;> (try exact h.elim) <;> (split at h <;> (try exact h.elim)) <;> first | exact ⟨_,⟨h.1,rfl⟩,h.2⟩ | (split at h <;> exact ⟨_,⟨h.1,rfl⟩,h.2⟩)
theorem yc {off:Nat} {sz:Option Nat} {xs:List AV} {g:AV→AV} (h:apart off sz xs fun z=>φ (g z)):∃ z,(apart off sz xs fun w=>g w=z)∧φ z:=by
 unfold apart at *
 split at h <;> first | exact ⟨_,⟨h.1,rfl⟩,h.2⟩ | exact ⟨_,⟨h.1,h.2.1,rfl⟩,h.2.2⟩
theorem Ee {off:Nat} {sz:Option Nat} {x:AV} (h:eY off sz x φ):∃ z,eY off sz x (fun w=>w=z)∧φ z:=by
 unfold eY at *
 split at h <;> (try exact h.elim)
 exact yc h
theorem vK {off:Nat} {sz:Option Nat} {x:AV} (h:ak off sz x φ):∃ z,ak off sz x (fun w=>w=z)∧φ z:=by
 unfold ak at *
 split at h <;> (try exact h.elim)
 ·exact ⟨_,rfl,h⟩
 ·exact yc h
theorem vL {esz:Nat} {x i:AV} (h:ay esz x i φ):∃ z,ay esz x i (fun w=>w=z)∧φ z:=by
 unfold ay at *
 split at h <;> first | exact ⟨_,⟨h.1,h.2.1,rfl⟩,h.2.2⟩ | exact h.elim
theorem xg {x i:AV} (h:bH x i φ):∃ z,bH x i (fun w=>w=z)∧φ z:=by
 unfold bH at *
 split at h <;> first | exact ⟨_,⟨h.1,h.2.1,rfl⟩,h.2.2⟩ | exact h.elim
theorem xh {n:Nat} {x i:AV} (h:bP n x i φ):∃ z,bP n x i (fun w=>w=z)∧φ z:=by
 unfold bP at *
 split at h <;> first | exact ⟨_,⟨h.1,h.2.1,h.2.2.1,rfl⟩,h.2.2.2⟩ | exact h.elim
theorem z7 {x:AV} {i:Nat} (h:bB x i φ):∃ z,bB x i (fun w=>w=z)∧φ z:=by
 unfold bB at *
 split at h <;> first | exact ⟨_,⟨h.1,rfl⟩,h.2⟩ | exact h.elim
theorem xi {x:AV} (h:bQ x φ):∃ z,bQ x (fun w=>w=z)∧φ z:=by
 unfold bQ at *
 split at h <;> first | exact ⟨_,rfl,h⟩ | exact h.elim
theorem z8 {k:IntKind} {x:AV} (h:cA k x φ):∃ z,cA k x (fun w=>w=z)∧φ z:=by
 unfold cA at *
 split at h <;> first | exact ⟨_,rfl,h⟩ | exact h.elim
theorem Nz {big:Bool} {x y:AV} (h:wT big x y φ):∃ z,wT big x y (fun w=>w=z)∧φ z:=by
 unfold wT at *
 split at h <;> first | exact ⟨_,rfl,h⟩ | exact h.elim
theorem oB {x:Option AV} {d:Nat} {c1 c2:Nat→Prop} {g:Nat→AV} (h:dx x d fun k=>c1 k∧c2 k∧φ (g k)):∃ z,(dx x d fun k=>c1 k∧c2 k∧g k=z)∧φ z:=by
 unfold dx at *
 split at h
 ·exact ⟨_,⟨h.1,h.2.1,rfl⟩,h.2.2⟩
 ·exact ⟨_,⟨h.1,h.2.1,h.2.2.1,rfl⟩,h.2.2.2⟩
 ·exact h.elim
theorem iK {x:Option AV} {d:Nat} {ψ:(AV→Prop)→Nat→Prop} (h:dx x d (ψ φ)) (hd:∀ k,ψ φ k→∃ z,ψ (fun w=>w=z) k∧φ z):∃ z,dx x d (ψ fun w=>w=z)∧φ z:=by
 unfold dx at *
 split at h
 ·exact hd _ h
 ·obtain ⟨z,h2,h3⟩:=hd _ h.2;exact ⟨z,⟨h.1,h2⟩,h3⟩
 ·exact h.elim
theorem Ef {esz:Nat} {x:AV} {lo hi mx:Option AV} (h:eJ esz x lo hi mx φ):∃ z,eJ esz x lo hi mx (fun w=>w=z)∧φ z:=by
 unfold eJ at *
 split at h <;> (try exact h.elim)
 rename_i xs ej
 cases mx with
 | none=>exact iK (ψ:=fun φ h=>dx lo 0 fun l=>l≤h∧h≤xs.length∧φ (.ap 0 ((xs.take h).drop l))) h fun k h=>oB (c1:=fun l=>l≤k) (c2:=fun _=>k≤xs.length) (g:=fun l=>.ap 0 ((xs.take k).drop l)) h
 | some m=>
   refine iK (ψ:=fun φ h=>dx lo 0 fun l=>l≤h∧h≤xs.length∧hi.isSome=true∧dx (some m) 0 fun m=>m=h∧(∀ y∈xs,y.cells.length=esz)∧φ (.ap esz ((xs.take h).drop l))) h fun k h=>?_
   refine iK (ψ:=fun φ l=>l≤k∧k≤xs.length∧hi.isSome=true∧dx (some m) 0 fun m=>m=k∧(∀ y∈xs,y.cells.length=esz)∧φ (.ap esz ((xs.take k).drop l))) h fun l h=>?_
   obtain ⟨h1,h2,h3,h4⟩:=h
   obtain ⟨z,k1,k2⟩:=oB (g:=fun _=>.ap esz ((xs.take k).drop l)) h4
   exact ⟨z,⟨h1,h2,h3,k1⟩,k2⟩
theorem B1 {esz:Nat} {x:AV} {lo hi mx:Option AV} (h:aV esz x lo hi mx φ):∃ z,aV esz x lo hi mx (fun w=>w=z)∧φ z:=by
 unfold aV eO lQ at *
 split at h
 ·rename_i id off len cap
  split at h
  rotate_left
  ·rename_i m
   obtain ⟨h1,h2⟩:=h
   have:=iK (ψ:=fun φ m=>dx hi len fun h=>dx lo 0 fun l=>l≤h∧h≤m∧m≤cap∧φ (.a8 id (if m=l then off else off + l * esz) (h - l) (m - l))) h2 fun m h=>
    iK (ψ:=fun φ h=>dx lo 0 fun l=>l≤h∧h≤m∧m≤cap∧φ (.a8 id (if m=l then off else off + l * esz) (h - l) (m - l))) h fun k h=>
     iK (ψ:=fun φ l=>l≤k∧k≤m∧m≤cap∧φ (.a8 id (if m=l then off else off + l * esz) (k - l) (m - l))) h fun l h=>⟨_,⟨h.1,h.2.1,h.2.2.1,rfl⟩,h.2.2.2⟩
   obtain ⟨z,k1,k2⟩:=this
   exact ⟨z,⟨h1,k1⟩,k2⟩
  have h2:=h
  have:=iK (ψ:=fun φ h=>dx lo 0 fun l=>l≤h∧h≤cap∧φ (.a8 id (if cap=l then off else off + l * esz) (h - l) (cap - l))) h2 fun k h=>oB (c1:=fun l=>l≤k) (c2:=fun _=>k≤cap) (g:=fun l=>.a8 id (if cap=l then off else off + l * esz) (k - l) (cap - l)) h
  obtain ⟨z,k1,k2⟩:=this
  exact ⟨z,k1,k2⟩
 ·obtain ⟨z,k1,k2⟩:=Ef h.2
  exact ⟨z,⟨h.1,k1⟩,k2⟩
theorem xj {x:AV} {lo hi:Option AV} (h:ca x lo hi φ):∃ z,ca x lo hi (fun w=>w=z)∧φ z:=by
 unfold ca at *
 split at h <;> (try exact h.elim)
 rename_i s
 exact iK (ψ:=fun φ h=>dx lo 0 fun l=>l≤h∧h≤s.size∧φ (.str (s.extract l h))) h fun k h=>oB (c1:=fun l=>l≤k) (c2:=fun _=>k≤s.size) (g:=fun l=>.str (s.extract l k)) h
theorem B2 {kd:Nat} {z m k:AV} {ok:Bool} {H:List aa} (h:cr kd z m k ok H φ):∃ y,cr kd z m k ok H (fun w=>w=y)∧φ y:=by
 unfold cr at *
 split at h <;> (try exact h.elim) <;> first | exact ⟨_,rfl,h⟩ | exact ⟨_,⟨h.1,rfl⟩,h.2⟩ | (split at h <;> (try exact h.elim) <;> first | exact ⟨_,rfl,h⟩ | exact ⟨_,⟨h.1,rfl⟩,h.2⟩ | (split at h <;> (try exact h.elim) <;> first | exact ⟨_,rfl,h⟩ | exact ⟨_,⟨h.1,rfl⟩,h.2⟩))
theorem tx {esz:Nat} {own:Nat}:∀ {ps:List (Nat×AV)} {zs:List AV},bi zs esz ps (fun v=>φ (.ap own v))→∃ z,bi zs esz ps (fun v=>.ap own v=z)∧φ z
 | [],zs,h=>⟨_,rfl,h⟩
 | (i,x)::r,zs,h=>by
   obtain ⟨z,k1,k2⟩:=tx h.2.2.2
   exact ⟨z,⟨h.1,h.2.1,h.2.2.1,k1⟩,k2⟩
theorem yd:∀ {ps:List (Nat×Nat×AV)} {zs:List AV},gI zs ps (fun v=>φ (.agg v))→∃ z,gI zs ps (fun v=>.agg v=z)∧φ z
 | [],zs,h=>⟨_,rfl,h⟩
 | (off,sz,x)::r,zs,h=>by
   obtain ⟨z,k1,k2⟩:=yd h.2.2.2
   exact ⟨z,⟨h.1,h.2.1,h.2.2.1,k1⟩,k2⟩
end
def fM (v:AV) (A B:Prop):Prop:=eX v fun q=>(q=true→A)∧(q=false→B)
@[congr] theorem Pu {v v':AV} {A B:Prop} (h:gD v=v'):fM v A B=fM v' A B:=by subst h;rfl
theorem NA (A B:Prop):fM (.bool true) A B=A:=by simp [fM,eX]
theorem NB (A B:Prop):fM (.bool false) A B=B:=by simp [fM,eX]
theorem NC (b:Bool) (A B:Prop):fM (.bool (!b)) A B=fM (.bool b) B A:=by cases b <;> simp [fM,eX]
theorem ND (p:Prop) [Decidable p] (A B:Prop):fM (.bool (decide p)) A B=((p→A)∧(¬ p→B)):=by simp [fM,eX]
theorem qD {b:Bool} {A B:Prop} (h1:b=true→A) (h2:b=false→B):fM (.bool b) A B:=⟨h1,h2⟩
def dM (v:AV) (g:Nat) (want:Bool) (env:Env) (yes no:Env→Prop):Prop:=
 match v with
 | .bool b=>(b=want→yes ((g,.bool want)::env))∧(b=(!want)→no ((g,.bool (!want))::env))
 | .tuple []=>no env
 | _=>False
@[congr] theorem NE {v v':AV} {g:Nat} {want:Bool} {env:Env} {yes no:Env→Prop} (h:gD v=v'):dM v g want env yes no=dM v' g want env yes no:=by subst h;rfl
section
variable (g:Nat) (env:Env) (yes no:Env→Prop)
theorem VK:dM (.bool true) g true env yes no=yes ((g,.bool true)::env):=by simp [dM]
theorem VL:dM (.bool true) g false env yes no=no ((g,.bool true)::env):=by simp [dM]
theorem VM:dM (.bool false) g true env yes no=no ((g,.bool false)::env):=by simp [dM]
theorem VN:dM (.bool false) g false env yes no=yes ((g,.bool false)::env):=by simp [dM]
theorem Ze (want:Bool):dM (.tuple []) g want env yes no=no env:=_root_.id rfl
theorem VO (p:Prop) [Decidable p]:dM (.bool (decide p)) g true env yes no=((p→yes ((g,.bool true)::env))∧(¬ p→no ((g,.bool false)::env))):=by simp [dM]
theorem VP (p:Prop) [Decidable p]:dM (.bool (decide p)) g false env yes no=((¬ p→yes ((g,.bool false)::env))∧(p→no ((g,.bool true)::env))):=by simp [dM]
end
def ye (P:Px) (g:FuncId) (xs:List AV) (H:List aa) (K:AV→List aa→Prop):Prop:=∃ bN,w7 xs bN∧dU P g bN H K
@[congr] theorem Pv {P:Px} {g:FuncId} {xs xs':List AV} {H H':List aa} {K:AV→List aa→Prop} (h:gD xs=xs') (h2:H=H'):ye P g xs H K=ye P g xs' H' K:=by subst h;subst h2;rfl
theorem B3 {P:Program} {lo:Option Nat} {g:FuncId} {xs ys:List AV} {H:List aa} {R K:AV→List aa→Prop} (hc:aq P g ys H R) (hl:w7 xs ys) (hk:∀ r H',R r H'→K r H'):ye ⟨P,lo⟩ g xs H K:=⟨ys,hl,dU.of (hc.mono hk)⟩
theorem af {P:Program} {lo:Option Nat} {g:FuncId} {xs:List AV} {H:List aa} {R K:AV→List aa→Prop} (hc:aq P g xs H R) (hk:∀ r H',R r H'→K r H'):ye ⟨P,lo⟩ g xs H K:=⟨xs,cp _,dU.of (hc.mono hk)⟩
theorem ae {P:Program} {lo:Option Nat} {g:FuncId} {xs:List AV} {v:AV} {H:List aa} {K:AV→List aa→Prop} (hc:Pure P g xs v) (hk:K v H):ye ⟨P,lo⟩ g xs H K:=
 ⟨xs,cp _,dU.of ((hc H).mono fun r H' ⟨h1,h2⟩=>by rw [h1,h2];exact hk)⟩
theorem NF {P:Px} {env:Env} {H:List aa} (g:FuncId) (first cap:List AV) (args:List IX) (pass:Option Nat) (K:AV→Env→List aa→Prop):oU P (.fn (.func g) first cap) args pass env H K =
 ye P g (first.map AV.ab++aD env pass 0 args++cap.map AV.ab) H (fun r H'=>K r (cL env (bg args pass)) H'):=_root_.id rfl
@[congr] theorem Pw {P:Px} {f f':AV} {args:List IX} {pass:Option Nat} {env:Env} {H:List aa} {K:AV→Env→List aa→Prop} (h:gD f=f'):oU P f args pass env H K=oU P f' args pass env H K:=by subst h;rfl
def B4 (P:Px) (st:Bool) (g:FuncId) (xs:List AV) (H:List aa) (K:AV→Prop):Prop:=
 ∃ x,(match st with
  | true=>∃ bN,w7 xs bN∧aq P.prog g bN H (fun r H'=>r=x∧H'=H)
  | false=>∀ H,∃ bN,w7 xs bN∧aq P.prog g bN H (fun r H'=>r=x∧H'=H))∧K x
@[congr] theorem Py {P:Px} {st:Bool} {g:FuncId} {xs xs':List AV} {H:List aa} {K:AV→Prop} (h:gD xs=xs'):B4 P st g xs H K=B4 P st g xs' H K:=by subst h;rfl
theorem aF {P:Program} {lo:Option Nat} {st:Bool} {g:FuncId} {xs:List AV} {v:AV} {H:List aa} {K:AV→Prop} (hc:Pure P g xs v) (hk:K v):B4 ⟨P,lo⟩ st g xs H K:=
 ⟨v,(by cases st <;> first | exact ⟨xs,cp _,hc H⟩ | exact fun H=>⟨xs,cp _,hc H⟩),hk⟩
def pC (P:Px) (st:Bool) (f:AV) (xs:List AV) (H:List aa) (K:AV→Prop):Prop:=
 match f with
 | .fn (.func g) first cap=>B4 P st g (first.map AV.ab++xs++cap.map AV.ab) H K
 | _=>False
@[congr] theorem NG {P:Px} {st:Bool} {f f':AV} {xs xs':List AV} {H:List aa} {K:AV→Prop} (h:gD f=f') (h2:xs=xs'):pC P st f xs H K=pC P st f' xs' H K:=by subst h;subst h2;rfl
theorem Hu {P:Px} {st:Bool} (g:FuncId) (first cap xs:List AV) (H:List aa) (K:AV→Prop):pC P st (.fn (.func g) first cap) xs H K=B4 P st g (first.map AV.ab++xs++cap.map AV.ab) H K:=_root_.id rfl
def g9 (x:AV) (H:List aa) (φ:AV→Prop):Prop:=match x with | .ap _ xs=>φ (.int .i64 xs.length) | x=>fq x H φ
@[congr] theorem Pz {x x':AV} {H:List aa} {φ:AV→Prop} (h:gD x=x'):g9 x H φ=g9 x' H φ:=by subst h;rfl
theorem Hv {x:AV} {H:List aa} {φ:AV→Prop} (h:g9 x H φ):∃ z,fq x H (fun w=>w=z)∧φ z:=by
 cases x with
 | ap o xs=>exact ⟨_,fun _=>rfl,h⟩
 | map id=>
   simp only [g9,fq] at h ⊢
   split at h
   ·exact ⟨_,rfl,h⟩
   ·exact h.elim
 | _=>first | exact ⟨_,rfl,h⟩ | exact False.elim h
def oC (kd:Nat) (neq:Bool) (x:AV) (φ:AV→Prop):Prop:=match isNil kd x with | some b=>φ (.bool (if neq then !b else b)) | none=>False
@[congr] theorem LF {kd:Nat} {neq:Bool} {x x':AV} {φ:AV→Prop} (h:gD x=x'):oC kd neq x φ=oC kd neq x' φ:=by subst h;rfl
def vM (o:bY) (ρ:IX→AV) (H:List aa) (K:AV→Prop):Prop:=
 match o with
 | .set i false=>K (ρ i).ab
 | .pick c a b=>fM (ρ c) (K (ρ a).ab) (K (ρ b).ab)
 | .bin op i j=>de op (ρ i) (ρ j) K
 | .shift op i j=>dS op (ρ i) (ρ j) K
 | .ic neq i j=>cU neq (ρ i) (ρ j) K
 | .jg kd neq i=>oC kd neq (ρ i) K
 | .un op i=>y7 op (ρ i) K
 | .lL i=>(ρ i).val=true∧K (.ai (ρ i))
 | .build z ps=>cu z.cells (ps.map fun q=>(q.1,q.2.1,ρ q.2.2)) K
 | .buildSlice own esz z len ps=>bi (List.replicate len (aM z)) esz (ps.map fun q=>(q.1,ρ q.2)) fun xs=>K (.ap own xs)
 | .load sz i=>aR sz (ρ i) H K
 | .nilCheck i=>bQ (ρ i) K
 | .fieldAddr off sz i=>ak off sz (ρ i) K
 | .field off sz i=>eY off sz (ρ i) K
 | .indexAddr esz i j=>(∀ own xs,ρ i=.ap own xs→∀ z∈xs,z.cells.length=esz)∧ay esz (ρ i) (ρ j) K
 | .dg i j=>bH (ρ i) (ρ j) K
 | .dQ n i j=>bP n (ρ i) (ρ j) K
 | .slice esz i lo hi mx=>aV esz (ρ i) (lo.map ρ) (hi.map ρ) (mx.map ρ) K
 | .dR i lo hi=>ca (ρ i) (lo.map ρ) (hi.map ρ) K
 | .len kd i=>aL kd (ρ i)∧g9 (ρ i) H K
 | .lookup kd z m k ok=>cr kd z (ρ m) (ρ k) ok H K
 | .fn f first cap=>K (.fn f (first.map fun x=>(ρ x).ab) (cap.map fun x=>(ρ x).ab))
 | .extract i k=>bB (ρ i) k K
 | .eN k i=>cA k (ρ i) K
 | .mx big i j=>wT big (ρ i) (ρ j) K
 | _=>False
theorem B5 {P:Px} {o:bY} {ρ:IX→AV} {H:List aa} {K:AV→Prop} (h:vM o ρ H K):∃ x,db P o ρ H x∧K x:=by
 unfold vM at h
 split at h
 ·exact ⟨_,rfl,h⟩
 ·unfold fM eX at h
  simp only [db,eX]
  split at h
  ·rename_i b hb
   cases b with
   | true=>exact ⟨_,⟨fun _=>rfl,fun e=>by cases e⟩,h.1 rfl⟩
   | false=>exact ⟨_,⟨fun e=>(by cases e),fun _=>rfl⟩,h.2 rfl⟩
  ·exact h.elim
 ·exact JH h
 ·exact Ed h
 ·exact B0 h
 ·unfold oC at h
  split at h
  ·rename_i b hb
   refine ⟨_,?_,h⟩
   simp only [db,dj,hb]
  ·exact h.elim
 ·exact Ny h
 ·exact ⟨_,⟨h.1,rfl⟩,h.2⟩
 ·exact yd h
 ·exact tx h
 ·exact Ht h
 ·exact xi h
 ·exact vK h
 ·exact Ee h
 ·obtain ⟨z,k1,k2⟩:=vL h.2
  exact ⟨z,⟨h.1,k1⟩,k2⟩
 ·exact xg h
 ·exact xh h
 ·exact B1 h
 ·exact xj h
 ·obtain ⟨z,k1,k2⟩:=Hv h.2
  exact ⟨z,⟨h.1,k1⟩,k2⟩
 ·exact B2 h
 ·exact ⟨_,rfl,h⟩
 ·exact z7 h
 ·exact z8 h
 ·exact Nz h
 ·exact h.elim
theorem Hw {P:Px} {o:bY} {ρ:IX→AV} {K:AV→Prop} (h:vM o ρ [] K):∃ x,(∀ H,db P o ρ H x)∧K x:=by
 obtain ⟨x,h1,h2⟩:=B5 (P:=P) h
 have hs:o.stays=true:=by
  cases o <;> first | rfl | exact h.elim
 exact ⟨x,fun H=>by have:=xU (e:=H) hs h1;simpa using this,h2⟩
def lH (P:Px) (st:Bool) (o:bY) (ρ:IX→AV) (H:List aa) (K:AV→Prop):Prop:=
 match o with
 | .call f args none=>pC P st (ρ f) (args.map fun x=>(ρ x).ab) H K
 | o=>vM o ρ (match st with | true=>H | false=>[]) K
theorem JI {P:Px} {st:Bool} {o:bY} {ρ:IX→AV} {H:List aa} {K:AV→Prop} (h:lH P st o ρ H K):∃ x,dv P st o ρ H x∧K x:=by
 unfold lH at h
 split at h
 ·rename_i f args
  unfold pC at h
  split at h
  ·rename_i g first cap e
   obtain ⟨x,h1,h2⟩:=h
   cases st with
   | true=>exact ⟨x,by simp only [dv,db,e];exact h1,h2⟩
   | false=>exact ⟨x,by simp only [dv,db,e];exact h1,h2⟩
  ·exact h.elim
 ·cases st with
  | true=>exact B5 h
  | false=>exact Hw h
def FT (P:Px) (st:Bool) (o:bt) (env:Env) (H:List aa) (K:Env→Prop):Prop:=
 match o.g with
 | none=>lH P st o.op (al env) H fun x=>K (put o.dst x env)
 | some (g,want)=>dM (get env g) g want env (fun _=>lH P st o.op (al env) H fun x=>K (put o.dst x env)) (fun _=>K (put o.dst (.tuple []) env))
theorem B6 {P:Px} {st:Bool} {o:bt} {env:Env} {H:List aa} {K1 K2:Env→Prop} (h:FT P st o env H K1) (hK:∀ e,K1 e→K2 e):sY P st o env H K2:=by
 unfold FT at h
 unfold sY
 split at h
 ·rename_i e
  rw [e]
  obtain ⟨x,h1,h2⟩:=JI h
  exact ⟨x,h1,hK _ h2⟩
 ·rename_i g want e
  rw [e]
  unfold dM at h
  unfold iq
  dsimp only
  split at h
  ·rename_i b hb
   rw [hb]
   refine ⟨fun eb=>?_,fun eb=>hK _ (h.2 eb)⟩
   obtain ⟨x,h1,h2⟩:=JI (h.1 eb)
   exact ⟨x,h1,hK _ h2⟩
  ·rename_i hb
   rw [hb]
   exact hK _ h
  ·exact h.elim
theorem B7 {P:Px} {o:bY} {dst:Option Nat} {env:Env} {H:List aa} {K1 K2:Env→List aa→Prop} (h:bo P o dst env H K1) (hK:∀ e H',K1 e H'→K2 e H'):bo P o dst env H K2:=
 oo (fun _ _=>rfl) h fun mods H' _ _ _ hk=>hK _ _ hk
theorem rW {P:Px} {o:bt} {env:Env} {H:List aa} {K1 K2:Env→List aa→Prop} (h:rH P o env H K1) (hK:∀ e H',K1 e H'→K2 e H'):rH P o env H K2:=by
 unfold rH at *
 split at h
 ·exact B7 h hK
 ·rename_i g want e
  unfold iq at *
  split at h
  ·exact ⟨fun eb=>B7 (h.1 eb) hK,fun eb=>hK _ _ (h.2 eb)⟩
  ·exact hK _ _ h
  ·exact h.elim
theorem rX {P:Px}:∀ {ops:List bt} {env:Env} {H:List aa} {K1 K2:Env→List aa→Prop},jm P ops env H K1→(∀ e H',K1 e H'→K2 e H')→jm P ops env H K2
 | [],_,_,_,_,h,hK=>hK _ _ h
 | o::r,_,_,_,_,h,hK=>rW h fun _ _ h=>rX h hK
def jc (P:Px):DT→Env→List aa→(Env→List aa→Prop)→Prop
 | .done,env,H,K=>K env H
 | .take st o r,env,H,K=>FT P st o env H fun env=>jc P r env H K
 | .br o t rest,env,H,K=>rH P o env H (fun env H=>jc P t env H K)∧jc P rest env H K
 | .nil,_,_,_=>True
theorem qE {P:Px}:∀ {t:DT} {env:Env} {H:List aa} {K1 K2:Env→List aa→Prop},jc P t env H K1→(∀ e H',K1 e H'→K2 e H')→ub P t env H K2
 | .done,_,_,_,_,h,hK=>hK _ _ h
 | .take st o r,_,_,_,_,h,hK=>B6 h fun _ h=>qE h hK
 | .br o t rest,_,_,_,_,h,hK=>⟨rW h.1 fun _ _ h=>qE h hK,qE h.2 hK⟩
 | .nil,_,_,_,_,h,hK=>trivial
def vN (P:Px) (f:AV) (lc:iH) (env:Env) (H:List aa) (K:Option Code→List aa→Prop):Prop:=
 match f with
 | .fn (.func g) first cap=>(∀ (as:Array Value) (w:World),(callFunc g as).run P.prog w=.ok (.enter g as) w)∧
    ∃ bN,w7 (first.map AV.ab++[.nk H.length]++cap.map AV.ab) bN∧dU P g bN (H++[.loop .ready lc (kH lc.n env)]) fun _ H'=>behind H.length H' K
 | _=>False
theorem yf {j:Option Code} {Q1 Q2:Exit→Env→List aa→Prop} {env:Env} {H:List aa} (h:po j Q1 env H) (hQ:∀ x e H',Q1 x e H'→Q2 x e H'):po j Q2 env H:=by
 unfold po at *
 split at h <;> first | exact hQ _ _ _ h | exact h.elim
theorem tA {id:Nat} {H:List aa} {K1 K2:Option Code→List aa→Prop} (h:behind id H K1) (hK:∀ j H',K1 j H'→K2 j H'):behind id H K2:=by
 unfold behind at *
 split at h <;> first | exact hK _ _ h | exact h.elim
def lI (P:Px) (n0:Nat):IR→Env→List aa→(Exit→Env→List aa→Prop)→Prop
 | .skip,env,H,Q=>Q .normal env H
 | .region ops live,env,H,Q=>jm P ops env H fun aB H'=>Q .normal (eE live aB) H'
 | .draw t live,env,H,Q=>jc P t env H fun aB H'=>Q .normal (eE live aB) H'
 | .seq a b,env,H,Q=>lI P n0 a env H fun e aB H'=>match e with
   | .normal=>lI P n0 b aB H' Q
   | e=>Q e aB H'
 | .cond x a b,env,H,Q=>fM (al env x) (lI P n0 a env H Q) (lI P n0 b env H Q)
 | .block id a,env,H,Q=>lI P n0 a env H fun e aB H'=>match e with
   | .exit id'=>if id'=id then Q .normal aB H' else Q (.exit id') aB H'
   | e=>Q e aB H'
 | .loop a,env,H,Q=>∃ (ι:Type) (I:ι→Prop) (se:ι→Env) (sh:ι→List aa) (μ:ι→Nat),(∃ i,I i∧GR P.lo n0 env H (se i) (sh i))∧
    ∀ i,I i→lI P n0 a (se i) (sh i) fun e aB H'=>match e with
     | .normal=>∃ j,I j∧μ j < μ i∧GR P.lo n0 aB H' (se j) (sh j)
     | e=>Q e aB H'
 | .exit id,env,H,Q=>Q (.exit id) env H
 | .ret,env,H,Q=>Q .ret env H
 | .never,env,H,Q=>False
 | .iY f lc,env,H,Q=>vN P (al env f) lc env H fun j H''=>po j Q env H''
theorem ul {P:Px} {n0:Nat}:∀ {ir:IR} {env:Env} {H:List aa} {Q1 Q2:Exit→Env→List aa→Prop},lI P n0 ir env H Q1→(∀ x e H',Q1 x e H'→Q2 x e H')→mP P n0 ir env H Q2:=by
 intro ir
 induction ir with
 | skip=>exact fun h hQ=>hQ _ _ _ h
 | region ops live=>exact fun h hQ=>rX h fun _ _ h=>hQ _ _ _ h
 | draw t live=>exact fun h hQ=>qE h fun _ _ h=>hQ _ _ _ h
 | seq a b Eg R4=>
   exact fun h hQ=>Eg h fun x e H' h=>by
    cases x with
    | normal=>exact R4 h hQ
    | _=>exact hQ _ _ _ h
 | cond x a b Eg R4=>
   intro env H Q1 Q2 h hQ
   unfold lI fM eX at h
   unfold mP eX
   split at h
   ·exact ⟨fun e=>Eg (h.1 e) hQ,fun e=>R4 (h.2 e) hQ⟩
   ·exact h.elim
 | block id a Eg=>
   exact fun h hQ=>Eg h fun x e H' h=>by
    cases x with
    | exit id'=>
      dsimp only at h ⊢
      split
      ·rename_i bk;rw [if_pos bk] at h;exact hQ _ _ _ h
      ·rename_i bk;rw [if_neg bk] at h;exact hQ _ _ _ h
    | _=>exact hQ _ _ _ h
 | loop a Eg=>
   intro env H Q1 Q2 h hQ
   obtain ⟨ι,I,se,sh,μ,h0,hs⟩:=h
   exact ⟨ι,I,se,sh,μ,h0,fun i hi=>Eg (hs i hi) fun x e H' h=>by
    cases x with
    | normal=>exact h
    | _=>exact hQ _ _ _ h⟩
 | exit id=>exact fun h hQ=>hQ _ _ _ h
 | ret=>exact fun h hQ=>hQ _ _ _ h
 | never=>exact fun h _=>h.elim
 | iY f lc=>
   intro env H Q1 Q2 h hQ
   unfold lI vN at h
   unfold mP
   split at h
   ·rename_i g first cap e
    obtain ⟨h1,bN,h2,h3⟩:=h
    rw [e]
    exact ⟨h1,bN,h2,h3.mono fun _ H' hb=>tA hb fun j H'' hg=>yf hg hQ⟩
   ·exact h.elim
theorem iJ.calls {P:Program} {f:FuncId} {fi:qz} (h:iJ P f fi) {args:List AV} {H:List aa} {R:AV→List aa→Prop} (hn:Nat.ble args.length fi.n=true)
 (hw:lI P H.length fi.ir (bX 0 args) H fun e env H'=>(e=.normal∨e=.ret)∧bR H.length fi.rs env H' R):aq P f args H R:=
 h.zU (Nat.le_of_ble_eq_true hn) (ul hw fun _ _ _ h=>h)
theorem iJ.Eh {P:Program} {f:FuncId} {fi:qz} (h:iJ P f fi) {args:List AV} {H:List aa} {R:AV→List aa→Prop} (hn:Nat.ble args.length fi.n=true)
 (hw:lI ⟨P,some H.length⟩ H.length fi.ir (bX 0 args) H fun e env H'=>(e=.normal∨e=.ret)∧kZ (mQ H.length) H.length fi.rs env H' R):aq P f args H R:=
 h.Ms (Nat.le_of_ble_eq_true hn) (ul hw fun _ _ _ h=>h)
section
variable {P:Px} {n0:Nat} {env:Env} {H:List aa} {Q:Exit→Env→List aa→Prop}
theorem JJ:lI P n0 .skip env H Q=Q .normal env H:=_root_.id rfl
theorem Ei (ops:List bt) (live:Option (List Nat)):lI P n0 (.region ops live) env H Q=jm P ops env H fun aB H'=>Q .normal (eE live aB) H':=_root_.id rfl
theorem JK (t:DT) (live:Option (List Nat)):lI P n0 (.draw t live) env H Q=jc P t env H fun aB H'=>Q .normal (eE live aB) H':=_root_.id rfl
theorem NH (a b:IR):lI P n0 (.seq a b) env H Q=lI P n0 a env H fun e aB H'=>match e with
 | .normal=>lI P n0 b aB H' Q
 | e=>Q e aB H':=_root_.id rfl
theorem B8 (x:IX) (a b:IR):lI P n0 (.cond x a b) env H Q=fM (al env x) (lI P n0 a env H Q) (lI P n0 b env H Q):=_root_.id rfl
theorem Hy (id:Nat) (a:IR):lI P n0 (.block id a) env H Q=lI P n0 a env H fun e aB H'=>match e with
 | .exit id'=>if id'=id then Q .normal aB H' else Q (.exit id') aB H'
 | e=>Q e aB H':=_root_.id rfl
theorem yg (f:IX) (lc:iH):lI P n0 (.iY f lc) env H Q=vN P (al env f) lc env H fun j H''=>po j Q env H'':=_root_.id rfl
theorem JL (id:Nat):lI P n0 (.exit id) env H Q=Q (.exit id) env H:=_root_.id rfl
theorem NI:lI P n0 .ret env H Q=Q .ret env H:=_root_.id rfl
@[congr] theorem TU {ir:IR} {aB:Env} {H':List aa} (h:gD env=aB) (h2:H=H'):lI P n0 ir env H Q=lI P n0 ir aB H' Q:=by subst h;subst h2;rfl
@[congr] theorem R5 {ops:List bt} {aB:Env} {H':List aa} {K:Env→List aa→Prop} (h:gD env=aB) (h2:H=H'):jm P ops env H K=jm P ops aB H' K:=by subst h;subst h2;rfl
@[congr] theorem R6 {t:DT} {aB:Env} {H':List aa} {K:Env→List aa→Prop} (h:gD env=aB) (h2:H=H'):jc P t env H K=jc P t aB H' K:=by subst h;subst h2;rfl
theorem JM (K:Env→List aa→Prop):jm P [] env H K=K env H:=_root_.id rfl
theorem R7 (d:Option Nat) (op:bY) (r:List bt) (K:Env→List aa→Prop):jm P (⟨none,d,op⟩::r) env H K=bo P op d env H fun env H=>jm P r env H K:=_root_.id rfl
theorem R8 (g:Nat) (w:Bool) (d:Option Nat) (op:bY) (r:List bt) (K:Env→List aa→Prop):jm P (⟨some (g,w),d,op⟩::r) env H K =
 dM (get env g) g w env (fun env=>bo P op d env H fun env H=>jm P r env H K) (fun env=>jm P r (put d (.tuple []) env) H K):=_root_.id rfl
theorem VQ (d:Option Nat) (op:bY) (K:Env→List aa→Prop):rH P ⟨none,d,op⟩ env H K=bo P op d env H K:=_root_.id rfl
theorem VR (g:Nat) (w:Bool) (d:Option Nat) (op:bY) (K:Env→List aa→Prop):rH P ⟨some (g,w),d,op⟩ env H K =
 dM (get env g) g w env (fun env=>bo P op d env H K) (fun env=>K (put d (.tuple []) env) H):=_root_.id rfl
@[congr] theorem TV {o:bt} {K:Env→List aa→Prop} {H':List aa} (h:gD H=H'):rH P o env H K=rH P o env H' K:=by subst h;rfl
@[congr] theorem TW {o:bY} {d:Option Nat} {K:Env→List aa→Prop} {H':List aa} (h:gD H=H'):bo P o d env H K=bo P o d env H' K:=by subst h;rfl
theorem Hz (K:Env→List aa→Prop):jc P .done env H K=K env H:=_root_.id rfl
theorem JN (K:Env→List aa→Prop):jc P .nil env H K=True:=_root_.id rfl
theorem R9 (st:Bool) (d:Option Nat) (op:bY) (r:DT) (K:Env→List aa→Prop):jc P (.take st ⟨none,d,op⟩ r) env H K=lH P st op (al env) H fun x=>jc P r (put d x env) H K:=_root_.id rfl
theorem Sa (st:Bool) (g:Nat) (w:Bool) (d:Option Nat) (op:bY) (r:DT) (K:Env→List aa→Prop):jc P (.take st ⟨some (g,w),d,op⟩ r) env H K =
 dM (get env g) g w env (fun _=>lH P st op (al env) H fun x=>jc P r (put d x env) H K) (fun _=>jc P r (put d (.tuple []) env) H K):=_root_.id rfl
theorem NJ (o:bt) (t rest:DT) (K:Env→List aa→Prop):jc P (.br o t rest) env H K=(rH P o env H (fun env H=>jc P t env H K)∧jc P rest env H K):=_root_.id rfl
@[congr] theorem TX {st:Bool} {o:bY} {ρ:IX→AV} {K:AV→Prop} {H':List aa} (h:gD H=H'):lH P st o ρ H K=lH P st o ρ H' K:=by subst h;rfl
theorem JO {P:Program} {a:IR} (ι:Type) (I:ι→Prop) (se:ι→Env) (sh:ι→List aa) (μ:ι→Nat) (i0:ι) (h0:I i0) (Ya:sle n0 env H (se i0) (sh i0))
 (hs:∀ i,I i→lI P n0 a (se i) (sh i) fun e aB H'=>match e with
   | .normal=>∃ j,I j∧μ j < μ i∧sle n0 aB H' (se j) (sh j)
   | e=>Q e aB H'):lI P n0 (.loop a) env H Q:=⟨ι,I,se,sh,μ,⟨i0,h0,Ya⟩,hs⟩
theorem aP {P:Program} {a:IR} (N:Nat) (I:Nat→Prop) (se:Nat→Env) (sh:Nat→List aa) (h0:I 0∧sle n0 env H (se 0) (sh 0))
 (hs:∀ i,i≤N→I i→lI P n0 a (se i) (sh i) fun e aB H'=>match e with
   | .normal=>∃ j,(j≤N∧I j)∧N - j < N - i∧sle n0 aB H' (se j) (sh j)
   | e=>Q e aB H'):lI P n0 (.loop a) env H Q:=
 ⟨Nat,fun i=>i≤N∧I i,se,sh,fun i=>N - i,⟨0,⟨Nat.zero_le _,h0.1⟩,h0.2⟩,fun i hi=>hs i hi.1 hi.2⟩
end
section
variable {φ:AV→Prop}
@[congr] theorem PD {v v':AV} {ψ:Bool→Prop} (h:gD v=v'):eX v ψ=eX v' ψ:=by subst h;rfl
@[congr] theorem Sb {op:BinOp} {x x' y y':AV} (h:gD x=x') (h2:y=y'):de op x y φ=de op x' y' φ:=by subst h;subst h2;rfl
@[congr] theorem NK {op:BinOp} {x x' y y':AV} (h:gD x=x') (h2:y=y'):dS op x y φ=dS op x' y' φ:=by subst h;subst h2;rfl
@[congr] theorem LG {n:Bool} {x x' y y':AV} (h:gD x=x') (h2:y=y'):cU n x y φ=cU n x' y' φ:=by subst h;subst h2;rfl
@[congr] theorem NL {k:Nat} {n:Bool} {x x':AV} (h:gD x=x'):dj k n x φ=dj k n x' φ:=by subst h;rfl
@[congr] theorem TY {op:UnOp} {x x':AV} (h:gD x=x'):y7 op x φ=y7 op x' φ:=by subst h;rfl
@[congr] theorem PE {sz:Option Nat} {x x':AV} {H H':List aa} (h:gD x=x') (h2:H=H'):aR sz x H φ=aR sz x' H' φ:=by subst h;subst h2;rfl
@[congr] theorem HA {off:Nat} {sz:Option Nat} {x x':AV} (h:gD x=x'):ak off sz x φ=ak off sz x' φ:=by subst h;rfl
@[congr] theorem NM {off:Nat} {sz:Option Nat} {x x':AV} (h:gD x=x'):eY off sz x φ=eY off sz x' φ:=by subst h;rfl
@[congr] theorem HB {e:Nat} {x x' y y':AV} (h:gD x=x') (h2:y=y'):ay e x y φ=ay e x' y' φ:=by subst h;subst h2;rfl
@[congr] theorem Ix {n:Nat} {x x' y y':AV} (h:gD x=x') (h2:y=y'):bP n x y φ=bP n x' y' φ:=by subst h;subst h2;rfl
@[congr] theorem Iy {x x' y y':AV} (h:gD x=x') (h2:y=y'):bH x y φ=bH x' y' φ:=by subst h;subst h2;rfl
@[congr] theorem Sc {x x':AV} {H H':List aa} (h:gD x=x') (h2:H=H'):fq x H φ=fq x' H' φ:=by subst h;subst h2;rfl
@[congr] theorem JP {x x':AV} {i:Nat} (h:gD x=x'):bB x i φ=bB x' i φ:=by subst h;rfl
@[congr] theorem Iz {x x':AV} (h:gD x=x'):bQ x φ=bQ x' φ:=by subst h;rfl
@[congr] theorem JQ {k:IntKind} {x x':AV} (h:gD x=x'):cA k x φ=cA k x' φ:=by subst h;rfl
@[congr] theorem TZ {b:Bool} {x x' y y':AV} (h:gD x=x') (h2:y=y'):wT b x y φ=wT b x' y' φ:=by subst h;subst h2;rfl
@[congr] theorem LH {kd:Nat} {z m m' k k':AV} {ok:Bool} {H H':List aa} (h:gD m=m') (h2:k=k') (h3:H=H'):cr kd z m k ok H φ=cr kd z m' k' ok H' φ:=by subst h;subst h2;subst h3;rfl
@[congr] theorem LI {kd:Nat} {m m' k k' x x':AV} {H H':List aa} {K:List aa→Prop} (h:gD m=m') (h2:k=k') (h3:x=x') (h4:H=H'):fx kd m k x H K=fx kd m' k' x' H' K:=by subst h;subst h2;subst h3;subst h4;rfl
@[congr] theorem NN {m:Nat} {p p' x x':AV} {H H':List aa} {K:List aa→Prop} (h:gD p=p') (h2:x=x') (h3:H=H'):ij m p x H K=ij m p' x' H' K:=by subst h;subst h2;subst h3;rfl
@[congr] theorem JR {p p' x x':AV} {H H':List aa} {K:List aa→Prop} (h:gD p=p') (h2:x=x') (h3:H=H'):dT p x H K=dT p' x' H' K:=by subst h;subst h2;subst h3;rfl
@[congr] theorem LJ {e b:Nat} {s s' x x':AV} {ψ:List AV→Prop} (h:gD s=s') (h2:x=x'):bp e b s x ψ=bp e b s' x' ψ:=by subst h;subst h2;rfl
@[congr] theorem NO {e b:Nat} {z n n':AV} {H H':List aa} {K:AV→List aa→Prop} (h:gD n=n') (h2:H=H'):fX e b z n H K=fX e b z n' H' K:=by subst h;subst h2;rfl
@[congr] theorem JS {e b:Nat} {z s s' x x':AV} {H H':List aa} {K:AV→List aa→Prop} (h:gD s=s') (h2:x=x') (h3:H=H'):cD e b z s x H K=cD e b z s' x' H' K:=by subst h;subst h2;subst h3;rfl
@[congr] theorem LK {e:Nat} {z x x':AV} {H H':List aa} {K:List aa→Prop} (h:gD x=x') (h2:H=H'):gK e z x H K=gK e z x' H' K:=by subst h;subst h2;rfl
@[congr] theorem PF {xs xs':List AV} {H H':List aa} {K:AV→List aa→Prop} (h:gD xs=xs') (h2:H=H'):pW xs H K=pW xs' H' K:=by subst h;subst h2;rfl
@[congr] theorem NP {e b:Nat} {n n':AV} (h:gD n=n'):iW e b n φ=iW e b n' φ:=by subst h;rfl
@[congr] theorem PG {e:Nat} {d d' s s':AV} {H H':List aa} {K:AV→List aa→Prop} (h:gD d=d') (h2:s=s') (h3:H=H'):jF e d s H K=jF e d' s' H' K:=by subst h;subst h2;subst h3;rfl
@[congr] theorem PH {e:Nat} {x x':AV} {H H':List aa} {K:AV→List aa→Prop} (h:gD x=x') (h2:H=H'):eR e x H K=eR e x' H' K:=by subst h;subst h2;rfl
@[congr] theorem LL {e:Nat} {x x':AV} {lo lo' hi mY m m':Option AV} (h:gD x=x') (h1:lo=lo') (h2:hi=mY) (h3:m=m'):aV e x lo hi m φ=aV e x' lo' mY m' φ:=by subst h;subst h1;subst h2;subst h3;rfl
@[congr] theorem IA {x x':AV} {lo lo' hi mY:Option AV} (h:gD x=x') (h1:lo=lo') (h2:hi=mY):ca x lo hi φ=ca x lo' mY φ:=by subst h;subst h1;subst h2;rfl
@[congr] theorem Sd {n0:Nat} {rs:List RX} {env aB:Env} {H H':List aa} {R:AV→List aa→Prop} (h:gD env=aB) (h2:H=H'):bR n0 rs env H R=bR n0 rs aB H' R:=by subst h;subst h2;rfl
end
end Go.aH
end
section
namespace Go.aH
open Go
section
variable {P:Px} {env:Env} {H:List aa} {dst:Option Nat} {K:Env→List aa→Prop}
theorem Se (op:BinOp) (x:IX) (y:IX):bo P (.bin op x y) dst env H K=(de op (al env x) (al env y) fun z=>K (put dst z env) H):=_root_.id rfl
theorem JT (op:BinOp) (x:IX) (y:IX):bo P (.shift op x y) dst env H K=(dS op (al env x) (al env y) fun z=>K (put dst z env) H):=_root_.id rfl
theorem HC (neq:Bool) (x:IX) (y:IX):bo P (.ic neq x y) dst env H K=(cU neq (al env x) (al env y) fun z=>K (put dst z env) H):=_root_.id rfl
theorem JU (kd:Nat) (neq:Bool) (x:IX):bo P (.jg kd neq x) dst env H K=(dj kd neq (al env x) fun z=>K (put dst z env) H):=_root_.id rfl
theorem VS (op:UnOp) (x:IX):bo P (.un op x) dst env H K=(y7 op (al env x) fun z=>K (put dst z env) H):=_root_.id rfl
theorem Sf (x:IX):bo P (.box x) dst env H K=((al env x).val=true∧aj (H.length + 1) ((al env x).cells.map AV.ab)=true∧K (put dst (.ptr H.length 0) env) (H++[.cells ((al env x).cells.map AV.ab)])):=_root_.id rfl
theorem NQ (x:IX):bo P (.lL x) dst env H K=((al env x).val=true∧K (put dst (.ai (al env x)) env) H):=_root_.id rfl
theorem NR (m:Nat) (x:IX):bo P (.ry m x) dst env H K=((al env x).val=true∧(al env x).cells.length=m∧(al env x).cells.all AV.one=true∧K (put dst (.ai (al env x)) env) H):=_root_.id rfl
theorem JV (z:AV):bo P (.alloc z) dst env H K=(aj (H.length + 1) (z.cells.map AV.ab)=true∧K (put dst (.ptr H.length 0) env) (H++[.cells (z.cells.map AV.ab)])):=_root_.id rfl
theorem JW (z:AV) (ps:List (Nat×Nat×IX)):bo P (.build z ps) dst env H K=(cu z.cells (ps.map fun q=>(q.1,q.2.1,al env q.2.2)) fun v=>K (put dst v env) H):=_root_.id rfl
theorem xk (own:Nat) (esz:Nat) (z:AV) (len:Nat) (ps:List (Nat×IX)):bo P (.buildSlice own esz z len ps) dst env H K=(bi (List.replicate len (aM z)) esz (ps.map fun q=>(q.1,al env q.2)) fun xs=>K (put dst (.ap own xs) env) H):=_root_.id rfl
theorem NS (sz:Option Nat) (a:IX):bo P (.load sz a) dst env H K=(aR sz (al env a) H fun z=>K (put dst z env) H):=_root_.id rfl
theorem JX (sz:Option Nat) (esz:Nat) (a:IX):bo P (.sK sz esz a) dst env H K=(aR sz (al env a) H fun z=>eR esz z H fun y H'=>K (put dst y env) H'):=_root_.id rfl
theorem JY (m:Nat) (a:IX) (x:IX):bo P (.store m a x) dst env H K=(ij m (al env a) (al env x) H fun H'=>K env H'):=_root_.id rfl
theorem HD {P:Program} {l:Nat} (m:Nat) (a:IX) (x:IX):bo ⟨P,some l⟩ (.ns m a x) dst env H K=(gJ l m (al env a) (al env x) H fun H'=>K env H'):=_root_.id rfl
theorem Ej (a:IX) (s:Nat):bo P (.fp a s) dst env H K=(dT (al env a) (get env s) H fun H'=>K ((s,(get env s).ab)::env) H'):=_root_.id rfl
theorem B9 (x:IX):bo P (.nilCheck x) dst env H K=(bQ (al env x) fun z=>K (put dst z env) H):=_root_.id rfl
theorem z9 (off:Nat) (sz:Option Nat) (x:IX):bo P (.fieldAddr off sz x) dst env H K=(ak off sz (al env x) fun z=>K (put dst z env) H):=_root_.id rfl
theorem JZ (off:Nat) (sz:Option Nat) (x:IX):bo P (.field off sz x) dst env H K=(eY off sz (al env x) fun z=>K (put dst z env) H):=_root_.id rfl
theorem Aa (esz:Nat) (x:IX) (i:IX):bo P (.indexAddr esz x i) dst env H K=((∀ own xs,al env x=.ap own xs→∀ z∈xs,z.cells.length=esz)∧ay esz (al env x) (al env i) fun z=>K (put dst z env) H):=_root_.id rfl
theorem Ca (n:Nat) (x:IX) (i:IX):bo P (.dQ n x i) dst env H K=(bP n (al env x) (al env i) fun z=>K (put dst z env) H):=_root_.id rfl
theorem HE (esz:Nat) (x:IX) (lo:Option IX) (hi:Option IX) (mx:Option IX):bo P (.ph esz x lo hi mx) dst env H K=((∀ own xs,al env x=.ap own xs→∀ z∈xs,z.cells.length=esz)∧eJ esz (al env x) (fY env lo) (fY env hi) (fY env mx) fun z=>z=.ap esz []∧K (put dst .oN env) H):=_root_.id rfl
theorem Cb (x:IX) (i:IX):bo P (.dg x i) dst env H K=(bH (al env x) (al env i) fun z=>K (put dst z env) H):=_root_.id rfl
theorem J0 (esz:Nat) (x:IX) (lo:Option IX) (hi:Option IX) (mx:Option IX):bo P (.slice esz x lo hi mx) dst env H K=(aV esz (al env x) (fY env lo) (fY env hi) (fY env mx) fun z=>K (put dst z env) H):=_root_.id rfl
theorem NT (esz:Nat) (d:IX) (s:IX):bo P (.copy esz d s) dst env H K=(jF esz (al env d) (al env s) H fun z H'=>K (put dst z env) H'):=_root_.id rfl
theorem Cc (x:IX) (lo:Option IX) (hi:Option IX):bo P (.dR x lo hi) dst env H K=(ca (al env x) (fY env lo) (fY env hi) fun z=>K (put dst z env) H):=_root_.id rfl
theorem Si (kd:Nat) (x:IX):bo P (.len kd x) dst env H K=(aL kd (al env x)∧fq (al env x) H fun z=>K (put dst z env) H):=_root_.id rfl
theorem HF (esz:Nat) (bytes:Nat) (s:IX) (x:IX):bo P (.append esz bytes s x) dst env H K=(bp esz bytes (al env s) (al env x) fun zs=>K (put dst (.ap esz zs) (cL env s.slot)) H):=_root_.id rfl
theorem J1 (esz:Nat) (bytes:Nat) (z:AV) (n:IX):bo P (.sL esz bytes z n) dst env H K=(fX esz bytes z (al env n) H fun v H'=>K (put dst v env) H'):=_root_.id rfl
theorem qF (esz:Nat) (z:AV) (len:Nat) (ps:List (Nat×IX)):bo P (.Bc esz z len ps) dst env H K=(bi (List.replicate len (aM z)) esz (ps.map fun q=>(q.1,al env q.2)) fun xs=>pW xs H fun v H'=>K (put dst v env) H'):=_root_.id rfl
theorem yh (esz:Nat) (z:AV) (x:IX):bo P (.nv esz z x) dst env H K=(gK esz z (al env x) H fun H'=>K (put dst (.tuple []) env) H'):=_root_.id rfl
theorem Ek (esz bytes:Nat) (z:AV) (s x:IX):bo P (.jj esz bytes z s x) dst env H K=(cD esz bytes z (al env s) (al env x) H fun v H'=>K (put dst v env) H'):=_root_.id rfl
theorem J2 (esz:Nat) (bytes:Nat) (n:IX):bo P (.nt esz bytes n) dst env H K=(iW esz bytes (al env n) fun v=>K (put dst v env) H):=_root_.id rfl
theorem J3 :bo P (.nu ) dst env H K=(K (put dst (.map H.length) env) (H++[.map []])):=_root_.id rfl
theorem HG (kd:Nat) (z:AV) (m:IX) (k:IX) (ok:Bool):bo P (.lookup kd z m k ok) dst env H K=(cr kd z (al env m) (al env k) ok H fun v=>K (put dst v env) H):=_root_.id rfl
theorem HH (kd:Nat) (m:IX) (k:IX) (x:IX):bo P (.kA kd m k x) dst env H K=(fx kd (al env m) (al env k) (al env x) H fun H'=>K env H'):=_root_.id rfl
theorem VT (f:Fn) (first:List IX) (cap:List IX):bo P (.fn f first cap) dst env H K=(K (put dst (.fn f (first.map fun x=>(al env x).ab) (cap.map fun x=>(al env x).ab)) env) H):=_root_.id rfl
theorem El (x:IX) (i:Nat):bo P (.extract x i) dst env H K=(bB (al env x) i fun z=>K (put dst z env) H):=_root_.id rfl
theorem Em (k:IntKind) (x:IX):bo P (.eN k x) dst env H K=(cA k (al env x) fun z=>K (put dst z env) H):=_root_.id rfl
theorem En (x:IX):bo P (.gH x) dst env H K=(fI (al env x) fun z=>K (put dst z env) H):=_root_.id rfl
theorem Eo (x:IX):bo P (.bytesOf x) dst env H K=(fc 1 (al env x) fun z=>K (put dst z env) H):=_root_.id rfl
theorem J4 (x:IX):bo P (.strOf x) dst env H K=(jE (al env x) fun z=>K (put dst z env) H):=_root_.id rfl
theorem VU (big:Bool) (a:IX) (b:IX):bo P (.mx big a b) dst env H K=(wT big (al env a) (al env b) fun z=>K (put dst z env) H):=_root_.id rfl
theorem NU (esz:Nat) (x:IX):bo P (.yZ esz x) dst env H K=(eR esz (al env x) H fun z H'=>K (put dst z env) H'):=_root_.id rfl
theorem J5 (x:IX) (take:Bool):bo P (.set x take) none env H K=K env H:=_root_.id rfl
theorem Sj (d:Nat) (x:IX):bo P (.set x false) (some d) env H K=K ((d,(al env x).ab)::env) H:=by cases x <;> rfl
theorem NV (d s:Nat):bo P (.set (.t s) true) (some d) env H K=K ((d,get env s)::(s,(get env s).ab)::env) H:=_root_.id rfl
theorem J6 (d:Nat) (v:AV):bo P (.set (.c v) true) (some d) env H K=K ((d,v.ab)::env) H:=_root_.id rfl
theorem NW (c a b:IX):bo P (.pick c a b) dst env H K=fM (al env c) (K (put dst (al env a).ab env) H) (K (put dst (al env b).ab env) H):=_root_.id rfl
theorem NX (f:IX) (args:List IX) (pass:Option Nat):bo P (.call f args pass) dst env H K=oU P (al env f) args pass env H (fun r aB H'=>K (put dst r aB) H'):=_root_.id rfl
end
section
variable {P:Px} {st:Bool} {ρ:IX→AV} {H:List aa} {K:AV→Prop}
theorem Sk (i:IX):lH P st (.set i false) ρ H K=K (ρ i).ab:=by cases st <;> rfl
theorem NY (c:IX) (a:IX) (b:IX):lH P st (.pick c a b) ρ H K=(fM (ρ c) (K (ρ a).ab) (K (ρ b).ab)):=_root_.id rfl
theorem Sl (op:BinOp) (i:IX) (j:IX):lH P st (.bin op i j) ρ H K=(de op (ρ i) (ρ j) K):=_root_.id rfl
theorem J7 (op:BinOp) (i:IX) (j:IX):lH P st (.shift op i j) ρ H K=(dS op (ρ i) (ρ j) K):=_root_.id rfl
theorem HI (neq:Bool) (i:IX) (j:IX):lH P st (.ic neq i j) ρ H K=(cU neq (ρ i) (ρ j) K):=_root_.id rfl
theorem J8 (kd:Nat) (neq:Bool) (i:IX):lH P st (.jg kd neq i) ρ H K=(oC kd neq (ρ i) K):=_root_.id rfl
theorem VV (op:UnOp) (i:IX):lH P st (.un op i) ρ H K=(y7 op (ρ i) K):=_root_.id rfl
theorem NZ (i:IX):lH P st (.lL i) ρ H K=((ρ i).val=true∧K (.ai (ρ i))):=_root_.id rfl
theorem J9 (z:AV) (ps:List (Nat×Nat×IX)):lH P st (.build z ps) ρ H K=(cu z.cells (ps.map fun q=>(q.1,q.2.1,ρ q.2.2)) K):=_root_.id rfl
theorem xl (own:Nat) (esz:Nat) (z:AV) (len:Nat) (ps:List (Nat×IX)):lH P st (.buildSlice own esz z len ps) ρ H K=(bi (List.replicate len (aM z)) esz (ps.map fun q=>(q.1,ρ q.2)) fun xs=>K (.ap own xs)):=_root_.id rfl
theorem Ab (sz:Option Nat) (i:IX):lH P true (.load sz i) ρ H K=(aR sz (ρ i) H K):=_root_.id rfl
theorem xm (sz:Option Nat) (i:IX):lH P false (.load sz i) ρ H K=(aR sz (ρ i) [] K):=_root_.id rfl
theorem Cd (i:IX):lH P st (.nilCheck i) ρ H K=(bQ (ρ i) K):=_root_.id rfl
theorem Ac (off:Nat) (sz:Option Nat) (i:IX):lH P st (.fieldAddr off sz i) ρ H K=(ak off sz (ρ i) K):=_root_.id rfl
theorem Ka (off:Nat) (sz:Option Nat) (i:IX):lH P st (.field off sz i) ρ H K=(eY off sz (ρ i) K):=_root_.id rfl
theorem Ad (esz:Nat) (i:IX) (j:IX):lH P st (.indexAddr esz i j) ρ H K=((∀ own xs,ρ i=.ap own xs→∀ z∈xs,z.cells.length=esz)∧ay esz (ρ i) (ρ j) K):=_root_.id rfl
theorem Ce (n:Nat) (i:IX) (j:IX):lH P st (.dQ n i j) ρ H K=(bP n (ρ i) (ρ j) K):=_root_.id rfl
theorem Cf (i:IX) (j:IX):lH P st (.dg i j) ρ H K=(bH (ρ i) (ρ j) K):=_root_.id rfl
theorem Kb (esz:Nat) (i:IX) (lo:Option IX) (hi:Option IX) (mx:Option IX):lH P st (.slice esz i lo hi mx) ρ H K=(aV esz (ρ i) (lo.map ρ) (hi.map ρ) (mx.map ρ) K):=_root_.id rfl
theorem Cg (i:IX) (lo:Option IX) (hi:Option IX):lH P st (.dR i lo hi) ρ H K=(ca (ρ i) (lo.map ρ) (hi.map ρ) K):=_root_.id rfl
theorem Ch (kd:Nat) (i:IX):lH P true (.len kd i) ρ H K=(aL kd (ρ i)∧g9 (ρ i) H K):=_root_.id rfl
theorem Ae (kd:Nat) (i:IX):lH P false (.len kd i) ρ H K=(aL kd (ρ i)∧g9 (ρ i) [] K):=_root_.id rfl
theorem vO (kd:Nat) (z:AV) (m:IX) (k:IX) (ok:Bool):lH P true (.lookup kd z m k ok) ρ H K=(cr kd z (ρ m) (ρ k) ok H K):=_root_.id rfl
theorem tU (kd:Nat) (z:AV) (m:IX) (k:IX) (ok:Bool):lH P false (.lookup kd z m k ok) ρ H K=(cr kd z (ρ m) (ρ k) ok [] K):=_root_.id rfl
theorem VW (f:Fn) (first:List IX) (cap:List IX):lH P st (.fn f first cap) ρ H K=(K (.fn f (first.map fun x=>(ρ x).ab) (cap.map fun x=>(ρ x).ab))):=_root_.id rfl
theorem Ep (i:IX) (k:Nat):lH P st (.extract i k) ρ H K=(bB (ρ i) k K):=_root_.id rfl
theorem Er (k:IntKind) (i:IX):lH P st (.eN k i) ρ H K=(cA k (ρ i) K):=_root_.id rfl
theorem VX (big:Bool) (i:IX) (j:IX):lH P st (.mx big i j) ρ H K=(wT big (ρ i) (ρ j) K):=_root_.id rfl
theorem N0 (f:IX) (args:List IX):lH P st (.call f args none) ρ H K=pC P st (ρ f) (args.map fun x=>(ρ x).ab) H K:=_root_.id rfl
end
theorem Es (env:Env):eE none env=env:=_root_.id rfl
theorem HJ (env:Env):eE (some []) env=[]:=_root_.id rfl
theorem Et (env:Env) (t:Nat) (l:List Nat):eE (some (t::l)) env=(t,get env t)::eE (some l) env:=_root_.id rfl
theorem Eu (k:Nat):bX k []=[]:=_root_.id rfl
theorem Ci (k:Nat) (x:AV) (xs:List AV):bX k (x::xs)=(k,x)::bX (k + 1) xs:=_root_.id rfl
theorem Sm (env:Env) (s:Nat):al env (.t s)=get env s:=_root_.id rfl
theorem Sn (env:Env) (v:AV):al env (.c v)=v:=_root_.id rfl
theorem k8 (o:Nat) (xs:List AV) (H:List aa) (φ:AV→Prop):g9 (.ap o xs) H φ=φ (.int .i64 xs.length):=_root_.id rfl
theorem Ev (H:List aa) (φ:AV→Prop):g9 .ah H φ=φ (.int .i64 0):=_root_.id rfl
theorem HK (s:ByteArray) (H:List aa) (φ:AV→Prop):g9 (.str s) H φ=φ (.int .i64 s.size):=_root_.id rfl
theorem HL (a b c d:Nat) (H:List aa) (φ:AV→Prop):g9 (.a8 a b c d) H φ=φ (.int .i64 c):=_root_.id rfl
theorem Kc {α β:Type} (f:α→β):List.map f []=[]:=_root_.id rfl
theorem HM {α β:Type} (f:α→β) (x:α) (xs:List α):List.map f (x::xs)=f x::List.map f xs:=_root_.id rfl
end Go.aH
end
section
namespace Go.aH
open Go
theorem ga0 (H e:List aa):(H++e)[H.length]?=e[0]?:=by
 rw [List.getElem?_append_right (Nat.le_refl _),Nat.sub_self]
theorem ga (H e:List aa) (i:Nat):(H++e)[H.length + i]?=e[i]?:=by
 rw [List.getElem?_append_right (Nat.le_add_right _ _),Nat.add_sub_cancel_left]
theorem sa0 (H e:List aa) (x:aa):(H++e).set H.length x=H++e.set 0 x:=by
 rw [List.set_append_right _ _ (Nat.le_refl _),Nat.sub_self]
theorem sa (H e:List aa) (i:Nat) (x:aa):(H++e).set (H.length + i) x=H++e.set i x:=by
 rw [List.set_append_right _ _ (Nat.le_add_right _ _),Nat.add_sub_cancel_left]
theorem Zf (H e f:List aa):(H++e)++f=H++(e++f):=List.append_assoc _ _ _
theorem Um (H e:List aa):(H++e).length=H.length + e.length:=List.length_append
theorem g0 {α:Type} (x:α) (r:List α):(x::r)[0]?=some x:=by simp
theorem g1 {α:Type} (x y:α) (r:List α):(x::y::r)[1]?=some y:=by simp
theorem g2 {α:Type} (x y z:α) (r:List α):(x::y::z::r)[2]?=some z:=by simp
theorem s0 {α:Type} (x u:α) (r:List α):(x::r).set 0 u=u::r:=by simp
theorem s1 {α:Type} (x y u:α) (r:List α):(x::y::r).set 1 u=x::u::r:=by simp
theorem s2 {α:Type} (x y z u:α) (r:List α):(x::y::z::r).set 2 u=x::y::u::r:=by simp
theorem d0 {α:Type} (x d:α) (r:List α):(x::r).getD 0 d=x:=by simp
theorem d1 {α:Type} (x y d:α) (r:List α):(x::y::r).getD 1 d=y:=by simp
theorem d2 {α:Type} (x y z d:α) (r:List α):(x::y::z::r).getD 2 d=z:=by simp
theorem Zg (x y:AV):ag [x] 0 [y]=[y]:=by simp [ag]
theorem Ew {x:AV} {H:List aa} {φ ψ:AV→Prop} (hm:∀ z,φ z→ψ z) (h:g9 x H φ):g9 x H ψ:=by
 unfold g9 at *
 split at h
 ·exact hm _ h
 ·exact rL hm h
theorem Ey {o:bY} {ρ:IX→AV} {H:List aa} {K K':AV→Prop} (h:vM o ρ H K) (hK:∀ x,K x→K' x):vM o ρ H K':=by
 unfold vM at *
 split at h
 ·exact hK _ h
 ·unfold fM eX at *
  split at h
  ·exact ⟨fun e=>hK _ (h.1 e),fun e=>hK _ (h.2 e)⟩
  ·exact h.elim
 ·exact rK hK h
 ·exact nG hK h
 ·exact lX hK h
 ·unfold oC at *
  split at h
  ·exact hK _ h
  ·exact h.elim
 ·exact ve hK h
 ·exact ⟨h.1,hK _ h.2⟩
 ·exact l8 (fun _ h=>hK _ h) h
 ·exact gM (fun _ h=>hK _ h) h
 ·exact jJ hK h
 ·exact jM hK h
 ·exact ja hK h
 ·exact nH hK h
 ·exact ⟨h.1,jb hK h.2⟩
 ·exact jK hK h
 ·exact jL hK h
 ·exact l7 hK h
 ·exact jN hK h
 ·exact ⟨h.1,Ew hK h.2⟩
 ·exact lZ hK h
 ·exact hK _ h
 ·exact kI hK h
 ·exact kJ hK h
 ·exact vf hK h
 ·exact h.elim
theorem dG {P:Px}:∀ {t:DT} {env:Env} {H:List aa} {K1 K2:Env→List aa→Prop},jc P t env H K1→(∀ e H',K1 e H'→K2 e H')→jc P t env H K2
 | .done,_,_,_,_,h,hK=>hK _ _ h
 | .take st o r,_,_,_,_,h,hK=>by
   unfold jc FT at *
   have key:∀ {env:Env} {H:List aa} {K:AV→Prop} {K':AV→Prop},lH P st o.op (al env) H K→(∀ x,K x→K' x)→lH P st o.op (al env) H K':=by
    intro env H K K' h hK
    unfold lH at *
    split at h
    ·unfold pC at *
     split at h
     ·obtain ⟨x,h1,h2⟩:=h;exact ⟨x,h1,hK _ h2⟩
     ·exact h.elim
    ·exact Ey h hK
   split at h
   ·exact key h fun _ h=>dG h hK
   ·unfold dM at *
    split at h
    ·exact ⟨fun e=>key (h.1 e) fun _ h=>dG h hK,fun e=>dG (h.2 e) hK⟩
    ·exact dG h hK
    ·exact h.elim
 | .br o t rest,_,_,_,_,h,hK=>⟨rW h.1 fun _ _ h=>dG h hK,dG h.2 hK⟩
 | .nil,_,_,_,_,h,hK=>trivial
theorem k9 {P:Px} {n0:Nat}:∀ {ir:IR} {env:Env} {H:List aa} {Q1 Q2:Exit→Env→List aa→Prop},lI P n0 ir env H Q1→(∀ x e H',Q1 x e H'→Q2 x e H')→lI P n0 ir env H Q2:=by
 intro ir
 induction ir with
 | skip=>exact fun h hQ=>hQ _ _ _ h
 | region ops live=>exact fun h hQ=>rX h fun _ _ h=>hQ _ _ _ h
 | draw t live=>exact fun h hQ=>dG h fun _ _ h=>hQ _ _ _ h
 | seq a b Eg R4=>
   exact fun h hQ=>Eg h fun x e H' h=>by
    cases x with
    | normal=>exact R4 h hQ
    | _=>exact hQ _ _ _ h
 | cond x a b Eg R4=>
   intro env H Q1 Q2 h hQ
   rw [B8] at *
   unfold fM eX at *
   split at h
   ·exact ⟨fun e=>Eg (h.1 e) hQ,fun e=>R4 (h.2 e) hQ⟩
   ·exact h.elim
 | block id a Eg=>
   exact fun h hQ=>Eg h fun x e H' h=>by
    cases x with
    | exit id'=>
      dsimp only at h ⊢
      split
      ·rename_i bk;rw [if_pos bk] at h;exact hQ _ _ _ h
      ·rename_i bk;rw [if_neg bk] at h;exact hQ _ _ _ h
    | _=>exact hQ _ _ _ h
 | loop a Eg=>
   intro env H Q1 Q2 h hQ
   obtain ⟨ι,I,se,sh,μ,h0,hs⟩:=h
   exact ⟨ι,I,se,sh,μ,h0,fun i hi=>Eg (hs i hi) fun x e H' h=>by
    cases x with
    | normal=>exact h
    | _=>exact hQ _ _ _ h⟩
 | exit id=>exact fun h hQ=>hQ _ _ _ h
 | ret=>exact fun h hQ=>hQ _ _ _ h
 | never=>exact fun h _=>h.elim
 | iY f lc=>
   intro env H Q1 Q2 h hQ
   rw [yg] at *
   unfold vN at *
   split at h
   ·obtain ⟨h1,bN,h2,h3⟩:=h
    exact ⟨h1,bN,h2,h3.mono fun _ H' hb=>tA hb fun j H'' hg=>yf hg hQ⟩
   ·exact h.elim
theorem Zh (a b y:AV):ag [a,b] 0 [y]=[y,b]:=by simp [ag]
theorem Zi (a b y:AV):ag [a,b] 1 [y]=[a,y]:=by simp [ag]
theorem Zj (a b c y:AV):ag [a,b,c] 0 [y]=[y,b,c]:=by simp [ag]
theorem Zk (a b c y:AV):ag [a,b,c] 1 [y]=[a,y,c]:=by simp [ag]
theorem Zl (a b c y:AV):ag [a,b,c] 2 [y]=[a,b,y]:=by simp [ag]
theorem Zm (a b c x y z:AV):ag [a,b,c] 0 [x,y,z]=[x,y,z]:=by simp [ag]
theorem So (k k':IntKind) (a b:Int) (φ:AV→Prop):wT true (.int k a) (.int k' b) φ=φ (.int k (max a b)):=by
 have:(if a < b then b else a)=max a b:=by rw [Int.max_def];split <;> split <;> omega
 simp [wT,this]
theorem Sp (k k':IntKind) (a b:Int) (φ:AV→Prop):wT false (.int k a) (.int k' b) φ=φ (.int k (min a b)):=by
 have:(if b < a then b else a)=min a b:=by rw [Int.min_def];split <;> split <;> omega
 simp [wT,this]
def c8 (o:Option aa) (sz:Option Nat) (off:Nat) (φ:AV→Prop):Prop:=
 match o with
 | some (.cells es)=>match sz with
   | some m=>off + m≤es.length∧φ (.agg (((es.drop off).take m).map AV.drop))
   | none=>off < es.length∧φ (es.getD off .any).ab
 | _=>False
@[congr] theorem PI {o o':Option aa} {sz:Option Nat} {off:Nat} {φ:AV→Prop} (h:gD o=o'):c8 o sz off φ=c8 o' sz off φ:=by subst h;rfl
theorem Kd (sz:Option Nat) (id off:Nat) (H:List aa) (φ:AV→Prop):aR sz (.ptr id off) H φ=c8 H[id]? sz off φ:=by
 unfold aR c8;rfl
theorem N1 (es:List AV) (off:Nat) (φ:AV→Prop):c8 (some (.cells es)) none off φ=(off < es.length∧φ (es.getD off .any).ab):=_root_.id rfl
theorem FU (a b c:AV) (φ:AV→Prop):c8 (some (.cells [a,b,c])) (some 3) 0 φ=φ (.agg [a.drop,b.drop,c.drop]):=by simp [c8]
theorem N2 (a b:AV) (φ:AV→Prop):c8 (some (.cells [a,b])) (some 2) 0 φ=φ (.agg [a.drop,b.drop]):=by simp [c8]
def iw (o:Option aa) (m id off:Nat) (x:AV) (H:List aa) (K:List aa→Prop):Prop:=
 match o with
 | some (.cells es)=>x.val=true∧x.cells.length=m∧off + m≤es.length∧x.cells.all AV.one=true∧aj (id + 1) (x.cells.map AV.ab)=true∧
    K (H.set id (.cells (ag es off (x.cells.map AV.ab))))
 | _=>False
@[congr] theorem N3 {o o':Option aa} {m id off:Nat} {x:AV} {H:List aa} {K:List aa→Prop} (h:gD o=o') {x':AV} (h2:x=x'):iw o m id off x H K=iw o' m id off x' H K:=by subst h;subst h2;rfl
theorem HN (m id off:Nat) (x:AV) (H:List aa) (K:List aa→Prop):ij m (.ptr id off) x H K=iw H[id]? m id off x H K:=by
 unfold ij iw;rfl
theorem Cj (es:List AV) (m id off:Nat) (x:AV) (H:List aa) (K:List aa→Prop):iw (some (.cells es)) m id off x H K=(x.val=true∧x.cells.length=m∧off + m≤es.length∧x.cells.all AV.one=true∧aj (id + 1) (x.cells.map AV.ab)=true∧
 K (H.set id (.cells (ag es off (x.cells.map AV.ab))))):=_root_.id rfl
def qG (o:Option aa) (l m id off:Nat) (x:AV) (H:List aa) (K:List aa→Prop):Prop:=
 match o with
 | some (.cells es)=>l≤id∧x.val=true∧x.cells.length=m∧off + m≤es.length∧x.cells.all AV.one=true∧aj H.length (x.cells.map AV.ab)=true∧
    K (H.set id (.cells (ag es off (x.cells.map AV.ab))))
 | _=>False
@[congr] theorem LM {o o':Option aa} {l m id off:Nat} {x:AV} {H:List aa} {K:List aa→Prop} (h:gD o=o') {x':AV} (h2:x=x'):qG o l m id off x H K=qG o' l m id off x' H K:=by subst h;subst h2;rfl
theorem Ez (l m id off:Nat) (x:AV) (H:List aa) (K:List aa→Prop):gJ l m (.ptr id off) x H K=qG H[id]? l m id off x H K:=by
 unfold gJ qG;rfl
theorem HO (es:List AV) (l m id off:Nat) (x:AV) (H:List aa) (K:List aa→Prop):qG (some (.cells es)) l m id off x H K=(l≤id∧x.val=true∧x.cells.length=m∧off + m≤es.length∧x.cells.all AV.one=true∧aj H.length (x.cells.map AV.ab)=true∧
 K (H.set id (.cells (ag es off (x.cells.map AV.ab))))):=_root_.id rfl
@[congr] theorem LN {l m:Nat} {p p' x:AV} {H H':List aa} {K:List aa→Prop} (h:gD p=p') (h2:H=H'):gJ l m p x H K=gJ l m p' x H' K:=by subst h;subst h2;rfl
theorem HP (e:Nat) (xs:List AV) (H:List aa) (K:AV→List aa→Prop):eR e (.agg xs) H K=jG e xs H fun ys H'=>K (.agg ys) H':=_root_.id rfl
theorem EA (e:Nat) (H:List aa) (K:List AV→List aa→Prop):jG e [] H K=K [] H:=_root_.id rfl
theorem Ck (e:Nat) (x:AV) (r:List AV) (H:List aa) (K:List AV→List aa→Prop):jG e (x::r) H K=dC e x H fun y H'=>jG e r H' fun ys H''=>K (y::ys) H'':=_root_.id rfl
theorem EB (e:Nat) (k:IntKind) (n:Int) (H:List aa) (K:AV→List aa→Prop):dC e (.int k n) H K=K (.int k n) H:=_root_.id rfl
def Ke:=And.intro @HD (And.intro @Ez (And.intro @HO (And.intro @JX (And.intro @HP (And.intro @EA (And.intro @Ck @EB))))))
def fP (o:Option aa) (kd:Nat) (zero k:AV) (ok:Bool) (φ:AV→Prop):Prop:=
 match o with
 | some (.map es)=>match di kd k es 0 with
   | some (some (_,v))=>φ (if ok then .tuple [v.drop,.bool true] else v.drop)
   | some none=>cC kd k k=some true∧φ (if ok then .tuple [aM zero,.bool false] else aM zero)
   | none=>False
 | _=>False
@[congr] theorem LO {o o':Option aa} {kd:Nat} {z k k':AV} {ok:Bool} {φ:AV→Prop} (h:gD o=o') (h2:k=k'):fP o kd z k ok φ=fP o' kd z k' ok φ:=by subst h;subst h2;rfl
theorem EC (kd id:Nat) (z k:AV) (ok:Bool) (H:List aa) (φ:AV→Prop):cr kd z (.map id) k ok H φ=fP H[id]? kd z k ok φ:=by
 unfold cr fP;rfl
def eT (o:Option aa) (kd id:Nat) (k x:AV) (H:List aa) (K:List aa→Prop):Prop:=
 match o with
 | some (.map es)=>k.aZ (id + 1)=true∧x.aZ (id + 1)=true∧x.val=true∧match di kd k es 0 with
    | some (some (i,_))=>K (H.set id (.map (es.set i (k,aM x))))
    | some none=>cC kd k k=some true∧K (H.set id (.map (es++[(k,aM x)])))
    | none=>False
 | _=>False
@[congr] theorem LP {o o':Option aa} {kd id:Nat} {k k' x x':AV} {H:List aa} {K:List aa→Prop} (h:gD o=o') (h2:k=k') (h3:x=x'):eT o kd id k x H K=eT o' kd id k' x' H K:=by subst h;subst h2;subst h3;rfl
theorem ED (kd id:Nat) (k x:AV) (H:List aa) (K:List aa→Prop):fx kd (.map id) k x H K=eT H[id]? kd id k x H K:=by
 unfold fx eT;rfl
def yi (o:Option aa) (d id off:Nat) (env:Env) (H:List aa) (K:Env→List aa→Prop):Prop:=
 match o with
 | some (.cells es)=>off < es.length∧K ((d,es.getD off .any)::env) (H.set id (.cells (es.set off (es.getD off .any).ab)))
 | _=>False
@[congr] theorem PJ {o o':Option aa} {d id off:Nat} {env:Env} {H:List aa} {K:Env→List aa→Prop} (h:gD o=o'):yi o d id off env H K=yi o' d id off env H K:=by subst h;rfl
theorem N4 (es:List AV) (d id off:Nat) (env:Env) (H:List aa) (K:Env→List aa→Prop):yi (some (.cells es)) d id off env H K=(off < es.length∧K ((d,es.getD off .any)::env) (H.set id (.cells (es.set off (es.getD off .any).ab)))):=_root_.id rfl
def Cl (v:AV) (d:Nat) (env:Env) (H:List aa) (K:Env→List aa→Prop):Prop:=
 match v with
 | .ptr id off=>yi H[id]? d id off env H K
 | _=>False
@[congr] theorem PK {v v':AV} {d:Nat} {env:Env} {H:List aa} {K:Env→List aa→Prop} (h:gD v=v'):Cl v d env H K=Cl v' d env H K:=by subst h;rfl
theorem N5 (id off d:Nat) (env:Env) (H:List aa) (K:Env→List aa→Prop):Cl (.ptr id off) d env H K=yi H[id]? d id off env H K:=_root_.id rfl
theorem Kf {P:Px} (a:IX) (d:Nat) (env:Env) (H:List aa) (K:Env→List aa→Prop):bo P (.eC a) (some d) env H K=Cl (al env a) d env H K:=by
 simp only [bo,Cl,yi]
 cases al env a <;> rfl
def Kg (o:Option aa) (id off:Nat) (x:AV) (H:List aa) (K:List aa→Prop):Prop:=
 match o with
 | some (.cells es)=>off < es.length∧x.one=true∧x.aZ (id + 1)=true∧K (H.set id (.cells (es.set off x)))
 | _=>False
@[congr] theorem Sq {o o':Option aa} {id off:Nat} {x x':AV} {H:List aa} {K:List aa→Prop} (h:gD o=o') (h2:x=x'):Kg o id off x H K=Kg o' id off x' H K:=by subst h;subst h2;rfl
theorem N6 (id off:Nat) (x:AV) (H:List aa) (K:List aa→Prop):dT (.ptr id off) x H K=Kg H[id]? id off x H K:=by
 unfold dT Kg;rfl
theorem Sr (es:List AV) (id off:Nat) (x:AV) (H:List aa) (K:List aa→Prop):Kg (some (.cells es)) id off x H K=(off < es.length∧x.one=true∧x.aZ (id + 1)=true∧K (H.set id (.cells (es.set off x)))):=_root_.id rfl
theorem bd2 (x y:AV) (φ:AV→Prop):cu [.int .i64 0,.int .i64 0,.ah] [(0,1,x),(1,1,y)] φ=(x.val=true∧x.cells.length=1∧y.val=true∧y.cells.length=1∧φ (.agg (ag (ag [.int .i64 0,.int .i64 0,.ah] 0 (x.cells.map AV.ab)) 1 (y.cells.map AV.ab)))):=by
 simp only [cu,gI,eq_iff_iff]
 constructor
 ·rintro ⟨h1,h2,h3,h4,h5,h6,h7⟩;exact ⟨h1,h2,h4,h5,h7⟩
 ·rintro ⟨h1,h2,h4,h5,h7⟩
  have e1:(x.cells.map AV.ab).length=1:=by simpa using h2
  refine ⟨h1,h2,by simp,h4,h5,?_,h7⟩
  simp [ag,h2]
theorem bd0 (cs:List AV) (φ:AV→Prop):cu cs [] φ=φ (.agg cs):=_root_.id rfl
theorem mj (e b:Nat) (ys:List AV) (o:Nat) (ψ:List AV→Prop):bp e b .ah (.ap o ys) ψ=(ys.length * b≤140737488355328∧sR e ys∧ψ ys):=by
 simp [bp,mO,dw]
theorem kM (e b:Nat) (xs ys:List AV) (o:Nat) (ψ:List AV→Prop):bp e b (.ap e xs) (.ap o ys) ψ=((xs.length + ys.length) * b≤140737488355328∧sR e ys∧ψ (xs++ys)):=by
 simp [bp,mO,dw]
theorem Zn (n:Nat):(IX.t n).slot=some n:=_root_.id rfl
theorem Zo (v:AV):(IX.c v).slot=none:=_root_.id rfl
theorem Ss (id:Nat) (H:List aa) (φ:AV→Prop):aR none (.ai (.map id)) H φ=φ (.map id):=by simp [aR,AV.one,Jz]
theorem Su (id off:Nat) (H:List aa) (φ:AV→Prop):aR none (.ai (.ptr id off)) H φ=φ (.ptr id off):=by simp [aR,AV.one,Jy]
theorem N7 (b:Bool):(AV.bool b).one=true:=_root_.id rfl
theorem Sv (k:IntKind) (n:Int):(AV.int k n).one=true:=_root_.id rfl
theorem Sw (s:ByteArray):(AV.str s).one=true:=_root_.id rfl
theorem Sx (o:Nat) (xs:List AV):(AV.ap o xs).one=true:=_root_.id rfl
theorem N8:AV.ah.one=true:=_root_.id rfl
theorem VY (f:Fn) (a b:List AV):(AV.fn f a b).one=true:=_root_.id rfl
theorem Sy (a b:Nat):(AV.ptr a b).one=true:=_root_.id rfl
theorem N9 (x:AV):(AV.ai x).one=true:=_root_.id rfl
theorem Sz (a:Nat):(AV.map a).one=true:=_root_.id rfl
theorem Zp {α:Type} (p:α→Bool) (x:α) (r:List α):(x::r).all p=(p x && r.all p):=_root_.id rfl
theorem Zq {α:Type} (p:α→Bool):([]:List α).all p=true:=_root_.id rfl
theorem eu (n:Int) (h:-9223372036854775808≤n∧n≤9223372036854775807):IntKind.i64.wrap n=n:=by
 rw [show IntKind.i64.wrap n=(n + 9223372036854775808) % 18446744073709551616 - 9223372036854775808 from IntKind.wrap_i64 n];omega
theorem aE {P:Program} {n0:Nat} {env:Env} {H:List aa} {Q:Exit→Env→List aa→Prop} {a:IR} {ι:Type} (N:Nat) (I:Nat→ι→Prop) (se:Nat→ι→Env) (sh:Nat→ι→List aa) (s0:ι) (h0:I 0 s0∧sle n0 env H (se 0 s0) (sh 0 s0))
 (hs:∀ i s,i≤N→I i s→lI P n0 a (se i s) (sh i s) fun e aB H'=>match e with
   | .normal=>∃ j t,(j≤N∧I j t)∧N - j < N - i∧sle n0 aB H' (se j t) (sh j t)
   | e=>Q e aB H'):lI P n0 (.loop a) env H Q:=
 ⟨Nat×ι,fun p=>p.1≤N∧I p.1 p.2,fun p=>se p.1 p.2,fun p=>sh p.1 p.2,fun p=>N - p.1,⟨(0,s0),⟨Nat.zero_le _,h0.1⟩,h0.2⟩,fun p hp=>k9 (hs p.1 p.2 hp.1 hp.2) fun x e H' h=>by
   cases x with
   | normal=>obtain ⟨j,t,h1,h2,h3⟩:=h;exact ⟨(j,t),h1,h2,h3⟩
   | _=>exact h⟩
theorem mn {P:Program} {l:Nat} {n0:Nat} {env:Env} {H:List aa} {Q:Exit→Env→List aa→Prop} {a:IR} {ι:Type} (N:Nat) (I:Nat→ι→Prop) (se:Nat→ι→Env) (sh:Nat→ι→List aa) (s0:ι) (h0:I 0 s0∧GQ n0 env H (se 0 s0) (sh 0 s0))
 (hs:∀ i s,i≤N→I i s→lI ⟨P,some l⟩ n0 a (se i s) (sh i s) fun e aB H'=>match e with
   | .normal=>∃ j t,(j≤N∧I j t)∧N - j < N - i∧GQ n0 aB H' (se j t) (sh j t)
   | e=>Q e aB H'):lI ⟨P,some l⟩ n0 (.loop a) env H Q:=
 ⟨Nat×ι,fun p=>p.1≤N∧I p.1 p.2,fun p=>se p.1 p.2,fun p=>sh p.1 p.2,fun p=>N - p.1,⟨(0,s0),⟨Nat.zero_le _,h0.1⟩,h0.2⟩,fun p hp=>k9 (hs p.1 p.2 hp.1 hp.2) fun x e H' h=>by
   cases x with
   | normal=>obtain ⟨j,t,h1,h2,h3⟩:=h;exact ⟨(j,t),h1,h2,h3⟩
   | _=>exact h⟩
theorem bh {H:List aa} {s:Nat} {v v':AV} (hb:v.aZ H.length=true) (hv:v=v'):bR H.length [.t s] [(s,v)] H fun r H'=>r=v'∧H'=H:=
 aO _ (Nat.le_refl _) (by rw [au,if_pos rfl];exact hb) ⟨by rw [au,if_pos rfl];exact hv,by simp⟩
theorem Kh {H e:List aa} {s:Nat} {v v':AV} (hb:v.aZ H.length=true) (hv:v=v'):bR H.length [.t s] [(s,v)] (H++e) fun r H'=>r=v'∧H'=H:=
 aO _ (Nat.le_refl _) (by rw [au,if_pos rfl];exact hb) ⟨by rw [au,if_pos rfl];exact hv,by simp⟩
theorem VZ {H:List aa} {s:Nat} {v v':AV} (hl:v.le v') (hb:v'.aZ H.length=true):bR H.length [.t s] [(s,v)] H fun r H'=>r=v'∧H'=H:=
 ⟨H.length,Nat.le_refl _,_,by rw [au,if_pos rfl];exact hl,hb,rfl,by simp⟩
theorem V0 {H e:List aa} {s:Nat} {v v':AV} (hl:v.le v') (hb:v'.aZ H.length=true):bR H.length [.t s] [(s,v)] (H++e) fun r H'=>r=v'∧H'=H:=
 ⟨H.length,Nat.le_refl _,_,by rw [au,if_pos rfl];exact hl,hb,rfl,by simp⟩
theorem SA {H H':List aa} {n0 s:Nat} {v v':AV} (hn:n0=H.length) (hb:v.aZ n0=true) (hv:v=v') (hl:H=H'):bR n0 [.t s] [(s,v)] H fun r H''=>r=v'∧H''=H':=by
 subst hn hl;exact bh hb hv
theorem iL {H H':List aa} {n0:Nat} {env:Env} (hn:n0=H.length) (hl:H=H'):bR n0 [] env H fun r H''=>r=.tuple []∧H''=H':=by
 subst hn hl
 exact ⟨H.length,Nat.le_refl _,[],trivial,rfl,rfl,by simp⟩
theorem vP {H e:List aa} {s s':Nat} {v v' x y:AV} (hs:s'≠s) (hb:x.aZ H.length=true) (eh:y.aZ H.length=true) (hx:v.ab=x) (hy:v'.ab=y) :
 bR H.length [.t s,.t s'] [(s,v),(s',v')] (H++e) fun r H'=>r=.tuple [x,y]∧H'=H:=by
 subst hx hy
 refine ⟨H.length,Nat.le_refl _,[v.ab,v'.ab],?_,?_,rfl,by simp⟩
 ·simp only [au,if_neg hs,if_true,List.map]
  exact cp _
 ·simp only [aj,hb,eh,Bool.and_self]
theorem FV {H:List aa} {s s':Nat} {v v' x y:AV} (hs:s'≠s) (hb:x.aZ H.length=true) (eh:y.aZ H.length=true) (hx:v.ab=x) (hy:v'.ab=y) :
 bR H.length [.t s,.t s'] [(s,v),(s',v')] H fun r H'=>r=.tuple [x,y]∧H'=H:=by
 have:=vP (e:=[]) hs hb eh hx hy
 rw [List.append_nil] at this
 exact this
def yj (n0:Nat) (x:AV) (H:List aa) (R:AV→List aa→Prop):Prop:=∃ m,n0≤m∧∃ r,x.le r∧r.aZ m=true∧R r (H.take m)
@[congr] theorem PL {n0:Nat} {x x':AV} {H H':List aa} {R:AV→List aa→Prop} (h:gD x=x') (h2:H=H'):yj n0 x H R=yj n0 x' H' R:=by subst h;subst h2;rfl
def tB (n0:Nat) (xs:List AV) (H:List aa) (R:AV→List aa→Prop):Prop:=∃ m,n0≤m∧∃ ys,w7 (xs.map AV.ab) ys∧aj m ys=true∧R (.tuple ys) (H.take m)
@[congr] theorem PM {n0:Nat} {x x':List AV} {H H':List aa} {R:AV→List aa→Prop} (h:gD x=x') (h2:H=H'):tB n0 x H R=tB n0 x' H' R:=by subst h;subst h2;rfl
theorem SC (n0 s:Nat) (sz:Option Nat) (env:Env) (H:List aa) (R:AV→List aa→Prop):bR n0 [.c s sz] env H R=aR sz (get env s) H fun x=>yj n0 x H R:=_root_.id rfl
theorem Ob (n0 s s':Nat) (sz:Option Nat) (env:Env) (H:List aa) (R:AV→List aa→Prop):bR n0 [.c s sz,.t s'] env H R=aR sz (get env s) H fun x=>tB n0 [x,get env s'] H R:=_root_.id rfl
theorem FW {H e:List aa} {v v':AV} (hb:v.aZ H.length=true) (hv:v=v'):yj H.length v (H++e) fun r H'=>r=v'∧H'=H:=by
 subst hv;exact ⟨H.length,Nat.le_refl _,v,le_refl _,hb,rfl,by simp⟩
theorem bS {i n:Nat} (h:(i:Int) < (n:Int)):i < n:=by omega
theorem dd {i n:Nat} (h:(n:Int)≤(i:Int)):n≤i:=by omega
def mq:=(And.intro @Ca (And.intro @Ce (And.intro @yg @HE)))
def SE:=(And.intro (And.intro (And.intro (And.intro (And.intro (And.intro (And.intro (And.intro @R3 @JJ) (And.intro @Ei @JK)) (And.intro (And.intro @NH @B8) (And.intro @Hy (And.intro @JL @NI)))) (And.intro (And.intro (And.intro @JM @R7) (And.intro @R8 @VQ)) (And.intro (And.intro @VR @Hz) (And.intro @JN (And.intro @R9 @Sa))))) (And.intro (And.intro (And.intro (And.intro @NJ @JF) (And.intro @JG @au)) (And.intro (And.intro @R1 @Se) (And.intro @JT (And.intro @HC @JU)))) (And.intro (And.intro (And.intro @VS @Sf) (And.intro @NQ (And.intro @NR @JV))) (And.intro (And.intro @JW @xk) (And.intro @NS (And.intro @Kf @N5)))))) (And.intro (And.intro (And.intro (And.intro (And.intro @N4 @N6) (And.intro @Sr @EC)) (And.intro (And.intro @ED @mj) (And.intro @kM (And.intro @Ss @Su)))) (And.intro (And.intro (And.intro @Zn @Zo) (And.intro @SC (And.intro @Ob @bd0))) (And.intro (And.intro @bd2 @JY) (And.intro @Ej (And.intro @B9 @z9))))) (And.intro (And.intro (And.intro (And.intro @JZ @Aa) (And.intro @Cb @J0)) (And.intro (And.intro @NT @Cc) (And.intro @Si (And.intro @HF (And.intro @J1 (And.intro @qF @Ek)))))) (And.intro (And.intro (And.intro @J2 @J3) (And.intro @HG (And.intro @HH @VT))) (And.intro (And.intro @El @Em) (And.intro @En (And.intro @Eo @J4))))))) (And.intro (And.intro (And.intro (And.intro (And.intro (And.intro @VU @NU) (And.intro @J5 @Sj)) (And.intro (And.intro @NV @J6) (And.intro @NW (And.intro @NX @Sk)))) (And.intro (And.intro (And.intro @NY @Sl) (And.intro @J7 @HI)) (And.intro (And.intro @J8 @VV) (And.intro @NZ (And.intro @J9 @xl))))) (And.intro (And.intro (And.intro (And.intro @Ab @xm) (And.intro @Cd @Ac)) (And.intro (And.intro @Ka @Ad) (And.intro @Cf (And.intro @Kb @Cg)))) (And.intro (And.intro (And.intro @Ch @Ae) (And.intro @vO (And.intro @tU @VW))) (And.intro (And.intro @Ep @Er) (And.intro @VX (And.intro @N0 @Es)))))) (And.intro (And.intro (And.intro (And.intro (And.intro @HJ @Et) (And.intro @Eu @Ci)) (And.intro (And.intro @Sm @Sn) (And.intro @k8 (And.intro @Ev @HK)))) (And.intro (And.intro (And.intro @HL @Kc) (And.intro @HM (And.intro @NA @NB))) (And.intro (And.intro @NC @ND) (And.intro @VK (And.intro @VL @VM))))) (And.intro (And.intro (And.intro (And.intro @VN @Ze) (And.intro @VO @VP)) (And.intro (And.intro @NF @Hu) (And.intro @Q3 (And.intro @oA @nP)))) (And.intro (And.intro (And.intro @z5 @FP) (And.intro @vH (And.intro @Q4 @Q5))) (And.intro (And.intro @Jx @Jy) (And.intro @FQ (And.intro @M7 @Jz)))))))) (And.intro (And.intro (And.intro (And.intro (And.intro (And.intro (And.intro @M8 @Pt) (And.intro @M9 @Na)) (And.intro (And.intro @Q6 @Q7) (And.intro @Nb (And.intro @Q8 @Q9)))) (And.intro (And.intro (And.intro @VF @Nc) (And.intro @Ra @Nf)) (And.intro (And.intro @Rb @mi) (And.intro @Rc (And.intro @Re @Ng))))) (And.intro (And.intro (And.intro (And.intro @Rf @Rg) (And.intro @VG @Nh)) (And.intro (And.intro @Rh @Ni) (And.intro @Ri (And.intro @uk @Rj)))) (And.intro (And.intro (And.intro @Rk @Nj) (And.intro @Rl (And.intro @Rm @VH))) (And.intro (And.intro @Nk @Rn) (And.intro @Nl (And.intro @Ro @qC)))))) (And.intro (And.intro (And.intro (And.intro (And.intro @gb @JA) (And.intro @FR @b8)) (And.intro (And.intro @vI @JB) (And.intro @rV (And.intro @JC @jP)))) (And.intro (And.intro (And.intro @z6 @VI) (And.intro @Nm (And.intro @cZ @bG))) (And.intro (And.intro @R2 @Nx) (And.intro @Rp (And.intro @Rq @Rr))))) (And.intro (And.intro (And.intro (And.intro @Ru @Rv) (And.intro @Rw @Rx)) (And.intro (And.intro @Ry @Rz) (And.intro @RA (And.intro @RB @RC)))) (And.intro (And.intro (And.intro @RD @RE) (And.intro @RF (And.intro @RG @RH))) (And.intro (And.intro @RI @Zd) (And.intro @RJ (And.intro @Nn @RK))))))) (And.intro (And.intro (And.intro (And.intro (And.intro (And.intro @RL @No) (And.intro @RM @Np)) (And.intro (And.intro @RN @RP) (And.intro @Nq (And.intro @RQ @Nr)))) (And.intro (And.intro (And.intro @RR @RS) (And.intro @RT @Ns)) (And.intro (And.intro @VJ @RU) (And.intro @Nt (And.intro @JD @RV))))) (And.intro (And.intro (And.intro (And.intro @JE @RW) (And.intro @RY @RZ)) (And.intro (And.intro @R0 @Hm) (And.intro @Nu (And.intro @Nv @Nw)))) (And.intro (And.intro (And.intro @Hn @Ho) (And.intro @Hp (And.intro @Hq @Hr))) (And.intro (And.intro @BY @BZ) (And.intro @ga0 (And.intro @ga @sa0)))))) (And.intro (And.intro (And.intro (And.intro (And.intro @sa @Zf) (And.intro @Um @g0)) (And.intro (And.intro @g1 @g2) (And.intro @s0 (And.intro @s1 @s2)))) (And.intro (And.intro (And.intro @d0 @d1) (And.intro @d2 (And.intro @Zg @Zh))) (And.intro (And.intro @Zi @Zj) (And.intro @Zk (And.intro @Zl @Zm))))) (And.intro (And.intro (And.intro (And.intro @So @Sp) (And.intro @FU @N2)) (And.intro (And.intro @Kd @N1) (And.intro @HN (And.intro @Cj @N7)))) (And.intro (And.intro (And.intro @Sv @Sw) (And.intro @Sx (And.intro @N8 @VY))) (And.intro (And.intro @Sy @N9) (And.intro @Sz (And.intro @Zp @Zq)))))))))
end Go.aH
end
section
namespace Go.aH
open Go Go.RowKit
def dW (w:World):Mem:=fun b o=>w.cell? ⟨b,o,none⟩
def EE (w:World):Perm:=⟨fun b=>w.heap.size≤b,fun id=>some (id + 1),(fun id n h=>by cases h;omega),0⟩
theorem Af (w:World):(EE w).entry false ([]:List aa).length:=⟨fun id h=>absurd h (Nat.not_lt_zero _),fun id _=>rfl⟩
theorem St.start {w:World} {vs:Array Value} {xs:List AV} (h:aG (dW w) [] vs.toList xs) (hf:∀ x∈xs,∀ own ys,x=.ap own ys→own=0) :
 St (EE w) (dW w) [] w [] (fun t=>vs.getD t undef) (fun t=>xs.getD t .any) (fun _=>none) where
 len:=rfl
 nodup:=by simp
 env:=fun t=>by
  have:=h.getD t
  rw [List.getD_eq_getElem?_getD] at this
  rw [Array.getD_eq_getD_getElem?]
  simpa using this
 mem:=fun b o v hv=>hv
 obj:=fun id o b ho=>by simp at ho
 bA:=fun id o ho=>by simp at ho
 lt:=fun b hb=>by cases hb
 gX:=fun t=>by
  refine bf.free fun own ys e=>?_
  rw [List.getD_eq_getElem?_getD] at e
  cases hx:xs[t]? with
  | none=>rw [hx] at e;cases e
  | some x=>rw [hx] at e;exact hf x (List.mem_of_getElem? hx) own ys e
 gT:=fun id j=>by simp [bn,bf]
 b7:=fun p q b hp=>by cases hp
 ct:=fun p b hp=>by cases hp
 fj:=fun p b hp=>by cases hp
 La:=fun b hb=>by cases hb
 Oa:=fun p b hp=>by cases hp
 fresh:=fun b hb=>hb
theorem Ext.below {M M':Mem} {w w':World} (h:Ext (EE w) M w M' w'):Below w.heap.size w w':=
 ⟨h.os,h.tape,h.output,h.size,fun k hk=>(h.kz k hk (by show ¬ w.heap.size≤k;omega)).1⟩
theorem Pure.lift {P:Program} {f:FuncId} {xs:List AV} {b:Bool} (hp:Pure P f xs (.bool b)) (he:∀ (as:Array Value) (w:World),(callFunc f as).run P w=.ok (.enter f as) w)
 {w:World} {vs:Array Value} (hr:aG (dW w) [] vs.toList xs) (hf:∀ x∈xs,∀ own ys,x=.ap own ys→own=0) :
 Calls P f vs w fun e w'=>e=.returned (.bool b)∧Below w.heap.size w w':=by
 have hs:vs.size=xs.length:=by have:=hr.length;simpa using this
 refine ((hp []).body he (Af w) hs (St.start hr hf)).mono ?_
 rintro e w' ⟨v,r,H',M',L',O',rfl,⟨rfl,rfl⟩,bO,cB,_⟩
 have:=bO.env 0
 simp only [IE] at this
 cases this
 exact ⟨rfl,cB.below⟩
theorem Cm {a:Addr} {n:Nat} (h:a.spot=none):a.add n=⟨a.block,a.off + n,none⟩:=by
 obtain ⟨b,o,s⟩:=a
 simp only at h
 subst h
 unfold Addr.add
 split
 ·rename_i e;subst e;rfl
 ·rfl
theorem HQ {w:World} {a:Addr} {v:Value} (h:w.cell? a=some v):a.spot=none:=by
 unfold World.cell? at h
 split at h
 ·split at h
  ·cases h
  ·rename_i hs;cases Is:a.spot <;> simp_all
 ·cases h
theorem yk {M:Mem} {L:List Nat}:∀ {n:Nat} {cs:Nat→List Value} {f:Nat→AV},(∀ i,i < n→aG M L (cs i) (f i).cells)→aG M L ((List.range n).flatMap cs) (flat ((List.range n).map f))
 | 0,_,_,_=>by simp [flat];exact .nil
 | n + 1,cs,f,h=>by
   have ih:=yk (n:=n) (fun i hi=>h i (by omega))
   simp only [List.range_succ,List.flatMap_append,List.map_append,flat] at ih ⊢
   refine ih.append ?_
   simpa using h n (by omega)
theorem Co {n e:Nat} {cs:Nat→List Value}:(∀ i,i < n→(cs i).length=e)→∀ (j:Nat) (v:Value),((List.range n).flatMap cs)[j]?=some v→∃ i k,i < n∧k < e∧j=i * e + k∧(cs i)[k]?=some v:=by
 induction n with
 | zero=>intro _ j v h;simp at h
 | succ n ih=>
   intro hl j v h
   simp only [List.range_succ,List.flatMap_append] at h
   have hlen:((List.range n).flatMap cs).length=n * e:=by
    clear h ih
    induction n with
    | zero=>simp
    | succ n ih2=>
      simp only [List.range_succ,List.flatMap_append,List.length_append]
      rw [ih2 (fun i hi=>hl i (by omega))]
      simp [hl n (by omega),Nat.succ_mul]
   rcases Nat.lt_or_ge j (n * e) with hj | hj
   ·rw [List.getElem?_append_left (by omega)] at h
    obtain ⟨i,k,h1,h2,h3,h4⟩:=ih (fun i hi=>hl i (by omega)) j v h
    exact ⟨i,k,by omega,h2,h3,h4⟩
   ·rw [List.getElem?_append_right (by omega),hlen] at h
    simp only [List.flatMap_cons,List.flatMap_nil,List.append_nil] at h
    have hk:=(List.getElem?_eq_some_iff.1 h).1
    rw [hl n (by omega)] at hk
    exact ⟨n,j - n * e,by omega,hk,by omega,h⟩
theorem yl {w:World} {base e len cap:Nat} {a:Addr} (he:0 < e) (hl:len≤cap) (hc:cap≤maxLen) (cs:Nat→List Value) (f:Nat→AV)
 (h:∀ i,i < len→w.cells? base (a.add (i * e)) e=some (cs i)∧aG (dW w) [] (cs i) (f i).cells):aS (dW w) [] (.slice (some a) len cap) (.ap 0 ((List.range len).map f)):=by
 have b9:cap < 9223372036854775808:=by have:maxLen=9223372036854775807:=rfl;omega
 rcases Nat.eq_zero_or_pos len with h0 | h0
 ·subst h0
  exact .gF _ _ _ b9
 have hlen:∀ i,i < len→(cs i).length=e:=fun i hi=>(World.cells?_some (h i hi).1).2.1
 have hcell:∀ i,i < len→∀ k,k < e→w.cell? ((a.add (i * e)).add k)=(cs i)[k]?:=fun i hi=>(World.cells?_some (h i hi).1).2.2
 have hspot:a.spot=none:=by
  have h1:=hcell 0 h0 0 he
  rw [List.getElem?_eq_getElem (by rw [hlen 0 h0];exact he)] at h1
  have h2:=HQ h1
  simpa [Addr.add] using h2
 have key:aS (dW w) [] (.slice (some ⟨a.block,a.off,none⟩) ((List.range len).map f).length cap) (.ap 0 ((List.range len).map f)):=by
  refine .ap a.block a.off cap 0 e ((List.range len).flatMap cs) _ he ?_ (by simpa using h0) (by simpa using hl) b9 (yk fun i hi=>(h i hi).2) ?_
  ·intro x hx
   obtain ⟨i,hi,rfl⟩:=List.mem_map.1 hx
   have hi:=List.mem_range.1 hi
   rw [← (h i hi).2.length,hlen i hi]
  ·intro j v hv
   obtain ⟨i,k,h1,h2,rfl,h4⟩:=Co hlen j v hv
   have:=hcell i h1 k h2
   rw [Cm hspot,Cm (by rfl)] at this
   show w.cell? ⟨a.block,a.off + (i * e + k),none⟩=some v
   rw [← Nat.add_assoc,this,h4]
 have ea:(some a:Option Addr)=some ⟨a.block,a.off,none⟩:=by obtain ⟨b,o,s⟩:=a;simp only at hspot;rw [hspot]
 rw [ea]
 simpa using key
section
variable {H:Type} {enc:TypeId×Value→H} {P:Program}
theorem o9 (hl:laidOutB P=true) {W W':World} (hb:Below W.heap.size W W'):∀ {ts:List TypeId} {vs:List Value} {ds:List (DataW H)} {ps:List MemPlace},(∀ t∈ts,P.readableRec t=true∧t < P.types.size)→
 DataW.TrodAll enc P W 0 (fun _=>true) true ts vs ds ps→(∀ x∈ps,x.block < W.heap.size)→DataW.TrodAll enc P W' 0 (fun b=>decide (b < W.heap.size)) true ts vs ds ps
 | [],[],[],_,_,h,_=>h
 | t::ts,v::vs,d::ds,_,ht,⟨p,q,h1,h2,e⟩,hp=>by
   subst e
   exact ⟨p,q,Below.trod hl (ht t (by simp)).1 (ht t (by simp)).2 h1 hb (fun x hx=>hp x (by simp [hx])),o9 hl hb (fun t ht'=>ht t (by simp [ht'])) h2 (fun x hx=>hp x (by simp [hx])),rfl⟩
theorem Ki {fn:Func} {s:ChangeSpec} {apart:Bool} {W W':World} {args:Array Value} {ds gs:List (DataW H)} {before:List MemPlace} {t:TypeId} (hl:laidOutB P=true) (hb:Below W.heap.size W W')
 (hW:DataW.Whole enc P fn.params.toList s.vars apart W args.toList ds gs before) (hv:s.vars=[]) (tV:fn.resultTypes=#[t]) (ht:P.underlying t=some .bool) (hs:s.fn H ds={ results:=[.lit (.bool true)],args:=ds })
 (hp:fn.params.toList.all (fun t=>P.readableRec t && decide (t < P.types.size))=true):s.post enc P fn apart true false false W args (.bool true) W':=by
 have aX:∀ x∈before,x.block < W.heap.size:=fun x hx=>by simpa using hW.lt x hx
 have hW0:=hW
 obtain ⟨p,q,h1,h2,h3,h4,h5⟩:=hW
 rw [hv] at h2
 obtain ⟨rfl,rfl⟩:=ChangeShapes.trodVars_none h2
 simp only [List.append_nil] at h3
 subst h3
 refine ⟨ds,[],before,[],before,[],hW0,?_,?_,?_,hb.frame _,fun h=>by cases h⟩
 ·simp only [List.append_nil,hs,tV]
  exact ChangeShapes.trodAll_mk1 (shut_bool ht true)
 ·simp only [List.append_nil,hs]
  exact o9 hl hb (fun t ht=>by simpa using List.all_eq_true.1 hp t ht) h1 aX
 ·simp only [hv,List.append_nil,hs]
  rfl
end
end Go.aH
end
section
namespace Go.aH
open Go
structure Zr {σ:Type} (S:σ→List aa) (p:Nat) (obj:σ→aa) (n:Nat):Prop where
 get:∀ s,(S s)[p]?=some (obj s)
 set:∀ s s',(S s).set p (obj s')=S s'
 len:∀ s,(S s).length=n
namespace Zr
variable {σ:Type} {S:σ→List aa} {p:Nat} {obj:σ→aa} {n:Nat} (F:Zr S p obj n)
include F
end Zr
theorem PN {Hs G:List aa} {n0:Nat} {v w x y:AV} {R:AV→List aa→Prop} (hH:Hs.take n0=G) (hb:x.aZ n0=true) (eh:y.aZ n0=true) (hx:v.ab=x) (hy:w.ab=y) (hR:R (.tuple [x,y]) G) :
 tB n0 [v,w] Hs R:=by
 subst hx hy hH
 exact ⟨n0,Nat.le_refl _,[v.ab,w.ab],cp _,by simp only [aj,hb,eh,Bool.and_self],hR⟩
theorem PO {Hs G:List aa} {n0:Nat} {v x:AV} {R:AV→List aa→Prop} (hH:Hs.take n0=G) (hb:x.aZ n0=true) (hx:v=x) (hR:R x G):yj n0 v Hs R:=by
 subst hx hH
 exact ⟨n0,Nat.le_refl _,v,le_refl _,hb,hR⟩
theorem Oe {Hs G:List aa} {n0 s:Nat} {v x:AV} {R:AV→List aa→Prop} (hH:Hs.take n0=G) (hb:x.aZ n0=true) (hx:v=x) (hR:R x G):bR n0 [.t s] [(s,v)] Hs R:=by
 subst hx hH
 exact aO _ (Nat.le_refl _) (by rw [au,if_pos rfl];exact hb) (by rw [au,if_pos rfl];exact hR)
end Go.aH
end
section
namespace Go.aH
open Go
def vQ (C:List aa→Nat→List aa→Prop) (n0:Nat) (v:AV) (H:List aa) (R:AV→List aa→Prop):Prop:=
 ∃ m H',n0≤m∧C H m H'∧∃ r,v.le r∧r.aZ m=true∧R r H'
@[congr] theorem Of {C:List aa→Nat→List aa→Prop} {n0:Nat} {x x':AV} {H H':List aa} {R:AV→List aa→Prop} (h:gD x=x') (h2:H=H'):vQ C n0 x H R=vQ C n0 x' H' R:=by subst h;subst h2;rfl
theorem Og {C:List aa→Nat→List aa→Prop} {n0 s:Nat} {sz:Option Nat} {env:Env} {H:List aa} {R:AV→List aa→Prop}:kZ C n0 [.c s sz] env H R=aR sz (get env s) H fun v=>vQ C n0 v H R:=_root_.id rfl
theorem Oh {C:List aa→Nat→List aa→Prop} {n0 s:Nat} {env:Env} {H:List aa} {R:AV→List aa→Prop}:kZ C n0 [.t s] env H R=vQ C n0 (get env s) H R:=_root_.id rfl
theorem HR {n0:Nat} {H G:List aa} (h:G.take n0=H) (hl:H.length=n0):mQ n0 G n0 H:=by
 subst h
 refine ⟨by simp,fun id o ho=>?_⟩
 rw [List.getElem?_take] at ho
 split at ho
 ·exact .inr ⟨ho,fun h=>by omega⟩
 ·cases ho
def only (n0 id:Nat) (G:List aa):List aa:=G.mapIdx fun j o=>if j < n0∨j=id then o else .dead
theorem oD (n0:Nat) (env:Env) (H:List aa):GQ n0 env H env H:=⟨fun t=>le_refl _,.inl rfl⟩
theorem Ag {n0:Nat} {env aB:Env} {H H':List aa} (he:env=aB) (hH:H=H'):GQ n0 env H aB H':=by
 subst he;subst hH;exact oD _ _ _
def rY:=And.intro @Og (And.intro @Oh Ke)
end Go.aH
end
