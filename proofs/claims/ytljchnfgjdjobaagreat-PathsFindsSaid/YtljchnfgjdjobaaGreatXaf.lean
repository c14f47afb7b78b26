/- Part 6 of 20 of the proof. -/
import Derived.Test.YtljchnfgjdjobaaGreatXae
import Derived.Laws.Externs
import Derived.ProofKit
import Derived.Deep.Slices
import Derived.Deep.Strs
set_option linter.unusedVariables false
set_option linter.unusedSimpArgs false
set_option linter.defProp false
set_option linter.unusedSectionVars false
section
namespace Go.aI
open Go
structure qq where
 n:Nat
 ir:IR
 rs:List RX
 deriving Inhabited
inductive Ent where
 | ir (fi:qq)
 | Jo (g:List AV→Option AV)
 | WQ (g:List AV→List aa→Option (AV×List aa))
def ranges:Code→List (List Nat×Code×Code)
 | .seq a b=>ranges a++ranges b
 | .cond _ a b=>ranges a++ranges b
 | .block _ a=>ranges a
 | .loop a=>ranges a
 | .rangeFunc _ ps a b=>(ps.toList,a,b)::(ranges a++ranges b)
 | _=>[]
def SX (f:Func) (k:Nat) (an:CA) (lv:mr) (pl:ms):jL:=
 match f.body with
 | some c=>match (ranges c).getD k ([],.skip,.skip) with
   | (ps,a,b)=>⟨f.ntmps,ps,a,b,an,lv,pl⟩
 | none=>⟨0,[],.skip,.skip,an,lv,pl⟩
structure gD (P:Program) (f:FuncId) (fi:qq):Prop where
 call:∀ (as:Array Value) (w:World),(callFunc f as).run P w=.ok (.enter f as) w
 code:∃ fn c an lv pl,P.funcs[f]?=some fn∧fn.body=some c∧fn.ntmps=fi.n∧comp P an lv pl fn.ntmps c=some fi.ir∧iZ P fn.results.toList=some fi.rs
theorem gD.FU {P:Program} {f:FuncId} {fi:qq} (h:gD P f fi) {args:List AV} {H:List aa} {R:AV→List aa→Prop} (hn:args.length≤fi.n)
 (hw:qp P H.length fi.ir (cc 0 args) H fun e env H'=>(e=.normal∨e=.ret)∧bP H.length fi.rs env H' R):aA P f args H R:=by
 obtain ⟨fn,c,an,lv,pl,h1,h2,h3,h4,h5⟩:=h.code
 exact Jm h1 h.call h2 h4 h5 (by omega) hw
theorem gD.OL {P:Program} {f:FuncId} {fi:qq} (h:gD P f fi) {args:List AV} {H:List aa} {R:AV→List aa→Prop} (hn:args.length≤fi.n)
 (hw:qp ⟨P,some H.length⟩ H.length fi.ir (cc 0 args) H fun e env H'=>(e=.normal∨e=.ret)∧jP (ox H.length) H.length fi.rs env H' R):aA P f args H R:=by
 obtain ⟨fn,c,an,lv,pl,h1,h2,h3,h4,h5⟩:=h.code
 exact FR h1 h.call h2 h4 h5 (by omega) hw
theorem gD.OM {P:Program} {f:FuncId} {fi:qq} (h:gD P f fi) {args:List AV} {H:List aa} {R:AV→List aa→Prop} (hn:args.length≤fi.n)
 (hw:qp ⟨P,some H.length⟩ H.length fi.ir (cc 0 args) H fun e env H'=>(e=.normal∨e=.ret)∧jP (xm H.length) H.length fi.rs env H' R):jH P f args H R:=by
 obtain ⟨fn,c,an,lv,pl,h1,h2,h3,h4,h5⟩:=h.code
 exact FT h1 h.call h2 h4 h5 (by omega) hw
def Dp (P:Program) (f:FuncId):Ent→Prop
 | .ir fi=>gD P f fi
 | .Jo g=>∀ args r H,g args=some r→aA P f args H fun r' H'=>r'=r∧H'=H
 | .WQ g=>∀ args H r H',g args H=some (r,H')→aA P f args H fun r' H''=>r'=r∧H''=H'
end Go.aI
end
section
namespace Go.aI
open Go
theorem xo {P:Program} {f:FuncId} {args:List AV} {H:List aa} {x:AV} (hx:∀ own xs,x=.al own xs→own=0)
 (h:∀ (M:Mem) (L:List Nat) (w:World) (vs:Array Value),vs.size=args.length→(∀ t,a7 M L (vs.getD t undef) (args.getD t .any))→∃ v,(callFunc f vs).run P w=.ok (.value v) w∧a7 M L v x) :
 aA P f args H fun r H'=>r=x∧H'=H:=by
 intro A M L w vs O hA hs bT
 obtain ⟨v,bK,hr⟩:=h M L w vs hs bT.env
 have k1:=bT.sd (fun _=>undef) (fun _=>.any) (fun _=>.any _) (fun _ _ _ e=>by cases e)
 exact .inr ⟨v,w,x,H,M,L,_,bK,⟨rfl,rfl⟩,k1.oQ 0 hr hx,Ext.refl A M w,aaD L⟩
def qZ:List AV→Option AV
 | [.str s,.int .u8 c]=>some (.int .i64 (firstIdx s c.toNat.toUInt8))
 | _=>none
theorem Dq {vs:Array Value} (h:vs.size=2):vs=#[vs.getD 0 undef,vs.getD 1 undef]:=by
 apply Array.ext
 ·simp [h]
 ·intro i h1 h2
  have:i=0∨i=1:=by omega
  rcases this with rfl | rfl <;> simp [Array.getD,h]
theorem By {P:Program} {f:FuncId} {fn:Func} (hf:P.funcs[f]?=some fn) (hname:(fn.name == "runtime.NumGoroutine")=false)
 (hb:fn.body.isNone=true) (hn:Extern.findNext fn=none) (he:Extern.find fn=some Extern.BytealgIndexByte.indexByte):Dp P f (.Jo qZ):=by
 intro args r H h
 unfold qZ at h
 split at h <;> cases h
 rename_i s c
 refine xo (by intro _ _ e;cases e) fun M L w vs hs hr=>⟨.int .i64 (firstIdx s c.toNat.toUInt8),?_,.int _ _⟩
 have h0:=hr 0
 have h1:=hr 1
 rw [Dq hs]
 generalize vs.getD 0 undef=v0 at h0
 generalize vs.getD 1 undef=v1 at h1
 cases h0
 cases h1
 rw [run_callFunc_extern hf hname hb hn he,run_indexByte_string]
 rfl
def countP:List AV→Option AV
 | [.str s,.int .u8 c]=>some (.int .i64 (s.foldl (fun n x=>if x == c.toNat.toUInt8 then n + 1 else n) (0:Nat)))
 | _=>none
theorem Jp {P:Program} (s:ByteArray) (c:Int) (w:World) :
 (Extern.BytealgCount.count #[.string s,.int .u8 c]).run P w=.ok (.int .i64 (s.foldl (fun n x=>if x == c.toNat.toUInt8 then n + 1 else n) (0:Nat))) w:=by
 change Sem.run P (do
  let b ← Extern.Bytes.bytesOf (.string s)
  let c' ← Extern.Bytes.asByte (.int .u8 c)
  pure (goInt (b.foldl (fun n x=>if x == c' then n + 1 else n) (0:Nat)))) w=_
 simp only [Extern.Bytes.bytesOf,Extern.Bytes.asByte,Sem.run_bind,Sem.run_pure,Result.andThen]
 simp [goInt]
theorem Lg {P:Program} {f:FuncId} {fn:Func} (hf:P.funcs[f]?=some fn) (hname:(fn.name == "runtime.NumGoroutine")=false)
 (hb:fn.body.isNone=true) (hn:Extern.findNext fn=none) (he:Extern.find fn=some Extern.BytealgCount.count):Dp P f (.Jo countP):=by
 intro args r H h
 unfold countP at h
 split at h <;> cases h
 rename_i s c
 refine xo (by intro _ _ e;cases e) fun M L w vs hs hr=>⟨.int .i64 (s.foldl (fun n x=>if x == c.toNat.toUInt8 then n + 1 else n) (0:Nat)),?_,.int _ _⟩
 have h0:=hr 0
 have h1:=hr 1
 rw [Dq hs]
 generalize vs.getD 0 undef=v0 at h0
 generalize vs.getD 1 undef=v1 at h1
 cases h0
 cases h1
 rw [run_callFunc_extern hf hname hb hn he,Jp]
 rfl
end Go.aI
end
section
namespace Go.aI
open Go
theorem SY:AV.any.ab=.any:=agq
theorem pS (b:Bool):(AV.bool b).ab=.bool b:=agq
theorem pj (k:IntKind) (n:Int):(AV.int k n).ab=.int k n:=agq
theorem Bz (s:ByteArray):(AV.str s).ab=.str s:=agq
theorem HF:AV.ag.ab=.ag:=agq
theorem xp (o:Nat) (xs:List AV):(AV.al o xs).ab=.al 0 xs:=agq
theorem SZ (a b c d:Nat):(AV.aZ a b c d).ab=.aZ a b c d:=agq
theorem S0 (xs:List AV):(AV.agg xs).ab=.agg xs:=agq
theorem Lh (xs:List AV):(AV.tuple xs).ab=.tuple xs:=agq
theorem Li (a b:Nat):(AV.ptr a b).ab=.ptr a b:=agq
theorem HG (x:AV):(AV.ah x).ab=.ah x:=agq
theorem ON:AV.wD.ab=.wD:=agq
theorem Lj (a:Nat):(AV.map a).ab=.map a:=agq
theorem OO:AV.nr.ab=.nr:=agq
theorem Rl (f:Fn) (a b:List AV):(AV.fn f a b).ab=.fn f a b:=agq
theorem OP:AV.iI.ab=.iI:=agq
theorem OQ (b:Bool):(AV.bool b).cells=[.bool b]:=agq
theorem S1 (k:IntKind) (n:Int):(AV.int k n).cells=[.int k n]:=agq
theorem S2 (s:ByteArray):(AV.str s).cells=[.str s]:=agq
theorem OR:AV.ag.cells=[.ag]:=agq
theorem S3 (o:Nat) (xs:List AV):(AV.al o xs).cells=[.al o xs]:=agq
theorem S4 (xs:List AV):(AV.agg xs).cells=xs:=agq
theorem WR (f:Fn) (a b:List AV):(AV.fn f a b).cells=[.fn f a b]:=agq
theorem OS:AV.iI.cells=[.iI]:=agq
theorem S5 (a b:Nat):(AV.ptr a b).cells=[.ptr a b]:=agq
theorem OT (x:AV):(AV.ah x).cells=[.ah x]:=agq
theorem S6 (a:Nat):(AV.map a).cells=[.map a]:=agq
theorem nS (b:Bool):(AV.bool b).drop=.bool b:=agq
theorem S7 (k:IntKind) (n:Int):(AV.int k n).drop=.int k n:=agq
theorem S8 (s:ByteArray):(AV.str s).drop=.str s:=agq
theorem OU:AV.ag.drop=.al 0 []:=agq
theorem S9 (o:Nat) (xs:List AV):(AV.al o xs).drop=.al 0 xs:=agq
theorem Ta (xs:List AV):(AV.agg xs).drop=.agg xs:=agq
theorem WS (f:Fn) (a b:List AV):(AV.fn f a b).drop=.fn f a b:=agq
theorem OV:AV.iI.drop=.iI:=agq
theorem Tc (a b:Nat):(AV.ptr a b).drop=.ptr a b:=agq
theorem OW (x:AV):(AV.ah x).drop=.ah x:=agq
theorem Td (a:Nat):(AV.map a).drop=.map a:=agq
theorem v8 (b:Bool):(AV.bool b).val=true:=agq
theorem Te (k:IntKind) (n:Int):(AV.int k n).val=true:=agq
theorem Tf (s:ByteArray):(AV.str s).val=true:=agq
theorem OX:AV.ag.val=true:=agq
theorem Th (o:Nat) (xs:List AV):(AV.al o xs).val=true:=agq
theorem Ti (xs:List AV):(AV.agg xs).val=true:=agq
theorem WT (f:Fn) (a b:List AV):(AV.fn f a b).val=true:=agq
theorem OY:AV.iI.val=true:=agq
theorem Tj (a b:Nat):(AV.ptr a b).val=true:=agq
theorem OZ (x:AV):(AV.ah x).val=true:=agq
theorem Tk (a:Nat):(AV.map a).val=true:=agq
theorem sw (n:Nat) (b:Bool):(AV.bool b).bc n=true:=agq
theorem ja (n:Nat) (k:IntKind) (m:Int):(AV.int k m).bc n=true:=agq
theorem Lk (n:Nat) (s:ByteArray):(AV.str s).bc n=true:=agq
theorem HH (n:Nat):AV.ag.bc n=true:=agq
theorem bA (n o:Nat) (xs:List AV):(AV.al o xs).bc n=aw n xs:=by rw [AV.bc]
theorem xq (n:Nat) (xs:List AV):(AV.agg xs).bc n=aw n xs:=by rw [AV.bc]
theorem Ll (n:Nat) (xs:List AV):(AV.tuple xs).bc n=aw n xs:=by rw [AV.bc]
theorem ra (n a b:Nat):(AV.ptr a b).bc n=decide (a < n):=by rw [AV.bc]
theorem Lm (n a:Nat):(AV.map a).bc n=decide (a < n):=by rw [AV.bc]
theorem eL (n a b c d:Nat):(AV.aZ a b c d).bc n=decide (a < n):=by rw [AV.bc]
theorem BA (n:Nat) (x:AV):(AV.ah x).bc n=x.bc n:=by rw [AV.bc]
theorem WU (n:Nat) (f:Fn) (a b:List AV):(AV.fn f a b).bc n=(aw n a && aw n b):=by rw [AV.bc]
theorem O0 (n:Nat):AV.iI.bc n=true:=agq
theorem cV (n:Nat):aw n []=true:=agq
theorem bL (n:Nat) (x:AV) (xs:List AV):aw n (x::xs)=(x.bc n && aw n xs):=by rw [aw]
section
variable (k:IntKind) (a b:Int) (φ:AV→Prop)
theorem Tl:dw .add (.int k a) (.int k b) φ=φ (.int k (k.wrap (a + b))):=by simp [dw]
theorem Tm:dw .sub (.int k a) (.int k b) φ=φ (.int k (k.wrap (a - b))):=by simp [dw]
theorem Tn:dw .mul (.int k a) (.int k b) φ=φ (.int k (k.wrap (a * b))):=by simp [dw]
theorem To:dw .rem (.int k a) (.int k b) φ=(b≠0∧φ (.int k (a.tmod b))):=by simp [dw]
theorem Tp:dw .quo (.int k a) (.int k b) φ=(b≠0∧φ (.int k (k.wrap (a.tdiv b)))):=by simp [dw]
theorem Tq:dw .eql (.int k a) (.int k b) φ=φ (.bool (decide (a=b))):=by simp [dw]
theorem Tr:dw .neq (.int k a) (.int k b) φ=φ (.bool (decide (a≠b))):=by simp [dw]
theorem Ts:dw .lss (.int k a) (.int k b) φ=φ (.bool (decide (a < b))):=by simp [dw]
theorem Tv:dw .leq (.int k a) (.int k b) φ=φ (.bool (decide (a≤b))):=by simp [dw]
theorem Tw:dw .gtr (.int k a) (.int k b) φ=φ (.bool (decide (b < a))):=by simp [dw]
theorem Tx:dw .geq (.int k a) (.int k b) φ=φ (.bool (decide (b≤a))):=by simp [dw]
theorem Tz (s t:ByteArray):dw .eql (.str s) (.str t) φ=φ (.bool (decide (s=t))):=by simp [dw]
theorem TA (s t:ByteArray):dw .neq (.str s) (.str t) φ=φ (.bool (decide (s≠t))):=by simp [dw]
theorem TB (s t:ByteArray):dw .add (.str s) (.str t) φ=(s.size + t.size < 9223372036854775808∧φ (.str (s++t))):=by simp [dw]
theorem TC (q:Bool):CM .not (.bool q) φ=φ (.bool (!q)):=agq
theorem TD:CM .neg (.int k a) φ=φ (.int k (k.wrap (0 - a))):=agq
theorem TE (p q:Bool):dA true (.bool p) (.bool q) φ=φ (.bool (decide (p≠q))):=agq
theorem TF (p q:Bool):dA false (.bool p) (.bool q) φ=φ (.bool (decide (p=q))):=agq
theorem acJ (q:Bool) (ψ:Bool→Prop):fH (.bool q) ψ=ψ q:=agq
theorem TG (s:ByteArray) (H:List aa):fR (.str s) H φ=φ (.int .i64 s.size):=agq
theorem O4 (H:List aa):fR .ag H φ=φ (.int .i64 0):=agq
theorem TH (o:Nat) (xs:List AV) (H:List aa):fR (.al o xs) H φ=(xs.length < 9223372036854775808→φ (.int .i64 xs.length)):=agq
theorem TI (x y l c:Nat) (H:List aa):fR (.aZ x y l c) H φ=φ (.int .i64 l):=agq
theorem O5 (H:List aa):fR .nr H φ=φ (.int .i64 0):=agq
theorem TJ (s:ByteArray):aO 0 (.str s)=True:=agq
theorem O6:aO 1 .ag=True:=agq
theorem TK (o:Nat) (xs:List AV):aO 1 (.al o xs)=True:=agq
theorem TL (x y l c:Nat):aO 1 (.aZ x y l c)=True:=agq
theorem O7:aO 2 .nr=True:=agq
theorem TM (x:Nat):aO 2 (.map x)=True:=agq
theorem O8 (q:Bool) (H:List aa):a8 none (.ah (.bool q)) H φ=φ (.bool q):=by simp [a8,AV.one,pS]
theorem TN (H:List aa):a8 none (.ah (.int k a)) H φ=φ (.int k a):=by simp [a8,AV.one,pj]
theorem TO (s:ByteArray) (H:List aa):a8 none (.ah (.str s)) H φ=φ (.str s):=by simp [a8,AV.one,Bz]
theorem TP (o:Nat) (xs:List AV) (H:List aa):a8 none (.ah (.al o xs)) H φ=φ (.al 0 xs):=by simp [a8,AV.one,xp]
theorem O9 (H:List aa):a8 none (.ah .ag) H φ=φ .ag:=by simp [a8,AV.one,HF]
theorem WV (f:Fn) (x y:List AV) (H:List aa):a8 none (.ah (.fn f x y)) H φ=φ (.fn f x y):=by simp [a8,AV.one,Rl]
theorem TQ (x y:Nat):cw (.ptr x y) φ=φ (.ptr x y):=agq
theorem Pa (x:AV):cw (.ah x) φ=φ (.ah x):=agq
theorem Ln (xs:List AV) (i:Nat):bM (.tuple xs) i φ=(i < xs.length∧φ (xs.getD i .any).ab):=agq
theorem TR (id o off:Nat) (sz:Option Nat):au off sz (.ptr id o) φ=φ (.ptr id (o + off)):=by simp [au]
end
section
variable {P:Px} {n0:Nat} {env:Env} {H:List aa} {Q:Exit→Env→List aa→Prop}
theorem Lo (pass:Option Nat) (j:Nat):aQ env pass j []=[]:=agq
theorem TS (pass:Option Nat) (j:Nat) (v:AV) (xs:List IX):aQ env pass j (.c v::xs)=v.ab::aQ env pass (j + 1) xs:=agq
theorem TT (j s:Nat) (xs:List IX):aQ env none j (.t s::xs)=(get env s).ab::aQ env none (j + 1) xs:=by simp [aQ]
theorem TU (j s:Nat) (xs:List IX):aQ env (some 1999) j (.t s::xs)=(if 1999=j then get env s else (get env s).ab)::aQ env (some 1999) (j + 1) xs:=by simp [aQ]
theorem TV (p j s:Nat) (xs:List IX):aQ env (some p) j (.t s::xs)=(if p=j then get env s else (get env s).ab)::aQ env (some p) (j + 1) xs:=by simp [aQ]
theorem Jq (args:List IX):bn args none=none:=agq
theorem Pb (x:Nat) (xs:List IX):bn (.t x::xs) (some 0)=some x:=by simp [bn]
theorem Pc (x:Nat) (y:IX) (xs:List IX):bn (y::.t x::xs) (some 1)=some x:=by simp [bn]
theorem Pd (x:Nat) (y z:IX) (xs:List IX):bn (y::z::.t x::xs) (some 2)=some x:=by simp [bn]
theorem Jr:bn [] (some 1999)=none:=agq
theorem Js (x:IX):bn [x] (some 1999)=none:=agq
theorem Jt (x y:IX):bn [x,y] (some 1999)=none:=agq
theorem Ju (x y z:IX):bn [x,y,z] (some 1999)=none:=agq
theorem Jv (x y z u:IX):bn [x,y,z,u] (some 1999)=none:=agq
theorem Dr:dB env none=env:=agq
theorem Ds (d:Nat):dB env (some d)=(d,(get env d).ab)::env:=agq
theorem Lp (z:AV):put none z env=env:=agq
theorem Lq (d:Nat) (z:AV):put (some d) z env=(d,z)::env:=agq
theorem aD (k:Nat) (v:AV) (t:Nat):get ((k,v)::env) t=if t=k then v else get env t:=agq
theorem TW (t:Nat):get [] t=.any:=agq
theorem aT {s:Nat} {R:AV→List aa→Prop} (m:Nat) (h0:n0≤m) (hb:(get env s).bc m=true) (h:R (get env s) (H.take m)):bP n0 [.t s] env H R:=
 ⟨m,h0,_,le_refl _,hb,h⟩
end
def Pure (P:Program) (g:FuncId) (xs:List AV) (v:AV):Prop:=∀ H,aA P g xs H fun r H'=>r=v∧H'=H
def pk (n:Nat) (env:Env):Bool:=env.all fun p=>p.2.bc n
theorem FV {n:Nat} {env:Env} (h:pk n env=true) (t:Nat):(get env t).bc n=true:=by
 rcases get_mem (env:=env) (t:=t) rfl with h' | h'
 ·rw [h'];rfl
 ·exact abc.1 h _ h'
theorem TX (n:Nat):pk n []=true:=agq
theorem Pe (n k:Nat) (v:AV) (env:Env):pk n ((k,v)::env)=(v.bc n && pk n env):=agq
theorem sx {n0:Nat} {env aW:Env} {H H':List aa} (he:env=aW) (h0:n0≤H'.length) (hb:pk H'.length aW=true) (e:List aa) (hH:H=H'++e):sle n0 env H aW H':=by
 subst he;subst hH
 exact ⟨fun t=>le_refl _,.inr ⟨H'.length,h0,by simp,FV hb⟩⟩
theorem ay {n0:Nat} {env aW:Env} {H H':List aa} (he:env=aW) (hH:H=H'):sle n0 env H aW H':=by
 subst he;subst hH;exact ax _ _ _
theorem aj (i:Nat) (h:i + 1 < 9223372036854775808):IntKind.i64.wrap ((i:Int) + 1)=((i + 1:Nat):Int):=by
 show IntKind.wrap .i64 ((i:Int) + 1)=_
 unfold IntKind.wrap
 simp [IntKind.signed,IntKind.bits]
 omega
end Go.aI
end
section
namespace Go.aI
open Go
def iC {α:Type} (x:α):α:=x
theorem TY {α:Type} (x:α):iC x=x:=agq
section
variable {φ:AV→Prop}
theorem Lr {op:BinOp} {x y:AV} (h:dw op x y φ):∃ z,dw op x y (fun w=>w=z)∧φ z:=by
 unfold dw at *
 split at h <;> (try exact h.elim)
 ·obtain ⟨h0,h⟩:=h
  split at h <;> first | exact ⟨_,⟨h0,rfl⟩,h⟩ | exact ⟨_,⟨h0,h.1,rfl⟩,h.2⟩ | exact h.elim
 ·split at h <;> first | exact ⟨_,rfl,h⟩ | exact ⟨_,⟨h.1,rfl⟩,h.2⟩ | exact h.elim
theorem FW {op:BinOp} {x y:AV} (h:eX op x y φ):∃ z,eX op x y (fun w=>w=z)∧φ z:=by
 unfold eX at *
 split at h <;> (try exact h.elim)
 obtain ⟨h0,h⟩:=h
 split at h <;> first | exact ⟨_,⟨h0,rfl⟩,h⟩ | exact h.elim
theorem Dt {neq:Bool} {x y:AV} (h:dA neq x y φ):∃ z,dA neq x y (fun w=>w=z)∧φ z:=by
 unfold dA at *
 split at h <;> first | exact ⟨_,rfl,h⟩ | exact h.elim
theorem Pf {op:UnOp} {x:AV} (h:CM op x φ):∃ z,CM op x (fun w=>w=z)∧φ z:=by
 unfold CM at *
 split at h <;> first | exact ⟨_,rfl,h⟩ | exact h.elim
theorem Jw {sz:Option Nat} {x:AV} {H:List aa} (h:a8 sz x H φ):∃ z,a8 sz x H (fun w=>w=z)∧φ z:=by
 unfold a8 at *
 split at h <;> (try exact h.elim) <;> (split at h <;> (try exact h.elim)) <;> first | exact ⟨_,⟨h.1,rfl⟩,h.2⟩ | (split at h <;> exact ⟨_,⟨h.1,rfl⟩,h.2⟩)
theorem z3 {off:Nat} {sz:Option Nat} {xs:List AV} {g:AV→AV} (h:apart off sz xs fun z=>φ (g z)):∃ z,(apart off sz xs fun w=>g w=z)∧φ z:=by
 unfold apart at *
 split at h <;> first | exact ⟨_,⟨h.1,rfl⟩,h.2⟩ | exact ⟨_,⟨h.1,h.2.1,rfl⟩,h.2.2⟩
theorem FX {off:Nat} {sz:Option Nat} {x:AV} (h:gV off sz x φ):∃ z,gV off sz x (fun w=>w=z)∧φ z:=by
 unfold gV at *
 split at h <;> (try exact h.elim)
 exact z3 h
theorem xr {off:Nat} {sz:Option Nat} {x:AV} (h:au off sz x φ):∃ z,au off sz x (fun w=>w=z)∧φ z:=by
 unfold au at *
 split at h <;> (try exact h.elim)
 ·exact ⟨_,rfl,h⟩
 ·exact z3 h
theorem xt {esz:Nat} {x i:AV} (h:aG esz x i φ):∃ z,aG esz x i (fun w=>w=z)∧φ z:=by
 unfold aG at *
 split at h <;> first | exact ⟨_,⟨h.1,h.2.1,rfl⟩,h.2.2⟩ | exact h.elim
theorem za {x i:AV} (h:bX x i φ):∃ z,bX x i (fun w=>w=z)∧φ z:=by
 unfold bX at *
 split at h <;> first | exact ⟨_,⟨h.1,h.2.1,rfl⟩,h.2.2⟩ | exact h.elim
theorem zc {n:Nat} {x i:AV} (h:cv n x i φ):∃ z,cv n x i (fun w=>w=z)∧φ z:=by
 unfold cv at *
 split at h <;> first | exact ⟨_,⟨h.1,h.2.1,h.2.2.1,rfl⟩,h.2.2.2⟩ | exact h.elim
theorem BB {x:AV} {i:Nat} (h:bM x i φ):∃ z,bM x i (fun w=>w=z)∧φ z:=by
 unfold bM at *
 split at h <;> first | exact ⟨_,⟨h.1,rfl⟩,h.2⟩ | exact h.elim
theorem zd {x:AV} (h:cw x φ):∃ z,cw x (fun w=>w=z)∧φ z:=by
 unfold cw at *
 split at h <;> first | exact ⟨_,rfl,h⟩ | exact h.elim
theorem BC {k:IntKind} {x:AV} (h:dj k x φ):∃ z,dj k x (fun w=>w=z)∧φ z:=by
 unfold dj at *
 split at h <;> first | exact ⟨_,rfl,h⟩ | exact h.elim
theorem Pg {big:Bool} {x y:AV} (h:A0 big x y φ):∃ z,A0 big x y (fun w=>w=z)∧φ z:=by
 unfold A0 at *
 split at h <;> first | exact ⟨_,rfl,h⟩ | exact h.elim
theorem pT {x:Option AV} {d:Nat} {c1 c2:Nat→Prop} {g:Nat→AV} (h:eS x d fun k=>c1 k∧c2 k∧φ (g k)):∃ z,(eS x d fun k=>c1 k∧c2 k∧g k=z)∧φ z:=by
 unfold eS at *
 split at h
 ·exact ⟨_,⟨h.1,h.2.1,rfl⟩,h.2.2⟩
 ·exact ⟨_,⟨h.1,h.2.1,h.2.2.1,rfl⟩,h.2.2.2⟩
 ·exact h.elim
theorem jQ {x:Option AV} {d:Nat} {ψ:(AV→Prop)→Nat→Prop} (h:eS x d (ψ φ)) (hd:∀ k,ψ φ k→∃ z,ψ (fun w=>w=z) k∧φ z):∃ z,eS x d (ψ fun w=>w=z)∧φ z:=by
 unfold eS at *
 split at h
 ·exact hd _ h
 ·obtain ⟨z,h2,h3⟩:=hd _ h.2;exact ⟨z,⟨h.1,h2⟩,h3⟩
 ·exact h.elim
theorem FY {esz:Nat} {x:AV} {lo hi mx:Option AV} (h:gZ esz x lo hi mx φ):∃ z,gZ esz x lo hi mx (fun w=>w=z)∧φ z:=by
 unfold gZ at *
 split at h <;> (try exact h.elim)
 rename_i xs fe
 cases mx with
 | none=>exact jQ (ψ:=fun φ h=>eS lo 0 fun l=>l≤h∧h≤xs.length∧φ (.al 0 ((xs.take h).drop l))) h fun k h=>pT (c1:=fun l=>l≤k) (c2:=fun _=>k≤xs.length) (g:=fun l=>.al 0 ((xs.take k).drop l)) h
 | some m=>
   refine jQ (ψ:=fun φ h=>eS lo 0 fun l=>l≤h∧h≤xs.length∧hi.isSome=true∧eS (some m) 0 fun m=>m=h∧(∀ y∈xs,y.cells.length=esz)∧φ (.al esz ((xs.take h).drop l))) h fun k h=>?_
   refine jQ (ψ:=fun φ l=>l≤k∧k≤xs.length∧hi.isSome=true∧eS (some m) 0 fun m=>m=k∧(∀ y∈xs,y.cells.length=esz)∧φ (.al esz ((xs.take k).drop l))) h fun l h=>?_
   obtain ⟨h1,h2,h3,h4⟩:=h
   obtain ⟨z,k1,k2⟩:=pT (g:=fun _=>.al esz ((xs.take k).drop l)) h4
   exact ⟨z,⟨h1,h2,h3,k1⟩,k2⟩
theorem Dv {esz:Nat} {x:AV} {lo hi mx:Option AV} (h:bH esz x lo hi mx φ):∃ z,bH esz x lo hi mx (fun w=>w=z)∧φ z:=by
 unfold bH jF pM at *
 split at h
 ·rename_i id off len cap
  split at h
  rotate_left
  ·rename_i m
   obtain ⟨h1,h2⟩:=h
   have:=jQ (ψ:=fun φ m=>eS hi len fun h=>eS lo 0 fun l=>l≤h∧h≤m∧m≤cap∧φ (.aZ id (if m=l then off else off + l * esz) (h - l) (m - l))) h2 fun m h=>
    jQ (ψ:=fun φ h=>eS lo 0 fun l=>l≤h∧h≤m∧m≤cap∧φ (.aZ id (if m=l then off else off + l * esz) (h - l) (m - l))) h fun k h=>
     jQ (ψ:=fun φ l=>l≤k∧k≤m∧m≤cap∧φ (.aZ id (if m=l then off else off + l * esz) (k - l) (m - l))) h fun l h=>⟨_,⟨h.1,h.2.1,h.2.2.1,rfl⟩,h.2.2.2⟩
   obtain ⟨z,k1,k2⟩:=this
   exact ⟨z,⟨h1,k1⟩,k2⟩
  have h2:=h
  have:=jQ (ψ:=fun φ h=>eS lo 0 fun l=>l≤h∧h≤cap∧φ (.aZ id (if cap=l then off else off + l * esz) (h - l) (cap - l))) h2 fun k h=>pT (c1:=fun l=>l≤k) (c2:=fun _=>k≤cap) (g:=fun l=>.aZ id (if cap=l then off else off + l * esz) (k - l) (cap - l)) h
  obtain ⟨z,k1,k2⟩:=this
  exact ⟨z,k1,k2⟩
 ·obtain ⟨z,k1,k2⟩:=FY h.2
  exact ⟨z,⟨h.1,k1⟩,k2⟩
theorem ze {x:AV} {lo hi:Option AV} (h:db x lo hi φ):∃ z,db x lo hi (fun w=>w=z)∧φ z:=by
 unfold db at *
 split at h <;> (try exact h.elim)
 rename_i s
 exact jQ (ψ:=fun φ h=>eS lo 0 fun l=>l≤h∧h≤s.size∧φ (.str (s.extract l h))) h fun k h=>pT (c1:=fun l=>l≤k) (c2:=fun _=>k≤s.size) (g:=fun l=>.str (s.extract l k)) h
theorem Dw {kd:Nat} {z m k:AV} {ok:Bool} {H:List aa} (h:dg kd z m k ok H φ):∃ y,dg kd z m k ok H (fun w=>w=y)∧φ y:=by
 unfold dg at *
 split at h <;> (try exact h.elim) <;> first | exact ⟨_,rfl,h⟩ | exact ⟨_,⟨h.1,rfl⟩,h.2⟩ | (split at h <;> (try exact h.elim) <;> first | exact ⟨_,rfl,h⟩ | exact ⟨_,⟨h.1,rfl⟩,h.2⟩ | (split at h <;> (try exact h.elim) <;> first | exact ⟨_,rfl,h⟩ | exact ⟨_,⟨h.1,rfl⟩,h.2⟩))
theorem u0 {esz:Nat} {own:Nat}:∀ {ps:List (Nat×AV)} {zs:List AV},bi zs esz ps (fun v=>φ (.al own v))→∃ z,bi zs esz ps (fun v=>.al own v=z)∧φ z
 | [],zs,h=>⟨_,rfl,h⟩
 | (i,x)::r,zs,h=>by
   obtain ⟨z,k1,k2⟩:=u0 h.2.2.2
   exact ⟨z,⟨h.1,h.2.1,h.2.2.1,k1⟩,k2⟩
theorem z4:∀ {ps:List (Nat×Nat×AV)} {zs:List AV},gb zs ps (fun v=>φ (.agg v))→∃ z,gb zs ps (fun v=>.agg v=z)∧φ z
 | [],zs,h=>⟨_,rfl,h⟩
 | (off,sz,x)::r,zs,h=>by
   obtain ⟨z,k1,k2⟩:=z4 h.2.2.2
   exact ⟨z,⟨h.1,h.2.1,h.2.2.1,k1⟩,k2⟩
end
def gE (v:AV) (A B:Prop):Prop:=fH v fun q=>(q=true→A)∧(q=false→B)
@[congr] theorem Rm {v v':AV} {A B:Prop} (h:iC v=v'):gE v A B=gE v' A B:=by subst h;rfl
theorem Ph (A B:Prop):gE (.bool true) A B=A:=by simp [gE,fH]
theorem Pj (A B:Prop):gE (.bool false) A B=B:=by simp [gE,fH]
theorem Pk (b:Bool) (A B:Prop):gE (.bool (!b)) A B=gE (.bool b) B A:=by cases b <;> simp [gE,fH]
theorem Pl (p:Prop) [Decidable p] (A B:Prop):gE (.bool (decide p)) A B=((p→A)∧(¬ p→B)):=by simp [gE,fH]
theorem nT {b:Bool} {A B:Prop} (h1:b=true→A) (h2:b=false→B):gE (.bool b) A B:=⟨h1,h2⟩
def eE (v:AV) (g:Nat) (want:Bool) (env:Env) (yes no:Env→Prop):Prop:=
 match v with
 | .bool b=>(b=want→yes ((g,.bool want)::env))∧(b=(!want)→no ((g,.bool (!want))::env))
 | .tuple []=>no env
 | _=>False
@[congr] theorem Pm {v v':AV} {g:Nat} {want:Bool} {env:Env} {yes no:Env→Prop} (h:iC v=v'):eE v g want env yes no=eE v' g want env yes no:=by subst h;rfl
section
variable (g:Nat) (env:Env) (yes no:Env→Prop)
theorem WW:eE (.bool true) g true env yes no=yes ((g,.bool true)::env):=by simp [eE]
theorem WX:eE (.bool true) g false env yes no=no ((g,.bool true)::env):=by simp [eE]
theorem WY:eE (.bool false) g true env yes no=no ((g,.bool false)::env):=by simp [eE]
theorem WZ:eE (.bool false) g false env yes no=yes ((g,.bool false)::env):=by simp [eE]
theorem acK (want:Bool):eE (.tuple []) g want env yes no=no env:=agq
theorem W0 (p:Prop) [Decidable p]:eE (.bool (decide p)) g true env yes no=((p→yes ((g,.bool true)::env))∧(¬ p→no ((g,.bool false)::env))):=by simp [eE]
theorem W1 (p:Prop) [Decidable p]:eE (.bool (decide p)) g false env yes no=((¬ p→yes ((g,.bool false)::env))∧(p→no ((g,.bool true)::env))):=by simp [eE]
end
def xu (P:Px) (g:FuncId) (xs:List AV) (H:List aa) (K:AV→List aa→Prop):Prop:=∃ bV,yU xs bV∧eD P g bV H K
@[congr] theorem Rn {P:Px} {g:FuncId} {xs xs':List AV} {H H':List aa} {K:AV→List aa→Prop} (h:iC xs=xs') (h2:H=H'):xu P g xs H K=xu P g xs' H' K:=by subst h;subst h2;rfl
theorem Dx {P:Program} {lo:Option Nat} {g:FuncId} {xs ys:List AV} {H:List aa} {R K:AV→List aa→Prop} (hc:aA P g ys H R) (hl:yU xs ys) (hk:∀ r H',R r H'→K r H'):xu ⟨P,lo⟩ g xs H K:=⟨ys,hl,eD.of (hc.mono hk)⟩
theorem af {P:Program} {lo:Option Nat} {g:FuncId} {xs:List AV} {H:List aa} {R K:AV→List aa→Prop} (hc:aA P g xs H R) (hk:∀ r H',R r H'→K r H'):xu ⟨P,lo⟩ g xs H K:=⟨xs,da _,eD.of (hc.mono hk)⟩
theorem Jx {P:Program} {l:Nat} {g:FuncId} {xs:List AV} {H:List aa} {R K:AV→List aa→Prop} (hl:l≤H.length) (hc:jH P g xs H R) (hk:∀ r H',R r H'→K r H'):xu ⟨P,some l⟩ g xs H K:=⟨xs,da _,eD.ofL hl (hc.mono hk)⟩
theorem ae {P:Program} {lo:Option Nat} {g:FuncId} {xs:List AV} {v:AV} {H:List aa} {K:AV→List aa→Prop} (hc:Pure P g xs v) (hk:K v H):xu ⟨P,lo⟩ g xs H K:=
 ⟨xs,da _,eD.of ((hc H).mono fun r H' ⟨h1,h2⟩=>by rw [h1,h2];exact hk)⟩
theorem Pn {P:Px} {env:Env} {H:List aa} (g:FuncId) (first cap:List AV) (args:List IX) (pass:Option Nat) (K:AV→Env→List aa→Prop):rY P (.fn (.func g) first cap) args pass env H K =
 xu P g (first.map AV.ab++aQ env pass 0 args++cap.map AV.ab) H (fun r H'=>K r (dB env (bn args pass)) H'):=agq
@[congr] theorem Ro {P:Px} {f f':AV} {args:List IX} {pass:Option Nat} {env:Env} {H:List aa} {K:AV→Env→List aa→Prop} (h:iC f=f'):rY P f args pass env H K=rY P f' args pass env H K:=by subst h;rfl
def z5 (P:Px) (st:Bool) (g:FuncId) (xs:List AV) (H:List aa) (K:AV→Prop):Prop:=
 ∃ x,(match st with
  | true=>∃ bV,yU xs bV∧aA P.prog g bV H (fun r H'=>r=x∧H'=H)
  | false=>∀ H,∃ bV,yU xs bV∧aA P.prog g bV H (fun r H'=>r=x∧H'=H))∧K x
@[congr] theorem Rp {P:Px} {st:Bool} {g:FuncId} {xs xs':List AV} {H:List aa} {K:AV→Prop} (h:iC xs=xs'):z5 P st g xs H K=z5 P st g xs' H K:=by subst h;rfl
theorem aB {P:Program} {lo:Option Nat} {st:Bool} {g:FuncId} {xs:List AV} {v:AV} {H:List aa} {K:AV→Prop} (hc:Pure P g xs v) (hk:K v):z5 ⟨P,lo⟩ st g xs H K:=
 ⟨v,(by cases st <;> first | exact ⟨xs,da _,hc H⟩ | exact fun H=>⟨xs,da _,hc H⟩),hk⟩
def rb (P:Px) (st:Bool) (f:AV) (xs:List AV) (H:List aa) (K:AV→Prop):Prop:=
 match f with
 | .fn (.func g) first cap=>z5 P st g (first.map AV.ab++xs++cap.map AV.ab) H K
 | _=>False
@[congr] theorem Po {P:Px} {st:Bool} {f f':AV} {xs xs':List AV} {H:List aa} {K:AV→Prop} (h:iC f=f') (h2:xs=xs'):rb P st f xs H K=rb P st f' xs' H K:=by subst h;subst h2;rfl
theorem Jy {P:Px} {st:Bool} (g:FuncId) (first cap xs:List AV) (H:List aa) (K:AV→Prop):rb P st (.fn (.func g) first cap) xs H K=z5 P st g (first.map AV.ab++xs++cap.map AV.ab) H K:=agq
def jn (x:AV) (H:List aa) (φ:AV→Prop):Prop:=match x with | .al _ xs=>φ (.int .i64 xs.length) | x=>fR x H φ
@[congr] theorem Rq {x x':AV} {H:List aa} {φ:AV→Prop} (h:iC x=x'):jn x H φ=jn x' H φ:=by subst h;rfl
theorem Jz {x:AV} {H:List aa} {φ:AV→Prop} (h:jn x H φ):∃ z,fR x H (fun w=>w=z)∧φ z:=by
 cases x with
 | al o xs=>exact ⟨_,fun _=>rfl,h⟩
 | map id=>
   simp only [jn,fR] at h ⊢
   split at h
   ·exact ⟨_,rfl,h⟩
   ·exact h.elim
 | _=>first | exact ⟨_,rfl,h⟩ | exact False.elim h
def pU (kd:Nat) (neq:Bool) (x:AV) (φ:AV→Prop):Prop:=match isNil kd x with | some b=>φ (.bool (if neq then !b else b)) | none=>False
@[congr] theorem N3 {kd:Nat} {neq:Bool} {x x':AV} {φ:AV→Prop} (h:iC x=x'):pU kd neq x φ=pU kd neq x' φ:=by subst h;rfl
def xv (o:cu) (ρ:IX→AV) (H:List aa) (K:AV→Prop):Prop:=
 match o with
 | .set i false=>K (ρ i).ab
 | .pick c a b=>gE (ρ c) (K (ρ a).ab) (K (ρ b).ab)
 | .bin op i j=>dw op (ρ i) (ρ j) K
 | .shift op i j=>eX op (ρ i) (ρ j) K
 | .nu neq i j=>dA neq (ρ i) (ρ j) K
 | .ou kd neq i=>pU kd neq (ρ i) K
 | .un op i=>CM op (ρ i) K
 | .qQ i=>(ρ i).val=true∧K (.ah (ρ i))
 | .build z ps=>cr z.cells (ps.map fun q=>(q.1,q.2.1,ρ q.2.2)) K
 | .buildSlice own esz z len ps=>bi (List.replicate len (a9 z)) esz (ps.map fun q=>(q.1,ρ q.2)) fun xs=>K (.al own xs)
 | .load sz i=>a8 sz (ρ i) H K
 | .nilCheck i=>cw (ρ i) K
 | .fieldAddr off sz i=>au off sz (ρ i) K
 | .field off sz i=>gV off sz (ρ i) K
 | .indexAddr esz i j=>(∀ own xs,ρ i=.al own xs→∀ z∈xs,z.cells.length=esz)∧aG esz (ρ i) (ρ j) K
 | .ff i j=>bX (ρ i) (ρ j) K
 | .iR n i j=>cv n (ρ i) (ρ j) K
 | .slice esz i lo hi mx=>bH esz (ρ i) (lo.map ρ) (hi.map ρ) (mx.map ρ) K
 | .iS i lo hi=>db (ρ i) (lo.map ρ) (hi.map ρ) K
 | .len kd i=>aO kd (ρ i)∧jn (ρ i) H K
 | .lookup kd z m k ok=>dg kd z (ρ m) (ρ k) ok H K
 | .fn f first cap=>K (.fn f (first.map fun x=>(ρ x).ab) (cap.map fun x=>(ρ x).ab))
 | .extract i k=>bM (ρ i) k K
 | .jE k i=>dj k (ρ i) K
 | .mx big i j=>A0 big (ρ i) (ρ j) K
 | _=>False
theorem Dy {P:Px} {o:cu} {ρ:IX→AV} {H:List aa} {K:AV→Prop} (h:xv o ρ H K):∃ x,dT P o ρ H x∧K x:=by
 unfold xv at h
 split at h
 ·exact ⟨_,rfl,h⟩
 ·unfold gE fH at h
  simp only [dT,fH]
  split at h
  ·rename_i b hb
   cases b with
   | true=>exact ⟨_,⟨fun _=>rfl,fun e=>by cases e⟩,h.1 rfl⟩
   | false=>exact ⟨_,⟨fun e=>(by cases e),fun _=>rfl⟩,h.2 rfl⟩
  ·exact h.elim
 ·exact Lr h
 ·exact FW h
 ·exact Dt h
 ·unfold pU at h
  split at h
  ·rename_i b hb
   refine ⟨_,?_,h⟩
   simp only [dT,dR,hb]
  ·exact h.elim
 ·exact Pf h
 ·exact ⟨_,⟨h.1,rfl⟩,h.2⟩
 ·exact z4 h
 ·exact u0 h
 ·exact Jw h
 ·exact zd h
 ·exact xr h
 ·exact FX h
 ·obtain ⟨z,k1,k2⟩:=xt h.2
  exact ⟨z,⟨h.1,k1⟩,k2⟩
 ·exact za h
 ·exact zc h
 ·exact Dv h
 ·exact ze h
 ·obtain ⟨z,k1,k2⟩:=Jz h.2
  exact ⟨z,⟨h.1,k1⟩,k2⟩
 ·exact Dw h
 ·exact ⟨_,rfl,h⟩
 ·exact BB h
 ·exact BC h
 ·exact Pg h
 ·exact h.elim
theorem JA {P:Px} {o:cu} {ρ:IX→AV} {K:AV→Prop} (h:xv o ρ [] K):∃ x,(∀ H,dT P o ρ H x)∧K x:=by
 obtain ⟨x,h1,h2⟩:=Dy (P:=P) h
 have hs:o.stays=true:=by
  cases o <;> first | rfl | exact h.elim
 exact ⟨x,fun H=>by have:=zZ (e:=H) hs h1;simpa using this,h2⟩
def nl (P:Px) (st:Bool) (o:cu) (ρ:IX→AV) (H:List aa) (K:AV→Prop):Prop:=
 match o with
 | .call f args none=>rb P st (ρ f) (args.map fun x=>(ρ x).ab) H K
 | o=>xv o ρ (match st with | true=>H | false=>[]) K
theorem Ls {P:Px} {st:Bool} {o:cu} {ρ:IX→AV} {H:List aa} {K:AV→Prop} (h:nl P st o ρ H K):∃ x,dv P st o ρ H x∧K x:=by
 unfold nl at h
 split at h
 ·rename_i f args
  unfold rb at h
  split at h
  ·rename_i g first cap e
   obtain ⟨x,h1,h2⟩:=h
   cases st with
   | true=>exact ⟨x,by simp only [dv,dT,e];exact h1,h2⟩
   | false=>exact ⟨x,by simp only [dv,dT,e];exact h1,h2⟩
  ·exact h.elim
 ·cases st with
  | true=>exact Dy h
  | false=>exact JA h
def HI (P:Px) (st:Bool) (o:bO) (env:Env) (H:List aa) (K:Env→Prop):Prop:=
 match o.g with
 | none=>nl P st o.op (aE env) H fun x=>K (put o.dst x env)
 | some (g,want)=>eE (get env g) g want env (fun _=>nl P st o.op (aE env) H fun x=>K (put o.dst x env)) (fun _=>K (put o.dst (.tuple []) env))
theorem Dz {P:Px} {st:Bool} {o:bO} {env:Env} {H:List aa} {K1 K2:Env→Prop} (h:HI P st o env H K1) (hK:∀ e,K1 e→K2 e):zU P st o env H K2:=by
 unfold HI at h
 unfold zU
 split at h
 ·rename_i e
  rw [e]
  obtain ⟨x,h1,h2⟩:=Ls h
  exact ⟨x,h1,hK _ h2⟩
 ·rename_i g want e
  rw [e]
  unfold eE at h
  unfold kR
  dsimp only
  split at h
  ·rename_i b hb
   rw [hb]
   refine ⟨fun eb=>?_,fun eb=>hK _ (h.2 eb)⟩
   obtain ⟨x,h1,h2⟩:=Ls (h.1 eb)
   exact ⟨x,h1,hK _ h2⟩
  ·rename_i hb
   rw [hb]
   exact hK _ h
  ·exact h.elim
theorem DA {P:Px} {o:cu} {dst:Option Nat} {env:Env} {H:List aa} {K1 K2:Env→List aa→Prop} (h:bE P o dst env H K1) (hK:∀ e H',K1 e H'→K2 e H'):bE P o dst env H K2:=
 pQ (fun _ _=>rfl) h fun mods H' _ _ _ hk=>hK _ _ hk
theorem tU {P:Px} {o:bO} {env:Env} {H:List aa} {K1 K2:Env→List aa→Prop} (h:vI P o env H K1) (hK:∀ e H',K1 e H'→K2 e H'):vI P o env H K2:=by
 unfold vI at *
 split at h
 ·exact DA h hK
 ·rename_i g want e
  unfold kR at *
  split at h
  ·exact ⟨fun eb=>DA (h.1 eb) hK,fun eb=>hK _ _ (h.2 eb)⟩
  ·exact hK _ _ h
  ·exact h.elim
theorem tV {P:Px}:∀ {ops:List bO} {env:Env} {H:List aa} {K1 K2:Env→List aa→Prop},mF P ops env H K1→(∀ e H',K1 e H'→K2 e H')→mF P ops env H K2
 | [],_,_,_,_,h,hK=>hK _ _ h
 | o::r,_,_,_,_,h,hK=>tU h fun _ _ h=>tV h hK
def kj (P:Px):DT→Env→List aa→(Env→List aa→Prop)→Prop
 | .done,env,H,K=>K env H
 | .take st o r,env,H,K=>HI P st o env H fun env=>kj P r env H K
 | .br o t rest,env,H,K=>vI P o env H (fun env H=>kj P t env H K)∧kj P rest env H K
 | .nil,_,_,_=>True
theorem sy {P:Px}:∀ {t:DT} {env:Env} {H:List aa} {K1 K2:Env→List aa→Prop},kj P t env H K1→(∀ e H',K1 e H'→K2 e H')→CB P t env H K2
 | .done,_,_,_,_,h,hK=>hK _ _ h
 | .take st o r,_,_,_,_,h,hK=>Dz h fun _ h=>sy h hK
 | .br o t rest,_,_,_,_,h,hK=>⟨tU h.1 fun _ _ h=>sy h hK,sy h.2 hK⟩
 | .nil,_,_,_,_,h,hK=>trivial
def xw (P:Px) (f:AV) (lc:jL) (env:Env) (H:List aa) (K:Option Code→List aa→Prop):Prop:=
 match f with
 | .fn (.func g) first cap=>(∀ (as:Array Value) (w:World),(callFunc g as).run P.prog w=.ok (.enter g as) w)∧
    ∃ bV,yU (first.map AV.ab++[.qm H.length]++cap.map AV.ab) bV∧eD P g bV (H++[.loop .ready lc (mG lc.n env)]) fun _ H'=>behind H.length H' K
 | _=>False
theorem z6 {j:Option Code} {Q1 Q2:Exit→Env→List aa→Prop} {env:Env} {H:List aa} (h:sk j Q1 env H) (hQ:∀ x e H',Q1 x e H'→Q2 x e H'):sk j Q2 env H:=by
 unfold sk at *
 split at h <;> first | exact hQ _ _ _ h | exact h.elim
theorem vf {id:Nat} {H:List aa} {K1 K2:Option Code→List aa→Prop} (h:behind id H K1) (hK:∀ j H',K1 j H'→K2 j H'):behind id H K2:=by
 unfold behind at *
 split at h <;> first | exact hK _ _ h | exact h.elim
def mK (P:Px) (n0:Nat):IR→Env→List aa→(Exit→Env→List aa→Prop)→Prop
 | .skip,env,H,Q=>Q .normal env H
 | .region ops live,env,H,Q=>mF P ops env H fun aW H'=>Q .normal (ku live aW) H'
 | .draw t live,env,H,Q=>kj P t env H fun aW H'=>Q .normal (ku live aW) H'
 | .seq a b,env,H,Q=>mK P n0 a env H fun e aW H'=>match e with
   | .normal=>mK P n0 b aW H' Q
   | e=>Q e aW H'
 | .cond x a b,env,H,Q=>gE (aE env x) (mK P n0 a env H Q) (mK P n0 b env H Q)
 | .block id a,env,H,Q=>mK P n0 a env H fun e aW H'=>match e with
   | .exit id'=>if id'=id then Q .normal aW H' else Q (.exit id') aW H'
   | e=>Q e aW H'
 | .loop a,env,H,Q=>∃ (ι:Type) (I:ι→Prop) (se:ι→Env) (sh:ι→List aa) (μ:ι→Nat),(∃ i,I i∧Jb P.lo n0 env H (se i) (sh i))∧
    ∀ i,I i→mK P n0 a (se i) (sh i) fun e aW H'=>match e with
     | .normal=>∃ j,I j∧μ j < μ i∧Jb P.lo n0 aW H' (se j) (sh j)
     | e=>Q e aW H'
 | .exit id,env,H,Q=>Q (.exit id) env H
 | .ret,env,H,Q=>Q .ret env H
 | .never,env,H,Q=>False
 | .ma f lc,env,H,Q=>xw P (aE env f) lc env H fun j H''=>sk j Q env H''
theorem sA {P:Px} {n0:Nat}:∀ {ir:IR} {env:Env} {H:List aa} {Q1 Q2:Exit→Env→List aa→Prop},mK P n0 ir env H Q1→(∀ x e H',Q1 x e H'→Q2 x e H')→qp P n0 ir env H Q2:=by
 intro ir
 induction ir with
 | skip=>exact fun h hQ=>hQ _ _ _ h
 | region ops live=>exact fun h hQ=>tV h fun _ _ h=>hQ _ _ _ h
 | draw t live=>exact fun h hQ=>sy h fun _ _ h=>hQ _ _ _ h
 | seq a b FZ TZ=>
   exact fun h hQ=>FZ h fun x e H' h=>by
    cases x with
    | normal=>exact TZ h hQ
    | _=>exact hQ _ _ _ h
 | cond x a b FZ TZ=>
   intro env H Q1 Q2 h hQ
   unfold mK gE fH at h
   unfold qp fH
   split at h
   ·exact ⟨fun e=>FZ (h.1 e) hQ,fun e=>TZ (h.2 e) hQ⟩
   ·exact h.elim
 | block id a FZ=>
   exact fun h hQ=>FZ h fun x e H' h=>by
    cases x with
    | exit id'=>
      dsimp only at h ⊢
      split
      ·rename_i bF;rw [if_pos bF] at h;exact hQ _ _ _ h
      ·rename_i bF;rw [if_neg bF] at h;exact hQ _ _ _ h
    | _=>exact hQ _ _ _ h
 | loop a FZ=>
   intro env H Q1 Q2 h hQ
   obtain ⟨ι,I,se,sh,μ,h0,hs⟩:=h
   exact ⟨ι,I,se,sh,μ,h0,fun i hi=>FZ (hs i hi) fun x e H' h=>by
    cases x with
    | normal=>exact h
    | _=>exact hQ _ _ _ h⟩
 | exit id=>exact fun h hQ=>hQ _ _ _ h
 | ret=>exact fun h hQ=>hQ _ _ _ h
 | never=>exact fun h _=>h.elim
 | ma f lc=>
   intro env H Q1 Q2 h hQ
   unfold mK xw at h
   unfold qp
   split at h
   ·rename_i g first cap e
    obtain ⟨h1,bV,h2,h3⟩:=h
    rw [e]
    exact ⟨h1,bV,h2,h3.mono fun _ H' hb=>vf hb fun j H'' hg=>z6 hg hQ⟩
   ·exact h.elim
theorem gD.calls {P:Program} {f:FuncId} {fi:qq} (h:gD P f fi) {args:List AV} {H:List aa} {R:AV→List aa→Prop} (hn:Nat.ble args.length fi.n=true)
 (hw:mK P H.length fi.ir (cc 0 args) H fun e env H'=>(e=.normal∨e=.ret)∧bP H.length fi.rs env H' R):aA P f args H R:=
 h.FU (aea hn) (sA hw fun _ _ _ h=>h)
theorem gD.xx {P:Program} {f:FuncId} {fi:qq} (h:gD P f fi) {args:List AV} {H:List aa} {R:AV→List aa→Prop} (hn:Nat.ble args.length fi.n=true)
 (hw:mK ⟨P,some H.length⟩ H.length fi.ir (cc 0 args) H fun e env H'=>(e=.normal∨e=.ret)∧jP (ox H.length) H.length fi.rs env H' R):aA P f args H R:=
 h.OL (aea hn) (sA hw fun _ _ _ h=>h)
theorem gD.T3 {P:Program} {f:FuncId} {fi:qq} (h:gD P f fi) {args:List AV} {H:List aa} {R:AV→List aa→Prop} (hn:Nat.ble args.length fi.n=true)
 (hw:mK ⟨P,some H.length⟩ H.length fi.ir (cc 0 args) H fun e env H'=>(e=.normal∨e=.ret)∧jP (xm H.length) H.length fi.rs env H' R):jH P f args H R:=
 h.OM (aea hn) (sA hw fun _ _ _ h=>h)
section
variable {P:Px} {n0:Nat} {env:Env} {H:List aa} {Q:Exit→Env→List aa→Prop}
theorem Lt:mK P n0 .skip env H Q=Q .normal env H:=agq
theorem F0 (ops:List bO) (live:Option (List Nat)):mK P n0 (.region ops live) env H Q=mF P ops env H fun aW H'=>Q .normal (ku live aW) H':=agq
theorem Lu (t:DT) (live:Option (List Nat)):mK P n0 (.draw t live) env H Q=kj P t env H fun aW H'=>Q .normal (ku live aW) H':=agq
theorem Pp (a b:IR):mK P n0 (.seq a b) env H Q=mK P n0 a env H fun e aW H'=>match e with
 | .normal=>mK P n0 b aW H' Q
 | e=>Q e aW H':=agq
theorem DB (x:IX) (a b:IR):mK P n0 (.cond x a b) env H Q=gE (aE env x) (mK P n0 a env H Q) (mK P n0 b env H Q):=agq
theorem JB (id:Nat) (a:IR):mK P n0 (.block id a) env H Q=mK P n0 a env H fun e aW H'=>match e with
 | .exit id'=>if id'=id then Q .normal aW H' else Q (.exit id') aW H'
 | e=>Q e aW H':=agq
theorem z7 (f:IX) (lc:jL):mK P n0 (.ma f lc) env H Q=xw P (aE env f) lc env H fun j H''=>sk j Q env H'':=agq
theorem Lv (id:Nat):mK P n0 (.exit id) env H Q=Q (.exit id) env H:=agq
theorem Pq:mK P n0 .ret env H Q=Q .ret env H:=agq
@[congr] theorem V1 {ir:IR} {aW:Env} {H':List aa} (h:iC env=aW) (h2:H=H'):mK P n0 ir env H Q=mK P n0 ir aW H' Q:=by subst h;subst h2;rfl
@[congr] theorem T4 {ops:List bO} {aW:Env} {H':List aa} {K:Env→List aa→Prop} (h:iC env=aW) (h2:H=H'):mF P ops env H K=mF P ops aW H' K:=by subst h;subst h2;rfl
@[congr] theorem T5 {t:DT} {aW:Env} {H':List aa} {K:Env→List aa→Prop} (h:iC env=aW) (h2:H=H'):kj P t env H K=kj P t aW H' K:=by subst h;subst h2;rfl
theorem Lw (K:Env→List aa→Prop):mF P [] env H K=K env H:=agq
theorem T6 (d:Option Nat) (op:cu) (r:List bO) (K:Env→List aa→Prop):mF P (⟨none,d,op⟩::r) env H K=bE P op d env H fun env H=>mF P r env H K:=agq
theorem T7 (g:Nat) (w:Bool) (d:Option Nat) (op:cu) (r:List bO) (K:Env→List aa→Prop):mF P (⟨some (g,w),d,op⟩::r) env H K =
 eE (get env g) g w env (fun env=>bE P op d env H fun env H=>mF P r env H K) (fun env=>mF P r (put d (.tuple []) env) H K):=agq
theorem W2 (d:Option Nat) (op:cu) (K:Env→List aa→Prop):vI P ⟨none,d,op⟩ env H K=bE P op d env H K:=agq
theorem W3 (g:Nat) (w:Bool) (d:Option Nat) (op:cu) (K:Env→List aa→Prop):vI P ⟨some (g,w),d,op⟩ env H K =
 eE (get env g) g w env (fun env=>bE P op d env H K) (fun env=>K (put d (.tuple []) env) H):=agq
@[congr] theorem V2 {o:bO} {K:Env→List aa→Prop} {H':List aa} (h:iC H=H'):vI P o env H K=vI P o env H' K:=by subst h;rfl
@[congr] theorem V3 {o:cu} {d:Option Nat} {K:Env→List aa→Prop} {H':List aa} (h:iC H=H'):bE P o d env H K=bE P o d env H' K:=by subst h;rfl
theorem JC (K:Env→List aa→Prop):kj P .done env H K=K env H:=agq
theorem Ly (K:Env→List aa→Prop):kj P .nil env H K=True:=agq
theorem T8 (st:Bool) (d:Option Nat) (op:cu) (r:DT) (K:Env→List aa→Prop):kj P (.take st ⟨none,d,op⟩ r) env H K=nl P st op (aE env) H fun x=>kj P r (put d x env) H K:=agq
theorem T9 (st:Bool) (g:Nat) (w:Bool) (d:Option Nat) (op:cu) (r:DT) (K:Env→List aa→Prop):kj P (.take st ⟨some (g,w),d,op⟩ r) env H K =
 eE (get env g) g w env (fun _=>nl P st op (aE env) H fun x=>kj P r (put d x env) H K) (fun _=>kj P r (put d (.tuple []) env) H K):=agq
theorem Ps (o:bO) (t rest:DT) (K:Env→List aa→Prop):kj P (.br o t rest) env H K=(vI P o env H (fun env H=>kj P t env H K)∧kj P rest env H K):=agq
@[congr] theorem V4 {st:Bool} {o:cu} {ρ:IX→AV} {K:AV→Prop} {H':List aa} (h:iC H=H'):nl P st o ρ H K=nl P st o ρ H' K:=by subst h;rfl
theorem xy {P:Program} {a:IR} (ι:Type) (I:ι→Prop) (se:ι→Env) (sh:ι→List aa) (μ:ι→Nat) (i0:ι) (h0:I i0) (V0:sle n0 env H (se i0) (sh i0))
 (hs:∀ i,I i→mK P n0 a (se i) (sh i) fun e aW H'=>match e with
   | .normal=>∃ j,I j∧μ j < μ i∧sle n0 aW H' (se j) (sh j)
   | e=>Q e aW H'):mK P n0 (.loop a) env H Q:=⟨ι,I,se,sh,μ,⟨i0,h0,V0⟩,hs⟩
theorem aq {P:Program} {a:IR} (N:Nat) (I:Nat→Prop) (se:Nat→Env) (sh:Nat→List aa) (h0:I 0∧sle n0 env H (se 0) (sh 0))
 (hs:∀ i,i≤N→I i→mK P n0 a (se i) (sh i) fun e aW H'=>match e with
   | .normal=>∃ j,(j≤N∧I j)∧N - j < N - i∧sle n0 aW H' (se j) (sh j)
   | e=>Q e aW H'):mK P n0 (.loop a) env H Q:=
 ⟨Nat,fun i=>i≤N∧I i,se,sh,fun i=>N - i,⟨0,⟨ac6 _,h0.1⟩,h0.2⟩,fun i hi=>hs i hi.1 hi.2⟩
end
section
variable {φ:AV→Prop}
@[congr] theorem Rr {v v':AV} {ψ:Bool→Prop} (h:iC v=v'):fH v ψ=fH v' ψ:=by subst h;rfl
@[congr] theorem Ua {op:BinOp} {x x' y y':AV} (h:iC x=x') (h2:y=y'):dw op x y φ=dw op x' y' φ:=by subst h;subst h2;rfl
@[congr] theorem Pt {op:BinOp} {x x' y y':AV} (h:iC x=x') (h2:y=y'):eX op x y φ=eX op x' y' φ:=by subst h;subst h2;rfl
@[congr] theorem N4 {n:Bool} {x x' y y':AV} (h:iC x=x') (h2:y=y'):dA n x y φ=dA n x' y' φ:=by subst h;subst h2;rfl
@[congr] theorem Pu {k:Nat} {n:Bool} {x x':AV} (h:iC x=x'):dR k n x φ=dR k n x' φ:=by subst h;rfl
@[congr] theorem V5 {op:UnOp} {x x':AV} (h:iC x=x'):CM op x φ=CM op x' φ:=by subst h;rfl
@[congr] theorem Ru {sz:Option Nat} {x x':AV} {H H':List aa} (h:iC x=x') (h2:H=H'):a8 sz x H φ=a8 sz x' H' φ:=by subst h;subst h2;rfl
@[congr] theorem JD {off:Nat} {sz:Option Nat} {x x':AV} (h:iC x=x'):au off sz x φ=au off sz x' φ:=by subst h;rfl
@[congr] theorem Pv {off:Nat} {sz:Option Nat} {x x':AV} (h:iC x=x'):gV off sz x φ=gV off sz x' φ:=by subst h;rfl
@[congr] theorem JE {e:Nat} {x x' y y':AV} (h:iC x=x') (h2:y=y'):aG e x y φ=aG e x' y' φ:=by subst h;subst h2;rfl
@[congr] theorem Kv {n:Nat} {x x' y y':AV} (h:iC x=x') (h2:y=y'):cv n x y φ=cv n x' y' φ:=by subst h;subst h2;rfl
@[congr] theorem Kw {x x' y y':AV} (h:iC x=x') (h2:y=y'):bX x y φ=bX x' y' φ:=by subst h;subst h2;rfl
@[congr] theorem Ub {x x':AV} {H H':List aa} (h:iC x=x') (h2:H=H'):fR x H φ=fR x' H' φ:=by subst h;subst h2;rfl
@[congr] theorem Lz {x x':AV} {i:Nat} (h:iC x=x'):bM x i φ=bM x' i φ:=by subst h;rfl
@[congr] theorem Kx {x x':AV} (h:iC x=x'):cw x φ=cw x' φ:=by subst h;rfl
@[congr] theorem LA {k:IntKind} {x x':AV} (h:iC x=x'):dj k x φ=dj k x' φ:=by subst h;rfl
@[congr] theorem V6 {b:Bool} {x x' y y':AV} (h:iC x=x') (h2:y=y'):A0 b x y φ=A0 b x' y' φ:=by subst h;subst h2;rfl
@[congr] theorem N5 {kd:Nat} {z m m' k k':AV} {ok:Bool} {H H':List aa} (h:iC m=m') (h2:k=k') (h3:H=H'):dg kd z m k ok H φ=dg kd z m' k' ok H' φ:=by subst h;subst h2;subst h3;rfl
@[congr] theorem N6 {kd:Nat} {m m' k k' x x':AV} {H H':List aa} {K:List aa→Prop} (h:iC m=m') (h2:k=k') (h3:x=x') (h4:H=H'):iW kd m k x H K=iW kd m' k' x' H' K:=by subst h;subst h2;subst h3;subst h4;rfl
@[congr] theorem Pw {m:Nat} {p p' x x':AV} {H H':List aa} {K:List aa→Prop} (h:iC p=p') (h2:x=x') (h3:H=H'):kQ m p x H K=kQ m p' x' H' K:=by subst h;subst h2;subst h3;rfl
@[congr] theorem LB {p p' x x':AV} {H H':List aa} {K:List aa→Prop} (h:iC p=p') (h2:x=x') (h3:H=H'):fK p x H K=fK p' x' H' K:=by subst h;subst h2;subst h3;rfl
@[congr] theorem N7 {e b:Nat} {s s' x x':AV} {ψ:List AV→Prop} (h:iC s=s') (h2:x=x'):bC e b s x ψ=bC e b s' x' ψ:=by subst h;subst h2;rfl
@[congr] theorem Py {e b:Nat} {z n n':AV} {H H':List aa} {K:AV→List aa→Prop} (h:iC n=n') (h2:H=H'):gY e b z n H K=gY e b z n' H' K:=by subst h;subst h2;rfl
@[congr] theorem LC {e b:Nat} {z s s' x x':AV} {H H':List aa} {K:AV→List aa→Prop} (h:iC s=s') (h2:x=x') (h3:H=H'):b9 e b z s x H K=b9 e b z s' x' H' K:=by subst h;subst h2;subst h3;rfl
@[congr] theorem LD {lo e b:Nat} {z s s' x x':AV} {H H':List aa} {K:AV→List aa→Prop} (h:iC s=s') (h2:x=x') (h3:H=H'):fL lo e b z s x H K=fL lo e b z s' x' H' K:=by subst h;subst h2;subst h3;rfl
@[congr] theorem N8 {e:Nat} {z x x':AV} {H H':List aa} {K:List aa→Prop} (h:iC x=x') (h2:H=H'):jG e z x H K=jG e z x' H' K:=by subst h;subst h2;rfl
@[congr] theorem Rv {xs xs':List AV} {H H':List aa} {K:AV→List aa→Prop} (h:iC xs=xs') (h2:H=H'):qC xs H K=qC xs' H' K:=by subst h;subst h2;rfl
@[congr] theorem Pz {e b:Nat} {n n':AV} (h:iC n=n'):lV e b n φ=lV e b n' φ:=by subst h;rfl
@[congr] theorem Rw {e:Nat} {d d' s s':AV} {H H':List aa} {K:AV→List aa→Prop} (h:iC d=d') (h2:s=s') (h3:H=H'):mC e d s H K=mC e d' s' H' K:=by subst h;subst h2;subst h3;rfl
@[congr] theorem Rx {e:Nat} {x x':AV} {H H':List aa} {K:AV→List aa→Prop} (h:iC x=x') (h2:H=H'):jl e x H K=jl e x' H' K:=by subst h;subst h2;rfl
@[congr] theorem N9 {e:Nat} {x x':AV} {lo lo' hi lW m m':Option AV} (h:iC x=x') (h1:lo=lo') (h2:hi=lW) (h3:m=m'):bH e x lo hi m φ=bH e x' lo' lW m' φ:=by subst h;subst h1;subst h2;subst h3;rfl
@[congr] theorem Ky {x x':AV} {lo lo' hi lW:Option AV} (h:iC x=x') (h1:lo=lo') (h2:hi=lW):db x lo hi φ=db x lo' lW φ:=by subst h;subst h1;subst h2;rfl
@[congr] theorem Uc {n0:Nat} {rs:List RX} {env aW:Env} {H H':List aa} {R:AV→List aa→Prop} (h:iC env=aW) (h2:H=H'):bP n0 rs env H R=bP n0 rs aW H' R:=by subst h;subst h2;rfl
end
end Go.aI
end
section
namespace Go.aI
open Go
section
variable {P:Px} {env:Env} {H:List aa} {dst:Option Nat} {K:Env→List aa→Prop}
theorem Ud (op:BinOp) (x:IX) (y:IX):bE P (.bin op x y) dst env H K=(dw op (aE env x) (aE env y) fun z=>K (put dst z env) H):=agq
theorem LF (op:BinOp) (x:IX) (y:IX):bE P (.shift op x y) dst env H K=(eX op (aE env x) (aE env y) fun z=>K (put dst z env) H):=agq
theorem JF (neq:Bool) (x:IX) (y:IX):bE P (.nu neq x y) dst env H K=(dA neq (aE env x) (aE env y) fun z=>K (put dst z env) H):=agq
theorem LG (kd:Nat) (neq:Bool) (x:IX):bE P (.ou kd neq x) dst env H K=(dR kd neq (aE env x) fun z=>K (put dst z env) H):=agq
theorem W4 (op:UnOp) (x:IX):bE P (.un op x) dst env H K=(CM op (aE env x) fun z=>K (put dst z env) H):=agq
theorem Ue (x:IX):bE P (.box x) dst env H K=((aE env x).val=true∧aw (H.length + 1) ((aE env x).cells.map AV.ab)=true∧K (put dst (.ptr H.length 0) env) (H++[.cells ((aE env x).cells.map AV.ab)])):=agq
theorem PD (x:IX):bE P (.qQ x) dst env H K=((aE env x).val=true∧K (put dst (.ah (aE env x)) env) H):=agq
theorem PE (m:Nat) (x:IX):bE P (.wG m x) dst env H K=((aE env x).val=true∧(aE env x).cells.length=m∧(aE env x).cells.all AV.one=true∧K (put dst (.ah (aE env x)) env) H):=agq
theorem LH (z:AV):bE P (.alloc z) dst env H K=(aw (H.length + 1) (z.cells.map AV.ab)=true∧K (put dst (.ptr H.length 0) env) (H++[.cells (z.cells.map AV.ab)])):=agq
theorem LI (z:AV) (ps:List (Nat×Nat×IX)):bE P (.build z ps) dst env H K=(cr z.cells (ps.map fun q=>(q.1,q.2.1,aE env q.2.2)) fun v=>K (put dst v env) H):=agq
theorem zg (own:Nat) (esz:Nat) (z:AV) (len:Nat) (ps:List (Nat×IX)):bE P (.buildSlice own esz z len ps) dst env H K=(bi (List.replicate len (a9 z)) esz (ps.map fun q=>(q.1,aE env q.2)) fun xs=>K (put dst (.al own xs) env) H):=agq
theorem PF (sz:Option Nat) (a:IX):bE P (.load sz a) dst env H K=(a8 sz (aE env a) H fun z=>K (put dst z env) H):=agq
theorem LJ (sz:Option Nat) (esz:Nat) (a:IX):bE P (.zF sz esz a) dst env H K=(a8 sz (aE env a) H fun z=>jl esz z H fun y H'=>K (put dst y env) H'):=agq
theorem LK (m:Nat) (a:IX) (x:IX):bE P (.store m a x) dst env H K=(kQ m (aE env a) (aE env x) H fun H'=>K env H'):=agq
theorem JG {P:Program} {l:Nat} (m:Nat) (a:IX) (x:IX):bE ⟨P,some l⟩ (.tB m a x) dst env H K=(iU l m (aE env a) (aE env x) H fun H'=>K env H'):=agq
theorem xz {P:Program} {l:Nat} (esz bytes:Nat) (z:AV) (s x:IX):bE ⟨P,some l⟩ (.nz esz bytes z s x) dst env H K=(fL l esz bytes z (aE env s) (aE env x) H fun v H'=>K (put dst v env) H'):=agq
theorem F3 (a:IX) (s:Nat):bE P (.iQ a s) dst env H K=(fK (aE env a) (get env s) H fun H'=>K ((s,(get env s).ab)::env) H'):=agq
theorem DC (x:IX):bE P (.nilCheck x) dst env H K=(cw (aE env x) fun z=>K (put dst z env) H):=agq
theorem BD (off:Nat) (sz:Option Nat) (x:IX):bE P (.fieldAddr off sz x) dst env H K=(au off sz (aE env x) fun z=>K (put dst z env) H):=agq
theorem LL (off:Nat) (sz:Option Nat) (x:IX):bE P (.field off sz x) dst env H K=(gV off sz (aE env x) fun z=>K (put dst z env) H):=agq
theorem BE (esz:Nat) (x:IX) (i:IX):bE P (.indexAddr esz x i) dst env H K=((∀ own xs,aE env x=.al own xs→∀ z∈xs,z.cells.length=esz)∧aG esz (aE env x) (aE env i) fun z=>K (put dst z env) H):=agq
theorem DD (n:Nat) (x:IX) (i:IX):bE P (.iR n x i) dst env H K=(cv n (aE env x) (aE env i) fun z=>K (put dst z env) H):=agq
theorem JH (esz:Nat) (x:IX) (lo:Option IX) (hi:Option IX) (mx:Option IX):bE P (.wH esz x lo hi mx) dst env H K=((∀ own xs,aE env x=.al own xs→∀ z∈xs,z.cells.length=esz)∧gZ esz (aE env x) (jO env lo) (jO env hi) (jO env mx) fun z=>z=.al esz []∧K (put dst .oP env) H):=agq
theorem DE (x:IX) (i:IX):bE P (.ff x i) dst env H K=(bX (aE env x) (aE env i) fun z=>K (put dst z env) H):=agq
theorem LM (esz:Nat) (x:IX) (lo:Option IX) (hi:Option IX) (mx:Option IX):bE P (.slice esz x lo hi mx) dst env H K=(bH esz (aE env x) (jO env lo) (jO env hi) (jO env mx) fun z=>K (put dst z env) H):=agq
theorem PG (esz:Nat) (d:IX) (s:IX):bE P (.copy esz d s) dst env H K=(mC esz (aE env d) (aE env s) H fun z H'=>K (put dst z env) H'):=agq
theorem DF (x:IX) (lo:Option IX) (hi:Option IX):bE P (.iS x lo hi) dst env H K=(db (aE env x) (jO env lo) (jO env hi) fun z=>K (put dst z env) H):=agq
theorem Uf (kd:Nat) (x:IX):bE P (.len kd x) dst env H K=(aO kd (aE env x)∧fR (aE env x) H fun z=>K (put dst z env) H):=agq
theorem JI (esz:Nat) (bytes:Nat) (s:IX) (x:IX):bE P (.append esz bytes s x) dst env H K=(bC esz bytes (aE env s) (aE env x) fun zs=>K (put dst (.al esz zs) (dB env s.slot)) H):=agq
theorem LN (esz:Nat) (bytes:Nat) (z:AV) (n:IX):bE P (.zG esz bytes z n) dst env H K=(gY esz bytes z (aE env n) H fun v H'=>K (put dst v env) H'):=agq
theorem v9 (esz:Nat) (z:AV) (len:Nat) (ps:List (Nat×IX)):bE P (.IP esz z len ps) dst env H K=(bi (List.replicate len (a9 z)) esz (ps.map fun q=>(q.1,aE env q.2)) fun xs=>qC xs H fun v H'=>K (put dst v env) H'):=agq
theorem JJ (esz:Nat) (z:AV) (x:IX):bE P (.tC esz z x) dst env H K=(jG esz z (aE env x) H fun H'=>K (put dst (.tuple []) env) H'):=agq
theorem F4 (esz bytes:Nat) (z:AV) (s x:IX):bE P (.nw esz bytes z s x) dst env H K=(b9 esz bytes z (aE env s) (aE env x) H fun v H'=>K (put dst v env) H'):=agq
theorem LO (esz:Nat) (bytes:Nat) (n:IX):bE P (.wI esz bytes n) dst env H K=(lV esz bytes (aE env n) fun v=>K (put dst v env) H):=agq
theorem LP :bE P (.rT ) dst env H K=(K (put dst (.map H.length) env) (H++[.map []])):=agq
theorem JK (kd:Nat) (z:AV) (m:IX) (k:IX) (ok:Bool):bE P (.lookup kd z m k ok) dst env H K=(dg kd z (aE env m) (aE env k) ok H fun v=>K (put dst v env) H):=agq
theorem JL (kd:Nat) (m:IX) (k:IX) (x:IX):bE P (.oS kd m k x) dst env H K=(iW kd (aE env m) (aE env k) (aE env x) H fun H'=>K env H'):=agq
theorem W5 (f:Fn) (first:List IX) (cap:List IX):bE P (.fn f first cap) dst env H K=(K (put dst (.fn f (first.map fun x=>(aE env x).ab) (cap.map fun x=>(aE env x).ab)) env) H):=agq
theorem F5 (x:IX) (i:Nat):bE P (.extract x i) dst env H K=(bM (aE env x) i fun z=>K (put dst z env) H):=agq
theorem F6 (k:IntKind) (x:IX):bE P (.jE k x) dst env H K=(dj k (aE env x) fun z=>K (put dst z env) H):=agq
theorem F7 (x:IX):bE P (.nv x) dst env H K=(jM (aE env x) fun z=>K (put dst z env) H):=agq
theorem F8 (x:IX):bE P (.bytesOf x) dst env H K=(iV 1 (aE env x) fun z=>K (put dst z env) H):=agq
theorem LQ (x:IX):bE P (.strOf x) dst env H K=(nF (aE env x) fun z=>K (put dst z env) H):=agq
theorem W6 (big:Bool) (a:IX) (b:IX):bE P (.mx big a b) dst env H K=(A0 big (aE env a) (aE env b) fun z=>K (put dst z env) H):=agq
theorem PH (esz:Nat) (x:IX):bE P (.Ff esz x) dst env H K=(jl esz (aE env x) H fun z H'=>K (put dst z env) H'):=agq
theorem LR (x:IX) (take:Bool):bE P (.set x take) none env H K=K env H:=agq
theorem Ug (d:Nat) (x:IX):bE P (.set x false) (some d) env H K=K ((d,(aE env x).ab)::env) H:=by cases x <;> rfl
theorem PI (d s:Nat):bE P (.set (.t s) true) (some d) env H K=K ((d,get env s)::(s,(get env s).ab)::env) H:=agq
theorem LS (d:Nat) (v:AV):bE P (.set (.c v) true) (some d) env H K=K ((d,v.ab)::env) H:=agq
theorem PJ (c a b:IX):bE P (.pick c a b) dst env H K=gE (aE env c) (K (put dst (aE env a).ab env) H) (K (put dst (aE env b).ab env) H):=agq
theorem PK (f:IX) (args:List IX) (pass:Option Nat):bE P (.call f args pass) dst env H K=rY P (aE env f) args pass env H (fun r aW H'=>K (put dst r aW) H'):=agq
end
section
variable {P:Px} {st:Bool} {ρ:IX→AV} {H:List aa} {K:AV→Prop}
theorem Uh (i:IX):nl P st (.set i false) ρ H K=K (ρ i).ab:=by cases st <;> rfl
theorem PL (c:IX) (a:IX) (b:IX):nl P st (.pick c a b) ρ H K=(gE (ρ c) (K (ρ a).ab) (K (ρ b).ab)):=agq
theorem Ui (op:BinOp) (i:IX) (j:IX):nl P st (.bin op i j) ρ H K=(dw op (ρ i) (ρ j) K):=agq
theorem LU (op:BinOp) (i:IX) (j:IX):nl P st (.shift op i j) ρ H K=(eX op (ρ i) (ρ j) K):=agq
theorem JM (neq:Bool) (i:IX) (j:IX):nl P st (.nu neq i j) ρ H K=(dA neq (ρ i) (ρ j) K):=agq
theorem LV (kd:Nat) (neq:Bool) (i:IX):nl P st (.ou kd neq i) ρ H K=(pU kd neq (ρ i) K):=agq
theorem W7 (op:UnOp) (i:IX):nl P st (.un op i) ρ H K=(CM op (ρ i) K):=agq
theorem PM (i:IX):nl P st (.qQ i) ρ H K=((ρ i).val=true∧K (.ah (ρ i))):=agq
theorem LW (z:AV) (ps:List (Nat×Nat×IX)):nl P st (.build z ps) ρ H K=(cr z.cells (ps.map fun q=>(q.1,q.2.1,ρ q.2.2)) K):=agq
theorem zh (own:Nat) (esz:Nat) (z:AV) (len:Nat) (ps:List (Nat×IX)):nl P st (.buildSlice own esz z len ps) ρ H K=(bi (List.replicate len (a9 z)) esz (ps.map fun q=>(q.1,ρ q.2)) fun xs=>K (.al own xs)):=agq
theorem BF (sz:Option Nat) (i:IX):nl P true (.load sz i) ρ H K=(a8 sz (ρ i) H K):=agq
theorem zi (sz:Option Nat) (i:IX):nl P false (.load sz i) ρ H K=(a8 sz (ρ i) [] K):=agq
theorem DG (i:IX):nl P st (.nilCheck i) ρ H K=(cw (ρ i) K):=agq
theorem BG (off:Nat) (sz:Option Nat) (i:IX):nl P st (.fieldAddr off sz i) ρ H K=(au off sz (ρ i) K):=agq
theorem LX (off:Nat) (sz:Option Nat) (i:IX):nl P st (.field off sz i) ρ H K=(gV off sz (ρ i) K):=agq
theorem BH (esz:Nat) (i:IX) (j:IX):nl P st (.indexAddr esz i j) ρ H K=((∀ own xs,ρ i=.al own xs→∀ z∈xs,z.cells.length=esz)∧aG esz (ρ i) (ρ j) K):=agq
theorem DH (n:Nat) (i:IX) (j:IX):nl P st (.iR n i j) ρ H K=(cv n (ρ i) (ρ j) K):=agq
theorem DI (i:IX) (j:IX):nl P st (.ff i j) ρ H K=(bX (ρ i) (ρ j) K):=agq
theorem LY (esz:Nat) (i:IX) (lo:Option IX) (hi:Option IX) (mx:Option IX):nl P st (.slice esz i lo hi mx) ρ H K=(bH esz (ρ i) (lo.map ρ) (hi.map ρ) (mx.map ρ) K):=agq
theorem DJ (i:IX) (lo:Option IX) (hi:Option IX):nl P st (.iS i lo hi) ρ H K=(db (ρ i) (lo.map ρ) (hi.map ρ) K):=agq
theorem DK (kd:Nat) (i:IX):nl P true (.len kd i) ρ H K=(aO kd (ρ i)∧jn (ρ i) H K):=agq
theorem BI (kd:Nat) (i:IX):nl P false (.len kd i) ρ H K=(aO kd (ρ i)∧jn (ρ i) [] K):=agq
theorem xA (kd:Nat) (z:AV) (m:IX) (k:IX) (ok:Bool):nl P true (.lookup kd z m k ok) ρ H K=(dg kd z (ρ m) (ρ k) ok H K):=agq
theorem vL (kd:Nat) (z:AV) (m:IX) (k:IX) (ok:Bool):nl P false (.lookup kd z m k ok) ρ H K=(dg kd z (ρ m) (ρ k) ok [] K):=agq
theorem W8 (f:Fn) (first:List IX) (cap:List IX):nl P st (.fn f first cap) ρ H K=(K (.fn f (first.map fun x=>(ρ x).ab) (cap.map fun x=>(ρ x).ab))):=agq
theorem F9 (i:IX) (k:Nat):nl P st (.extract i k) ρ H K=(bM (ρ i) k K):=agq
theorem Ga (k:IntKind) (i:IX):nl P st (.jE k i) ρ H K=(dj k (ρ i) K):=agq
theorem W9 (big:Bool) (i:IX) (j:IX):nl P st (.mx big i j) ρ H K=(A0 big (ρ i) (ρ j) K):=agq
theorem PN (f:IX) (args:List IX):nl P st (.call f args none) ρ H K=rb P st (ρ f) (args.map fun x=>(ρ x).ab) H K:=agq
end
theorem Gb (env:Env):ku none env=env:=agq
theorem JN (env:Env):ku (some []) env=[]:=agq
theorem Gc (env:Env) (t:Nat) (l:List Nat):ku (some (t::l)) env=(t,get env t)::ku (some l) env:=agq
theorem Ge (k:Nat):cc k []=[]:=agq
theorem DL (k:Nat) (x:AV) (xs:List AV):cc k (x::xs)=(k,x)::cc (k + 1) xs:=agq
theorem Uj (env:Env) (s:Nat):aE env (.t s)=get env s:=agq
theorem Uk (env:Env) (v:AV):aE env (.c v)=v:=agq
theorem mL (o:Nat) (xs:List AV) (H:List aa) (φ:AV→Prop):jn (.al o xs) H φ=φ (.int .i64 xs.length):=agq
theorem Gf (H:List aa) (φ:AV→Prop):jn .ag H φ=φ (.int .i64 0):=agq
theorem JO (s:ByteArray) (H:List aa) (φ:AV→Prop):jn (.str s) H φ=φ (.int .i64 s.size):=agq
theorem JP (a b c d:Nat) (H:List aa) (φ:AV→Prop):jn (.aZ a b c d) H φ=φ (.int .i64 c):=agq
theorem LZ {α β:Type} (f:α→β):List.map f []=[]:=agq
theorem JQ {α β:Type} (f:α→β) (x:α) (xs:List α):List.map f (x::xs)=f x::List.map f xs:=agq
end Go.aI
end
section
namespace Go.aI
open Go
theorem ga0 (H e:List aa):(H++e)[H.length]?=e[0]?:=by
 rw [abx (zy _),acG]
theorem ga (H e:List aa) (i:Nat):(H++e)[H.length + i]?=e[i]?:=by
 rw [abx (Nat.le_add_right _ _),Nat.add_sub_cancel_left]
theorem sa0 (H e:List aa) (x:aa):(H++e).set H.length x=H++e.set 0 x:=by
 rw [acF _ _ (zy _),acG]
theorem sa (H e:List aa) (i:Nat) (x:aa):(H++e).set (H.length + i) x=H++e.set i x:=by
 rw [acF _ _ (Nat.le_add_right _ _),Nat.add_sub_cancel_left]
theorem acL (H e f:List aa):(H++e)++f=H++(e++f):=abe _ _ _
theorem Ww (H e:List aa):(H++e).length=H.length + e.length:=aaj
theorem g0 {α:Type} (x:α) (r:List α):(x::r)[0]?=some x:=by simp
theorem g1 {α:Type} (x y:α) (r:List α):(x::y::r)[1]?=some y:=by simp
theorem g2 {α:Type} (x y z:α) (r:List α):(x::y::z::r)[2]?=some z:=by simp
theorem s0 {α:Type} (x u:α) (r:List α):(x::r).set 0 u=u::r:=by simp
theorem s1 {α:Type} (x y u:α) (r:List α):(x::y::r).set 1 u=x::u::r:=by simp
theorem s2 {α:Type} (x y z u:α) (r:List α):(x::y::z::r).set 2 u=x::y::u::r:=by simp
theorem d0 {α:Type} (x d:α) (r:List α):(x::r).getD 0 d=x:=by simp
theorem d1 {α:Type} (x y d:α) (r:List α):(x::y::r).getD 1 d=y:=by simp
theorem d2 {α:Type} (x y z d:α) (r:List α):(x::y::z::r).getD 2 d=z:=by simp
theorem Xa (x y:AV):ai [x] 0 [y]=[y]:=by simp [ai]
theorem Gg {x:AV} {H:List aa} {φ ψ:AV→Prop} (hm:∀ z,φ z→ψ z) (h:jn x H φ):jn x H ψ:=by
 unfold jn at *
 split at h
 ·exact hm _ h
 ·exact tQ hm h
theorem Gh {o:cu} {ρ:IX→AV} {H:List aa} {K K':AV→Prop} (h:xv o ρ H K) (hK:∀ x,K x→K' x):xv o ρ H K':=by
 unfold xv at *
 split at h
 ·exact hK _ h
 ·unfold gE fH at *
  split at h
  ·exact ⟨fun e=>hK _ (h.1 e),fun e=>hK _ (h.2 e)⟩
  ·exact h.elim
 ·exact tP hK h
 ·exact o9 hK h
 ·exact nN hK h
 ·unfold pU at *
  split at h
  ·exact hK _ h
  ·exact h.elim
 ·exact xg hK h
 ·exact ⟨h.1,hK _ h.2⟩
 ·exact nQ (fun _ h=>hK _ h) h
 ·exact iY (fun _ h=>hK _ h) h
 ·exact kT hK h
 ·exact kW hK h
 ·exact kg hK h
 ·exact pc hK h
 ·exact ⟨h.1,kh hK h.2⟩
 ·exact kU hK h
 ·exact kV hK h
 ·exact nP hK h
 ·exact kX hK h
 ·exact ⟨h.1,Gg hK h.2⟩
 ·exact nO hK h
 ·exact hK _ h
 ·exact mb hK h
 ·exact mc hK h
 ·exact xh hK h
 ·exact h.elim
theorem dX {P:Px}:∀ {t:DT} {env:Env} {H:List aa} {K1 K2:Env→List aa→Prop},kj P t env H K1→(∀ e H',K1 e H'→K2 e H')→kj P t env H K2
 | .done,_,_,_,_,h,hK=>hK _ _ h
 | .take st o r,_,_,_,_,h,hK=>by
   unfold kj HI at *
   have key:∀ {env:Env} {H:List aa} {K:AV→Prop} {K':AV→Prop},nl P st o.op (aE env) H K→(∀ x,K x→K' x)→nl P st o.op (aE env) H K':=by
    intro env H K K' h hK
    unfold nl at *
    split at h
    ·unfold rb at *
     split at h
     ·obtain ⟨x,h1,h2⟩:=h;exact ⟨x,h1,hK _ h2⟩
     ·exact h.elim
    ·exact Gh h hK
   split at h
   ·exact key h fun _ h=>dX h hK
   ·unfold eE at *
    split at h
    ·exact ⟨fun e=>key (h.1 e) fun _ h=>dX h hK,fun e=>dX (h.2 e) hK⟩
    ·exact dX h hK
    ·exact h.elim
 | .br o t rest,_,_,_,_,h,hK=>⟨tU h.1 fun _ _ h=>dX h hK,dX h.2 hK⟩
 | .nil,_,_,_,_,h,hK=>trivial
theorem mM {P:Px} {n0:Nat}:∀ {ir:IR} {env:Env} {H:List aa} {Q1 Q2:Exit→Env→List aa→Prop},mK P n0 ir env H Q1→(∀ x e H',Q1 x e H'→Q2 x e H')→mK P n0 ir env H Q2:=by
 intro ir
 induction ir with
 | skip=>exact fun h hQ=>hQ _ _ _ h
 | region ops live=>exact fun h hQ=>tV h fun _ _ h=>hQ _ _ _ h
 | draw t live=>exact fun h hQ=>dX h fun _ _ h=>hQ _ _ _ h
 | seq a b FZ TZ=>
   exact fun h hQ=>FZ h fun x e H' h=>by
    cases x with
    | normal=>exact TZ h hQ
    | _=>exact hQ _ _ _ h
 | cond x a b FZ TZ=>
   intro env H Q1 Q2 h hQ
   rw [DB] at *
   unfold gE fH at *
   split at h
   ·exact ⟨fun e=>FZ (h.1 e) hQ,fun e=>TZ (h.2 e) hQ⟩
   ·exact h.elim
 | block id a FZ=>
   exact fun h hQ=>FZ h fun x e H' h=>by
    cases x with
    | exit id'=>
      dsimp only at h ⊢
      split
      ·rename_i bF;rw [if_pos bF] at h;exact hQ _ _ _ h
      ·rename_i bF;rw [if_neg bF] at h;exact hQ _ _ _ h
    | _=>exact hQ _ _ _ h
 | loop a FZ=>
   intro env H Q1 Q2 h hQ
   obtain ⟨ι,I,se,sh,μ,h0,hs⟩:=h
   exact ⟨ι,I,se,sh,μ,h0,fun i hi=>FZ (hs i hi) fun x e H' h=>by
    cases x with
    | normal=>exact h
    | _=>exact hQ _ _ _ h⟩
 | exit id=>exact fun h hQ=>hQ _ _ _ h
 | ret=>exact fun h hQ=>hQ _ _ _ h
 | never=>exact fun h _=>h.elim
 | ma f lc=>
   intro env H Q1 Q2 h hQ
   rw [z7] at *
   unfold xw at *
   split at h
   ·obtain ⟨h1,bV,h2,h3⟩:=h
    exact ⟨h1,bV,h2,h3.mono fun _ H' hb=>vf hb fun j H'' hg=>z6 hg hQ⟩
   ·exact h.elim
theorem acM (a b y:AV):ai [a,b] 0 [y]=[y,b]:=by simp [ai]
theorem acN (a b y:AV):ai [a,b] 1 [y]=[a,y]:=by simp [ai]
theorem acO (a b c y:AV):ai [a,b,c] 0 [y]=[y,b,c]:=by simp [ai]
theorem acP (a b c y:AV):ai [a,b,c] 1 [y]=[a,y,c]:=by simp [ai]
theorem acQ (a b c y:AV):ai [a,b,c] 2 [y]=[a,b,y]:=by simp [ai]
theorem acR (a b c x y z:AV):ai [a,b,c] 0 [x,y,z]=[x,y,z]:=by simp [ai]
theorem Ul (k k':IntKind) (a b:Int) (φ:AV→Prop):A0 true (.int k a) (.int k' b) φ=φ (.int k (max a b)):=by
 have:(if a < b then b else a)=max a b:=by rw [Int.max_def];split <;> split <;> omega
 simp [A0,this]
theorem Um (k k':IntKind) (a b:Int) (φ:AV→Prop):A0 false (.int k a) (.int k' b) φ=φ (.int k (min a b)):=by
 have:(if b < a then b else a)=min a b:=by rw [Int.min_def];split <;> split <;> omega
 simp [A0,this]
def cS (o:Option aa) (sz:Option Nat) (off:Nat) (φ:AV→Prop):Prop:=
 match o with
 | some (.cells es)=>match sz with
   | some m=>off + m≤es.length∧φ (.agg (((es.drop off).take m).map AV.drop))
   | none=>off < es.length∧φ (es.getD off .any).ab
 | _=>False
@[congr] theorem Ry {o o':Option aa} {sz:Option Nat} {off:Nat} {φ:AV→Prop} (h:iC o=o'):cS o sz off φ=cS o' sz off φ:=by subst h;rfl
theorem L5 (sz:Option Nat) (id off:Nat) (H:List aa) (φ:AV→Prop):a8 sz (.ptr id off) H φ=cS H[id]? sz off φ:=by
 unfold a8 cS;rfl
theorem sB (es:List AV) (off:Nat) (φ:AV→Prop):cS (some (.cells es)) none off φ=(off < es.length∧φ (es.getD off .any).ab):=agq
theorem HJ (a b c:AV) (φ:AV→Prop):cS (some (.cells [a,b,c])) (some 3) 0 φ=φ (.agg [a.drop,b.drop,c.drop]):=by simp [cS]
theorem PO (a b:AV) (φ:AV→Prop):cS (some (.cells [a,b])) (some 2) 0 φ=φ (.agg [a.drop,b.drop]):=by simp [cS]
def hZ (o:Option aa) (m id off:Nat) (x:AV) (H:List aa) (K:List aa→Prop):Prop:=
 match o with
 | some (.cells es)=>x.val=true∧x.cells.length=m∧off + m≤es.length∧x.cells.all AV.one=true∧aw (id + 1) (x.cells.map AV.ab)=true∧
    K (H.set id (.cells (ai es off (x.cells.map AV.ab))))
 | _=>False
@[congr] theorem PR {o o':Option aa} {m id off:Nat} {x:AV} {H:List aa} {K:List aa→Prop} (h:iC o=o') {x':AV} (h2:x=x'):hZ o m id off x H K=hZ o' m id off x' H K:=by subst h;subst h2;rfl
theorem JR (m id off:Nat) (x:AV) (H:List aa) (K:List aa→Prop):kQ m (.ptr id off) x H K=hZ H[id]? m id off x H K:=by
 unfold kQ hZ;rfl
theorem pn (es:List AV) (m id off:Nat) (x:AV) (H:List aa) (K:List aa→Prop):hZ (some (.cells es)) m id off x H K=(x.val=true∧x.cells.length=m∧off + m≤es.length∧x.cells.all AV.one=true∧aw (id + 1) (x.cells.map AV.ab)=true∧
 K (H.set id (.cells (ai es off (x.cells.map AV.ab))))):=agq
def sC (o:Option aa) (l m id off:Nat) (x:AV) (H:List aa) (K:List aa→Prop):Prop:=
 match o with
 | some (.cells es)=>l≤id∧x.val=true∧x.cells.length=m∧off + m≤es.length∧x.cells.all AV.one=true∧aw H.length (x.cells.map AV.ab)=true∧
    K (H.set id (.cells (ai es off (x.cells.map AV.ab))))
 | _=>False
@[congr] theorem Ob {o o':Option aa} {l m id off:Nat} {x:AV} {H:List aa} {K:List aa→Prop} (h:iC o=o') {x':AV} (h2:x=x'):sC o l m id off x H K=sC o' l m id off x' H K:=by subst h;subst h2;rfl
theorem Gi (l m id off:Nat) (x:AV) (H:List aa) (K:List aa→Prop):iU l m (.ptr id off) x H K=sC H[id]? l m id off x H K:=by
 unfold iU sC;rfl
theorem JS (es:List AV) (l m id off:Nat) (x:AV) (H:List aa) (K:List aa→Prop):sC (some (.cells es)) l m id off x H K=(l≤id∧x.val=true∧x.cells.length=m∧off + m≤es.length∧x.cells.all AV.one=true∧aw H.length (x.cells.map AV.ab)=true∧
 K (H.set id (.cells (ai es off (x.cells.map AV.ab))))):=agq
@[congr] theorem Oe {l m:Nat} {p p' x:AV} {H H':List aa} {K:List aa→Prop} (h:iC p=p') (h2:H=H'):iU l m p x H K=iU l m p' x H' K:=by subst h;subst h2;rfl
theorem JT (e:Nat) (xs:List AV) (H:List aa) (K:AV→List aa→Prop):jl e (.agg xs) H K=nI e xs H fun ys H'=>K (.agg ys) H':=agq
theorem Gj (e:Nat) (H:List aa) (K:List AV→List aa→Prop):nI e [] H K=K [] H:=agq
theorem DM (e:Nat) (x:AV) (r:List AV) (H:List aa) (K:List AV→List aa→Prop):nI e (x::r) H K=eK e x H fun y H'=>nI e r H' fun ys H''=>K (y::ys) H'':=agq
theorem Gk (e:Nat) (k:IntKind) (n:Int) (H:List aa) (K:AV→List aa→Prop):eK e (.int k n) H K=K (.int k n) H:=agq
def Gl:=tg @JG (tg @Gi (tg @JS (tg @LJ (tg @JT (tg @Gj (tg @DM @Gk))))))
def gM (o:Option aa) (kd:Nat) (zero k:AV) (ok:Bool) (φ:AV→Prop):Prop:=
 match o with
 | some (.map es)=>match dL kd k es 0 with
   | some (some (_,v))=>φ (if ok then .tuple [v.drop,.bool true] else v.drop)
   | some none=>de kd k k=some true∧φ (if ok then .tuple [a9 zero,.bool false] else a9 zero)
   | none=>False
 | _=>False
@[congr] theorem Of {o o':Option aa} {kd:Nat} {z k k':AV} {ok:Bool} {φ:AV→Prop} (h:iC o=o') (h2:k=k'):gM o kd z k ok φ=gM o' kd z k' ok φ:=by subst h;subst h2;rfl
theorem Gm (kd id:Nat) (z k:AV) (ok:Bool) (H:List aa) (φ:AV→Prop):dg kd z (.map id) k ok H φ=gM H[id]? kd z k ok φ:=by
 unfold dg gM;rfl
def fy (o:Option aa) (kd id:Nat) (k x:AV) (H:List aa) (K:List aa→Prop):Prop:=
 match o with
 | some (.map es)=>k.bc (id + 1)=true∧x.bc (id + 1)=true∧x.val=true∧match dL kd k es 0 with
    | some (some (i,_))=>K (H.set id (.map (es.set i (k,a9 x))))
    | some none=>de kd k k=some true∧K (H.set id (.map (es++[(k,a9 x)])))
    | none=>False
 | _=>False
@[congr] theorem Og {o o':Option aa} {kd id:Nat} {k k' x x':AV} {H:List aa} {K:List aa→Prop} (h:iC o=o') (h2:k=k') (h3:x=x'):fy o kd id k x H K=fy o' kd id k' x' H K:=by subst h;subst h2;subst h3;rfl
theorem Gn (kd id:Nat) (k x:AV) (H:List aa) (K:List aa→Prop):iW kd (.map id) k x H K=fy H[id]? kd id k x H K:=by
 unfold iW fy;rfl
def z8 (o:Option aa) (d id off:Nat) (env:Env) (H:List aa) (K:Env→List aa→Prop):Prop:=
 match o with
 | some (.cells es)=>off < es.length∧K ((d,es.getD off .any)::env) (H.set id (.cells (es.set off (es.getD off .any).ab)))
 | _=>False
@[congr] theorem Rz {o o':Option aa} {d id off:Nat} {env:Env} {H:List aa} {K:Env→List aa→Prop} (h:iC o=o'):z8 o d id off env H K=z8 o' d id off env H K:=by subst h;rfl
theorem PT (es:List AV) (d id off:Nat) (env:Env) (H:List aa) (K:Env→List aa→Prop):z8 (some (.cells es)) d id off env H K=(off < es.length∧K ((d,es.getD off .any)::env) (H.set id (.cells (es.set off (es.getD off .any).ab)))):=agq
def DN (v:AV) (d:Nat) (env:Env) (H:List aa) (K:Env→List aa→Prop):Prop:=
 match v with
 | .ptr id off=>z8 H[id]? d id off env H K
 | _=>False
@[congr] theorem RA {v v':AV} {d:Nat} {env:Env} {H:List aa} {K:Env→List aa→Prop} (h:iC v=v'):DN v d env H K=DN v' d env H K:=by subst h;rfl
theorem PU (id off d:Nat) (env:Env) (H:List aa) (K:Env→List aa→Prop):DN (.ptr id off) d env H K=z8 H[id]? d id off env H K:=agq
theorem L6 {P:Px} (a:IX) (d:Nat) (env:Env) (H:List aa) (K:Env→List aa→Prop):bE P (.gv a) (some d) env H K=DN (aE env a) d env H K:=by
 simp only [bE,DN,z8]
 cases aE env a <;> rfl
def L7 (o:Option aa) (id off:Nat) (x:AV) (H:List aa) (K:List aa→Prop):Prop:=
 match o with
 | some (.cells es)=>off < es.length∧x.one=true∧x.bc (id + 1)=true∧K (H.set id (.cells (es.set off x)))
 | _=>False
@[congr] theorem Un {o o':Option aa} {id off:Nat} {x x':AV} {H:List aa} {K:List aa→Prop} (h:iC o=o') (h2:x=x'):L7 o id off x H K=L7 o' id off x' H K:=by subst h;subst h2;rfl
theorem PV (id off:Nat) (x:AV) (H:List aa) (K:List aa→Prop):fK (.ptr id off) x H K=L7 H[id]? id off x H K:=by
 unfold fK L7;rfl
theorem Uo (es:List AV) (id off:Nat) (x:AV) (H:List aa) (K:List aa→Prop):L7 (some (.cells es)) id off x H K=(off < es.length∧x.one=true∧x.bc (id + 1)=true∧K (H.set id (.cells (es.set off x)))):=agq
theorem bd2 (x y:AV) (φ:AV→Prop):cr [.int .i64 0,.int .i64 0,.ag] [(0,1,x),(1,1,y)] φ=(x.val=true∧x.cells.length=1∧y.val=true∧y.cells.length=1∧φ (.agg (ai (ai [.int .i64 0,.int .i64 0,.ag] 0 (x.cells.map AV.ab)) 1 (y.cells.map AV.ab)))):=by
 simp only [cr,gb,eq_iff_iff]
 constructor
 ·rintro ⟨h1,h2,h3,h4,h5,h6,h7⟩;exact ⟨h1,h2,h4,h5,h7⟩
 ·rintro ⟨h1,h2,h4,h5,h7⟩
  have e1:(x.cells.map AV.ab).length=1:=by simpa using h2
  refine ⟨h1,h2,by simp,h4,h5,?_,h7⟩
  simp [ai,h2]
theorem bd0 (cs:List AV) (φ:AV→Prop):cr cs [] φ=φ (.agg cs):=agq
theorem lK (e b:Nat) (ys:List AV) (o:Nat) (ψ:List AV→Prop):bC e b .ag (.al o ys) ψ=(ys.length * b≤140737488355328∧qR e ys∧ψ ys):=by
 simp [bC,oY,dK]
theorem jv (e b:Nat) (xs ys:List AV) (o:Nat) (ψ:List AV→Prop):bC e b (.al e xs) (.al o ys) ψ=((xs.length + ys.length) * b≤140737488355328∧qR e ys∧ψ (xs++ys)):=by
 simp [bC,oY,dK]
theorem acS (n:Nat):(IX.t n).slot=some n:=agq
theorem acT (v:AV):(IX.c v).slot=none:=agq
theorem L8 (id:Nat) (H:List aa) (φ:AV→Prop):a8 none (.ah (.map id)) H φ=φ (.map id):=by simp [a8,AV.one,Lj]
theorem Uq (id off:Nat) (H:List aa) (φ:AV→Prop):a8 none (.ah (.ptr id off)) H φ=φ (.ptr id off):=by simp [a8,AV.one,Li]
theorem PW (b:Bool):(AV.bool b).one=true:=agq
theorem Ur (k:IntKind) (n:Int):(AV.int k n).one=true:=agq
theorem Us (s:ByteArray):(AV.str s).one=true:=agq
theorem Ut (o:Nat) (xs:List AV):(AV.al o xs).one=true:=agq
theorem PX:AV.ag.one=true:=agq
theorem Xb (f:Fn) (a b:List AV):(AV.fn f a b).one=true:=agq
theorem Uu (a b:Nat):(AV.ptr a b).one=true:=agq
theorem PY (x:AV):(AV.ah x).one=true:=agq
theorem Uv (a:Nat):(AV.map a).one=true:=agq
theorem acU {α:Type} (p:α→Bool) (x:α) (r:List α):(x::r).all p=(p x && r.all p):=agq
theorem acV {α:Type} (p:α→Bool):([]:List α).all p=true:=agq
theorem cp (n:Int) (h:-9223372036854775808≤n∧n≤9223372036854775807):IntKind.i64.wrap n=n:=by
 rw [show IntKind.i64.wrap n=(n + 9223372036854775808) % 18446744073709551616 - 9223372036854775808 from IntKind.wrap_i64 n];omega
theorem aF {P:Program} {n0:Nat} {env:Env} {H:List aa} {Q:Exit→Env→List aa→Prop} {a:IR} {ι:Type} (N:Nat) (I:Nat→ι→Prop) (se:Nat→ι→Env) (sh:Nat→ι→List aa) (s0:ι) (h0:I 0 s0∧sle n0 env H (se 0 s0) (sh 0 s0))
 (hs:∀ i s,i≤N→I i s→mK P n0 a (se i s) (sh i s) fun e aW H'=>match e with
   | .normal=>∃ j t,(j≤N∧I j t)∧N - j < N - i∧sle n0 aW H' (se j t) (sh j t)
   | e=>Q e aW H'):mK P n0 (.loop a) env H Q:=
 ⟨Nat×ι,fun p=>p.1≤N∧I p.1 p.2,fun p=>se p.1 p.2,fun p=>sh p.1 p.2,fun p=>N - p.1,⟨(0,s0),⟨ac6 _,h0.1⟩,h0.2⟩,fun p hp=>mM (hs p.1 p.2 hp.1 hp.2) fun x e H' h=>by
   cases x with
   | normal=>obtain ⟨j,t,h1,h2,h3⟩:=h;exact ⟨(j,t),h1,h2,h3⟩
   | _=>exact h⟩
theorem eY {P:Program} {l:Nat} {n0:Nat} {env:Env} {H:List aa} {Q:Exit→Env→List aa→Prop} {a:IR} {ι:Type} (N:Nat) (I:Nat→ι→Prop) (se:Nat→ι→Env) (sh:Nat→ι→List aa) (s0:ι) (h0:I 0 s0∧Ja n0 env H (se 0 s0) (sh 0 s0))
 (hs:∀ i s,i≤N→I i s→mK ⟨P,some l⟩ n0 a (se i s) (sh i s) fun e aW H'=>match e with
   | .normal=>∃ j t,(j≤N∧I j t)∧N - j < N - i∧Ja n0 aW H' (se j t) (sh j t)
   | e=>Q e aW H'):mK ⟨P,some l⟩ n0 (.loop a) env H Q:=
 ⟨Nat×ι,fun p=>p.1≤N∧I p.1 p.2,fun p=>se p.1 p.2,fun p=>sh p.1 p.2,fun p=>N - p.1,⟨(0,s0),⟨ac6 _,h0.1⟩,h0.2⟩,fun p hp=>mM (hs p.1 p.2 hp.1 hp.2) fun x e H' h=>by
   cases x with
   | normal=>obtain ⟨j,t,h1,h2,h3⟩:=h;exact ⟨(j,t),h1,h2,h3⟩
   | _=>exact h⟩
theorem aK {H:List aa} {s:Nat} {v v':AV} (hb:v.bc H.length=true) (hv:v=v'):bP H.length [.t s] [(s,v)] H fun r H'=>r=v'∧H'=H:=
 aT _ (zy _) (by rw [aD,if_pos rfl];exact hb) ⟨by rw [aD,if_pos rfl];exact hv,by simp⟩
theorem L9 {H e:List aa} {s:Nat} {v v':AV} (hb:v.bc H.length=true) (hv:v=v'):bP H.length [.t s] [(s,v)] (H++e) fun r H'=>r=v'∧H'=H:=
 aT _ (zy _) (by rw [aD,if_pos rfl];exact hb) ⟨by rw [aD,if_pos rfl];exact hv,by simp⟩
theorem Xc {H:List aa} {s:Nat} {v v':AV} (hl:v.le v') (hb:v'.bc H.length=true):bP H.length [.t s] [(s,v)] H fun r H'=>r=v'∧H'=H:=
 ⟨H.length,zy _,_,by rw [aD,if_pos rfl];exact hl,hb,rfl,by simp⟩
theorem Xd {H e:List aa} {s:Nat} {v v':AV} (hl:v.le v') (hb:v'.bc H.length=true):bP H.length [.t s] [(s,v)] (H++e) fun r H'=>r=v'∧H'=H:=
 ⟨H.length,zy _,_,by rw [aD,if_pos rfl];exact hl,hb,rfl,by simp⟩
theorem Uw {H H':List aa} {n0 s:Nat} {v v':AV} (hn:n0=H.length) (hb:v.bc n0=true) (hv:v=v') (hl:H=H'):bP n0 [.t s] [(s,v)] H fun r H''=>r=v'∧H''=H':=by
 subst hn hl;exact aK hb hv
theorem jR {H H':List aa} {n0:Nat} {env:Env} (hn:n0=H.length) (hl:H=H'):bP n0 [] env H fun r H''=>r=.tuple []∧H''=H':=by
 subst hn hl
 exact ⟨H.length,zy _,[],trivial,rfl,rfl,by simp⟩
theorem xB {H e:List aa} {s s':Nat} {v v' x y:AV} (hs:s'≠s) (hb:x.bc H.length=true) (ew:y.bc H.length=true) (hx:v.ab=x) (hy:v'.ab=y) :
 bP H.length [.t s,.t s'] [(s,v),(s',v')] (H++e) fun r H'=>r=.tuple [x,y]∧H'=H:=by
 subst hx hy
 refine ⟨H.length,zy _,[v.ab,v'.ab],?_,?_,rfl,by simp⟩
 ·simp only [aD,if_neg hs,if_true,List.map]
  exact da _
 ·simp only [aw,hb,ew,acj]
theorem HK {H:List aa} {s s':Nat} {v v' x y:AV} (hs:s'≠s) (hb:x.bc H.length=true) (ew:y.bc H.length=true) (hx:v.ab=x) (hy:v'.ab=y) :
 bP H.length [.t s,.t s'] [(s,v),(s',v')] H fun r H'=>r=.tuple [x,y]∧H'=H:=by
 have:=xB (e:=[]) hs hb ew hx hy
 rw [abJ] at this
 exact this
def z9 (n0:Nat) (x:AV) (H:List aa) (R:AV→List aa→Prop):Prop:=∃ m,n0≤m∧∃ r,x.le r∧r.bc m=true∧R r (H.take m)
@[congr] theorem RB {n0:Nat} {x x':AV} {H H':List aa} {R:AV→List aa→Prop} (h:iC x=x') (h2:H=H'):z9 n0 x H R=z9 n0 x' H' R:=by subst h;subst h2;rfl
def vh (n0:Nat) (xs:List AV) (H:List aa) (R:AV→List aa→Prop):Prop:=∃ m,n0≤m∧∃ ys,yU (xs.map AV.ab) ys∧aw m ys=true∧R (.tuple ys) (H.take m)
@[congr] theorem RC {n0:Nat} {x x':List AV} {H H':List aa} {R:AV→List aa→Prop} (h:iC x=x') (h2:H=H'):vh n0 x H R=vh n0 x' H' R:=by subst h;subst h2;rfl
theorem Ma (n0 s:Nat) (sz:Option Nat) (env:Env) (H:List aa) (R:AV→List aa→Prop):bP n0 [.c s sz] env H R=a8 sz (get env s) H fun x=>z9 n0 x H R:=agq
theorem PZ (n0 s s':Nat) (sz:Option Nat) (env:Env) (H:List aa) (R:AV→List aa→Prop):bP n0 [.c s sz,.t s'] env H R=a8 sz (get env s) H fun x=>vh n0 [x,get env s'] H R:=agq
theorem HL {H e:List aa} {v v':AV} (hb:v.bc H.length=true) (hv:v=v'):z9 H.length v (H++e) fun r H'=>r=v'∧H'=H:=by
 subst hv;exact ⟨H.length,zy _,v,le_refl _,hb,rfl,by simp⟩
theorem bp {i n:Nat} (h:(i:Int) < (n:Int)):i < n:=by omega
theorem bZ {i n:Nat} (h:(n:Int)≤(i:Int)):n≤i:=by omega
def nU:=(tg @DD (tg @DH (tg @z7 @JH)))
def Ux:=(tg (tg (tg (tg (tg (tg (tg (tg @TY @Lt) (tg @F0 @Lu)) (tg (tg @Pp @DB) (tg @JB (tg @Lv @Pq)))) (tg (tg (tg @Lw @T6) (tg @T7 @W2)) (tg (tg @W3 @JC) (tg @Ly (tg @T8 @T9))))) (tg (tg (tg (tg @Ps @Lp) (tg @Lq @aD)) (tg (tg @TW @Ud) (tg @LF (tg @JF @LG)))) (tg (tg (tg @W4 @Ue) (tg @PD (tg @PE @LH))) (tg (tg @LI @zg) (tg @PF (tg @L6 @PU)))))) (tg (tg (tg (tg (tg @PT @PV) (tg @Uo @Gm)) (tg (tg @Gn @lK) (tg @jv (tg @L8 @Uq)))) (tg (tg (tg @acS @acT) (tg @Ma (tg @PZ @bd0))) (tg (tg @bd2 @LK) (tg @F3 (tg @DC @BD))))) (tg (tg (tg (tg @LL @BE) (tg @DE @LM)) (tg (tg @PG @DF) (tg @Uf (tg @JI (tg @LN (tg @v9 @F4)))))) (tg (tg (tg @LO @LP) (tg @JK (tg @JL @W5))) (tg (tg @F5 @F6) (tg @F7 (tg @F8 @LQ))))))) (tg (tg (tg (tg (tg (tg @W6 @PH) (tg @LR @Ug)) (tg (tg @PI @LS) (tg @PJ (tg @PK @Uh)))) (tg (tg (tg @PL @Ui) (tg @LU @JM)) (tg (tg @LV @W7) (tg @PM (tg @LW @zh))))) (tg (tg (tg (tg @BF @zi) (tg @DG @BG)) (tg (tg @LX @BH) (tg @DI (tg @LY @DJ)))) (tg (tg (tg @DK @BI) (tg @xA (tg @vL @W8))) (tg (tg @F9 @Ga) (tg @W9 (tg @PN @Gb)))))) (tg (tg (tg (tg (tg @JN @Gc) (tg @Ge @DL)) (tg (tg @Uj @Uk) (tg @mL (tg @Gf @JO)))) (tg (tg (tg @JP @LZ) (tg @JQ (tg @Ph @Pj))) (tg (tg @Pk @Pl) (tg @WW (tg @WX @WY))))) (tg (tg (tg (tg @WZ @acK) (tg @W0 @W1)) (tg (tg @Pn @Jy) (tg @SY (tg @pS @pj)))) (tg (tg (tg @Bz @HF) (tg @xp (tg @SZ @S0))) (tg (tg @Lh @Li) (tg @HG (tg @ON @Lj)))))))) (tg (tg (tg (tg (tg (tg (tg @OO @Rl) (tg @OP @OQ)) (tg (tg @S1 @S2) (tg @OR (tg @S3 @S4)))) (tg (tg (tg @WR @OS) (tg @S5 @OT)) (tg (tg @S6 @nS) (tg @S7 (tg @S8 @OU))))) (tg (tg (tg (tg @S9 @Ta) (tg @WS @OV)) (tg (tg @Tc @OW) (tg @Td (tg @v8 @Te)))) (tg (tg (tg @Tf @OX) (tg @Th (tg @Ti @WT))) (tg (tg @OY @Tj) (tg @OZ (tg @Tk @sw)))))) (tg (tg (tg (tg (tg @ja @Lk) (tg @HH @bA)) (tg (tg @xq @Ll) (tg @ra (tg @Lm @eL)))) (tg (tg (tg @BA @WU) (tg @O0 (tg @cV @bL))) (tg (tg @TX @Pe) (tg @Tl (tg @Tm @Tn))))) (tg (tg (tg (tg @To @Tp) (tg @Tq @Tr)) (tg (tg @Ts @Tv) (tg @Tw (tg @Tx @Tz)))) (tg (tg (tg @TA @TB) (tg @TC (tg @TD @TE))) (tg (tg @TF @acJ) (tg @TG (tg @O4 @TH))))))) (tg (tg (tg (tg (tg (tg @TI @O5) (tg @TJ @O6)) (tg (tg @TK @TL) (tg @O7 (tg @TM @O8)))) (tg (tg (tg @TN @TO) (tg @TP @O9)) (tg (tg @WV @TQ) (tg @Pa (tg @Ln @TR))))) (tg (tg (tg (tg @Lo @TS) (tg @TT @TU)) (tg (tg @TV @Jq) (tg @Pb (tg @Pc @Pd)))) (tg (tg (tg @Jr @Js) (tg @Jt (tg @Ju @Jv))) (tg (tg @Dr @Ds) (tg @ga0 (tg @ga @sa0)))))) (tg (tg (tg (tg (tg @sa @acL) (tg @Ww @g0)) (tg (tg @g1 @g2) (tg @s0 (tg @s1 @s2)))) (tg (tg (tg @d0 @d1) (tg @d2 (tg @Xa @acM))) (tg (tg @acN @acO) (tg @acP (tg @acQ @acR))))) (tg (tg (tg (tg @Ul @Um) (tg @HJ @PO)) (tg (tg @L5 @sB) (tg @JR (tg @pn @PW)))) (tg (tg (tg @Ur @Us) (tg @Ut (tg @PX @Xb))) (tg (tg @Uu @PY) (tg @Uv (tg @acU @acV)))))))))
end Go.aI
end
section
namespace Go.aI
open Go Go.RowKit
def eH (w:World):Mem:=fun b o=>w.cell? ⟨b,o,none⟩
def Gp (w:World):Perm:=⟨fun b=>w.heap.size≤b,fun id=>some (id + 1),(fun id n h=>by cases h;omega),0⟩
theorem BJ (w:World):(Gp w).entry false ([]:List aa).length:=⟨fun id h=>absurd h (Nat.not_lt_zero _),fun id _=>rfl⟩
theorem St.start {w:World} {vs:Array Value} {xs:List AV} (h:aP (eH w) [] vs.toList xs) (hf:∀ x∈xs,∀ own ys,x=.al own ys→own=0) :
 St (Gp w) (eH w) [] w [] (fun t=>vs.getD t undef) (fun t=>xs.getD t .any) (fun _=>none) where
 len:=rfl
 nodup:=by simp
 env:=fun t=>by
  have:=h.getD t
  rw [th] at this
  rw [abH]
  simpa using this
 mem:=fun b o v hv=>hv
 obj:=fun id o b ho=>by simp at ho
 bJ:=fun id o ho=>by simp at ho
 lt:=fun b hb=>by cases hb
 jX:=fun t=>by
  refine bm.free fun own ys e=>?_
  rw [th] at e
  cases hx:xs[t]? with
  | none=>rw [hx] at e;cases e
  | some x=>rw [hx] at e;exact hf x (abB hx) own ys e
 jD:=fun id j=>by simp [bB,bm]
 cU:=fun p q b hp=>by cases hp
 cZ:=fun p b hp=>by cases hp
 iA:=fun p b hp=>by cases hp
 La:=fun b hb=>by cases hb
 Oa:=fun p b hp=>by cases hp
 fresh:=fun b hb=>hb
theorem Ext.below {M M':Mem} {w w':World} (h:Ext (Gp w) M w M' w'):Below w.heap.size w w':=
 ⟨h.os,h.tape,h.output,h.size,fun k hk=>(h.mv k hk (by show ¬ w.heap.size≤k;omega)).1⟩
theorem Pure.lift {P:Program} {f:FuncId} {xs:List AV} {b:Bool} (hp:Pure P f xs (.bool b)) (he:∀ (as:Array Value) (w:World),(callFunc f as).run P w=.ok (.enter f as) w)
 {w:World} {vs:Array Value} (hr:aP (eH w) [] vs.toList xs) (hf:∀ x∈xs,∀ own ys,x=.al own ys→own=0) :
 Calls P f vs w fun e w'=>e=.returned (.bool b)∧Below w.heap.size w w':=by
 have hs:vs.size=xs.length:=by have:=hr.length;simpa using this
 refine ((hp []).body he (BJ w) hs (St.start hr hf)).mono ?_
 rintro e w' ⟨v,r,H',M',L',O',rfl,⟨rfl,rfl⟩,bT,dS,_⟩
 have:=bT.env 0
 simp only [KI] at this
 cases this
 exact ⟨rfl,dS.below⟩
theorem DO {a:Addr} {n:Nat} (h:a.spot=none):a.add n=⟨a.block,a.off + n,none⟩:=by
 obtain ⟨b,o,s⟩:=a
 simp only at h
 subst h
 unfold Addr.add
 split
 ·rename_i e;subst e;rfl
 ·rfl
theorem JU {w:World} {a:Addr} {v:Value} (h:w.cell? a=some v):a.spot=none:=by
 unfold World.cell? at h
 split at h
 ·split at h
  ·cases h
  ·rename_i hs;cases Hl:a.spot <;> simp_all
 ·cases h
theorem Aa {M:Mem} {L:List Nat}:∀ {n:Nat} {cs:Nat→List Value} {f:Nat→AV},(∀ i,i < n→aP M L (cs i) (f i).cells)→aP M L ((List.range n).flatMap cs) (flat ((List.range n).map f))
 | 0,_,_,_=>by simp [flat];exact .nil
 | n + 1,cs,f,h=>by
   have ih:=Aa (n:=n) (fun i hi=>h i (by omega))
   simp only [adp,adS,ab8,flat] at ih ⊢
   refine ih.append ?_
   simpa using h n (by omega)
theorem DP {n e:Nat} {cs:Nat→List Value}:(∀ i,i < n→(cs i).length=e)→∀ (j:Nat) (v:Value),((List.range n).flatMap cs)[j]?=some v→∃ i k,i < n∧k < e∧j=i * e + k∧(cs i)[k]?=some v:=by
 induction n with
 | zero=>intro _ j v h;simp at h
 | succ n ih=>
   intro hl j v h
   simp only [adp,adS] at h
   have hlen:((List.range n).flatMap cs).length=n * e:=by
    clear h ih
    induction n with
    | zero=>simp
    | succ n ih2=>
      simp only [adp,adS,aaj]
      rw [ih2 (fun i hi=>hl i (by omega))]
      simp [hl n (by omega),Nat.succ_mul]
   rcases aeQ j (n * e) with hj | hj
   ·rw [zz (by omega)] at h
    obtain ⟨i,k,h1,h2,h3,h4⟩:=ih (fun i hi=>hl i (by omega)) j v h
    exact ⟨i,k,by omega,h2,h3,h4⟩
   ·rw [abx (by omega),hlen] at h
    simp only [List.flatMap_cons,aga,abJ] at h
    have hk:=(aa2.1 h).1
    rw [hl n (by omega)] at hk
    exact ⟨n,j - n * e,by omega,hk,by omega,h⟩
theorem Ab {w:World} {base e len cap:Nat} {a:Addr} (he:0 < e) (hl:len≤cap) (hc:cap≤maxLen) (cs:Nat→List Value) (f:Nat→AV)
 (h:∀ i,i < len→w.cells? base (a.add (i * e)) e=some (cs i)∧aP (eH w) [] (cs i) (f i).cells):a7 (eH w) [] (.slice (some a) len cap) (.al 0 ((List.range len).map f)):=by
 have bY:cap < 9223372036854775808:=by have:maxLen=9223372036854775807:=rfl;omega
 rcases Nat.eq_zero_or_pos len with h0 | h0
 ·subst h0
  exact .iN _ _ _ bY
 have hlen:∀ i,i < len→(cs i).length=e:=fun i hi=>(World.cells?_some (h i hi).1).2.1
 have hcell:∀ i,i < len→∀ k,k < e→w.cell? ((a.add (i * e)).add k)=(cs i)[k]?:=fun i hi=>(World.cells?_some (h i hi).1).2.2
 have hspot:a.spot=none:=by
  have h1:=hcell 0 h0 0 he
  rw [Hj (by rw [hlen 0 h0];exact he)] at h1
  have h2:=JU h1
  simpa [Addr.add] using h2
 have key:a7 (eH w) [] (.slice (some ⟨a.block,a.off,none⟩) ((List.range len).map f).length cap) (.al 0 ((List.range len).map f)):=by
  refine .al a.block a.off cap 0 e ((List.range len).flatMap cs) _ he ?_ (by simpa using h0) (by simpa using hl) bY (Aa fun i hi=>(h i hi).2) ?_
  ·intro x hx
   obtain ⟨i,hi,rfl⟩:=aaw.1 hx
   have hi:=abG.1 hi
   rw [← (h i hi).2.length,hlen i hi]
  ·intro j v hv
   obtain ⟨i,k,h1,h2,rfl,h4⟩:=DP hlen j v hv
   have:=hcell i h1 k h2
   rw [DO hspot,DO (by rfl)] at this
   show w.cell? ⟨a.block,a.off + (i * e + k),none⟩=some v
   rw [← adE,this,h4]
 have ea:(some a:Option Addr)=some ⟨a.block,a.off,none⟩:=by obtain ⟨b,o,s⟩:=a;simp only at hspot;rw [hspot]
 rw [ea]
 simpa using key
section
variable {H:Type} {enc:TypeId×Value→H} {P:Program}
theorem qH (hl:laidOutB P=true) {W W':World} (hb:Below W.heap.size W W'):∀ {ts:List TypeId} {vs:List Value} {ds:List (DataW H)} {ps:List MemPlace},(∀ t∈ts,P.readableRec t=true∧t < P.types.size)→
 DataW.TrodAll enc P W 0 (fun _=>true) true ts vs ds ps→(∀ x∈ps,x.block < W.heap.size)→DataW.TrodAll enc P W' 0 (fun b=>decide (b < W.heap.size)) true ts vs ds ps
 | [],[],[],_,_,h,_=>h
 | t::ts,v::vs,d::ds,_,ht,⟨p,q,h1,h2,e⟩,hp=>by
   subst e
   exact ⟨p,q,Below.trod hl (ht t (by simp)).1 (ht t (by simp)).2 h1 hb (fun x hx=>hp x (by simp [hx])),qH hl hb (fun t ht'=>ht t (by simp [ht'])) h2 (fun x hx=>hp x (by simp [hx])),rfl⟩
theorem Mb {fn:Func} {s:ChangeSpec} {apart:Bool} {W W':World} {args:Array Value} {ds gs:List (DataW H)} {before:List MemPlace} {t:TypeId} (hl:laidOutB P=true) (hb:Below W.heap.size W W')
 (hW:DataW.Whole enc P fn.params.toList s.vars apart W args.toList ds gs before) (hv:s.vars=[]) (vM:fn.resultTypes=#[t]) (ht:P.underlying t=some .bool) (hs:s.fn H ds={ results:=[.lit (.bool true)],args:=ds })
 (hp:fn.params.toList.all (fun t=>P.readableRec t && decide (t < P.types.size))=true):s.post enc P fn apart true false false W args (.bool true) W':=by
 have aM:∀ x∈before,x.block < W.heap.size:=fun x hx=>by simpa using hW.lt x hx
 have hW0:=hW
 obtain ⟨p,q,h1,h2,h3,h4,h5⟩:=hW
 rw [hv] at h2
 obtain ⟨rfl,rfl⟩:=ChangeShapes.trodVars_none h2
 simp only [abJ] at h3
 subst h3
 refine ⟨ds,[],before,[],before,[],hW0,?_,?_,?_,hb.frame _,fun h=>by cases h⟩
 ·simp only [abJ,hs,vM]
  exact ChangeShapes.trodAll_mk1 (shut_bool ht true)
 ·simp only [abJ,hs]
  exact qH hl hb (fun t ht=>by simpa using abc.1 hp t ht) h1 aM
 ·simp only [hv,abJ,hs]
  rfl
end
end Go.aI
end
section
namespace Go.aI
open Go
structure Xe {σ:Type} (S:σ→List aa) (p:Nat) (obj:σ→aa) (n:Nat):Prop where
 get:∀ s,(S s)[p]?=some (obj s)
 set:∀ s s',(S s).set p (obj s')=S s'
 len:∀ s,(S s).length=n
namespace Xe
variable {σ:Type} {S:σ→List aa} {p:Nat} {obj:σ→aa} {n:Nat} (F:Xe S p obj n)
include F
theorem lt (s:σ):p < n:=by
 have:=F.get s
 rw [← F.len s]
 exact (aa2.1 this).1
theorem get' (s:σ) (e:List aa):(S s++e)[p]?=some (obj s):=by
 rw [zz (by rw [F.len];exact F.lt s)];exact F.get s
theorem acW (s s':σ) (e:List aa):(S s++e).set p (obj s')=S s'++e:=by
 rw [aed _ _ (by rw [F.len];exact F.lt s),F.set]
end Xe
theorem RE {Hs G:List aa} {n0:Nat} {v w x y:AV} {R:AV→List aa→Prop} (hH:Hs.take n0=G) (hb:x.bc n0=true) (ew:y.bc n0=true) (hx:v.ab=x) (hy:w.ab=y) (hR:R (.tuple [x,y]) G) :
 vh n0 [v,w] Hs R:=by
 subst hx hy hH
 exact ⟨n0,zy _,[v.ab,w.ab],da _,by simp only [aw,hb,ew,acj],hR⟩
theorem RF {Hs G:List aa} {n0:Nat} {v x:AV} {R:AV→List aa→Prop} (hH:Hs.take n0=G) (hb:x.bc n0=true) (hx:v=x) (hR:R x G):z9 n0 v Hs R:=by
 subst hx hH
 exact ⟨n0,zy _,v,le_refl _,hb,hR⟩
theorem P1 {Hs G:List aa} {n0 s:Nat} {v x:AV} {R:AV→List aa→Prop} (hH:Hs.take n0=G) (hb:x.bc n0=true) (hx:v=x) (hR:R x G):bP n0 [.t s] [(s,v)] Hs R:=by
 subst hx hH
 exact aT _ (zy _) (by rw [aD,if_pos rfl];exact hb) (by rw [aD,if_pos rfl];exact hR)
end Go.aI
end
section
namespace Go.aI
open Go
def xC (C:List aa→Nat→List aa→Prop) (n0:Nat) (v:AV) (H:List aa) (R:AV→List aa→Prop):Prop:=
 ∃ m H',n0≤m∧C H m H'∧∃ r,v.le r∧r.bc m=true∧R r H'
@[congr] theorem P2 {C:List aa→Nat→List aa→Prop} {n0:Nat} {x x':AV} {H H':List aa} {R:AV→List aa→Prop} (h:iC x=x') (h2:H=H'):xC C n0 x H R=xC C n0 x' H' R:=by subst h;subst h2;rfl
theorem HM {C:List aa→Nat→List aa→Prop} {n0 s:Nat} {sz:Option Nat} {env:Env} {H:List aa} {R:AV→List aa→Prop}:jP C n0 [.c s sz] env H R=a8 sz (get env s) H fun v=>xC C n0 v H R:=agq
theorem P3 {C:List aa→Nat→List aa→Prop} {n0 s:Nat} {env:Env} {H:List aa} {R:AV→List aa→Prop}:jP C n0 [.t s] env H R=xC C n0 (get env s) H R:=agq
theorem tW {n0:Nat} {H G:List aa} (h:G.take n0=H) (hl:H.length=n0):ox n0 G n0 H:=by
 subst h
 refine ⟨by simp,fun id o ho=>?_⟩
 rw [aaG] at ho
 split at ho
 ·exact .inr ⟨ho,fun h=>by omega⟩
 ·cases ho
def only (n0 id:Nat) (G:List aa):List aa:=G.mapIdx fun j o=>if j < n0∨j=id then o else .dead
theorem iD (n0:Nat) (env:Env) (H:List aa):Ja n0 env H env H:=⟨fun t=>le_refl _,.inl rfl⟩
theorem nV {n0:Nat} {env aW:Env} {H H':List aa} (he:env=aW) (hH:H=H'):Ja n0 env H aW H':=by
 subst he;subst hH;exact iD _ _ _
def km:=tg @HM (tg @P3 Gl)
end Go.aI
end
