/- Part 2 of 15 of the proof. -/
import Derived.Test.YtljchnfgjdjobaaGreatVaa
import Derived.RangeFuncNested
set_option linter.unusedVariables false
set_option linter.unusedSimpArgs false
set_option linter.defProp false
set_option linter.unusedSectionVars false
section
namespace Go.aL
open Go
def Perm.entry (A:Perm) (loose:Bool) (n:Nat):Prop:=(∀ id,id < n→∃ m,m≤n∧A.top id=some m)∧∀ id,n≤id→A.top id=if loose=true then none else some (id + 1)
def kU (loose:Bool) (P:Program) (f:FuncId) (args:List AV) (H:List aa) (R:AV→List aa→Prop):Prop:=
 ∀ A M L w (vs:Array Value) O,A.entry loose H.length→vs.size=args.length→St A M L w H (fun t=>vs.getD t undef) (fun t=>args.getD t .any) O→
  ((callFunc f vs).run P w=.ok (.enter f vs) w∧Calls P f vs w fun e w'=>∃ v r H' M' L' O',e=.returned v∧R r H'∧St A M' L' w' H' (fE (fun _=>undef) 0 v) (fE (fun _=>.any) 0 r) O'∧Ext A M w M' w'∧L <+: L')∨
  (∃ v w' r H' M' L' O',(callFunc f vs).run P w=.ok (.value v) w'∧R r H'∧St A M' L' w' H' (fE (fun _=>undef) 0 v) (fE (fun _=>.any) 0 r) O'∧Ext A M w M' w'∧L <+: L')
def aq (P:Program) (f:FuncId) (args:List AV) (H:List aa) (R:AV→List aa→Prop):Prop:=kU false P f args H R
def uK (P:Program) (f:FuncId) (args:List AV) (H:List aa) (R:AV→List aa→Prop):Prop:=kU true P f args H R
theorem kU.mono {b:Bool} {P:Program} {f:FuncId} {args:List AV} {H:List aa} {R R':AV→List aa→Prop} (h:kU b P f args H R) (hr:∀ r H',R r H'→R' r H'):kU b P f args H R':=by
 intro A M L w vs O hA hs bS
 rcases h A M L w vs O hA hs bS with ⟨h1,h2⟩ | ⟨v,w',r,H',M',L',O',h1,h2,h3⟩
 ·exact .inl ⟨h1,h2.mono fun e w' ⟨v,r,H',M',L',O',h1,h2,h3⟩=>⟨v,r,H',M',L',O',h1,hr _ _ h2,h3⟩⟩
 ·exact .inr ⟨v,w',r,H',M',L',O',h1,hr _ _ h2,h3⟩
theorem aq.mono {P:Program} {f:FuncId} {args:List AV} {H:List aa} {R R':AV→List aa→Prop} (h:aq P f args H R) (hr:∀ r H',R r H'→R' r H'):aq P f args H R':=kU.mono h hr
theorem uK.mono {P:Program} {f:FuncId} {args:List AV} {H:List aa} {R R':AV→List aa→Prop} (h:uK P f args H R) (hr:∀ r H',R r H'→R' r H'):uK P f args H R':=kU.mono h hr
theorem aq.body {P:Program} {f:FuncId} {args:List AV} {H:List aa} {R:AV→List aa→Prop} (h:aq P f args H R) (he:∀ (as:Array Value) (w:World),(callFunc f as).run P w=.ok (.enter f as) w)
 {A:Perm} {M:Mem} {L:List Nat} {w:World} {vs:Array Value} {O:Pos→Option Nat} (hA:A.entry false H.length) (hs:vs.size=args.length) (bS:St A M L w H (fun t=>vs.getD t undef) (fun t=>args.getD t .any) O) :
 Calls P f vs w fun e w'=>∃ v r H' M' L' O',e=.returned v∧R r H'∧St A M' L' w' H' (fE (fun _=>undef) 0 v) (fE (fun _=>.any) 0 r) O'∧Ext A M w M' w'∧L <+: L':=by
 rcases h A M L w vs O hA hs bS with ⟨h1,h2⟩ | ⟨v,w',r,H',M',L',O',h1,h2,h3⟩
 ·exact h2
 ·rw [he] at h1;cases h1
structure Px where
 prog:Program
 lo:Option Nat
instance:Coe Program Px:=⟨fun P=>⟨P,none⟩⟩
def ej (P:Px) (f:FuncId) (args:List AV) (H:List aa) (R:AV→List aa→Prop):Prop:=
 match P.lo with
 | none=>aq P.prog f args H R
 | some l=>aq P.prog f args H R∨(l≤H.length∧uK P.prog f args H R)
theorem ej.of {P:Px} {f:FuncId} {args:List AV} {H:List aa} {R:AV→List aa→Prop} (h:aq P.prog f args H R):ej P f args H R:=by
 unfold ej;split
 ·exact h
 ·exact .inl h
theorem ej.mono {P:Px} {f:FuncId} {args:List AV} {H:List aa} {R R':AV→List aa→Prop} (h:ej P f args H R) (hr:∀ r H',R r H'→R' r H'):ej P f args H R':=by
 unfold ej at *;split at h
 ·exact h.mono hr
 ·rcases h with h | ⟨h1,h2⟩
  ·exact .inl (h.mono hr)
  ·exact .inr ⟨h1,h2.mono hr⟩
def fD (loose:Bool) (P:Program) (id:Nat) (args:List AV) (H:List aa) (R:AV→List aa→Prop):Prop:=
 ∀ A M L w (vs:Array Value) O b,A.entry loose H.length→vs.size=args.length→L[id]?=some b→St A M L w H (fun t=>vs.getD t undef) (fun t=>args.getD t .any) O→
  ∃ fn tmps as bd,(Instr.yield b vs).run P w=.ok (.round b fn tmps as bd) w∧RoundIn Fence.wide 0 P b fn tmps as bd w fun e w'=>
   ∃ v r H' M' L' O',e=.returned v∧R r H'∧St A M' L' w' H' (fE (fun _=>undef) 0 v) (fE (fun _=>.any) 0 r) O'∧Ext A M w M' w'∧L <+: L'
theorem fD.mono {b:Bool} {P:Program} {id:Nat} {args:List AV} {H:List aa} {R R':AV→List aa→Prop} (h:fD b P id args H R) (hr:∀ r H',R r H'→R' r H'):fD b P id args H R':=by
 intro A M L w vs O c hA hs hc bS
 obtain ⟨fn,tmps,as,bd,h1,h2⟩:=h A M L w vs O c hA hs hc bS
 exact ⟨fn,tmps,as,bd,h1,h2.mono fun e w' ⟨v,r,H',M',L',O',h1,h2,h3⟩=>⟨v,r,H',M',L',O',h1,hr _ _ h2,h3⟩⟩
def jZ (P:Program) (id:Nat) (args:List AV) (H:List aa) (R:AV→List aa→Prop):Prop:=fD false P id args H R
def NY (P:Program) (id:Nat) (args:List AV) (H:List aa) (R:AV→List aa→Prop):Prop:=fD true P id args H R
def mh (P:Px) (id:Nat) (args:List AV) (H:List aa) (R:AV→List aa→Prop):Prop:=
 match P.lo with
 | none=>jZ P.prog id args H R
 | some l=>jZ P.prog id args H R∨(l≤H.length∧NY P.prog id args H R)
theorem mh.mono {P:Px} {id:Nat} {args:List AV} {H:List aa} {R R':AV→List aa→Prop} (h:mh P id args H R) (hr:∀ r H',R r H'→R' r H'):mh P id args H R':=by
 unfold mh at *;split at h
 ·exact fD.mono h hr
 ·rcases h with h | ⟨h1,h2⟩
  ·exact .inl (fD.mono h hr)
  ·exact .inr ⟨h1,fD.mono h2 hr⟩
def xY:List AV→List AV→Prop
 | [],[]=>True
 | x::xs,y::ys=>x.le y∧xY xs ys
 | _,_=>False
def aI (env:Env) (pass:Option Nat):Nat→List IX→List AV
 | _,[]=>[]
 | j,.t s::xs=>(if pass=some j then get env s else (get env s).ab)::aI env pass (j + 1) xs
 | j,.c v::xs=>v.ab::aI env pass (j + 1) xs
def bh (args:List IX) (pass:Option Nat):Option Nat:=
 match pass with
 | some j=>match args[j]? with
   | some (.t s)=>some s
   | _=>none
 | none=>none
def cQ (env:Env) (s:Option Nat):Env:=match s with | some d=>(d,(get env d).ab)::env | none=>env
def pq (P:Px) (f:AV) (args:List IX) (pass:Option Nat) (env:Env) (H:List aa) (K:AV→Env→List aa→Prop):Prop:=
 match f with
 | .fn (.func g) first cap=>∃ bR,xY (first.map AV.ab++aI env pass 0 args++cap.map AV.ab) bR∧ej P g bR H (fun r H'=>K r (cQ env (bh args pass)) H')
 | .nH id=>∃ bR,xY (aI env pass 0 args) bR∧mh P id bR H (fun r H'=>K r (cQ env (bh args pass)) H')
 | _=>False
def aN (kd:Nat) (x:AV):Prop:=
 match kd,x with
 | 0,.str _=>True
 | 1,.ah=>True
 | 1,.al _ _=>True
 | 1,.bc _ _ _ _=>True
 | 1,.pe=>True
 | 2,.jd=>True
 | 2,.map _=>True
 | _,_=>False
def gR (env:Env) (x:Option IX):Option AV:=x.map (ap env)
def bA (P:Px) (o:ca) (dst:Option Nat) (env:Env) (H:List aa) (K:Env→List aa→Prop):Prop:=
 match o with
 | .set x take=>match dst with | some d=>K (si env d x take) H | none=>K env H
 | .pick c a b=>eI (ap env c) fun q=>(q=true→K (put dst (ap env a).ab env) H)∧(q=false→K (put dst (ap env b).ab env) H)
 | .bin op x y=>dg op (ap env x) (ap env y) fun z=>K (put dst z env) H
 | .shift op x y=>dZ op (ap env x) (ap env y) fun z=>K (put dst z env) H
 | .iC neq x y=>cV neq (ap env x) (ap env y) fun z=>K (put dst z env) H
 | .jw kd neq x=>cZ kd neq (ap env x) fun z=>K (put dst z env) H
 | .un op x=>Ag op (ap env x) fun z=>K (put dst z env) H
 | .box x=>(ap env x).val=true∧aj (H.length + 1) ((ap env x).cells.map AV.ab)=true∧K (put dst (.ptr H.length 0) env) (H++[.cells ((ap env x).cells.map AV.ab)])
 | .l7 x=>(ap env x).val=true∧K (put dst (.ai (ap env x)) env) H
 | .sg m x=>(ap env x).val=true∧(ap env x).cells.length=m∧(ap env x).cells.all AV.one=true∧K (put dst (.ai (ap env x)) env) H
 | .alloc z=>aj (H.length + 1) (z.cells.map AV.ab)=true∧K (put dst (.ptr H.length 0) env) (H++[.cells (z.cells.map AV.ab)])
 | .build z ps=>cA z.cells (ps.map fun q=>(q.1,q.2.1,ap env q.2.2)) fun v=>K (put dst v env) H
 | .buildSlice own esz z len ps=>bj (List.replicate len (aT z)) esz (ps.map fun q=>(q.1,ap env q.2)) fun xs=>K (put dst (.al own xs) env) H
 | .load sz a=>aQ sz (ap env a) H fun z=>K (put dst z env) H
 | .tw sz esz a=>aQ sz (ap env a) H fun z=>fF esz z H fun y H'=>K (put dst y env) H'
 | .eH a=>match dst,ap env a with
   | some d,.ptr id off=>match H[id]? with
     | some (.cells es)=>off < es.length∧K ((d,es.getD off .any)::env) (H.set id (.cells (es.set off (es.getD off .any).ab)))
     | _=>False
   | _,_=>False
 | .store m a x=>iE m (ap env a) (ap env x) H fun H'=>K env H'
 | .nJ m a x=>match P.lo with | some l=>gP l m (ap env a) (ap env x) H fun H'=>K env H' | none=>False
 | .fw a s=>ee (ap env a) (get env s) H fun H'=>K ((s,(get env s).ab)::env) H'
 | .nilCheck x=>bU (ap env x) fun z=>K (put dst z env) H
 | .fieldAddr off sz x=>ak off sz (ap env x) fun z=>K (put dst z env) H
 | .field off sz x=>eZ off sz (ap env x) fun z=>K (put dst z env) H
 | .indexAddr esz x i=>(∀ own xs,ap env x=.al own xs→∀ z∈xs,z.cells.length=esz)∧ax esz (ap env x) (ap env i) fun z=>K (put dst z env) H
 | .di x i=>bK (ap env x) (ap env i) fun z=>K (put dst z env) H
 | .dX n x i=>bT n (ap env x) (ap env i) fun z=>K (put dst z env) H
 | .pJ esz x lo hi mx=>(∀ own xs,ap env x=.al own xs→∀ z∈xs,z.cells.length=esz)∧eR esz (ap env x) (gR env lo) (gR env hi) (gR env mx) fun z=>z=.al esz []∧K (put dst .pe env) H
 | .slice esz x lo hi mx=>bm esz (ap env x) (gR env lo) (gR env hi) (gR env mx) fun z=>K (put dst z env) H
 | .copy esz d s=>jX esz (ap env d) (ap env s) H fun z H'=>K (put dst z env) H'
 | .dY x lo hi=>cn (ap env x) (gR env lo) (gR env hi) fun z=>K (put dst z env) H
 | .len kd x=>aN kd (ap env x)∧fx (ap env x) H fun z=>K (put dst z env) H
 | .append esz bytes s x=>bn esz bytes (ap env s) (ap env x) fun zs=>K (put dst (.al esz zs) (cQ env s.slot)) H
 | .tx esz bytes z n=>gv esz bytes z (ap env n) H fun v H'=>K (put dst v env) H'
 | .nK esz bytes n=>ji esz bytes (ap env n) fun v=>K (put dst v env) H
 | .nL=>K (put dst (.map H.length) env) (H++[.map []])
 | .lookup kd z m k ok=>cv kd z (ap env m) (ap env k) ok H fun v=>K (put dst v env) H
 | .kP kd m k x=>fC kd (ap env m) (ap env k) (ap env x) H fun H'=>K env H'
 | .fn f first cap=>K (put dst (.fn f (first.map fun x=>(ap env x).ab) (cap.map fun x=>(ap env x).ab)) env) H
 | .extract x i=>bF (ap env x) i fun z=>K (put dst z env) H
 | .call f args pass=>pq P (ap env f) args pass env H fun r aG H'=>K (put dst r aG) H'
 | .eU k x=>cF k (ap env x) fun z=>K (put dst z env) H
 | .gN x=>fS (ap env x) fun z=>K (put dst z env) H
 | .bytesOf x=>fe 1 (ap env x) fun z=>K (put dst z env) H
 | .strOf x=>jV (ap env x) fun z=>K (put dst z env) H
 | .mx big a b=>xN big (ap env a) (ap env b) fun z=>K (put dst z env) H
 | .Ae esz x=>fF esz (ap env x) H fun z H'=>K (put dst z env) H'
 | .Cc esz z len ps=>bj (List.replicate len (aT z)) esz (ps.map fun q=>(q.1,ap env q.2)) fun xs=>tH xs H fun v H'=>K (put dst v env) H'
 | .jB esz bytes z s x=>b7 esz bytes z (ap env s) (ap env x) H fun v H'=>K (put dst v env) H'
 | .nM esz z x=>iM esz z (ap env x) H fun H'=>K (put dst (.tuple []) env) H'
 | .never=>False
def c9 (P:Program) (e:TypeId):Option (Nat×AV):=
 match dP P e,fR P e with
 | some esz,some z=>if 0 < esz∧z.cells.length=esz∧z.val=true then some (esz,z) else none
 | _,_=>none
def Aw (P:Program) (e:TypeId):Option Nat:=(P.info? e).map (·.bytes)
def ER (z:AV):Bool:=z.cells.all fun y=>match y with | .al own _=>own == 0 | _=>true
def kE:Option Operand→Option (Option IX)
 | none=>some none
 | some x=>(aR x).map some
def Kf (x y:Operand):Bool:=match x,y with | .tmp a,.tmp b=>a == b | .const (.int .i64 a),.const (.int .i64 b)=>a == b | _,_=>false
def cB (P:Program) (o:Oper) (fl:Nat):Option ca:=
 match o.op with
 | .move x | .assign x=>(aR x).map fun i=>.set i (fl == 1)
 | .pick c a b=>match aR c,aR a,aR b with
   | some c,some a,some b=>some (.pick c a b)
   | _,_,_=>none
 | .binOp op t x y _=>match aR x,aR y with
   | some i,some j=>match op with
     | .shl | .shr=>some (.shift op i j)
     | .eql | .neq=>match P.underlying t with
       | some .bool=>some (.iC (op matches .neq) i j)
       | some (.int _) | some .string=>some (.bin op i j)
       | some (.slice _)=>match y with | .const (.slice none 0 0)=>some (.jw 0 (op matches .neq) i) | _=>none
       | some (.pointer _)=>match y with | .const (.pointer none)=>some (.jw 1 (op matches .neq) i) | _=>none
       | some (.map _ _)=>match y with | .const (.map none)=>some (.jw 2 (op matches .neq) i) | _=>none
       | some (.func _ _ _)=>match y with | .const .nilFunc=>some (.jw 3 (op matches .neq) i) | _=>none
       | _=>none
     | _=>some (.bin op i j)
   | _,_=>none
 | .unOp op _ x=>(aR x).map fun i=>.un op i
 | .box _ x=>(aR x).map fun i=>if fl=1 then .l7 i else .box i
 | .alloc e=>match fR P e with
   | some z=>if z.val=true then some (.alloc z) else none
   | none=>none
 | .build t ps=>match EG P t with
   | some (z,places)=>match fB places ps.toList with
     | some qs=>if z.val=true then some (.build z qs) else none
     | none=>none
   | none=>none
 | .buildSlice t len ps=>match P.underlying t with
   | some (.slice e)=>match c9 P e,jS ps.toList with
     | some (esz,z),some qs=>if len * esz≤16777216 then some (if fl=2 then .Cc esz z len qs else .buildSlice (if fl=1 then esz else 0) esz z len qs) else none
     | _,_=>none
   | _=>none
 | .load t a=>match JG P t,aR a with
   | some sz,some i=>if fl=1 then (if sz=none then some (.eH i) else none) else if 3000 < fl then some (.tw sz (fl - 3000) i) else some (.load sz i)
   | _,_=>none
 | .store t a x=>match dP P t,aR a,aR x with
   | some m,some i,some j=>if fl=1 then (match j with | .t s=>if m=1 then some (.fw i s) else none | _=>none) else if fl=2 then some (.nJ m i j) else some (.store m i j)
   | _,_,_=>none
 | .nilCheck x=>(aR x).map .nilCheck
 | .fieldAddr s x f=>match sk P s f,aR x with
   | some (off,sz),some i=>some (.fieldAddr off sz i)
   | _,_=>none
 | .field s x f=>match sk P s f,aR x with
   | some (off,sz),some i=>some (.field off sz i)
   | _,_=>none
 | .indexAddr t x i=>match P.underlying t,aR x,aR i with
   | some (.slice e),some j,some k=>(dP P e).map fun esz=>.indexAddr esz j k
   | _,_,_=>none
 | .index t x i=>match P.underlying t,aR x,aR i with
   | some .string,some j,some k=>some (.di j k)
   | some (.array n e),some j,some k=>if JG P e=some none then some (.dX n j k) else none
   | _,_,_=>none
 | .slice t x lo hi mx=>match P.underlying t,aR x,kE lo,kE hi,kE mx with
   | some (.slice e),some i,some l,some h,some m=>match dP P e with
     | some esz=>if 0 < esz then some (if fl=4 then .pJ esz i l h m else .slice esz i l h m) else none
     | none=>none
   | some .string,some i,some l,some h,some none=>some (.dY i l h)
   | _,_,_,_,_=>none
 | .makeSlice t l c=>match P.underlying t,aR c with
   | some (.slice e),some k=>match c9 P e,Aw P e with
     | some (esz,z),some bytes=>if 0 < bytes∧ER z=true then (match l with
        | .const (.int .i64 0)=>some (.nK esz bytes k)
        | _=>if Kf l c=true then some (.tx esz bytes z k) else none) else none
     | _,_=>none
   | _,_=>none
 | .makeMap _ none=>some .nL
 | .lookup t m k ok=>match P.underlying t,aR m,aR k with
   | some (.map kt et),some i,some j=>match oH P kt,fR P et with
     | some kd,some z=>some (.lookup kd z i j ok)
     | _,_=>none
   | _,_,_=>none
 | .mapUpdate t m k x=>match P.underlying t,aR m,aR k,aR x with
   | some (.map kt _),some i,some j,some y=>(oH P kt).map fun kd=>.kP kd i j y
   | _,_,_,_=>none
 | .makeFunc f first cap=>match fK first.toList,fK cap.toList with
   | some i,some j=>some (.fn f i j)
   | _,_=>none
 | .extract x i=>(aR x).map fun j=>.extract j i
 | .convert src dst x=>match P.underlying src,P.underlying dst,aR x with
   | some (.int _),some (.int k),some i=>some (.eU k i)
   | some .string,some .string,some i=>some (.gN i)
   | some .string,some (.slice e),some i=>match P.underlying e with
     | some (.int .u8)=>some (.bytesOf i)
     | _=>none
   | some (.slice e),some .string,some i=>match P.underlying e with
     | some (.int .u8)=>some (.strOf i)
     | _=>none
   | _,_,_=>none
 | .call c=>match c.callee with
   | .value f=>match aR f,fK c.args.toList with
     | some i,some js=>some (.call i js (if fl=0 then none else some (fl - 1)))
     | _,_=>none
   | .builtin .len=>match c.args.toList,c.argTypes.toList with
     | [x],[t]=>match P.underlying t,aR x with
       | some .string,some i=>some (.len 0 i)
       | some (.slice _),some i=>some (.len 1 i)
       | some (.map _ _),some i=>some (.len 2 i)
       | _,_=>none
     | _,_=>none
   | .builtin .append=>match c.args.toList,c.argTypes.toList with
     | [s,x],[t,t']=>if t=t' then (match P.underlying t,aR s,aR x with
        | some (.slice e),some i,some j=>match c9 P e,Aw P e with
          | some (esz,z),some bytes=>if 0 < bytes then (if fl=2 then (if ER z=true then some (.jB esz bytes z i j) else none) else some (.append esz bytes i j)) else none
          | _,_=>none
        | _,_,_=>none) else none
     | _,_=>none
   | .builtin .max=>match c.args.toList with
     | [x,y]=>match aR x,aR y with
       | some i,some j=>some (.mx true i j)
       | _,_=>none
     | _=>none
   | .builtin .min=>match c.args.toList with
     | [x,y]=>match aR x,aR y with
       | some i,some j=>some (.mx false i j)
       | _,_=>none
     | _=>none
   | _=>none
 | _=>none
def qF (P:Program) (o:Oper):ca:=
 match o.op with
 | .call c=>match c.callee with
   | .builtin .copy=>match c.args.toList,c.argTypes.toList with
     | [s,x],[t,_]=>match P.underlying t,aR s,aR x with
        | some (.slice e),some i,some j=>match dP P e with
          | some esz=>.copy esz i j
          | none=>.never
        | _,_,_=>.never
     | _,_=>.never
   | .builtin .clear=>match c.args.toList,c.argTypes.toList with
     | [s],[t]=>match P.underlying t,aR s with
        | some (.slice e),some i=>match c9 P e with
          | some (esz,z)=>.nM esz z i
          | none=>.never
        | _,_=>.never
     | _,_=>.never
   | _=>.never
 | _=>.never
def nS (P:Program) (o:Oper):ca:=
 match o.op with
 | .move x | .assign x=>match aR x,P.underlying o.type with
   | some i,some (.slice e)=>match dP P e with
     | some esz=>.Ae esz i
     | none=>.never
   | _,_=>.never
 | _=>.never
def lA (esz:Nat) (o:Oper):ca:=
 match o.op with
 | .move x | .assign x=>match aR x with
   | some i=>.Ae esz i
   | none=>.never
 | _=>.never
def NZ (o:Oper):Bool:=match o.op with | .load _ _=>false | _=>true
def Cw (P:Program) (o:Oper) (fl:Nat):ca:=if fl=3000 then nS P o else if 3000 < fl∧NZ o=true then lA (fl - 3000) o else (cB P o fl).getD (qF P o)
end Go.aL
end
section
namespace Go.aL
open Go
section
variable {ro:Option Nat} {P:Program} {lo:Option Nat} {A:Perm} {n:Nat} {M:Mem} {L:List Nat} {w:World} {H:List aa} {env:Env} {O:Pos→Option Nat} {a:Act} {Q:Exit→Act→World→Prop} {K:Env→List aa→Prop}
theorem bN {o:Oper} (hf:Fr A n M L w H env O a) (hd:∀ d,o.dst=some d→d < n)
 (h:∃ r z,(execOp a.eval o).run P w=.ok (.value r) w∧aS M L r z∧K (put o.dst z env) H∧∀ own xs,z=.al own xs→own=0):o.wpIn (wf ro) 0 P a w (nD A n M L w K) Q:=by
 obtain ⟨r,z,h1,h2,h3,h4⟩:=h
 exact wp_pure hf hd h1 h2 h4 h3
theorem aW {s:Sem Value} {r:Value} {w':World} (h:s.run P w=.ok r w'):(do pure (Next.value (← s)):Sem Next).run P w=.ok (.value r) w':=by
 simp only [Sem.run_bind,h,Result.andThen_ok,Sem.run_pure]
theorem qG {s:Sem Unit} {w':World} (h:s.run P w=.ok () w'):(do s;pure Next.skip:Sem Next).run P w=.ok .skip w':=by
 simp only [Sem.run_bind,h,Result.andThen_ok,Sem.run_pure]
theorem oJ {o:Oper} (hf:Fr A n M L w H env O a) (hd:∀ d,o.dst=some d→d < n) {r:Value} {z:AV} {w':World} {M':Mem} {L':List Nat} {H':List aa} (bJ:(execOp a.eval o).run P w=.ok (.value r) w')
 (hr:aS M' L' r z) (hz:∀ own xs,z=.al own xs→own=0) (bS:St A M' L' w' H' (fun t=>a.tmps.getD t undef) (get env) O) (cG:Ext A M w M' w') (hL:L <+: L') (hK:K (put o.dst z env) H'):o.wpIn (wf ro) 0 P a w (nD A n M L w K) Q:=by
 obtain ⟨O',pN⟩:=(hf.mono bS cG).pf hd hr hz
 exact dk bJ ⟨M',L',H',_,O',hK,pN,cG,hL⟩
theorem vJ {o:Oper} {aG:Env} {O':Pos→Option Nat} (hf:Fr A n M L w H env O a) (hd:∀ d,o.dst=some d→d < n) {r:Value} {z:AV} {w':World} {M':Mem} {ob:Option Nat} (bJ:(execOp a.eval o).run P w=.ok (.value r) w')
 (hr:aS M' L r z) (Nk:bg M' w' r z ob) (bS:St A M' L w' H (fun t=>a.tmps.getD t undef) (get aG) O') (cG:Ext A M w M' w') (h1:∀ q b,ob=some b→O' q≠some b) (h2:∀ b,ob=some b→b∉L∧b < w'.heap.size∧A b) (hK:K (put o.dst z aG) H):o.wpIn (wf ro) 0 P a w (nD A n M L w K) Q:=by
 have pN:Fr A n M' L w' H aG O' a:=⟨bS,hf.size,hf.defers.ext cG⟩
 refine dk bJ ?_
 cases gA:o.dst with
 | none=>rw [gA] at hK;exact ⟨M',L,H,_,O',hK,pN,cG,List.prefix_refl L⟩
 | some d=>
   rw [gA] at hK
   exact ⟨M',L,H,_,_,hK,pN.EC (hd d gA) hr ob Nk (fun q b hb hq=>absurd hq (h1 q b hb)) h2,cG,List.prefix_refl L⟩
theorem yL {o:Oper} {x:Operand} (ho:o.op=.move x∨o.op=.assign x) {i:IX} (hc:aR x=some i) {take:Bool} (hf:Fr A n M L w H env O a) (hd:∀ d,o.dst=some d→d < n)
 (h:bA ⟨P,lo⟩ (.set i take) o.dst env H K):o.wpIn (wf ro) 0 P a w (nD A n M L w K) Q:=by
 have bJ:(execOp a.eval o).run P w=.ok (.value (a.eval x)) w:=by
  rcases ho with ho | ho <;> simp [execOp,ho]
 have hr:=hf.eval hc
 simp only [bA] at h
 cases gA:o.dst with
 | none=>
   rw [gA] at h
   refine dk bJ ⟨M,L,H,env,O,h,?_,Ext.refl A M w,List.prefix_refl L⟩
   rw [gA];exact hf
 | some d=>
   rw [gA] at h
   have Wr:=hd d gA
   have h:K (si env d i take) H:=h
   unfold si at h
   split at h
   ·rename_i s _
    -- the list moves
    cases x with
    | tmp t=>
      have hts:t=s:=by simpa [aR] using hc
      subst hts
      have nQ:=hf.st.pf t (v:=a.tmps.getD t undef) (x:=(get env t).ab) (hf.st.env t).ab (AV.bL _)
      have We:fE (fun t=>a.tmps.getD t undef) t (a.tmps.getD t undef)=fun t=>a.tmps.getD t undef:=by funext t';simp only [fE];split;rename_i e0;rw [e0];rfl
      rw [We] at nQ
      have GC:Fr A n M L w H ((t,(get env t).ab)::env) (eE O (.t t) none) a:=⟨nQ,hf.size,hf.defers⟩
      have tI:=GC.EC Wr (v:=a.tmps.getD t undef) (x:=get env t) (hf.st.env t) (O (.t t)) (hf.st.iq t) (fun p b hb hp=>by
       simp only [eE] at hp
       split at hp
       ·cases hp
       ·rename_i n';exact absurd (hf.st.ch _ _ b hp hb) n') (fun b hb=>⟨hf.st.cz _ b hb,hf.st.fq _ b hb,hf.st.Oa _ b hb⟩)
      rw [← gA] at tI
      exact dk bJ ⟨M,L,H,_,_,h,tI,Ext.refl A M w,List.prefix_refl L⟩
    | const v=>simp only [aR] at hc;obtain ⟨y,_,hy⟩:=Option.map_eq_some_iff.1 hc;cases hy
    | func f=>simp [aR] at hc
    | global g=>simp [aR] at hc
   ·have tI:=hf.EC Wr hr.ab none (bg.free (AV.bL _)) (fun p b e=>by cases e) (fun b e=>by cases e)
    rw [← gA] at tI
    exact dk bJ ⟨M,L,H,_,_,h,tI,Ext.refl A M w,List.prefix_refl L⟩
theorem vK {o:Oper} {t:TypeId} {x:Operand} (ho:o.op=.load t x) (ht:JG P t=some none) {i:IX} (hc:aR x=some i) (hf:Fr A n M L w H env O a) (hd:∀ d,o.dst=some d→d < n)
 (h:bA ⟨P,lo⟩ (.eH i) o.dst env H K):o.wpIn (wf ro) 0 P a w (nD A n M L w K) Q:=by
 have hr:=hf.eval hc
 simp only [bA] at h
 split at h <;> try exact h.elim
 rename_i d id off gA hx
 split at h <;> try exact h.elim
 rename_i es bp
 obtain ⟨pg,hK⟩:=h
 rw [hx] at hr
 generalize hu:a.eval x=u at hr
 cases hr with
 | ptr b _ _ hl=>
 obtain ⟨cs,e,h1,h2,h3⟩:=fy hf.st bp hl
 have hlen:=h2.length
 obtain ⟨r1,r2⟩:=eJ (w:=w) (m:=0) ht
 have Ak:off < cs.toList.length:=by omega
 have hcell:=h3 off cs.toList[off] (by simp)
 have fL:=h2.getD off
 have e0:cs.toList.getD off undef=cs.toList[off]:=by rw [List.getD_eq_getElem?_getD,List.getElem?_eq_getElem Ak];rfl
 rw [e0] at fL
 have bJ:(execOp a.eval o).run P w=.ok (.value cs.toList[off]) w:=by
  simp only [execOp,ho,hu]
  exact aW (by simp only [Instr.loadAt,Instr.sureAddr,loadVar,Sem.run_bind,Sem.run_pure,Result.andThen_ok,r1,Bool.false_eq_true,if_false,run_load,hcell])
 have bS:=hf.st.HV bp hl pg
 have GC:Fr A n M L w (H.set id (.cells (es.set off (es.getD off .any).ab))) env (eE O (.c id off) none) a:=⟨bS,hf.size,hf.defers⟩
 have Nk:bg M w cs.toList[off] (es.getD off .any) (O (.c id off)):=by
  have h0:=hf.st.hZ id off
  have e3:bM L w id off=cs.toList[off]:=by unfold bM;simp only [hl,hcell];rfl
  have e4:bw H id off=es.getD off .any:=by unfold bw;simp [bp]
  rwa [e3,e4] at h0
 have tI:=GC.EC (hd d gA) fL (O (.c id off)) Nk (fun p b hb hp=>by
  simp only [eE] at hp
  split at hp
  ·cases hp
  ·rename_i n';exact absurd (hf.st.ch _ _ b hp hb) n') (fun b hb=>⟨hf.st.cz _ b hb,hf.st.fq _ b hb,hf.st.Oa _ b hb⟩)
 rw [← gA] at tI
 exact dk bJ ⟨M,L,_,_,_,hK,tI,Ext.refl A M w,List.prefix_refl L⟩
theorem xZ {o:Oper} {t:TypeId} {x y:Operand} (ho:o.op=.store t x y) (ht:dP P t=some 1) {i:IX} {s:Nat} (hc:aR x=some i) (hy:aR y=some (.t s)) (hf:Fr A n M L w H env O a)
 (gA:o.dst=none) (h:bA ⟨P,lo⟩ (.fw i s) o.dst env H K):o.wpIn (wf ro) 0 P a w (nD A n M L w K) Q:=by
 have hr:=hf.eval hc
 simp only [bA] at h
 have qt:y=.tmp s:=by
  cases y with
  | tmp t=>simp [aR] at hy;rw [hy]
  | const v=>simp only [aR] at hy;obtain ⟨z,_,hz⟩:=Option.map_eq_some_iff.1 hy;cases hz
  | func f=>simp [aR] at hy
  | global g=>simp [aR] at hy
 subst qt
 obtain ⟨w',H',O',h1,h2,h3,h4⟩:=Al (P:=P) hf.st ht h hr s rfl rfl
 have bJ:(execOp a.eval o).run P w=.ok .skip w':=by
  simp only [execOp,ho]
  exact qG h1
 have tI:Fr A n M L w' H' ((s,(get env s).ab)::env) O' (a.put o.dst undef):=by
  rw [gA];exact ⟨h3,hf.size,hf.defers.ext h4⟩
 exact l8 bJ ⟨M,L,H',_,O',h2,tI,h4,List.prefix_refl L⟩
theorem Ax {o:Oper} {t e:TypeId} {s x:Operand} (ho:o.op=.call { callee:=.builtin .append,args:=#[s,x],argTypes:=#[t,t] }) (ht:P.underlying t=some (.slice e)) {esz bytes:Nat} {z:AV} (hz:c9 P e=some (esz,z)) (hb:Aw P e=some bytes) (vD:0 < bytes)
 {i j:IX} (hi:aR s=some i) (hj:aR x=some j) (hf:Fr A n M L w H env O a) (hd:∀ d,o.dst=some d→d < n)
 (h:bA ⟨P,lo⟩ (.append esz bytes i j) o.dst env H K):o.wpIn (wf ro) 0 P a w (nD A n M L w K) Q:=by
 simp only [bA] at h
 have x8:=hf.eval hi
 have hrx:=hf.eval hj
 unfold c9 at hz
 split at hz <;> try cases hz
 rename_i esz' z' QY ph
 split at hz <;> cases hz
 rename_i hcond
 obtain ⟨h0,jh,tC⟩:=hcond
 obtain ⟨inf,jf,dc⟩:=Option.map_eq_some_iff.1 QY
 obtain ⟨inf',tJ,yE⟩:=Option.map_eq_some_iff.1 hb
 rw [jf] at tJ;cases tJ
 unfold fR at ph
 simp only [jf] at ph
 split at ph <;> try cases ph
 rename_i zv vB
 have uH:zv.cells.size=esz:=by have:=((cM (M:=M) (L:=L) ph).gl tC).length;rw [jh] at this;simpa using this
 have NR:match i.slot with | some d=>(fun t=>a.tmps.getD t undef) d=a.eval s∧get env d=ap env i | none=>ap env i=.ah:=by
  cases s with
  | tmp t=>simp [aR] at hi;subst hi;exact ⟨rfl,rfl⟩
  | const v=>
    simp only [aR] at hi
    obtain ⟨y,hy,rfl⟩:=Option.map_eq_some_iff.1 hi
    simp only [IX.slot,ap]
    have h2:=h
    simp only [ap,bn] at h2
    split at h2 <;> try exact h2.elim
    rename_i fP _
    unfold kC at fP
    split at fP
    ·rfl
    ·-- a constant is never an owned list
     exfalso
     unfold ofValue at hy
     split at hy
     ·obtain ⟨_,_,hq⟩:=Option.map_eq_some_iff.1 hy;cases hq
     ·unfold Wb at hy;split at hy <;> cases hy
    ·cases fP
  | func f=>
    simp [aR] at hi;subst hi
    simp only [ap,bn,kC] at h
  | global g=>simp [aR] at hi
 obtain ⟨r,w',M',O',ob,zs,g1,g2,g3,g4,g5,g6,g7,g8⟩:=Cl (P:=P) (ty:=o.type) hf.st ht jf vB dc yE uH h0 vD h i.slot x8 NR hrx
 have bJ:(execOp a.eval o).run P w=.ok (.value r) w':=by
  simp only [execOp,ho,resolve,invoke,builtin,Sem.run_bind,Sem.run_pure,Result.andThen_ok,List.map_toArray,List.map_cons,List.map_nil,g1]
 have EB:kR (get env) i.slot=get (cQ env i.slot):=by
  cases i.slot with
  | none=>rfl
  | some d=>rfl
 rw [EB] at g5
 exact vJ hf hd bJ g3 g4 g5 g6 g7 g8 g2
theorem x9 {o:Oper} {t e:TypeId} {s x:Operand} (ho:o.op=.call { callee:=.builtin .append,args:=#[s,x],argTypes:=#[t,t] }) (ht:P.underlying t=some (.slice e)) {esz bytes:Nat} {z:AV} (hz:c9 P e=some (esz,z)) (hb:Aw P e=some bytes) (vD:0 < bytes) (Kg:ER z=true)
 {i j:IX} (hi:aR s=some i) (hj:aR x=some j) (hf:Fr A n M L w H env O a) (hd:∀ d,o.dst=some d→d < n)
 (h:bA ⟨P,lo⟩ (.jB esz bytes z i j) o.dst env H K):o.wpIn (wf ro) 0 P a w (nD A n M L w K) Q:=by
 simp only [bA] at h
 have x8:=hf.eval hi
 have hrx:=hf.eval hj
 unfold c9 at hz
 split at hz <;> try cases hz
 rename_i esz' z' QY ph
 split at hz <;> cases hz
 rename_i hcond
 obtain ⟨h0,jh,tC⟩:=hcond
 obtain ⟨inf,jf,dc⟩:=Option.map_eq_some_iff.1 QY
 obtain ⟨inf',tJ,yE⟩:=Option.map_eq_some_iff.1 hb
 rw [jf] at tJ;cases tJ
 unfold fR at ph
 simp only [jf] at ph
 split at ph <;> try cases ph
 rename_i zv vB
 have J9:∀ y∈z.cells,∀ own xs,y=.al own xs→own=0:=by
  intro y hy own xs e
  have:=List.all_eq_true.1 Kg y hy
  subst e
  simpa using this
 obtain ⟨r,y,L',w',H',O',g1,g2,g3,g4,g5,g6,g7⟩:=Av (P:=P) (ty:=o.type) hf.st ht jf vB dc yE h0 vD ph tC jh J9 h x8 hrx
 have bJ:(execOp a.eval o).run P w=.ok (.value r) w':=by
  simp only [execOp,ho,resolve,invoke,builtin,Sem.run_bind,Sem.run_pure,Result.andThen_ok,List.map_toArray,List.map_cons,List.map_nil,g1]
 have GC:Fr A n M L' w' H' env O' a:=⟨g5,hf.size,hf.defers.ext g6⟩
 obtain ⟨O'',pN⟩:=GC.pf hd g2 g3
 exact dk bJ ⟨M,L',H',_,O'',g4,pN,g6,g7⟩
theorem GD:∀ {xs ys:List AV},xY xs ys→xs.length=ys.length∧∀ t,(xs.getD t .any).le (ys.getD t .any)
 | [],[],_=>⟨rfl,fun t=>.inl rfl⟩
 | [],_::_,h=>h.elim
 | _::_,[],h=>h.elim
 | x::xs,y::ys,h=>by
   obtain ⟨h1,h2⟩:=h
   obtain ⟨i1,i2⟩:=GD h2
   refine ⟨by simp [i1],fun t=>?_⟩
   cases t with
   | zero=>simpa using h1
   | succ t=>simpa using i2 t
theorem dI (env:Env) (pass:Option Nat):∀ (j:Nat) (xs:List IX),(aI env pass j xs).length=xs.length
 | _,[]=>rfl
 | j,.t s::xs=>by simp [aI,dI env pass (j + 1) xs]
 | j,.c v::xs=>by simp [aI,dI env pass (j + 1) xs]
theorem jD (hf:Fr A n M L w H env O a) (pass:Option Nat):∀ {xs:List Operand} {is:List IX} (j:Nat),fK xs=some is→aM M L (xs.map a.eval) (aI env pass j is)
 | [],is,j,hc=>by simp [fK] at hc;subst hc;exact .nil
 | x::xs,is,j,hc=>by
   unfold fK at hc
   split at hc
   ·rename_i i is' h1 h2
    cases hc
    have hr:=hf.eval h1
    cases i with
    | t s=>
      refine .cons _ _ _ _ ?_ (jD hf pass (j + 1) h2)
      split
      ·exact hr
      ·exact hr.ab
    | c v=>exact .cons _ _ _ _ hr.ab (jD hf pass (j + 1) h2)
   ·cases hc
def dC (A:Perm) (loose:Bool) (H:List aa) (L:List Nat) (O:Pos→Option Nat) (w:World):Perm where
 wr:=fun b=>b∈L∨(∃ p,O p=some b)∨w.heap.size≤b
 top:=fun id=>if id < H.length then some (A.jI H.length id) else if loose=true then none else some (id + 1)
 ok:=by
  intro id n h
  split at h
  ·rename_i h1
   cases h
   have:=A.lY h1
   omega
  ·split at h
   ·cases h
   ·cases h;omega
theorem kV (A:Perm) (loose:Bool) (H:List aa) (L:List Nat) (O:Pos→Option Nat) (w:World):(dC A loose H L O w).entry loose H.length:=
 ⟨fun id h=>⟨A.jI H.length id,A.vr _ _,by simp only [dC,if_pos h]⟩,fun id h=>by simp only [dC];rw [if_neg (by omega)]⟩
theorem tK (A:Perm) (loose:Bool) (H:List aa) (L:List Nat) (O:Pos→Option Nat) (w:World) {id:Nat} (h:id < H.length) (len:Nat):(dC A loose H L O w).jI len id=min (A.jI H.length id) len:=by
 unfold Perm.jI
 simp only [dC,if_pos h]
 rfl
theorem St.narrow {ev:Nat→Value} {ea:Nat→AV} (loose:Bool) (h:St A M L w H ev ea O):St (dC A loose H L O w) M L w H ev ea O:=
 { len:=h.len,nodup:=h.nodup,env:=h.env,mem:=h.mem,obj:=h.obj,lt:=h.lt,iq:=h.iq,hZ:=h.hZ,ch:=h.ch,cz:=h.cz,fq:=h.fq,
   bE:=fun id o ho=>by
    rw [tK A loose H L O w (aO ho),Nat.min_eq_left (A.vr _ _)]
    exact h.bE id o ho
   La:=fun b hb=>.inl hb,Oa:=fun p b hp=>.inr (.inl ⟨p,hp⟩),fresh:=fun b hb=>.inr (.inr hb) }
theorem St.qH {ev:Nat→Value} {ea:Nat→AV} (h:St A M L w H ev ea O) (ev':Nat→Value) (ea':Nat→AV) (hr:∀ t,aS M L (ev' t) (ea' t)) (hx:∀ t own xs,ea' t=.al own xs→own=0) :
 St A M L w H ev' ea' (fun p=>match p with | .t _=>none | .c id j=>O (.c id j)):=by
 have hO:∀ (p:Pos) (b:Nat),(match p with | .t _=>none | .c id j=>O (.c id j))=some b→O p=some b:=by
  intro p b hp
  cases p with
  | t t=>cases hp
  | c id j=>exact hp
 exact { len:=h.len,nodup:=h.nodup,env:=hr,mem:=h.mem,obj:=h.obj,bE:=h.bE,lt:=h.lt,iq:=fun t=>bg.free (hx t),hZ:=h.hZ,ch:=fun p q b hp hq=>h.ch p q b (hO p b hp) (hO q b hq),
         cz:=fun p b hp=>h.cz p b (hO p b hp),fq:=fun p b hp=>h.fq p b (hO p b hp),La:=h.La,Oa:=fun p b hp=>h.Oa p b (hO p b hp),fresh:=h.fresh }
theorem St.H8 {ev:Nat→Value} {ea:Nat→AV} (h:St A M L w H ev ea O) {Oc:Pos→Option Nat} (pt:Option Nat) (loose:Bool) (vC:loose=true→∀ id,H.length≤id→A.top id=none) (hOc:∀ b,(∃ p,Oc p=some b)→(∃ id j,O (.c id j)=some b)∨∃ s,pt=some s∧O (.t s)=some b)
 {M':Mem} {L':List Nat} {w':World} {H':List aa} {v:Value} {r:AV} {O':Pos→Option Nat}
 (h':St (dC A loose H L Oc w) M' L' w' H' (fE (fun _=>undef) 0 v) (fE (fun _=>.any) 0 r) O') (cG:Ext (dC A loose H L Oc w) M w M' w') (hL:L <+: L') :
 ∃ O'',St A M' L' w' H' ev (kR ea pt) O''∧Ext A M w M' w'∧aS M' L' v r∧bg M' w' v r (O' (.t 0))∧(∀ q b,O' (.t 0)=some b→O'' q≠some b)∧(∀ b,O' (.t 0)=some b→b∉L'∧b < w'.heap.size∧A b):=by
 have hlen:H.length≤H'.length:=by
  have:=hL.length_le
  rw [h.len,h'.len] at this
  exact this
 have hAc:∀ b,dC A loose H L Oc w b→A b:=by
  rintro b (hb | hb | hb)
  ·exact h.La b hb
  ·rcases hOc b hb with ⟨id,j,hq⟩ | ⟨s,_,hq⟩
   ·exact h.Oa _ b hq
   ·exact h.Oa _ b hq
  ·exact h.fresh b hb
 let O'':Pos→Option Nat:=fun p=>match p with
  | .t i=>if pt=some i then none else O (.t i)
  | .c id j=>O' (.c id j)
 -- what the caller keeps is not the callee's to write
 have kO:∀ i b,pt≠some i→O (.t i)=some b→¬ dC A loose H L Oc w b:=by
  rintro i b hi hb (hc | hc | hc)
  ·exact h.cz _ b hb hc
  ·rcases hOc b hc with ⟨id,j,hq⟩ | ⟨s,hs,hq⟩
   ·have:=h.ch _ _ b hb hq;cases this
   ·have:=h.ch _ _ b hb hq;cases this;exact hi hs
  ·have:=h.fq _ b hb;omega
 have H9:∀ i b,O'' (.t i)=some b→pt≠some i∧O (.t i)=some b:=by
  intro i b hb
  simp only [O''] at hb
  split at hb
  ·cases hb
  ·rename_i hi;exact ⟨hi,hb⟩
 have Sz:∀ i b p,O'' (.t i)=some b→O' p≠some b:=by
  intro i b p hb hp
  obtain ⟨h1,h2⟩:=H9 i b hb
  exact kO i b h1 h2 (h'.Oa p b hp)
 refine ⟨O'',{ len:=h'.len,nodup:=h'.nodup,env:=?_,mem:=h'.mem,obj:=h'.obj,bE:=?_,lt:=h'.lt,iq:=?_,hZ:=h'.hZ,ch:=?_,cz:=?_,fq:=?_,La:=fun b hb=>hAc b (h'.La b hb),Oa:=?_,fresh:=fun b hb=>h.fresh b (Nat.le_trans cG.size hb) },?_,?_,?_,?_,?_⟩
 ·intro t
  have:=(h.env t).mono cG.ln hL
  cases pt with
  | none=>exact this
  | some d=>
    simp only [kR,fE]
    split
    ·rename_i e0;subst e0;exact this.ab
    ·exact this
 ·intro id o ho
  have h1:=h'.bE id o ho
  have hl:=aO ho
  by_cases e:id < H.length
  ·rw [tK A loose H L Oc w e] at h1
   exact aa.cE (Nat.le_trans (Nat.min_le_left _ _) (A.Ca hlen id)) o h1
  ·by_cases hx:loose=true
   ·have e1:A.jI H'.length id=H'.length:=by unfold Perm.jI;rw [vC hx id (by omega)]
    rw [e1]
    exact aa.cE (Perm.vr _ _ _) o h1
   ·have e1:(dC A loose H L Oc w).jI H'.length id=min (id + 1) H'.length:=by
     unfold Perm.jI
     simp only [dC,if_neg e,if_neg hx]
    rw [e1] at h1
    exact aa.cE (Nat.le_trans (Nat.min_le_left _ _) (A.lY hl)) o h1
 ·intro t
  have h1:=h.iq t
  cases pt with
  | none=>
    exact h1.mono fun b hb=>cG.kO b (h.fq _ b hb) (kO t b (by simp) hb)
  | some d=>
    simp only [kR,fE,O'']
    by_cases e0:t=d
    ·subst e0
     simp only [if_true]
     exact bg.free (AV.bL _)
    ·have:¬ (some d=some t):=fun e=>e0 (by cases e;rfl)
     simp only [e0,this,if_false]
     exact h1.mono fun b hb=>cG.kO b (h.fq _ b hb) (kO t b this hb)
 ·intro p q b hp hq
  cases p with
  | t i=>
    cases q with
    | t j=>exact h.ch _ _ b (H9 i b hp).2 (H9 j b hq).2
    | c id j=>exact absurd hq (Sz i b _ hp)
  | c id j=>
    cases q with
    | t i=>exact absurd hp (Sz i b _ hq)
    | c id' j'=>exact h'.ch _ _ b hp hq
 ·intro p b hp hm
  cases p with
  | t i=>exact kO i b (H9 i b hp).1 (H9 i b hp).2 (h'.La b hm)
  | c id j=>exact h'.cz _ b hp hm
 ·intro p b hp
  cases p with
  | t i=>exact Nat.lt_of_lt_of_le (h.fq _ b (H9 i b hp).2) cG.size
  | c id j=>exact h'.fq _ b hp
 ·intro p b hp
  cases p with
  | t i=>exact h.Oa _ b (H9 i b hp).2
  | c id j=>exact hAc b (h'.Oa _ b hp)
 ·exact ⟨cG.ln,cG.size,cG.os,cG.tape,cG.output,fun b hb hA=>cG.kO b hb (fun hc=>hA (hAc b hc)),cG.loops⟩
 ·simpa [fE] using h'.env 0
 ·simpa [fE] using h'.iq 0
 ·intro q b hb hq
  cases q with
  | t i=>exact Sz i b _ hq hb
  | c id j=>have:=h'.ch _ _ b hb hq;cases this
 ·intro b hb
  exact ⟨h'.cz _ b hb,h'.fq _ b hb,hAc b (h'.Oa _ b hb)⟩
theorem fU (env:Env):∀ (xs:List IX) (j t:Nat),(aI env none j xs).getD t .any=(match xs[t]? with | some x=>(ap env x).ab | none=>.any)
 | [],j,t=>by simp [aI]
 | .t s::xs,j,0=>by simp [aI,ap]
 | .c v::xs,j,0=>by simp [aI,ap]
 | .t s::xs,j,t + 1=>by
   simp only [aI,List.getD_cons_succ,List.getElem?_cons_succ]
   exact fU env xs (j + 1) t
 | .c v::xs,j,t + 1=>by
   simp only [aI,List.getD_cons_succ,List.getElem?_cons_succ]
   exact fU env xs (j + 1) t
theorem fV (env:Env) (k:Nat):∀ (xs:List IX) (j t:Nat),(aI env (some k) j xs).getD t .any=(match xs[t]? with | some (.t s)=>if k=j + t then get env s else (get env s).ab | some (.c v)=>v.ab | none=>.any)
 | [],j,t=>by simp [aI]
 | .t s::xs,j,0=>by simp [aI]
 | .c v::xs,j,0=>by simp [aI]
 | .t s::xs,j,t + 1=>by
   simp only [aI,List.getD_cons_succ,List.getElem?_cons_succ]
   rw [fV env k xs (j + 1) t,show j + 1 + t=j + (t + 1) by omega]
 | .c v::xs,j,t + 1=>by
   simp only [aI,List.getD_cons_succ,List.getElem?_cons_succ]
   rw [fV env k xs (j + 1) t,show j + 1 + t=j + (t + 1) by omega]
theorem qI (vs:List Value) (t:Nat):vs.toArray.getD t undef=vs.getD t undef:=by
 simp [List.getD_eq_getElem?_getD]
theorem lB (xs ys zs:List AV) (t:Nat):(xs++ys++zs).getD t .any=if t < xs.length then xs.getD t .any else if t < xs.length + ys.length then ys.getD (t - xs.length) .any else zs.getD (t - xs.length - ys.length) .any:=by
 simp only [List.getD_eq_getElem?_getD,List.getElem?_append,List.length_append]
 by_cases h1:t < xs.length
 ·rw [if_pos (by omega),if_pos h1,if_pos h1]
 ·by_cases h2:t < xs.length + ys.length
  ·rw [if_pos h2,if_neg h1,if_neg h1,if_pos h2]
  ·rw [if_neg h2,if_neg h1,if_neg h2,Nat.sub_sub]
theorem sq {o:Oper} {xs:List Operand} {js:List IX} (VQ:fK xs=some js) {pass:Option Nat} {fs cs:List Value} {first cap:List AV} (Ay:aM M L fs first) (sn:aM M L cs cap) {bR:List AV}
 (hle:xY (first.map AV.ab++aI env pass 0 js++cap.map AV.ab) bR) (hf:Fr A n M L w H env O a) (hd:∀ d,o.dst=some d→d < n) {loose:Bool} (vC:loose=true→∀ id,H.length≤id→A.top id=none) :
 ∃ Oc,(fs++xs.map a.eval++cs).length=bR.length∧St (dC A loose H L Oc w) M L w H (fun t=>(fs++xs.map a.eval++cs).toArray.getD t undef) (fun t=>bR.getD t .any) Oc∧
  ∀ (v:Value) (r:AV) (H':List aa) (M':Mem) (L':List Nat) (O':Pos→Option Nat) (w':World),K (put o.dst r (cQ env (bh js pass))) H'→St (dC A loose H L Oc w) M' L' w' H' (fE (fun _=>undef) 0 v) (fE (fun _=>.any) 0 r) O'→Ext (dC A loose H L Oc w) M w M' w'→L <+: L'→
   nD A n M L w K (a.put o.dst v) w':=by
 have hrb:=jD hf pass 0 VQ
 have abk:=jD hf none 0 VQ
 obtain ⟨hlen,abl⟩:=GD hle
 obtain ⟨vs,xS⟩:∃ vs:List Value,vs=fs++xs.map a.eval++cs:=⟨_,rfl⟩
 have hrv:aM M L vs (first.map AV.ab++aI env pass 0 js++cap.map AV.ab):=by rw [xS];exact (Ay.dd.append hrb).append sn.dd
 have abm:aM M L vs (first.map AV.ab++aI env none 0 js++cap.map AV.ab):=by rw [xS];exact (Ay.dd.append abk).append sn.dd
 have qz:vs.length=bR.length:=by rw [hrv.length];exact hlen
 -- the callee's state
 have abn:∃ Oc,St A M L w H (fun t=>vs.toArray.getD t undef) (fun t=>bR.getD t .any) Oc∧(∀ b,(∃ p,Oc p=some b)→(∃ id j,O (.c id j)=some b)∨∃ s,bh js pass=some s∧O (.t s)=some b):=by
  have hfree:∀ t own zs,(first.map AV.ab++aI env none 0 js++cap.map AV.ab).getD t .any=.al own zs→own=0:=by
   intro t own zs he
   have hm:∀ (l:List AV) q,(l.map AV.ab).getD q .any=.al own zs→own=0:=by
    intro l q hq
    rw [List.getD_eq_getElem?_getD,List.getElem?_map] at hq
    cases hx:l[q]? with
    | none=>simp [hx] at hq
    | some y=>simp [hx] at hq;exact AV.bL y own zs hq
   rw [lB] at he
   split at he
   ·exact hm _ _ he
   ·split at he
    ·rw [fU] at he
     split at he
     ·exact AV.bL _ own zs he
     ·cases he
    ·exact hm _ _ he
  have h0:=hf.st.qH (fun t=>vs.toArray.getD t undef) (fun t=>(first.map AV.ab++aI env none 0 js++cap.map AV.ab).getD t .any) (fun t=>by rw [qI];exact abm.getD t) hfree
  -- then the one that is handed over
  have h1:∃ O1,St A M L w H (fun t=>vs.toArray.getD t undef) (fun t=>(first.map AV.ab++aI env pass 0 js++cap.map AV.ab).getD t .any) O1∧(∀ b,(∃ p,O1 p=some b)→(∃ id j,O (.c id j)=some b)∨∃ s,bh js pass=some s∧O (.t s)=some b):=by
   cases pO:bh js pass with
   | none=>
     refine ⟨_,h0.congr (fun _=>rfl) (fun t=>?_),?_⟩
     ·rw [lB,lB,dI,dI]
      split
      ·rfl
      ·split
       ·cases pass with
        | none=>rfl
        | some k=>
          rw [fU,fV]
          unfold bh at pO
          simp only at pO
          cases hx:js[t - (first.map AV.ab).length]? with
          | none=>rfl
          | some x=>
            cases x with
            | c v=>rfl
            | t s=>
              simp only
              rw [if_neg]
              ·rfl
              ·intro e
               rw [Nat.zero_add] at e
               rw [e,hx] at pO
               simp at pO
       ·rfl
     ·rintro b ⟨p,hp⟩
      cases p with
      | t t=>cases hp
      | c id j=>exact .inl ⟨id,j,hp⟩
   | some s=>
     -- where it stands
     obtain ⟨k,rfl,QZ⟩:∃ k,pass=some k∧js[k]?=some (.t s):=by
      unfold bh at pO
      split at pO
      ·rename_i k
       split at pO
       ·rename_i s' Ws;cases pO;exact ⟨k,rfl,Ws⟩
       ·cases pO
      ·cases pO
     have GF:k < js.length:=aO QZ
     have hargs:∀ (xs:List Operand) (is:List IX),fK xs=some is→∀ (q s:Nat),is[q]?=some (IX.t s)→xs[q]?=some (Operand.tmp s):=by
      intro xs
      induction xs with
      | nil=>intro is hc q s hq;simp [fK] at hc;subst hc;simp at hq
      | cons x xs ih=>
        intro is hc q s hq
        unfold fK at hc
        split at hc
        ·rename_i i is' e1 e2
         cases hc
         cases q with
         | zero=>
           simp at hq;subst hq
           cases x with
           | tmp t=>simp [aR] at e1;simp [e1]
           | const v=>simp only [aR] at e1;obtain ⟨_,_,hz⟩:=Option.map_eq_some_iff.1 e1;cases hz
           | func f=>simp [aR] at e1
           | global g=>simp [aR] at e1
         | succ q=>simpa using ih is' e2 q s (by simpa using hq)
        ·cases hc
     have cS:=hargs _ _ VQ k s QZ
     have nr:vs[first.length + k]?=some (a.tmps.getD s undef):=by
      have NW:fs.length=first.length:=Ay.length
      rw [xS]
      rw [List.append_assoc,List.getElem?_append_right (by omega),NW,show first.length + k - first.length=k by omega,List.getElem?_append_left (by simpa using aO cS),List.getElem?_map,cS]
      rfl
     have nQ:=h0.put (first.length + k) (v:=a.tmps.getD s undef) (x:=get env s) (hf.st.env s) (O (.t s)) (hf.st.iq s) (fun p b hb hp=>by
      cases p with
      | t t=>cases hp
      | c id j=>have:=hf.st.ch _ _ b hb hp;cases this) (fun b hb=>⟨hf.st.cz _ b hb,hf.st.fq _ b hb,hf.st.Oa _ b hb⟩)
     refine ⟨_,nQ.congr (fun t=>?_) (fun t=>?_),?_⟩
     ·simp only [fE]
      split
      ·rename_i e;subst e
       rw [qI,List.getD_eq_getElem?_getD,nr];rfl
      ·rfl
     ·simp only [fE]
      rw [lB,lB,dI,dI]
      simp only [List.length_map]
      by_cases e:t=first.length + k
      ·subst e
       rw [if_pos rfl,if_neg (by omega),if_pos (by omega),show first.length + k - first.length=k by omega,fV,QZ]
       simp
      ·rw [if_neg e]
       split
       ·rfl
       ·split
        ·rw [fU,fV]
         cases hx:js[t - first.length]? with
         | none=>rfl
         | some x=>
           cases x with
           | c v=>rfl
           | t s=>
             simp only
             rw [if_neg (by omega)]
             rfl
        ·rfl
     ·rintro b ⟨p,hp⟩
      simp only [eE] at hp
      split at hp
      ·exact .inr ⟨s,rfl,hp⟩
      ·cases p with
       | t t=>cases hp
       | c id j=>exact .inl ⟨id,j,hp⟩
  obtain ⟨O1,g1,g2⟩:=h1
  obtain ⟨O2,g3,g4⟩:=g1.Gy (ea':=fun t=>bR.getD t .any) abl
  exact ⟨O2,g3,fun b ⟨p,hp⟩=>g2 b ⟨p,g4 p b hp⟩⟩
 obtain ⟨Oc,bS,hOc⟩:=abn
 refine ⟨Oc,by rw [← xS];exact qz,by rw [← xS];exact bS.narrow loose,?_⟩
 intro v r H' M' L' O' w' hK mf cG hL
 obtain ⟨O'',k1,k2,k3,k4,k5,k6⟩:=hf.st.H8 (bh js pass) loose vC hOc mf cG hL
 have EB:kR (get env) (bh js pass)=get (cQ env (bh js pass)):=by
  cases bh js pass <;> rfl
 rw [EB] at k1
 have pN:Fr A n M' L' w' H' (cQ env (bh js pass)) O'' a:=⟨k1,hf.size,hf.defers.ext k2⟩
 show nD A n M L w K (a.put o.dst v) w'
 cases gA:o.dst with
 | none=>rw [gA] at hK;exact ⟨M',L',H',_,O'',hK,pN,k2,hL⟩
 | some d=>
   rw [gA] at hK
   exact ⟨M',L',H',_,_,hK,pN.EC (hd d gA) k3 (O' (.t 0)) k4 (fun q b hb hq=>absurd hq (k5 q b hb)) k6,k2,hL⟩
theorem ES {o:Oper} {c:Call} (ho:o.op=.call c) {f:Operand} (ns:c.callee=.value f) {i:IX} {js:List IX} (GG:aR f=some i) (VQ:fK c.args.toList=some js) {pass:Option Nat}
 (hp:∀ l,lo=some l→∀ id,l≤id→A.top id=none) (hf:Fr A n M L w H env O a) (hd:∀ d,o.dst=some d→d < n) (h:bA ⟨P,lo⟩ (.call i js pass) o.dst env H K):o.wpIn (wf ro) 0 P a w (nD A n M L w K) Q:=by
 simp only [bA] at h
 have Nn:=hf.eval GG
 unfold pq at h
 split at h <;> try exact h.elim
 ·rename_i g first cap Wt
  obtain ⟨bR,hle,hcall⟩:=h
  rw [Wt] at Nn
  generalize hu:a.eval f=u at Nn
  cases Nn with
  | fn _ fs cs _ _ Ay sn=>
  obtain ⟨loose,vC,hcall⟩:∃ loose:Bool,(loose=true→∀ id,H.length≤id→A.top id=none)∧kU loose P g bR H fun r H'=>K (put o.dst r (cQ env (bh js pass))) H':=by
   unfold ej at hcall
   split at hcall
   ·exact ⟨false,by simp,hcall⟩
   ·rename_i l hl
    rcases hcall with hcall | ⟨h1,hcall⟩
    ·exact ⟨false,by simp,hcall⟩
    ·exact ⟨true,fun _ id bp=>hp l hl id (by omega),hcall⟩
  obtain ⟨Oc,qz,bS,fin⟩:=sq (K:=K) (o:=o) VQ Ay sn hle hf hd vC
  obtain ⟨vs,xS⟩:∃ vs:List Value,vs=fs++c.args.toList.map a.eval++cs:=⟨_,rfl⟩
  rw [← xS] at qz bS
  have bJ:(execOp a.eval o).run P w=(callFunc g vs.toArray).run P w:=by
   simp only [execOp,ho,resolve,ns,Deferred.ofValue,hu,invoke,Sem.run_bind,Sem.run_pure,Result.andThen_ok]
   have e1:(fs.toArray++c.args.map a.eval++cs.toArray)=vs.toArray:=by
    apply Array.ext';simp [xS]
   rw [e1]
  rcases hcall (dC A loose H L Oc w) M L w vs.toArray Oc (kV A loose H L Oc w) (by simpa using qz) bS with ⟨h1,hc⟩ | ⟨v,w',r,H',M',L',O',h1,hK,mf,cG,hL⟩
  ·refine lq (bJ.trans h1) (by intro d e;cases e) ⟨(fun h=>by cases h),?_⟩
   have ph:CallsIn (wf ro) (0 - 1) P g vs.toArray w _:=callsIn_wide.2 hc
   refine CallsIn.mono ph fun e w' he=>?_
   obtain ⟨v,r,H',M',L',O',rfl,hK,mf,cG,hL⟩:=he
   exact fin v r H' M' L' O' w' hK mf cG hL
  ·exact dk (bJ.trans h1) (fin v r H' M' L' O' w' hK mf cG hL)
 ·rename_i id Wt
  obtain ⟨bR,hle,hcall⟩:=h
  rw [Wt] at Nn
  generalize hu:a.eval f=u at Nn
  cases Nn with
  | nH b _ hl=>
  obtain ⟨loose,vC,hcall⟩:∃ loose:Bool,(loose=true→∀ id,H.length≤id→A.top id=none)∧fD loose P id bR H fun r H'=>K (put o.dst r (cQ env (bh js pass))) H':=by
   unfold mh at hcall
   split at hcall
   ·exact ⟨false,by simp,hcall⟩
   ·rename_i l hl
    rcases hcall with hcall | ⟨h1,hcall⟩
    ·exact ⟨false,by simp,hcall⟩
    ·exact ⟨true,fun _ id bp=>hp l hl id (by omega),hcall⟩
  obtain ⟨Oc,qz,bS,fin⟩:=sq (K:=K) (o:=o) (fs:=[]) (cs:=[]) (first:=[]) (cap:=[]) VQ .nil .nil (by simpa using hle) hf hd vC
  simp only [List.nil_append,List.append_nil] at qz bS
  obtain ⟨fn,tmps,as,bd,h1,h2⟩:=hcall (dC A loose H L Oc w) M L w (c.args.toList.map a.eval).toArray Oc b (kV A loose H L Oc w) (by simpa using qz) hl bS
  have bJ:(execOp a.eval o).run P w=.ok (.round b fn tmps as bd) w:=by
   simp only [execOp,ho,resolve,ns,Deferred.ofValue,hu,invoke,Sem.run_bind,Sem.run_pure,Result.andThen_ok]
   have e1:(#[]++c.args.map a.eval:Array Value)=(c.args.toList.map a.eval).toArray:=by
    apply Array.ext';simp
   rw [e1]
   exact h1
  refine lq bJ (by intro d e;cases e) ⟨(fun h=>by cases h),?_⟩
  have ph:RoundIn (wf ro) (0 - 1) P b fn tmps as bd w _:=h2
  refine RoundIn.mono ph fun e w' he=>?_
  obtain ⟨v,r,H',M',L',O',rfl,hK,mf,cG,hL⟩:=he
  exact fin v r H' M' L' O' w' hK mf cG hL
end
end Go.aL
end
section
namespace Go.aL
open Go
section
variable {ro:Option Nat} {P:Program} {lo:Option Nat} {A:Perm} {n:Nat} {M:Mem} {L:List Nat} {w:World} {H:List aa} {env:Env} {O:Pos→Option Nat} {a:Act} {Q:Exit→Act→World→Prop} {K:Env→List aa→Prop}
theorem oK {x:AV} {φ:Bool→Prop} (h:eI x φ):∃ b,x=.bool b∧φ b:=by
 unfold eI at h
 split at h
 ·exact ⟨_,rfl,h⟩
 ·exact h.elim
def iu (kd:Nat):Value:=match kd with | 0=>.slice none 0 0 | 1=>.pointer none | 2=>.map none | _=>.nilFunc
def qJ (kd:Nat) (D:TypeDesc):Bool:=match kd,D with | 0,.slice _=>true | 1,.pointer _=>true | 2,.map _ _=>true | 3,.func _ _ _=>true | _,_=>false
theorem uy {d kd:Nat} {t:TypeId} {D:TypeDesc} (ht:P.underlying t=some D) (hD:qJ kd D=true) {u:Value} {x:AV} {b:Bool} (hx:isNil kd x=some b) (hu:aS M L u x):(Op.equalIn (d + 1) t u (iu kd)).run P w=.ok b w:=by
 unfold isNil at hx
 split at hx <;> cases hx <;> cases D <;> simp [qJ] at hD <;> cases hu <;> simp [Op.equalIn,run_underlying ht,iu]
theorem vL {kd:Nat} {neq:Bool} {t:TypeId} {D:TypeDesc} (ht:P.underlying t=some D) (hD:qJ kd D=true) {u:Value} {x:AV} {φ:AV→Prop} (h:cZ kd neq x φ) (hu:aS M L u x) (X Y:Operand) :
 ∃ r z,(do eqGuard (if neq then .neq else .eql) t X Y u (iu kd);binOp (if neq then .neq else .eql) t u (iu kd):Sem Value).run P w=.ok r w∧aS M L r z∧φ z∧∀ own xs,z=.al own xs→own=0:=by
 unfold cZ at h
 split at h
 rotate_left
 ·split at h <;> try exact h.elim
  cases hu with
  | al b off c own e cs xs he hx hn hle hc hr hm=>simp at hn
  | gL ad c own hc=>
    have hDs:∃ e,D=.slice e:=by
     cases D <;> simp [qJ] at hD
     exact ⟨_,rfl⟩
    obtain ⟨e,rfl⟩:=hDs
    have he0:∀ d,(Op.equalIn (d + 1) t (.slice ad 0 c) (iu 0)).run P w=.ok (ad.isNone) w:=by
     intro d
     cases ad <;> simp [Op.equalIn,run_underlying ht,iu]
    have he:(Op.equal t (.slice ad 0 c) (iu 0)).run P w=.ok (ad.isNone) w:=he0 9999
    have hg:∀ op,(eqGuard op t X Y (.slice ad 0 c) (iu 0)).run P w=.ok () w:=by
     intro op
     unfold eqGuard;cases op <;> rfl
    have h1:binOp .eql t (.slice ad 0 c) (iu 0)=(Op.equal t (.slice ad 0 c) (iu 0) >>= fun q=>(pure (.bool q):Sem Value)):=rfl
    have h2:binOp .neq t (.slice ad 0 c) (iu 0)=(Op.equal t (.slice ad 0 c) (iu 0) >>= fun q=>(pure (.bool (!q)):Sem Value)):=rfl
    have hφ:∀ b,φ (.bool b):=fun b=>by cases b;exact h.2;exact h.1
    cases neq
    ·refine ⟨.bool ad.isNone,.bool ad.isNone,?_,.bool _,hφ _,by intro _ _ e;cases e⟩
     simp only [Bool.false_eq_true,if_false,Sem.run_bind,hg,Result.andThen_ok,h1,he,Sem.run_pure]
    ·refine ⟨.bool (!ad.isNone),.bool (!ad.isNone),?_,.bool _,hφ _,by intro _ _ e;cases e⟩
     simp only [if_true,Sem.run_bind,hg,Result.andThen_ok,h2,he,Sem.run_pure]
 rename_i b hb
 have he:(Op.equal t u (iu kd)).run P w=.ok b w:=uy (d:=9999) ht hD hb hu
 have hg:∀ op,(eqGuard op t X Y u (iu kd)).run P w=.ok () w:=by
  intro op
  unfold isNil at hb
  split at hb <;> cases hb <;> cases hu <;> (unfold eqGuard;cases op <;> rfl)
 have h1:binOp .eql t u (iu kd)=(Op.equal t u (iu kd) >>= fun q=>(pure (.bool q):Sem Value)):=by
  unfold isNil at hb
  split at hb <;> cases hb <;> cases hu <;> rfl
 have h2:binOp .neq t u (iu kd)=(Op.equal t u (iu kd) >>= fun q=>(pure (.bool (!q)):Sem Value)):=by
  unfold isNil at hb
  split at hb <;> cases hb <;> cases hu <;> rfl
 cases neq
 ·refine ⟨.bool b,.bool b,?_,.bool _,h,by intro _ _ e;cases e⟩
  simp only [Bool.false_eq_true,if_false,Sem.run_bind,hg,Result.andThen_ok,h1,he,Sem.run_pure]
 ·refine ⟨.bool (!b),.bool (!b),?_,.bool _,h,by intro _ _ e;cases e⟩
  simp only [if_true,Sem.run_bind,hg,Result.andThen_ok,h2,he,Sem.run_pure]
theorem vM (hf:Fr A n M L w H env O a) {xs:List Operand} {is:List IX} (hc:fK xs=some is):aM M L (xs.map a.eval) (is.map fun x=>(ap env x).ab):=by
 have:=(hf.QW hc).dd
 rwa [List.map_map] at this
theorem cp (hf:Fr A n M L w H env O a) {x:Option Operand} {i:Option IX} (hc:kE x=some i):jj M L (gR env i) (x.map a.eval):=by
 cases x with
 | none=>simp [kE] at hc;subst hc;trivial
 | some x=>
   simp only [kE] at hc
   obtain ⟨j,hj,rfl⟩:=Option.map_eq_some_iff.1 hc
   exact hf.eval hj
theorem GH {e:TypeId} {esz:Nat} {z:AV} (h:c9 P e=some (esz,z)):dP P e=some esz∧fR P e=some z∧0 < esz∧z.cells.length=esz∧z.val=true:=by
 unfold c9 at h
 split at h <;> try cases h
 rename_i h1 h2
 split at h <;> cases h
 rename_i hc
 exact ⟨h1,h2,hc⟩
theorem Ia {x:AV} (h:aN 0 x):jg .string x=true:=by
 cases x <;> first | rfl | exact (show False from h).elim
theorem Cy {x:AV} (h:aN 1 x) (e:TypeId):jg (.slice e) x=true:=by
 cases x <;> first | rfl | exact (show False from h).elim
theorem Ib {x:AV} (h:aN 2 x) (k e:TypeId):jg (.map k e) x=true:=by
 cases x <;> first | rfl | exact (show False from h).elim
theorem Kh (o:Oper) {fl:Nat} {i:ca} (hc:cB P o fl=some i) (hp:∀ l,lo=some l→∀ id,l≤id→A.top id=none) (hf:Fr A n M L w H env O a) (hd:∀ d,o.dst=some d→d < n) (hnone:(match o.op with | .store .. | .mapUpdate ..=>o.dst=none | _=>True))
 (h:bA ⟨P,lo⟩ i o.dst env H K):o.wpIn (wf ro) 0 P a w (nD A n M L w K) Q:=by
 cases cS:o.op with
 | move x=>
   simp only [cB,cS] at hc
   obtain ⟨j,hj,rfl⟩:=Option.map_eq_some_iff.1 hc
   exact yL (.inl cS) hj hf hd h
 | assign x=>
   simp only [cB,cS] at hc
   obtain ⟨j,hj,rfl⟩:=Option.map_eq_some_iff.1 hc
   exact yL (.inr cS) hj hf hd h
 | pick c x y=>
   simp only [cB,cS] at hc
   split at hc <;> cases hc
   rename_i c' x' y' h1 h2 h3
   simp only [bA] at h
   obtain ⟨b,hb,h⟩:=oK h
   have hr:=hf.eval h1
   rw [hb] at hr
   generalize hu:a.eval c=u at hr
   cases hr
   cases b
   ·exact wp_pure hf hd (by simp [execOp,cS,hu,asBool]) (hf.eval h3).ab (AV.bL _) (h.2 rfl)
   ·exact wp_pure hf hd (by simp [execOp,cS,hu,asBool]) (hf.eval h2).ab (AV.bL _) (h.1 rfl)
 | alloc e=>
   simp only [cB,cS] at hc
   split at hc <;> try cases hc
   rename_i z hz
   split at hc <;> cases hc
   rename_i hv
   simp only [bA] at h
   obtain ⟨r,L',w',h1,h2,h3,h4,h5⟩:=EF (P:=P) hf.st hz hv h.1
   exact oJ hf hd (by simp only [execOp,cS];exact aW h1) h2 (by intro _ _ e;cases e) h3 h4 h5 h.2
 | box e x=>
   simp only [cB,cS] at hc
   obtain ⟨j,hj,hc⟩:=Option.map_eq_some_iff.1 hc
   split at hc <;> subst hc <;> simp only [bA] at h
   ·obtain ⟨r,M',w',h1,h2,h3,h4⟩:=HU (P:=P) hf.st e (hf.eval hj) h.1
    exact oJ hf hd (by simp only [execOp,cS];exact aW h1) h2 (by intro _ _ e;cases e) h3 h4 (List.prefix_refl L) h.2
   ·obtain ⟨r,L',w',h1,h2,h3,h4,h5⟩:=Cf (P:=P) hf.st e (hf.eval hj) h.1 h.2.1
    exact oJ hf hd (by simp only [execOp,cS];exact aW h1) h2 (by intro _ _ e;cases e) h3 h4 h5 h.2.2
 | build t ps=>
   simp only [cB,cS] at hc
   split at hc <;> try cases hc
   rename_i z places ht
   split at hc <;> try cases hc
   rename_i qs hq
   split at hc <;> cases hc
   rename_i hv
   simp only [bA] at h
   obtain ⟨r,x,h1,h2,h3,h4⟩:=EH (P:=P) hf ht hq h hv
   exact wp_pure hf hd (by simp only [execOp,cS];exact aW h1) h2 h4 h3
 | buildSlice t len ps=>
   simp only [cB,cS] at hc
   split at hc <;> try cases hc
   rename_i e ht
   split at hc <;> try cases hc
   rename_i esz z qs hz hq
   split at hc <;> cases hc
   rename_i hlen
   obtain ⟨p1,p2,p3,p4,p5⟩:=GH hz
   obtain ⟨q1,q2⟩:=nh hf _ _ hq
   by_cases Wu:fl=2
   ·rw [if_pos Wu] at h
    simp only [bA] at h
    obtain ⟨r,x,L',w',H',h1,h2,h3,h4,h5,h6,h7⟩:=H7 (P:=P) hf.st ht p1 p3 p2 p4 p5 hlen (vs:=ps.map fun (i,x)=>(i,a.eval x)) (by
     intro j p hp
     obtain ⟨v,v1,v2⟩:=q1 j p hp
     exact ⟨v,by simpa using v1,v2⟩) (by simp [q2]) h
    exact oJ hf hd (by simp only [execOp,cS];exact aW h1) h2 h3 h5 h6 h7 h4
   rw [if_neg Wu] at h
   simp only [bA] at h
   obtain ⟨m,xs,M',w',ad,h1,h2,h3,h4,h5,h6⟩:=uq (P:=P) hf.st ht p1 p3 p2 p4 p5 (if fl=1 then esz else 0) hlen (vs:=ps.map fun (i,x)=>(i,a.eval x)) (by
    intro j p hp
    obtain ⟨v,v1,v2⟩:=q1 j p hp
    exact ⟨v,by simpa using v1,v2⟩) (by simp [q2]) h
   obtain ⟨O',pN⟩:=(hf.mono h5 h6).GA (dst:=o.dst) hd h2 (fun dW y hy=>by
    split at dW
    ·rename_i NW;rw [if_pos NW];exact h3 y hy
    ·exact absurd rfl dW)
   exact dk (by simp only [execOp,cS];exact aW h1) ⟨M',L,H,_,O',h4,pN,h6,List.prefix_refl L⟩
 | load t x=>
   simp only [cB,cS] at hc
   split at hc <;> try cases hc
   rename_i sz j ht hj
   split at hc
   ·split at hc <;> cases hc
    rename_i hs
    subst hs
    exact vK cS ht hj hf hd h
   split at hc
   ·cases hc
    simp only [bA] at h
    obtain ⟨r,z,h1,h2,h3,h4⟩:=sj (P:=P) ht hf.st h (hf.eval hj)
    obtain ⟨y,M',H',O',g1,g2,g3,g4,g5⟩:=so hf.st h3 h2
    obtain ⟨O'',pN⟩:=(hf.mono g3 g4).pf (dst:=o.dst) hd g1 g5
    exact dk (by simp only [execOp,cS];exact aW h1) ⟨M',L,H',_,O'',g2,pN,g4,List.prefix_refl L⟩
   ·cases hc
    simp only [bA] at h
    obtain ⟨r,z,h1,h2,h3,h4⟩:=sj (P:=P) ht hf.st h (hf.eval hj)
    exact bN hf hd ⟨r,z,by simp only [execOp,cS];exact aW h1,h2,h3,h4⟩
 | store t x y=>
   simp only [cS] at hnone
   simp only [cB,cS] at hc
   split at hc <;> try cases hc
   rename_i m j k ht hj hk
   split at hc
   ·split at hc <;> try cases hc
    rename_i s
    split at hc <;> cases hc
    rename_i hm
    subst hm
    exact xZ cS ht hj hk hf hnone h
   split at hc
   ·cases hc
    simp only [bA] at h
    obtain ⟨l,rfl⟩:∃ l,lo=some l:=by cases lo with | none=>exact h.elim | some l=>exact ⟨l,rfl⟩
    obtain ⟨w',H',O',h1,h2,h3,h4⟩:=Cj (P:=P) hf.st (hp l rfl) ht h (hf.eval hj) (hf.eval hk)
    refine l8 (by simp only [execOp,cS];exact qG h1) ⟨M,L,H',env,O',h2,?_,h4,List.prefix_refl L⟩
    rw [hnone];exact ⟨h3,hf.size,hf.defers.ext h4⟩
   ·cases hc
    simp only [bA] at h
    obtain ⟨w',H',O',h1,h2,h3,h4⟩:=EI (P:=P) hf.st ht h (hf.eval hj) (hf.eval hk)
    refine l8 (by simp only [execOp,cS];exact qG h1) ⟨M,L,H',env,O',h2,?_,h4,List.prefix_refl L⟩
    rw [hnone];exact ⟨h3,hf.size,hf.defers.ext h4⟩
 | nilCheck x=>
   simp only [cB,cS] at hc
   obtain ⟨j,hj,rfl⟩:=Option.map_eq_some_iff.1 hc
   simp only [bA] at h
   exact bN hf hd (xR cS h (hf.eval hj))
 | binOp op t x y yt=>
   simp only [cB,cS] at hc
   split at hc <;> try cases hc
   rename_i j k hj hk
   have hx:=hf.eval hj
   have hy:=hf.eval hk
   have plain:∀ {op},dg op (ap env j) (ap env k) (fun z=>K (put o.dst z env) H)→o.op=.binOp op t x y yt→o.wpIn (wf ro) 0 P a w (nD A n M L w K) Q:=by
    intro op h cS
    obtain ⟨r,z,h1,h2,h3,h4⟩:=JY (P:=P) (w:=w) (t:=t) h hx hy x y
    exact bN hf hd ⟨r,z,by simp only [execOp,cS];exact aW h1,h2,h3,h4⟩
   split at hc
   ·cases hc
    simp only [bA] at h
    obtain ⟨r,z,h1,h2,h3,h4⟩:=vv (P:=P) (w:=w) (t:=t) h hx hy x y
    exact bN hf hd ⟨r,z,by simp only [execOp,cS];exact aW h1,h2,h3,h4⟩
   ·cases hc
    simp only [bA] at h
    obtain ⟨r,z,h1,h2,h3,h4⟩:=vv (P:=P) (w:=w) (t:=t) h hx hy x y
    exact bN hf hd ⟨r,z,by simp only [execOp,cS];exact aW h1,h2,h3,h4⟩
   ·split at hc <;> try cases hc
    ·rename_i ht
     simp only [bA] at h
     obtain ⟨r,z,h1,h2,h3,h4⟩:=tA (P:=P) (w:=w) (neq:=false) ht h hx hy x y
     exact bN hf hd ⟨r,z,by simp only [execOp,cS];exact aW h1,h2,h3,h4⟩
    ·exact plain (op:=.eql) h cS
    ·exact plain (op:=.eql) h cS
    all_goals
     rename_i ht
     split at hc <;> cases hc
     simp only [bA] at h
     obtain ⟨r,z,h1,h2,h3,h4⟩:=vL (P:=P) (w:=w) (neq:=false) ht rfl h hx x (.const .nilFunc)
     exact bN hf hd ⟨r,z,by simp only [execOp,cS];exact aW h1,h2,h3,h4⟩
   ·split at hc <;> try cases hc
    ·rename_i ht
     simp only [bA] at h
     obtain ⟨r,z,h1,h2,h3,h4⟩:=tA (P:=P) (w:=w) (neq:=true) ht h hx hy x y
     exact bN hf hd ⟨r,z,by simp only [execOp,cS];exact aW h1,h2,h3,h4⟩
    ·exact plain (op:=.neq) h cS
    ·exact plain (op:=.neq) h cS
    all_goals
     rename_i ht
     split at hc <;> cases hc
     simp only [bA] at h
     obtain ⟨r,z,h1,h2,h3,h4⟩:=vL (P:=P) (w:=w) (neq:=true) ht rfl h hx x (.const .nilFunc)
     exact bN hf hd ⟨r,z,by simp only [execOp,cS];exact aW h1,h2,h3,h4⟩
   ·cases hc;exact plain h cS
 | unOp op t x=>
   simp only [cB,cS] at hc
   obtain ⟨j,hj,rfl⟩:=Option.map_eq_some_iff.1 hc
   simp only [bA] at h
   obtain ⟨r,z,h1,h2,h3,h4⟩:=NM (P:=P) (w:=w) h (hf.eval hj)
   exact bN hf hd ⟨r,z,by simp only [execOp,cS];exact aW h1,h2,h3,h4⟩
 | convert src dst x=>
   simp only [cB,cS] at hc
   split at hc <;> try cases hc
   ·rename_i k1 k2 j hs SA hj
    simp only [bA] at h
    obtain ⟨r,z,h1,h2,h3,h4⟩:=Ai (P:=P) (w:=w) hs SA h (hf.eval hj)
    exact bN hf hd ⟨r,z,by simp only [execOp,cS];exact aW h1,h2,h3,h4⟩
   ·rename_i j hs SA hj
    simp only [bA] at h
    obtain ⟨r,z,h1,h2,h3,h4⟩:=Ao (P:=P) (w:=w) hs SA h (hf.eval hj)
    exact bN hf hd ⟨r,z,by simp only [execOp,cS];exact aW h1,h2,h3,h4⟩
   ·rename_i e j hs SA hj
    split at hc <;> cases hc
    rename_i he
    simp only [bA] at h
    obtain ⟨r,z,w',M',ob,h1,h2,h3,h4,h5,h6,h7,h8⟩:=Ap (P:=P) hf.st hs SA he h (hf.eval hj)
    exact vJ hf hd (by simp only [execOp,cS];exact aW h1) h2 h4 h5 h6 h7 h8 h3
   ·rename_i e j hs SA hj
    split at hc <;> cases hc
    rename_i he
    simp only [bA] at h
    obtain ⟨r,z,h1,h2,h3,h4⟩:=EM (P:=P) hf.st hs he SA h (hf.eval hj)
    exact bN hf hd ⟨r,z,by simp only [execOp,cS];exact aW h1,h2,h3,h4⟩
 | makeFunc f first cap=>
   simp only [cB,cS] at hc
   split at hc <;> cases hc
   rename_i i j hi hj
   simp only [bA] at h
   refine bN hf hd ⟨.func f (first.map a.eval) (cap.map a.eval),_,?_,?_,h,by intro _ _ e;cases e⟩
   ·simp only [execOp,cS];rfl
   ·have:=aS.fn (M:=M) (L:=L) f (first.toList.map a.eval) (cap.toList.map a.eval) _ _ (vM hf hi) (vM hf hj)
    rw [show (first.toList.map a.eval).toArray=first.map a.eval by apply Array.ext';simp,show (cap.toList.map a.eval).toArray=cap.map a.eval by apply Array.ext';simp] at this
    exact this
 | makeMap t r=>
   cases r with
   | some r=>simp [cB,cS] at hc
   | none=>
     simp only [cB,cS] at hc
     cases hc
     simp only [bA] at h
     obtain ⟨r,L',w',h1,h2,h3,h4,h5⟩:=EP (P:=P) hf.st t
     exact oJ hf hd (by simp only [execOp,cS];exact aW h1) h2 (by intro _ _ e;cases e) h3 h4 h5 h
 | makeSlice t l c=>
   simp only [cB,cS] at hc
   split at hc <;> try cases hc
   rename_i e k ht hk
   split at hc <;> try cases hc
   rename_i esz z bytes hz hb
   split at hc <;> try cases hc
   rename_i hcond
   obtain ⟨vD,Kg⟩:=hcond
   obtain ⟨p1,p2,p3,p4,p5⟩:=GH hz
   obtain ⟨inf,jf,dc⟩:=Option.map_eq_some_iff.1 p1
   obtain ⟨inf',tJ,yE⟩:=Option.map_eq_some_iff.1 hb
   rw [jf] at tJ;cases tJ
   unfold fR at p2
   simp only [jf] at p2
   split at p2 <;> try cases p2
   rename_i zv tC
   split at hc
   ·cases hc
    simp only [bA] at h
    have uH:zv.cells.size=esz:=by have:=((cM (M:=M) (L:=L) p2).gl p5).length;rw [p4] at this;simpa using this
    obtain ⟨r,w',M',b,h1,h2,h3,h4,h5,h6,h7,h8,h9,h10⟩:=EL (P:=P) hf.st ht jf tC dc yE p3 vD uH h (hf.eval hk)
    exact vJ hf hd (by simp only [execOp,cS];exact aW h1) h2 h4 h5 h6 (fun q b' dU=>by cases dU;exact h7 q) (fun b' dU=>by cases dU;exact ⟨h8,h9,h10⟩) h3
   ·split at hc <;> cases hc
    rename_i hsame
    simp only [bA] at h
    have Ak:a.eval l=a.eval c:=by
     unfold Kf at hsame
     split at hsame
     ·simp at hsame;subst hsame;rfl
     ·simp at hsame;subst hsame;rfl
     ·cases hsame
    have J9:∀ y∈z.cells,∀ own xs,y=.al own xs→own=0:=by
     intro y hy own xs e
     have:=List.all_eq_true.1 Kg y hy
     subst e
     simpa using this
    obtain ⟨r,x,L',w',H',h1,h2,h3,h4,h5,h6,h7⟩:=EK (P:=P) hf.st ht jf tC dc yE p3 vD p2 p5 p4 J9 h (hf.eval hk)
    exact oJ hf hd (by simp only [execOp,cS,Ak];exact aW h1) h2 h3 h5 h6 h7 h4
 | slice t x lo hi mx=>
   simp only [cB,cS] at hc
   split at hc <;> try cases hc
   ·rename_i e i l h' m ht me hl hh hm
    split at hc <;> try cases hc
    rename_i esz he
    split at hc <;> cases hc
    rename_i h0
    by_cases NW:fl=4
    ·rw [if_pos NW] at h
     simp only [bA] at h
     obtain ⟨ad,k,c,own,ys,h1,h2,⟨h3,VR⟩,h4⟩:=vE (P:=P) hf.st ht he h0 h.2 (hf.eval me) h.1 (cp hf hl) (cp hf hh) (cp hf hm)
     cases h3
     obtain ⟨rfl,_⟩:=h4 (by omega)
     have hk:k=0:=by
      cases h2 with
      | gL=>rfl
      | al b off c own e cs xs he hx hn=>simp at hn
     subst hk
     exact bN hf hd ⟨_,_,by simp only [execOp,cS];exact aW h1,.pe ad,VR,by intro _ _ e;cases e⟩
    rw [if_neg NW] at h
    simp only [bA] at h
    unfold bm at h
    split at h
    ·rename_i e0 a0 b0 c0 d0 J8
     rw [← J8] at h
     split at h
     ·rename_i Cm
      have VN:mx=none:=by
       cases mx with
       | none=>rfl
       | some q=>simp only [kE] at hm;obtain ⟨_,_,rfl⟩:=Option.map_eq_some_iff.1 hm;cases Cm
      subst VN
      obtain ⟨r,z,h1,h2,h3,h4⟩:=Cs (P:=P) ht he h (hf.eval me) (cp hf hl) (cp hf hh)
      exact bN hf hd ⟨r,z,by simp only [execOp,cS];exact aW h1,h2,h3,h4⟩
     ·rename_i m0 Cm
      have hm3:=cp (a:=a) hf hm
      rw [Cm] at hm3
      obtain ⟨r,z,h1,h2,h3,h4⟩:=Ct (P:=P) ht he h (hf.eval me) (cp hf hl) (cp hf hh) hm3
      exact bN hf hd ⟨r,z,by simp only [execOp,cS];exact aW h1,h2,h3,h4⟩
    obtain ⟨ad,k,c,own,ys,h1,h2,h3,h4⟩:=vE (P:=P) hf.st ht he h0 h.2 (hf.eval me) h.1 (cp hf hl) (cp hf hh) (cp hf hm)
    by_cases qC:own=0
    ·subst qC
     exact bN hf hd ⟨_,_,by simp only [execOp,cS];exact aW h1,h2,h3,by intro _ _ e;cases e;rfl⟩
    ·obtain ⟨rfl,h5⟩:=h4 qC
     obtain ⟨O',pN⟩:=hf.GA (dst:=o.dst) hd h2 (fun _=>h5)
     exact dk (by simp only [execOp,cS];exact aW h1) ⟨M,L,H,_,O',h3,pN,Ext.refl A M w,List.prefix_refl L⟩
   ·rename_i i l h' ht me hl hh hm
    simp only [bA] at h
    have VN:mx=none:=by
     cases mx with
     | none=>rfl
     | some q=>simp only [kE] at hm;obtain ⟨_,_,hz⟩:=Option.map_eq_some_iff.1 hm;cases hz
    subst VN
    obtain ⟨r,z,h1,h2,h3,h4⟩:=xV (P:=P) (w:=w) ht h (hf.eval me) (cp hf hl) (cp hf hh)
    exact bN hf hd ⟨r,z,by simp only [execOp,cS];exact aW h1,h2,h3,h4⟩
 | fieldAddr s x f=>
   simp only [cB,cS] at hc
   split at hc <;> cases hc
   rename_i off sz j ht hj
   simp only [bA] at h
   obtain ⟨r,z,h1,h2,h3,h4⟩:=vw (P:=P) (w:=w) ht h (hf.eval hj)
   exact bN hf hd ⟨r,z,by simp only [execOp,cS];exact aW h1,h2,h3,h4⟩
 | field s x f=>
   simp only [cB,cS] at hc
   split at hc <;> cases hc
   rename_i off sz j ht hj
   simp only [bA] at h
   obtain ⟨r,z,h1,h2,h3,h4⟩:=ED (P:=P) (w:=w) ht h (hf.eval hj)
   exact bN hf hd ⟨r,z,by simp only [execOp,cS];exact aW h1,h2,h3,h4⟩
 | indexAddr t x i=>
   simp only [cB,cS] at hc
   split at hc <;> try cases hc
   rename_i e j k ht hj hk
   obtain ⟨esz,he,rfl⟩:=Option.map_eq_some_iff.1 hc
   simp only [bA] at h
   obtain ⟨r,z,h1,h2,h3,h4⟩:=vx (P:=P) (w:=w) ht he h.2 h.1 (hf.eval hj) (hf.eval hk)
   exact bN hf hd ⟨r,z,by simp only [execOp,cS];exact aW h1,h2,h3,h4⟩
 | index t x i=>
   simp only [cB,cS] at hc
   split at hc <;> try cases hc
   ·rename_i j k ht hj hk
    simp only [bA] at h
    obtain ⟨r,z,h1,h2,h3,h4⟩:=xQ (P:=P) (w:=w) ht h (hf.eval hj) (hf.eval hk)
    exact bN hf hd ⟨r,z,by simp only [execOp,cS];exact aW h1,h2,h3,h4⟩
   ·rename_i m e j k ht hj hk
    split at hc <;> cases hc
    rename_i he
    simp only [bA] at h
    obtain ⟨r,z,h1,h2,h3,h4⟩:=xO (P:=P) (w:=w) ht he h (hf.eval hj) (hf.eval hk)
    exact bN hf hd ⟨r,z,by simp only [execOp,cS];exact aW h1,h2,h3,h4⟩
 | lookup t m k ok=>
   simp only [cB,cS] at hc
   split at hc <;> try cases hc
   rename_i kt et i j ht hi hj
   split at hc <;> cases hc
   rename_i kd z hk hz
   simp only [bA] at h
   obtain ⟨r,z,h1,h2,h3,h4⟩:=Cq (P:=P) hf.st ht hk hz h (hf.eval hi) (hf.eval hj)
   exact bN hf hd ⟨r,z,by simp only [execOp,cS];exact aW h1,h2,h3,h4⟩
 | mapUpdate t m k x=>
   simp only [cS] at hnone
   simp only [cB,cS] at hc
   split at hc <;> try cases hc
   rename_i kt et i j y ht hi hj hy
   obtain ⟨kd,hk,rfl⟩:=Option.map_eq_some_iff.1 hc
   simp only [bA] at h
   obtain ⟨w',H',h1,h2,h3,h4⟩:=Cr (P:=P) hf.st ht hk h (hf.eval hi) (hf.eval hj) (hf.eval hy)
   refine l8 (by simp only [execOp,cS];exact qG h1) ⟨M,L,H',env,O,h2,?_,h4,List.prefix_refl L⟩
   rw [hnone];exact ⟨h3,hf.size,hf.defers.ext h4⟩
 | extract x i=>
   simp only [cB,cS] at hc
   obtain ⟨j,hj,rfl⟩:=Option.map_eq_some_iff.1 hc
   simp only [bA] at h
   obtain ⟨r,z,h1,h2,h3,h4⟩:=Ah (P:=P) (w:=w) h (hf.eval hj)
   exact bN hf hd ⟨r,z,by simp only [execOp,cS];exact aW h1,h2,h3,h4⟩
 | call c=>
   simp only [cB,cS] at hc
   split at hc
   ·rename_i f ns
    split at hc <;> cases hc
    rename_i i js hi hj
    exact ES cS ns hi hj hp hf hd h
   ·rename_i ns
    split at hc <;> try cases hc
    rename_i x t hargs Az
    have hcall:c={ callee:=.builtin .len,args:=#[x],argTypes:=#[t] }:=by
     obtain ⟨c1,c2,c3⟩:=c
     simp only at ns hargs Az
     subst ns
     rw [show c2=#[x] from Array.ext' hargs,show c3=#[t] from Array.ext' Az]
    subst hcall
    have fin:∀ {d:TypeDesc} {kd:Nat} {j:IX},P.underlying t=some d→aR x=some j→jg d (ap env j)=true→(fx (ap env j) H fun z=>K (put o.dst z env) H)→o.wpIn (wf ro) 0 P a w (nD A n M L w K) Q:=by
     intro d kd j ht hj hk h
     obtain ⟨r,z,h1,h2,h3,h4⟩:=J2 (P:=P) ht hf.st hk h (hf.eval hj) o.type
     refine bN hf hd ⟨r,z,?_,h2,h3,h4⟩
     simp only [execOp,cS,resolve,invoke,builtin,Sem.run_bind,Sem.run_pure,Result.andThen_ok,List.map_toArray,List.map_cons,List.map_nil,h1]
    split at hc <;> cases hc
    ·rename_i j ht hj;exact fin (kd:=0) ht hj (Ia h.1) h.2
    ·rename_i e j ht hj;exact fin (kd:=0) ht hj (Cy h.1 e) h.2
    ·rename_i k e j ht hj;exact fin (kd:=0) ht hj (Ib h.1 k e) h.2
   ·rename_i ns
    split at hc <;> try cases hc
    rename_i s x t t' hargs Az
    split at hc <;> try cases hc
    rename_i htt
    subst htt
    split at hc <;> try cases hc
    rename_i e i j ht hi hj
    split at hc <;> try cases hc
    rename_i esz z bytes hz hb
    split at hc <;> try cases hc
    rename_i vD
    have hcall:c={ callee:=.builtin .append,args:=#[s,x],argTypes:=#[t,t] }:=by
     obtain ⟨c1,c2,c3⟩:=c
     simp only at ns hargs Az
     subst ns
     rw [show c2=#[s,x] from Array.ext' hargs,show c3=#[t,t] from Array.ext' Az]
    subst hcall
    split at hc
    ·split at hc <;> cases hc
     rename_i Kg
     exact x9 cS ht hz hb vD Kg hi hj hf hd h
    cases hc
    exact Ax cS ht hz hb vD hi hj hf hd h
   ·rename_i ns
    split at hc <;> try cases hc
    rename_i x y hargs
    split at hc <;> cases hc
    rename_i i j hi hj
    simp only [bA] at h
    obtain ⟨r,z,h1,h2,h3,h4⟩:=GB (P:=P) (w:=w) (big:=true) h (hf.eval hi) (hf.eval hj) c.argTypes o.type
    refine bN hf hd ⟨r,z,?_,h2,h3,h4⟩
    have hargs':c.args=#[x,y]:=Array.ext' hargs
    simp only [if_true] at h1
    simp only [execOp,cS,resolve,ns,invoke,builtin,Sem.run_bind,Sem.run_pure,Result.andThen_ok,hargs',List.map_toArray,List.map_cons,List.map_nil,h1]
   ·rename_i ns
    split at hc <;> try cases hc
    rename_i x y hargs
    split at hc <;> cases hc
    rename_i i j hi hj
    simp only [bA] at h
    obtain ⟨r,z,h1,h2,h3,h4⟩:=GB (P:=P) (w:=w) (big:=false) h (hf.eval hi) (hf.eval hj) c.argTypes o.type
    refine bN hf hd ⟨r,z,?_,h2,h3,h4⟩
    have hargs':c.args=#[x,y]:=Array.ext' hargs
    simp only [Bool.false_eq_true,if_false] at h1
    simp only [execOp,cS,resolve,ns,invoke,builtin,Sem.run_bind,Sem.run_pure,Result.andThen_ok,hargs',List.map_toArray,List.map_cons,List.map_nil,h1]
   ·cases hc
 | _=>simp [cB,cS] at hc
theorem ET (o:Oper) (hf:Fr A n M L w H env O a) (hd:∀ d,o.dst=some d→d < n) (h:bA ⟨P,lo⟩ (qF P o) o.dst env H K):o.wpIn (wf ro) 0 P a w (nD A n M L w K) Q:=by
 cases cS:o.op with
 | call c=>
   simp only [qF,cS] at h
   split at h <;> try exact h.elim
   rotate_left
   ·rename_i ns
    split at h <;> try exact h.elim
    rename_i s t hargs Az
    split at h <;> try exact h.elim
    rename_i e i ht hi
    split at h <;> try exact h.elim
    rename_i esz z hz
    simp only [bA] at h
    unfold c9 at hz
    split at hz <;> try cases hz
    rename_i esz' z' QY ph
    split at hz <;> cases hz
    rename_i hcond
    obtain ⟨h0,jh,tC⟩:=hcond
    obtain ⟨inf,jf,dc⟩:=Option.map_eq_some_iff.1 QY
    unfold fR at ph
    simp only [jf] at ph
    split at ph <;> try cases ph
    rename_i zv vB
    obtain ⟨w',H',O',h1,h2,h3,h4⟩:=Cv (P:=P) hf.st ht jf vB h0 ph tC jh h (hf.eval hi) o.type
    obtain ⟨O'',pN⟩:=(hf.mono h3 h4).pf (dst:=o.dst) hd (.tuple [] [] .nil) (by intro _ _ e;cases e)
    have hargs':c.args=#[s]:=Array.ext' hargs
    have Ki:c.argTypes=#[t]:=Array.ext' Az
    refine dk (v:=.tuple #[]) ?_ ⟨M,L,H',_,O'',h2,pN,h4,List.prefix_refl L⟩
    simp only [execOp,cS,resolve,ns,invoke,builtin,Sem.run_bind,Sem.run_pure,Result.andThen_ok,hargs',Ki,List.map_toArray,List.map_cons,List.map_nil,h1]
   rename_i ns
   split at h <;> try exact h.elim
   rename_i s x t t' hargs Az
   split at h <;> try exact h.elim
   rename_i e i j ht hi hj
   split at h <;> try exact h.elim
   rename_i esz he
   simp only [bA] at h
   obtain ⟨r,z,w',H',O',h1,h2,h3,h4,h5,h6⟩:=H5 (P:=P) hf.st ht he h (hf.eval hi) (hf.eval hj) t' o.type
   obtain ⟨O'',pN⟩:=(hf.mono h4 h5).pf (dst:=o.dst) hd h2 h6
   have hargs':c.args=#[s,x]:=Array.ext' hargs
   have Ki:c.argTypes=#[t,t']:=Array.ext' Az
   refine dk (v:=r) ?_ ⟨M,L,H',_,O'',h3,pN,h5,List.prefix_refl L⟩
   simp only [execOp,cS,resolve,ns,invoke,builtin,Sem.run_bind,Sem.run_pure,Result.andThen_ok,hargs',Ki,List.map_toArray,List.map_cons,List.map_nil,h1]
 | _=>simp only [qF,cS] at h;exact h.elim
theorem EU (o:Oper) (hf:Fr A n M L w H env O a) (hd:∀ d,o.dst=some d→d < n) (h:bA ⟨P,lo⟩ (nS P o) o.dst env H K):o.wpIn (wf ro) 0 P a w (nD A n M L w K) Q:=by
 have key:∀ {x:Operand},(o.op=.move x∨o.op=.assign x)→∀ {i:IX} {esz:Nat},aR x=some i→(fF esz (ap env i) H fun z H'=>K (put o.dst z env) H')→o.wpIn (wf ro) 0 P a w (nD A n M L w K) Q:=by
  intro x ho i esz hi h
  obtain ⟨z,M',H',O',h1,h2,h3,h4,h5⟩:=so hf.st h (hf.eval hi)
  have bJ:(execOp a.eval o).run P w=.ok (.value (a.eval x)) w:=by
   rcases ho with ho | ho <;> simp [execOp,ho]
  obtain ⟨O'',pN⟩:=(hf.mono h3 h4).pf (dst:=o.dst) hd h1 h5
  exact dk bJ ⟨M',L,H',_,O'',h2,pN,h4,List.prefix_refl L⟩
 cases cS:o.op with
 | move x=>
   simp only [nS,cS] at h
   split at h <;> try exact h.elim
   rename_i hi ht
   split at h <;> try exact h.elim
   exact key (.inl cS) hi h
 | assign x=>
   simp only [nS,cS] at h
   split at h <;> try exact h.elim
   rename_i hi ht
   split at h <;> try exact h.elim
   exact key (.inr cS) hi h
 | _=>simp only [nS,cS] at h;exact h.elim
theorem Cz (o:Oper) (esz:Nat) (hf:Fr A n M L w H env O a) (hd:∀ d,o.dst=some d→d < n) (h:bA ⟨P,lo⟩ (lA esz o) o.dst env H K):o.wpIn (wf ro) 0 P a w (nD A n M L w K) Q:=by
 have key:∀ {x:Operand},(o.op=.move x∨o.op=.assign x)→∀ {i:IX},aR x=some i→(fF esz (ap env i) H fun z H'=>K (put o.dst z env) H')→o.wpIn (wf ro) 0 P a w (nD A n M L w K) Q:=by
  intro x ho i hi h
  obtain ⟨z,M',H',O',h1,h2,h3,h4,h5⟩:=so hf.st h (hf.eval hi)
  have bJ:(execOp a.eval o).run P w=.ok (.value (a.eval x)) w:=by
   rcases ho with ho | ho <;> simp [execOp,ho]
  obtain ⟨O'',pN⟩:=(hf.mono h3 h4).pf (dst:=o.dst) hd h1 h5
  exact dk bJ ⟨M',L,H',_,O'',h2,pN,h4,List.prefix_refl L⟩
 cases cS:o.op with
 | move x=>
   simp only [lA,cS] at h
   split at h <;> try exact h.elim
   rename_i hi
   exact key (.inl cS) hi h
 | assign x=>
   simp only [lA,cS] at h
   split at h <;> try exact h.elim
   rename_i hi
   exact key (.inr cS) hi h
 | _=>simp only [lA,cS] at h;exact h.elim
theorem tL (o:Oper) {fl:Nat} (hp:∀ l,lo=some l→∀ id,l≤id→A.top id=none) (hf:Fr A n M L w H env O a) (hd:∀ d,o.dst=some d→d < n) (hnone:(match o.op with | .store .. | .mapUpdate ..=>o.dst=none | _=>True))
 (h:bA ⟨P,lo⟩ (Cw P o fl) o.dst env H K):o.wpIn (wf ro) 0 P a w (nD A n M L w K) Q:=by
 unfold Cw at h
 split at h
 ·exact EU o hf hd h
 split at h
 ·exact Cz o _ hf hd h
 cases hc:cB P o fl with
 | none=>rw [hc] at h;exact ET o hf hd h
 | some i=>rw [hc] at h;exact Kh o hc hp hf hd hnone h
end
end Go.aL
end
section
namespace Go.aL
open Go
section
variable {M:Mem} {L:List Nat}
theorem qK {n:Nat}:∀ {xs:List AV},(∀ x∈xs,x.cells.length≠0)→aj n (flat xs)=true→aj n xs=true
 | [],_,_=>rfl
 | x::xs,hx,h=>by
   rw [a8] at h ⊢
   intro y hy
   rcases List.mem_cons.1 hy with rfl | hy
   ·cases y with
    | agg ys=>
      simp only [AV.aV]
      rw [a8]
      intro z hz
      exact h z (by simp [flat,AV.cells,hz])
    | _=>exact h _ (by simp [flat,AV.cells])
   ·have:=qK (xs:=xs) (n:=n) (fun x xH=>hx x (List.mem_cons_of_mem _ xH)) (by
     rw [a8]
     intro z hz
     exact h z (by simp only [flat,List.flatMap_cons,List.mem_append] at hz ⊢;exact .inr hz))
    rw [a8] at this
    exact this y hy
theorem Ic {n:Nat} {x:AV} (h:aj n x.cells=true):x.aV n=true:=by
 cases x <;> simp_all [AV.cells,AV.aV,aj]
theorem aS.N0 {v:Value} {x:AV} (h:aS M L v x):x.aV L.length=true:=by
 induction h using aS.rec (motive_2:=fun vs xs _=>aj L.length xs=true) with
 | al b off c own e cs xs he hx hn hle hc hr hm ih=>exact qK (fun x xH=>by rw [hx x xH];omega) ih
 | bc b off len cap id hl hc=>simp only [AV.aV,decide_eq_true_eq];exact aO hl
 | agg cs xs hr ih=>exact ih
 | tuple cs xs hr ih=>exact ih
 | ptr b off id hl=>simp only [AV.aV,decide_eq_true_eq];exact aO hl
 | ai b off cs x hr hm ih=>simp only [AV.aV];exact Ic ih
 | map b id hl=>simp only [AV.aV,decide_eq_true_eq];exact aO hl
 | nH b id hl=>simp only [AV.aV,decide_eq_true_eq];exact aO hl
 | fn f fs cs xs ys h1 h2 i1 i2=>simp only [AV.aV,Bool.and_eq_true];exact ⟨i1,i2⟩
 | iface t v x h ih=>exact ih
 | cons v x vs xs h t i1 i2=>simp only [aj,Bool.and_eq_true];exact ⟨i1,i2⟩
 | nil=>rfl
 | _=>rfl
theorem aM.N0:∀ {vs:List Value} {xs:List AV},aM M L vs xs→aj L.length xs=true
 | _,_,.nil=>rfl
 | _,_,.cons _ _ _ _ h t=>by simp only [aj,Bool.and_eq_true];exact ⟨h.N0,t.N0⟩
end
section
variable {A:Perm} {M:Mem} {L:List Nat} {w:World} {H:List aa} {ev:Nat→Value} {ea:Nat→AV} {O:Pos→Option Nat}
theorem St.oL (h:St A M L w H ev ea O) {id b:Nat} {st st':VL} {lc:iT} {es:List AV} {r':Loop} (bp:H[id]?=some (.loop st lc es)) (hL:L[id]?=some b)
 (hr:∀ r,w.heap[b]?=some (.loop r)→r'.params=r.params∧r'.assign=r.assign∧r'.body=r.body∧r'.tmps=r.tmps∧r'.defers=r.defers∧st'.ok r') :
 St A M L (w.putObj b (.loop r')) (H.set id (.loop st' lc es)) ev ea O∧Ext A M w M (w.putObj b (.loop r')):=by
 have yA:b∈L:=List.mem_of_getElem? hL
 have Sp:=h.lt b yA
 obtain ⟨r0,hc,p1,p2,p3,p4,p5⟩:=h.obj id _ b bp hL
 obtain ⟨q1,q2,q3,q4,q5,q6⟩:=hr r0 hc
 have gk:∀ k,k≠b→(w.putObj b (.loop r')).heap[k]?=w.heap[k]?:=fun k hk=>World.putObj_heap_other hk
 have nl:(w.putObj b (.loop r')).heap[b]?=some (.loop r'):=World.putObj_heap_same Sp
 have VM:∀ o,M b o=none:=by
  intro o
  cases hm:M b o with
  | none=>rfl
  | some v=>
    have:=h.mem b o v hm
    simp [World.cell?,hc] at this
 have qx:id < H.length:=aO bp
 refine ⟨{ len:=by simp [h.len],nodup:=h.nodup,env:=h.env,mem:=?_,obj:=?_,bE:=?_,lt:=?_,iq:=?_,hZ:=?_,ch:=h.ch,cz:=h.cz,fq:=?_,La:=h.La,Oa:=h.Oa,fresh:=?_ },?_⟩
 ·intro k o v hv
  have hk:k≠b:=by rintro rfl;rw [VM o] at hv;cases hv
  have:=h.mem k o v hv
  simp only [World.cell?] at this ⊢
  rw [gk k hk];exact this
 ·intro id' o k ho hk
  by_cases e0:id'=id
  ·subst e0
   rw [hL] at hk;cases hk
   rw [List.getElem?_set_self qx] at ho
   cases ho
   exact ⟨r',nl,q1.trans p1,q2.trans p2,q3.trans p3,by rw [q4];exact p4,q6⟩
  ·rw [List.getElem?_set_ne (fun h'=>e0 h'.symm)] at ho
   have Es:k≠b:=by
    rintro rfl
    exact e0 ((List.getElem?_inj (aO hk) h.nodup).1 (hk.trans hL.symm))
   exact (h.obj id' o k ho hk).mono (Mem.bQ M) (List.prefix_refl _) (gk k Es) (fun _=>rfl)
 ·intro id' o ho
  rw [List.length_set]
  by_cases e0:id'=id
  ·subst e0
   rw [List.getElem?_set_self qx] at ho
   cases ho
   exact h.bE id' (.loop st lc es) bp
  ·rw [List.getElem?_set_ne (fun h'=>e0 h'.symm)] at ho
   exact h.bE id' o ho
 ·intro k hk;simpa using h.lt k hk
 ·intro t
  exact (h.iq t).mono fun k hk=>⟨gk k (fun e3=>h.cz _ k hk (e3 ▸ yA)),fun _=>rfl⟩
 ·intro id' j
  by_cases e0:id'=id
  ·subst e0
   have hn:O (.c id' j)=none:=by
    have:=h.hZ id' j
    simp only [bw,bp] at this
    exact this
   have e2:bw (H.set id' (.loop st' lc es)) id' j=.any:=by
    unfold bw
    rw [List.getElem?_set_self qx]
   rw [e2,hn];rfl
  ·have e1:bM L (w.putObj b (.loop r')) id' j=bM L w id' j:=by
    unfold bM
    split
    ·rename_i k hk
     have Es:k≠b:=by
      rintro rfl
      exact e0 ((List.getElem?_inj (aO hk) h.nodup).1 (hk.trans hL.symm))
     simp only [World.cell?]
     rw [gk k Es]
    ·rfl
   have e2:bw (H.set id (.loop st' lc es)) id' j=bw H id' j:=by
    unfold bw
    rw [List.getElem?_set_ne (fun h'=>e0 h'.symm)]
   rw [e1,e2]
   exact (h.hZ id' j).mono fun k hk=>⟨gk k (fun e3=>h.cz _ k hk (e3 ▸ yA)),fun _=>rfl⟩
 ·intro p k hp;simpa using h.fq p k hp
 ·intro k hk;simp at hk;exact h.fresh k hk
 ·exact ⟨Mem.bQ M,by simp,rfl,rfl,rfl,fun k hk hA=>⟨gk k (fun e0=>hA (e0 ▸ h.La b yA)),fun _=>rfl⟩,fun k r hk=>by
   by_cases e0:k=b
   ·subst e0
    rw [hc] at hk;cases hk
    exact ⟨r',nl,q5⟩
   ·exact ⟨r,(gk k e0).trans hk,rfl⟩⟩
def Perm.Wv (A:Perm) (D:Nat):Perm:=⟨fun b=>A b∧b≠D,A.top,A.ok,A.base⟩
def Perm.Le (A' A:Perm):Prop:=A'.top=A.top∧(∀ b,A' b→A b)∧A'.base=A.base
theorem Perm.Le.refl (A:Perm):A.Le A:=⟨rfl,fun _ h=>h,rfl⟩
theorem Perm.Le.trans {A B C:Perm} (h:A.Le B) (k:B.Le C):A.Le C:=⟨h.1.trans k.1,fun b hb=>k.2.1 b (h.2.1 b hb),h.2.2.trans k.2.2⟩
theorem Perm.AA (A:Perm) (D:Nat):(A.Wv D).Le A:=⟨rfl,fun _ h=>h.1,rfl⟩
theorem Perm.Le.jI {A' A:Perm} (h:A'.Le A) (len id:Nat):A'.jI len id=A.jI len id:=by unfold Perm.jI;rw [h.1]
theorem Ext.le {A':Perm} {M':Mem} {w':World} (h:Ext A' M w M' w') (hl:A'.Le A):Ext A M w M' w':=
 ⟨h.ln,h.size,h.os,h.tape,h.output,fun b hb hA=>h.kO b hb fun h'=>hA (hl.2.1 b h'),h.loops⟩
theorem St.le {A':Perm} (h:St A' M L w H ev ea O) (hl:A'.Le A):St A M L w H ev ea O:=
 { h with bE:=fun id o ho=>by rw [← hl.jI];exact h.bE id o ho,La:=fun b hb=>hl.2.1 b (h.La b hb),Oa:=fun p b hp=>hl.2.1 b (h.Oa p b hp),fresh:=fun b hb=>hl.2.1 b (h.fresh b hb) }
theorem St.Wv (h:St A M L w H ev ea O) {D:Nat} (h1:D∉L) (h2:∀ p,O p≠some D) (h3:D < w.heap.size):St (A.Wv D) M L w H ev ea O:=
 { h with
   bE:=fun id o ho=>by rw [(A.AA D).jI];exact h.bE id o ho
   La:=fun b hb=>⟨h.La b hb,fun e=>h1 (e ▸ hb)⟩
   Oa:=fun p b hp=>⟨h.Oa p b hp,fun e=>h2 p (e ▸ hp)⟩
   fresh:=fun b hb=>⟨h.fresh b hb,fun e=>by omega⟩ }
theorem QV.le {A':Perm} {ds:List Deferred} (h:QV A w ds) (hl:A'.Le A):QV A' w ds:=⟨by rw [hl.2.2];exact h.1,h.2.1,fun d hd=>by
 obtain ⟨D,h1,h2,h3,h4⟩:=h.2.2 d hd
 exact ⟨D,h1,h2,fun h'=>h3 (hl.2.1 D h'),by rw [hl.2.2];exact h4⟩⟩
end
end Go.aL
end
section
namespace Go.aL
open Go
structure bB where
 g:Option (Nat×Bool)
 dst:Option Nat
 op:ca
 deriving Inhabited
inductive DT where
 | done
 | take (st:Bool) (o:bB) (r:DT)
 | br (o:bB) (t rest:DT)
 | nil
 deriving Inhabited
def inst (il:List bB):xM→DT
 | .done=>.done
 | .take i st r=>.take st (il.getD i default) (inst il r)
 | .br i t rest=>.br (il.getD i default) (inst il t) (inst il rest)
 | .nil=>.nil
inductive IR where
 | skip
 | region (ops:List bB) (live:Option (List Nat))
 | draw (t:DT) (live:Option (List Nat))
 | seq (a b:IR)
 | cond (x:IX) (a b:IR)
 | block (id:Nat) (a:IR)
 | loop (a:IR)
 | exit (id:Nat)
 | ret
 | never
 | jk (f:IX) (lc:iT)
 deriving Inhabited
def eD (live:Option (List Nat)) (env:Env):Env:=
 match live with
 | none=>env
 | some l=>l.map fun t=>(t,get env t)
def iF (env:Env) (g:Nat) (want:Bool) (yes no:Env→Prop):Prop:=
 match get env g with
 | .bool b=>(b=want→yes ((g,.bool want)::env))∧(b=(!want)→no ((g,.bool (!want))::env))
 | .tuple []=>no env
 | _=>False
def rZ (P:Px) (o:bB) (env:Env) (H:List aa) (K:Env→List aa→Prop):Prop:=
 match o.g with
 | none=>bA P o.op o.dst env H K
 | some (g,want)=>iF env g want (fun env=>bA P o.op o.dst env H K) (fun env=>K (put o.dst (.tuple []) env) H)
def jl (P:Px):List bB→Env→List aa→(Env→List aa→Prop)→Prop
 | [],env,H,K=>K env H
 | o::r,env,H,K=>rZ P o env H fun env H=>jl P r env H K
def db (P:Px) (o:ca) (ρ:IX→AV) (H:List aa) (x:AV):Prop:=
 match o with
 | .set i false=>(ρ i).ab=x
 | .pick c a b=>eI (ρ c) fun q=>(q=true→(ρ a).ab=x)∧(q=false→(ρ b).ab=x)
 | .bin op i j=>dg op (ρ i) (ρ j) fun z=>z=x
 | .shift op i j=>dZ op (ρ i) (ρ j) fun z=>z=x
 | .iC neq i j=>cV neq (ρ i) (ρ j) fun z=>z=x
 | .jw kd neq i=>cZ kd neq (ρ i) fun z=>z=x
 | .un op i=>Ag op (ρ i) fun z=>z=x
 | .l7 i=>(ρ i).val=true∧.ai (ρ i)=x
 | .build z ps=>cA z.cells (ps.map fun q=>(q.1,q.2.1,ρ q.2.2)) fun v=>v=x
 | .buildSlice own esz z len ps=>bj (List.replicate len (aT z)) esz (ps.map fun q=>(q.1,ρ q.2)) fun xs=>.al own xs=x
 | .load sz i=>aQ sz (ρ i) H fun z=>z=x
 | .nilCheck i=>bU (ρ i) fun z=>z=x
 | .fieldAddr off sz i=>ak off sz (ρ i) fun z=>z=x
 | .field off sz i=>eZ off sz (ρ i) fun z=>z=x
 | .indexAddr esz i j=>(∀ own xs,ρ i=.al own xs→∀ z∈xs,z.cells.length=esz)∧ax esz (ρ i) (ρ j) fun z=>z=x
 | .di i j=>bK (ρ i) (ρ j) fun z=>z=x
 | .dX n i j=>bT n (ρ i) (ρ j) fun z=>z=x
 | .slice esz i lo hi mx=>bm esz (ρ i) (lo.map ρ) (hi.map ρ) (mx.map ρ) fun z=>z=x
 | .dY i lo hi=>cn (ρ i) (lo.map ρ) (hi.map ρ) fun z=>z=x
 | .len kd i=>aN kd (ρ i)∧fx (ρ i) H fun z=>z=x
 | .lookup kd z m k ok=>cv kd z (ρ m) (ρ k) ok H fun v=>v=x
 | .fn f first cap=>.fn f (first.map fun x=>(ρ x).ab) (cap.map fun x=>(ρ x).ab)=x
 | .extract i k=>bF (ρ i) k fun z=>z=x
 | .call f args none=>match ρ f with
   | .fn (.func g) first cap=>∃ bR,xY (first.map AV.ab++(args.map fun x=>(ρ x).ab)++cap.map AV.ab) bR∧aq P.prog g bR H (fun r H'=>r=x∧H'=H)
   | _=>False
 | .eU k i=>cF k (ρ i) fun z=>z=x
 | .gN i=>fS (ρ i) fun z=>z=x
 | .bytesOf i=>fe 1 (ρ i) fun z=>z=x
 | .nK esz bytes i=>ji esz bytes (ρ i) fun z=>z=x
 | .strOf i=>jV (ρ i) fun z=>z=x
 | .mx big i j=>xN big (ρ i) (ρ j) fun z=>z=x
 | _=>False
def dv (P:Px) (st:Bool) (o:ca) (ρ:IX→AV) (H:List aa) (x:AV):Prop:=
 match st with
 | true=>db P o ρ H x
 | false=>∀ H',db P o ρ H' x
def tM (P:Px) (st:Bool) (o:bB) (env:Env) (H:List aa) (K:Env→Prop):Prop:=
 match o.g with
 | none=>∃ x,dv P st o.op (ap env) H x∧K (put o.dst x env)
 | some (g,want)=>iF env g want (fun _=>∃ x,dv P st o.op (ap env) H x∧K (put o.dst x env)) (fun _=>K (put o.dst (.tuple []) env))
def uL (P:Px):DT→Env→List aa→(Env→List aa→Prop)→Prop
 | .done,env,H,K=>K env H
 | .take st o r,env,H,K=>tM P st o env H fun env=>uL P r env H K
 | .br o t rest,env,H,K=>rZ P o env H (fun env H=>uL P t env H K)∧uL P rest env H K
 | .nil,_,_,_=>True
def sle (n0:Nat) (env:Env) (H:List aa) (aG:Env) (H':List aa):Prop:=
 (∀ t,(get env t).le (get aG t))∧(H'=H∨∃ m,n0≤m∧H'=H.take m∧∀ t,(get aG t).aV m=true)
def Ie (n0:Nat) (env:Env) (H:List aa) (aG:Env) (H':List aa):Prop:=
 (∀ t,(get env t).le (get aG t))∧(H'=H∨∃ m,n0≤m∧H'=H.take m∧(∀ id o,n0≤id→id < m→H[id]?=some o→o.aV m=true)∧∀ t,(get aG t).aV m=true)
def Ig (lo:Option Nat) (n0:Nat) (env:Env) (H:List aa) (aG:Env) (H':List aa):Prop:=
 match lo with
 | none=>sle n0 env H aG H'
 | some _=>Ie n0 env H aG H'
def kW (n:Nat) (env:Env):List AV:=(List.range n).map fun t=>(get env t).ab
def behind (id:Nat) (H':List aa) (K:Option Code→List aa→Prop):Prop:=
 match H'[id]? with
 | some (.loop .ready lc es)=>K none (H'.set id (.loop .eO lc es))
 | some (.loop (.jump c) lc es)=>K (some c) (H'.set id (.loop .eO lc es))
 | _=>False
def pP (j:Option Code) (Q:Exit→Env→List aa→Prop) (env:Env) (H:List aa):Prop:=
 match j with
 | none=>Q .normal env H
 | some .ret=>Q .ret env H
 | some (.exit id)=>Q (.exit id) env H
 | _=>False
def mi (P:Px) (n0:Nat):IR→Env→List aa→(Exit→Env→List aa→Prop)→Prop
 | .skip,env,H,Q=>Q .normal env H
 | .region ops live,env,H,Q=>jl P ops env H fun aG H'=>Q .normal (eD live aG) H'
 | .draw t live,env,H,Q=>uL P t env H fun aG H'=>Q .normal (eD live aG) H'
 | .seq a b,env,H,Q=>mi P n0 a env H fun e aG H'=>match e with
   | .normal=>mi P n0 b aG H' Q
   | e=>Q e aG H'
 | .cond x a b,env,H,Q=>eI (ap env x) fun q=>(q=true→mi P n0 a env H Q)∧(q=false→mi P n0 b env H Q)
 | .block id a,env,H,Q=>mi P n0 a env H fun e aG H'=>match e with
   | .exit id'=>if id'=id then Q .normal aG H' else Q (.exit id') aG H'
   | e=>Q e aG H'
 | .loop a,env,H,Q=>∃ (ι:Type) (I:ι→Prop) (se:ι→Env) (sh:ι→List aa) (μ:ι→Nat),(∃ i,I i∧Ig P.lo n0 env H (se i) (sh i))∧
    ∀ i,I i→mi P n0 a (se i) (sh i) fun e aG H'=>match e with
     | .normal=>∃ j,I j∧μ j < μ i∧Ig P.lo n0 aG H' (se j) (sh j)
     | e=>Q e aG H'
 | .exit id,env,H,Q=>Q (.exit id) env H
 | .ret,env,H,Q=>Q .ret env H
 | .never,env,H,Q=>False
 | .jk f lc,env,H,Q=>match ap env f with
   | .fn (.func g) first cap=>(∀ (as:Array Value) (w:World),(callFunc g as).run P.prog w=.ok (.enter g as) w)∧
     ∃ bR,xY (first.map AV.ab++[.nH H.length]++cap.map AV.ab) bR∧ej P g bR (H++[.loop .ready lc (kW lc.n env)]) fun _ H'=>behind H.length H' fun j H''=>pP j Q env H''
   | _=>False
def B9.at_ (an:B9) (r i:Nat):Nat:=match an.find? fun x=>x.1 == r && x.2.1 == i with | some x=>x.2.2 | none=>0
def m9.at_ (lv:m9) (r:Nat):Option (List Nat):=(lv.find? fun x=>x.1 == r).map (·.2)
def GI (n:Nat) (o:Oper):Bool:=(match o.dst with | some d=>d < n | none=>true) && (match o.op with | .store .. | .mapUpdate ..=>o.dst.isNone | _=>true)
def GJ (ops:Array Oper) (o:Oper):Option (Option (Nat×Bool)):=
 match o.guard with
 | none=>some none
 | some (j,want)=>match (ops[j]?).bind (·.dst) with
   | some g=>some (some (g,want))
   | none=>none
def GK (i:IX) (d:Nat):Bool:=match i with | .t s=>decide (s≠d) | _=>true
def SC (P:Program) (ops:Array Oper) (n:Nat) (fl:Nat) (o o':Oper):Option bB:=
 match fl,o.op,o.dst,o.guard,o'.op,o'.dst,o'.guard with
 | 2,.alloc e,some d,none,.store t (.tmp d') x,none,none=>
   if d=d'∧d < n∧t=e then (match aR x,dP P t,fR P e with
    | some i,some m,some z=>if GK i d=true∧z.cells.length=m∧z.val=true∧m≠0 then some ⟨none,some d,.sg m i⟩ else none
    | _,_,_=>none) else none
 | _,_,_,_,_,_,_=>none
def eV (P:Program) (ops:Array Oper) (an:B9) (n rid:Nat) (fu:Bool):Nat→Nat→List Oper→Option (List bB)
 | _,_,[]=>some []
 | 0,_,_=>none
 | fuel + 1,k,o::r=>
   if an.at_ rid k=1000∧fu=true then
    match r with
    | o'::r'=>match SC P ops n 2 o o',eV P ops an n rid fu fuel (k + 2) r' with
      | some x,some xs=>some (x::xs)
      | _,_=>none
    | []=>none
   else
    match GJ ops o,eV P ops an n rid fu fuel (k + 1) r with
    | some g,some xs=>if GI n o=true then some (⟨g,o.dst,Cw P o (an.at_ rid k)⟩::xs) else none
    | _,_=>none
def ca.all:ca→List IX
 | .set i _=>[i]
 | .pick c a b=>[c,a,b]
 | .bin _ i j | .shift _ i j | .iC _ i j | .indexAddr _ i j | .di i j | .dX _ i j | .lookup _ _ i j _ | .mx _ i j | .store _ i j | .nJ _ i j | .append _ _ i j | .jB _ _ _ i j | .copy _ i j=>[i,j]
 | .nM _ _ i | .Ae _ i | .jw _ _ i | .un _ i | .box i | .l7 i | .sg _ i | .load _ i | .tw _ _ i | .eH i | .nilCheck i | .fieldAddr _ _ i | .field _ _ i | .len _ i | .tx _ _ _ i | .nK _ _ i | .extract i _ | .eU _ i | .gN i | .bytesOf i | .strOf i=>[i]
 | .fw i s=>[i,.t s]
 | .kP _ i j k=>[i,j,k]
 | .build _ ps=>ps.map fun q=>q.2.2
 | .buildSlice _ _ _ _ ps | .Cc _ _ _ ps=>ps.map fun q=>q.2
 | .slice _ i lo hi m | .pJ _ i lo hi m=>i::(lo.toList++hi.toList++m.toList)
 | .dY i lo hi=>i::(lo.toList++hi.toList)
 | .fn _ first cap=>first++cap
 | .call f args _=>f::args
 | .alloc _ | .nL | .never=>[]
def IX.Q0:List IX→List Nat:=fun l=>l.filterMap fun i=>match i with | .t s=>some s | .c _=>none
def ca.kill:ca→List Nat
 | .set (.t s) true=>[s]
 | .fw _ s=>[s]
 | .append _ _ (.t s) _=>[s]
 | .call _ args pass=>(match pass with | some j=>(match args[j]? with | some (.t s)=>[s] | _=>[]) | none=>[])
 | _=>[]
def ca.SE:ca→Bool
 | .box _ | .alloc _ | .eH _ | .store .. | .nJ .. | .tw .. | .fw .. | .tx .. | .nL | .kP .. | .call .. | .copy .. | .Ae .. | .Cc .. | .jB .. | .nM .. | .never=>true
 | _=>false
def bB.lk (o:bB):List Nat:=IX.Q0 o.op.all++(match o.g with | some (g,_)=>[g] | none=>[])
def ca.VS (o:ca) (pure:Bool):Bool:=
 match o with
 | .set _ take=>!take
 | .call _ _ none=>pure
 | .never | .call .. | .append ..=>false
 | .sg ..=>false
 | o=>!o.SE
def ca.yM:ca→Bool
 | .box _ | .alloc _ | .nL=>true
 | _=>false
def ca.stays:ca→Bool
 | .call ..=>false
 | _=>true
def sr (st:Bool) (oi oj:bB):Bool:=
 (match oi.dst with | some d=>!oj.lk.contains d && oj.dst != some d && !oj.op.kill.contains d | none=>true) &&
 (match oj.dst with | some d=>!oi.lk.contains d | none=>true) &&
 oj.op.kill.all (fun s=>!oi.lk.contains s) && (!st || !oj.op.SE || (oj.op.yM && oi.op.stays))
def dx (ops:Array Oper):Nat→Nat→Nat→Bool
 | 0,_,_=>false
 | f + 1,j,i=>match ops[j]? with
   | some o=>o.after.any fun e=>Region.binds .any e && (e.on == i || dx ops f e.on i)
   | none=>false
def nT (ops:Array Oper) (il:List bB) (listed:Array Bool) (i:Nat) (st:Bool):Bool:=
 (List.range ops.size).all fun j=>j == i || listed.getD j true || dx ops ops.size j i || sr st (il.getD i default) (il.getD j default)
def uz (ops:Array Oper) (il:List bB):Nat→Array Bool→Option (List Nat)→xM→Bool
 | _,listed,none,.done=>(Region.ready .any ops listed).isEmpty
 | f + 1,listed,none,.take i st r=>(Region.ready .any ops listed).contains i && (il.getD i default).op.VS true && nT ops il listed i st && uz ops il f (listed.setIfInBounds i true) none r
 | f + 1,listed,none,.br i t rest=>(match Region.ready .any ops listed with | k::ks=>k == i && uz ops il f (listed.setIfInBounds i true) none t && uz ops il (f + 1) listed (some ks) rest | []=>false)
 | f + 1,listed,some (k::ks),.br i t rest=>k == i && uz ops il f (listed.setIfInBounds i true) none t && uz ops il (f + 1) listed (some ks) rest
 | _,_,some [],.nil=>true
 | _,_,_,_=>false
def j3:List Edge→Nat
 | []=>0
 | e::r=>if Region.binds .any e=true then (1 <<< e.on) ||| j3 r else j3 r
def gS (rs:List Nat):List Edge→Nat
 | []=>0
 | e::r=>if Region.binds .any e=true∧e.on < rs.length then ((1 <<< e.on) ||| rs.getD e.on 0) ||| gS rs r else gS rs r
def ff:List Oper→List Nat→List Nat
 | [],acc=>acc
 | o::r,acc=>ff r (acc++[gS acc o.after.toList])
def mj (m:Nat):Nat→List Nat→List Nat
 | _,[]=>[]
 | i,a::r=>if m.testBit i=false∧a &&& m=a then i::mj m (i + 1) r else mj m (i + 1) r
def CA (m i:Nat) (st:Bool) (oi:bB):Nat→List Nat→List bB→Bool
 | j,r::rs,o::os=>(j == i || m.testBit j || r.testBit i || sr st oi o) && CA m i st oi (j + 1) rs os
 | _,_,[]=>true
 | _,[],_::_=>false
def lC (am rm:List Nat) (il:List bB):Nat→Nat→Option (List Nat)→xM→Bool
 | _,m,none,.done=>(mj m 0 am).isEmpty
 | f + 1,m,none,.take i st r=>(mj m 0 am).contains i && (il.getD i default).op.VS true && CA m i st (il.getD i default) 0 rm il && lC am rm il f (m ||| (1 <<< i)) none r
 | f + 1,m,none,.br i t rest=>(match mj m 0 am with | k::ks=>k == i && lC am rm il f (m ||| (1 <<< i)) none t && lC am rm il (f + 1) m (some ks) rest | []=>false)
 | f + 1,m,some (k::ks),.br i t rest=>k == i && lC am rm il f (m ||| (1 <<< i)) none t && lC am rm il (f + 1) m (some ks) rest
 | _,_,some [],.nil=>true
 | _,_,_,_=>false
def nc.at_ (pl:nc) (r:Nat):xM:=match pl.find? fun x=>x.1 == r with | some x=>x.2 | none=>.done
def comp (P:Program) (an:B9) (lv:m9) (pl:nc) (n:Nat):Code→Option IR
 | .skip=>some .skip
 | .region id ops false=>(eV P ops an n id true (ops.size + 1) 0 ops.toList).map fun l=>.region l (lv.at_ id)
 | .region id ops true=>match eV P ops an n id false (ops.size + 1) 0 ops.toList with
   | some il=>if P.follows .mixedOrders=true∧lC (ops.toList.map fun o=>j3 o.after.toList) (ff ops.toList []) il ops.size 0 none (pl.at_ id)=true then some (.draw (inst il (pl.at_ id)) (lv.at_ id)) else none
   | none=>none
 | .seq a b=>match comp P an lv pl n a,comp P an lv pl n b with
   | some x,some y=>some (.seq x y)
   | _,_=>none
 | .cond c a b=>match aR c,comp P an lv pl n a,comp P an lv pl n b with
   | some i,some x,some y=>some (.cond i x y)
   | _,_,_=>none
 | .block id a=>(comp P an lv pl n a).map (.block id)
 | .loop a=>(comp P an lv pl n a).map .loop
 | .exit id=>some (.exit id)
 | .ret=>some .ret
 | .rangeFunc f ps as bd=>(aR f).map fun i=>.jk i ⟨n,ps.toList,as,bd,an,lv,pl⟩
 | _=>some .never
theorem jm (n k:Nat):(1 <<< n).testBit k=decide (n=k):=by
 rw [Nat.shiftLeft_eq,Nat.one_mul,Nat.testBit_two_pow]
theorem EV (m:Nat):∀ (es:List Edge),(j3 es &&& m=j3 es)↔∀ e∈es,Region.binds .any e=true→m.testBit e.on=true:=by
 have key:∀ a:Nat,(a &&& m=a)↔∀ i,a.testBit i=true→m.testBit i=true:=by
  intro a
  constructor
  ·intro h i hi
   rw [← h] at hi
   simp only [Nat.testBit_and,Bool.and_eq_true] at hi
   exact hi.2
  ·intro h
   apply Nat.eq_of_testBit_eq
   intro i
   rw [Nat.testBit_and]
   cases ha:a.testBit i with
   | false=>simp
   | true=>simp [h i ha]
 intro es
 rw [key]
 induction es with
 | nil=>simp [j3]
 | cons e r ih=>
   simp only [j3]
   split
   ·rename_i hb
    constructor
    ·intro h e' EW dU
     rcases List.mem_cons.1 EW with rfl | EW
     ·exact h _ (by simp [])
     ·exact ih.1 (fun i hi=>h i (by simp [hi])) e' EW dU
    ·intro h i hi
     simp only [Nat.testBit_or,Bool.or_eq_true,jm,decide_eq_true_eq] at hi
     rcases hi with rfl | hi
     ·exact h e (by simp) hb
     ·exact ih.2 (fun e' EW dU=>h e' (List.mem_cons_of_mem _ EW) dU) i hi
   ·rename_i hb
    constructor
    ·intro h e' EW dU
     rcases List.mem_cons.1 EW with rfl | EW
     ·exact absurd dU hb
     ·exact ih.1 h e' EW dU
    ·intro h
     exact ih.2 (fun e' EW dU=>h e' (List.mem_cons_of_mem _ EW) dU)
theorem mn {rs:List Nat} {i:Nat}:∀ {es:List Edge},(gS rs es).testBit i=true→∃ e∈es,Region.binds .any e=true∧e.on < rs.length∧(e.on=i∨(rs.getD e.on 0).testBit i=true)
 | [],h=>by simp [gS] at h
 | e::r,h=>by
   simp only [gS] at h
   split at h
   ·rename_i hb
    simp only [Nat.testBit_or,Bool.or_eq_true,jm,decide_eq_true_eq] at h
    rcases h with h | h
    ·exact ⟨e,by simp,hb.1,hb.2,h⟩
    ·obtain ⟨e',EW,h'⟩:=mn h
     exact ⟨e',List.mem_cons_of_mem _ EW,h'⟩
   ·obtain ⟨e',EW,h'⟩:=mn h
    exact ⟨e',List.mem_cons_of_mem _ EW,h'⟩
theorem vN:∀ (l:List Oper) (acc:List Nat),∃ r,ff l acc=acc++r∧r.length=l.length
 | [],acc=>⟨[],by simp [ff],rfl⟩
 | o::l,acc=>by
   obtain ⟨r,h1,h2⟩:=vN l (acc++[gS acc o.after.toList])
   exact ⟨gS acc o.after.toList::r,by simp [ff,h1],by simp [h2]⟩
theorem vO:∀ (l:List Oper) (acc:List Nat) (j:Nat) (o:Oper),l[j]?=some o→(ff l acc)[acc.length + j]?=some (gS ((ff l acc).take (acc.length + j)) o.after.toList)
 | [],acc,j,o,h=>by simp at h
 | x::l,acc,0,o,h=>by
   simp at h
   subst h
   simp only [ff]
   obtain ⟨r,h1,h2⟩:=vN l (acc++[gS acc x.after.toList])
   rw [h1]
   simp
 | x::l,acc,j + 1,o,h=>by
   have ih:=vO l (acc++[gS acc x.after.toList]) j o (by simpa using h)
   simp only [ff]
   simp only [List.length_append,List.length_cons,List.length_nil] at ih
   rw [show acc.length + (j + 1)=acc.length + (0 + 1) + j by omega]
   exact ih
theorem EX {ops:Array Oper} {i:Nat}:∀ (j f:Nat),j < f→j < ops.size→((ff ops.toList []).getD j 0).testBit i=true→dx ops f j i=true:=by
 intro j
 induction j using Nat.strongRecOn with
 | _ j ih=>
   intro f hf hj h
   have SF:ops[j]?=some ops[j]:=by simp [hj]
   have hg:=vO ops.toList [] j ops[j] (by simp [hj])
   simp only [List.length_nil,Nat.zero_add] at hg
   rw [List.getD_eq_getElem?_getD,hg,Option.getD_some] at h
   obtain ⟨e,he,hb,aK,Wg⟩:=mn h
   have nt:e.on < j:=by simp at aK;omega
   cases f with
   | zero=>omega
   | succ f=>
     simp only [dx,SF]
     rw [Array.any_eq_true']
     refine ⟨e,by simpa using he,?_⟩
     simp only [Bool.and_eq_true,Bool.or_eq_true,beq_iff_eq]
     refine ⟨hb,?_⟩
     rcases Wg with h1 | h1
     ·exact .inl h1
     ·refine .inr (ih e.on nt f (by omega) (by omega) ?_)
      have:((ff ops.toList []).take j).getD e.on 0=(ff ops.toList []).getD e.on 0:=by
       simp [List.getD_eq_getElem?_getD,nt]
      rw [this] at h1
      exact h1
def bitsOf (n:Nat) (listed:Array Bool) (m:Nat):Prop:=listed.size=n∧∀ k,m.testBit k=listed.getD k false
theorem vP {n:Nat} {listed:Array Bool} {m i:Nat} (h:bitsOf n listed m) (hi:i < n):bitsOf n (listed.setIfInBounds i true) (m ||| (1 <<< i)):=by
 obtain ⟨h1,h2⟩:=h
 refine ⟨by simp [h1],fun k=>?_⟩
 rw [Nat.testBit_or,h2 k,jm]
 simp only [Array.getD_eq_getD_getElem?,Array.getElem?_setIfInBounds]
 by_cases hk:i=k
 ·subst hk
  simp [h1,hi]
 ·simp [hk]
theorem vQ {ops:Array Oper} {listed:Array Bool} {m:Nat} (hb:bitsOf ops.size listed m):∀ (l:List Oper) (i:Nat),(∀ j,l[j]?=ops[i + j]?)→
 mj m i (l.map fun o=>j3 o.after.toList)=(List.range' i l.length).filter fun i=>!listed.getD i true && ((ops[i]?).map (·.after.all fun e=>!Region.binds .any e || listed.getD e.on false)).getD false
 | [],i,_=>by simp [mj]
 | o::l,i,h=>by
   have h0:ops[i]?=some o:=by simpa using (h 0).symm
   have hi:i < ops.size:=(Array.getElem?_eq_some_iff.1 h0).1
   have ih:=vQ hb l (i + 1) (fun j=>by have:=h (j + 1);simpa [Nat.add_assoc,Nat.add_comm 1 j] using this)
   simp only [List.map_cons,mj,List.length_cons,List.range'_succ,List.filter_cons]
   have e1:(m.testBit i=false)↔(listed.getD i true=false):=by
    rw [hb.2 i]
    have:i < listed.size:=by rw [hb.1];exact hi
    simp [Array.getD,this]
   have e2:(j3 o.after.toList &&& m=j3 o.after.toList)↔(o.after.all fun e=>!Region.binds .any e || listed.getD e.on false)=true:=by
    rw [EV,Array.all_eq_true']
    simp only [Array.mem_toList_iff,Bool.or_eq_true,Bool.not_eq_true',hb.2]
    constructor
    ·intro h e he
     cases hbe:Region.binds .any e with
     | false=>exact .inl rfl
     | true=>exact .inr (h e he hbe)
    ·intro h e he hbe
     rcases h e he with h | h
     ·rw [hbe] at h;cases h
     ·exact h
   by_cases hc:m.testBit i=false∧j3 o.after.toList &&& m=j3 o.after.toList
   ·rw [if_pos hc,if_pos (by rw [h0];simp only [Option.map_some,Option.getD_some,e1.1 hc.1,e2.1 hc.2,Bool.not_false,Bool.and_self]),ih]
   ·rw [if_neg hc,if_neg (by
     rw [h0]
     simp only [Option.map_some,Option.getD_some,Bool.and_eq_true,Bool.not_eq_true']
     intro h'
     exact hc ⟨e1.2 h'.1,e2.2 h'.2⟩),ih]
theorem sw {ops:Array Oper} {listed:Array Bool} {m:Nat} (hb:bitsOf ops.size listed m):mj m 0 (ops.toList.map fun o=>j3 o.after.toList)=Region.ready .any ops listed:=by
 rw [vQ hb ops.toList 0 (by simp)]
 unfold Region.ready
 simp [List.range_eq_range']
theorem vR {ops:Array Oper} {il:List bB} {listed:Array Bool} {m i:Nat} {st:Bool} {oi:bB} (hb:bitsOf ops.size listed m):∀ (rs:List Nat) (os:List bB) (j:Nat),(∀ k,os[k]?=il[j + k]?)→(∀ k,rs[k]?=(ff ops.toList [])[j + k]?)→CA m i st oi j rs os=true→
 ∀ k,j≤k→k < ops.size→k < il.length→(k == i || listed.getD k true || dx ops ops.size k i || sr st oi (il.getD k default))=true
 | rs,[],j,h1,_,_,k,QZ,_,hk=>by
   have:=h1 (k - j)
   rw [show j + (k - j)=k by omega] at this
   simp at this
   omega
 | [],o::os,j,h1,h2,h,_,_,_,_=>by simp [CA] at h
 | r::rs,o::os,j,h1,h2,h,k,QZ,EO,GF=>by
   simp only [CA,Bool.and_eq_true] at h
   by_cases hk:k=j
   ·subst hk
    have ho:il.getD k default=o:=by
     have:=h1 0
     simp at this
     rw [List.getD_eq_getElem?_getD,← this];rfl
    have hr:(ff ops.toList []).getD k 0=r:=by
     have:=h2 0
     simp at this
     rw [List.getD_eq_getElem?_getD,← this];rfl
    have h:=h.1
    simp only [Bool.or_eq_true] at h ⊢
    rcases h with ((h | h) | h) | h
    ·exact .inl (.inl (.inl h))
    ·refine .inl (.inl (.inr ?_))
     rw [hb.2 k] at h
     have:k < listed.size:=by rw [hb.1];exact EO
     simpa [Array.getD,this] using h
    ·exact .inl (.inr (EX k _ EO EO (by rw [hr];exact h)))
    ·rw [ho];exact .inr h
   ·exact vR hb rs os (j + 1) (fun q=>by have:=h1 (q + 1);simpa [Nat.add_assoc,Nat.add_comm 1 q] using this) (fun q=>by have:=h2 (q + 1);simpa [Nat.add_assoc,Nat.add_comm 1 q] using this) h.2 k (by omega) EO GF
theorem qL {ops:Array Oper} {listed:Array Bool} {i:Nat} (h:i∈Region.ready .any ops listed):i < ops.size:=by
 unfold Region.ready at h
 simp at h
 exact h.1
theorem Kj {ops:Array Oper} {il:List bB} (dc:il.length=ops.size):∀ (p:xM) (f m:Nat) (listed:Array Bool) (rem:Option (List Nat)),bitsOf ops.size listed m→(∀ ks,rem=some ks→∀ k∈ks,k < ops.size)→
 lC (ops.toList.map fun o=>j3 o.after.toList) (ff ops.toList []) il f m rem p=true→uz ops il f listed rem p=true:=by
 intro p
 induction p with
 | done=>
   intro f m listed rem hb _ h
   cases rem with
   | none=>cases f <;> (simp only [lC,sw hb] at h;simpa [uz] using h)
   | some ks=>cases ks <;> cases f <;> simp [lC] at h
 | nil=>
   intro f m listed rem hb _ h
   cases rem with
   | none=>cases f <;> simp [lC] at h
   | some ks=>cases ks <;> cases f <;> simp [lC] at h <;> simp [uz]
 | take i st r ih=>
   intro f m listed rem hb _ h
   cases rem with
   | some ks=>cases ks <;> cases f <;> simp [lC] at h
   | none=>
     cases f with
     | zero=>simp [lC] at h
     | succ f=>
       simp only [lC,sw hb,Bool.and_eq_true] at h
       obtain ⟨⟨⟨h1,h2⟩,h3⟩,h4⟩:=h
       have hi:i < ops.size:=qL (by simpa using h1)
       simp only [uz,Bool.and_eq_true]
       refine ⟨⟨⟨h1,h2⟩,?_⟩,ih _ _ _ _ (vP hb hi) (by simp) h4⟩
       unfold nT
       refine List.all_eq_true.2 fun k hk=>?_
       have Sn:k < ops.size:=List.mem_range.1 hk
       exact vR hb (ff ops.toList []) il 0 (fun k=>by rw [Nat.zero_add]) (fun k=>by rw [Nat.zero_add]) h3 k (Nat.zero_le _) Sn (by omega)
 | br i t rest Kk JH=>
   intro f m listed rem hb abr h
   cases f with
   | zero=>cases rem with
     | none=>simp [lC] at h
     | some ks=>cases ks <;> simp [lC] at h
   | succ f=>
     cases rem with
     | none=>
       simp only [lC,sw hb] at h
       simp only [uz]
       split at h
       ·rename_i k ks hr
        simp only [Bool.and_eq_true,beq_iff_eq] at h
        obtain ⟨⟨rfl,h1⟩,h2⟩:=h
        have hk:∀ q∈k::ks,q < ops.size:=fun q hq=>qL (by rw [hr];exact hq)
        simp only [Bool.and_eq_true,beq_iff_eq,true_and]
        exact ⟨Kk _ _ _ _ (vP hb (hk k (by simp))) (by simp) h1,JH _ _ _ _ hb (fun ks' e q hq=>by cases e;exact hk q (by simp [hq])) h2⟩
       ·cases h
     | some ks=>
       cases ks with
       | nil=>simp [lC] at h
       | cons k ks=>
         simp only [lC,Bool.and_eq_true,beq_iff_eq] at h
         obtain ⟨⟨rfl,h1⟩,h2⟩:=h
         have hk:=abr _ rfl
         simp only [uz,Bool.and_eq_true,beq_iff_eq,true_and]
         exact ⟨Kk _ _ _ _ (vP hb (hk k (by simp))) (by simp) h1,JH _ _ _ _ hb (fun ks' e q hq=>by cases e;exact hk q (by simp [hq])) h2⟩
theorem Ih (n:Nat):bitsOf n (Array.replicate n false) 0:=⟨by simp,fun k=>by
 simp only [Nat.zero_testBit,Array.getD_eq_getD_getElem?,Array.getElem?_replicate]
 split <;> rfl⟩
section
variable {ro:Option Nat} {P:Program} {lo:Option Nat} {A:Perm} {n:Nat} {M:Mem} {L:List Nat} {w:World} {H:List aa} {env:Env} {O:Pos→Option Nat} {a:Act} {ev:Nat→Value} {ea:Nat→AV}
def EY (A:Perm) (n:Nat) (M0:Mem) (L0:List Nat) (w0:World) (Q:Exit→Env→List aa→Prop) (e:Exit) (a:Act) (w:World):Prop:=
 ∃ A' M L H env O,A'.Le A∧Q e env H∧Fr A' n M L w H env O a∧Ext A M0 w0 M w∧L0 <+: L
theorem Fr.EZ (h:Fr A n M L w H env O a) {aG:Env} (he:get aG=get env):Fr A n M L w H aG O a:=⟨by rw [he];exact h.st,h.size,h.defers⟩
theorem Fr.weaken (h:Fr A n M L w H env O a) {aG:Env} (hl:∀ t,(get env t).le (get aG t)):∃ O',Fr A n M L w H aG O' a:=by
 obtain ⟨O',h'⟩:=h.st.weaken hl
 exact ⟨O',h',h.size,h.defers⟩
theorem le_refl (x:AV):x.le x:=.inl rfl
theorem SH (x:AV):x.le .any:=.inr (.inl rfl)
theorem yN (live:Option (List Nat)) (env:Env) (t:Nat):(get env t).le (get (eD live env) t):=by
 cases live with
 | none=>exact le_refl _
 | some l=>
   simp only [eD]
   induction l with
   | nil=>exact SH _
   | cons s l ih=>
     simp only [List.map_cons,get]
     split
     ·rename_i e;subst e;exact le_refl _
     ·exact ih
theorem get_mem {env:Env} {t:Nat} {x:AV} (h:get env t=x):x=.any∨(t,x)∈env:=by
 induction env with
 | nil=>left;exact h.symm
 | cons p r ih=>
   obtain ⟨k,v⟩:=p
   simp only [get] at h
   split at h
   ·rename_i e;subst e;subst h;right;simp
   ·rcases ih h with h' | h'
    ·exact .inl h'
    ·exact .inr (List.mem_cons_of_mem _ h')
theorem aA (n0:Nat) (env:Env) (H:List aa):sle n0 env H env H:=⟨fun t=>le_refl _,.inl rfl⟩
def fW (lo:Option Nat) (n0:Nat) (A:Perm):Prop:=(∀ id,id < n0→∃ m,m≤n0∧A.top id=some m)∧match lo with
 | none=>∀ id,n0≤id→A.top id=some (id + 1)
 | some l=>l=n0∧∀ id,n0≤id→A.top id=none
theorem fW.opens {n0:Nat} (h:fW lo n0 A):∀ l,lo=some l→∀ id,l≤id→A.top id=none:=by
 rintro l rfl id bp
 obtain ⟨_,rfl,h⟩:=h
 exact h id bp
theorem fW.low {n0 m:Nat} (h:fW lo n0 A) (hm:n0≤m) (hs:St A M L w H ev ea O):∀ id o,id < n0→H[id]?=some o→o.aV m=true:=by
 intro id o bp ho
 obtain ⟨k,hk,e⟩:=h.1 id bp
 have:=hs.bE id o ho
 refine aa.cE ?_ o this
 unfold Perm.jI
 rw [e]
 exact Nat.le_trans (Nat.min_le_left _ _) (by omega)
theorem fW.closed {n0 m:Nat} (h:fW none n0 A) (hm:n0≤m) (hs:St A M L w H ev ea O):∀ id o,id < m→H[id]?=some o→o.aV m=true:=by
 intro id o bp ho
 by_cases e:id < n0
 ·exact h.low hm hs id o e ho
 ·have e1:=h.2 id (by omega)
  have:=hs.bE id o ho
  refine aa.cE ?_ o this
  unfold Perm.jI
  rw [e1]
  exact Nat.le_trans (Nat.min_le_left _ _) (by omega)
theorem Fr.sle (h:Fr A n M L w H env O a) {aG:Env} {H':List aa} {L0:List Nat} (hA:fW lo L0.length A) (hL:L0 <+: L) (hl:Ig lo L0.length env H aG H'):∃ L' O',Fr A n M L' w H' aG O' a∧L0 <+: L':=by
 have vS:Ie L0.length env H aG H':=by
  unfold Ig at hl
  split at hl
  ·obtain ⟨h1,h2⟩:=hl
   refine ⟨h1,?_⟩
   rcases h2 with rfl | ⟨m,hm,rfl,hb⟩
   ·exact .inl rfl
   ·exact .inr ⟨m,hm,rfl,fun id o _ bp ho=>hA.closed hm h.st id o bp ho,hb⟩
  ·exact hl
 obtain ⟨h1,h2⟩:=vS
 obtain ⟨O',hf⟩:=h.weaken h1
 rcases h2 with rfl | ⟨m,hm,rfl,hc,hb⟩
 ·exact ⟨L,O',hf,hL⟩
 ·obtain ⟨O'',bS⟩:=hf.st.cut m (fun id o bp ho=>by
   by_cases e:id < L0.length
   ·exact hA.low hm hf.st id o e ho
   ·exact hc id o (by omega) bp ho) hb
  refine ⟨L.take m,O'',⟨bS,hf.size,hf.defers⟩,?_⟩
  obtain ⟨r,rfl⟩:=hL
  exact ⟨r.take (m - L0.length),by rw [List.take_append,List.take_of_length_le hm]⟩
theorem AB {ops:Array Oper} {j g:Nat} (hg:(ops[j]?).bind (·.dst)=some g) (hf:Fr A n M L w H env O a) {b:Bool} (hb:get env g=.bool b):yielded ops a.tmps j=some b:=by
 have hr:=hf.st.env g
 rw [hb] at hr
 generalize hv:a.tmps.getD g undef=v at hr
 cases hr
 have:a.tmps[g]?=some (.bool b):=by
  rw [Array.getD_eq_getD_getElem?] at hv
  cases h:a.tmps[g]? with
  | none=>rw [h] at hv;cases hv
  | some v=>rw [h] at hv;simp at hv;rw [hv]
 simp [yielded,hg,this]
theorem ya {ops:Array Oper} {j g:Nat} (hg:(ops[j]?).bind (·.dst)=some g) (hf:Fr A n M L w H env O a) (hb:get env g=.tuple []):yielded ops a.tmps j=none:=by
 have hr:=hf.st.env g
 rw [hb] at hr
 generalize hv:a.tmps.getD g undef=v at hr
 cases hr with
 | tuple cs _ h=>
 rw [Array.getD_eq_getD_getElem?] at hv
 simp only [yielded,hg,Option.bind_some]
 cases h:a.tmps[g]? with
 | none=>rfl
 | some v=>rw [h] at hv;simp at hv;rw [hv]
theorem yO {ops:Array Oper} {o:Oper} {fl:Nat} {g:Option (Nat×Bool)} (hg:GJ ops o=some g) (gA:GI n o=true) (hp:∀ l,lo=some l→∀ id,l≤id→A.top id=none) (hf:Fr A n M L w H env O a) {K:Env→List aa→Prop} (h:rZ ⟨P,lo⟩ ⟨g,o.dst,Cw P o fl⟩ env H K) (Q:Exit→Act→World→Prop) :
 if Region.wanted o (yielded ops a.tmps) then o.wpIn (wf ro) 0 P a w (nD A n M L w K) Q else nD A n M L w K (a.put o.dst undef) w:=by
 simp only [GI,Bool.and_eq_true] at gA
 have hd:∀ d,o.dst=some d→d < n:=by
  intro d hd
  have:=gA.1
  rw [hd] at this
  simpa using this
 have hn:(match o.op with | .store .. | .mapUpdate ..=>o.dst=none | _=>True):=by
  have:=gA.2
  split at this <;> first | trivial | skip
  ·simpa using this
  ·simpa using this
 unfold GJ at hg
 split at hg
 ·rename_i No
  cases hg
  rw [if_pos (by simp [Region.wanted,No])]
  exact tL o hp hf hd hn h
 ·rename_i j want No
  split at hg <;> cases hg
  rename_i g hgj
  simp only [rZ,iF] at h
  split at h
  rotate_left
  ·rename_i hb
   have hy:=ya hgj hf hb
   rw [if_neg (by simp [Region.wanted,No,hy])]
   obtain ⟨O',pN⟩:=hf.pf (dst:=o.dst) (v:=undef) (x:=.tuple []) hd (.tuple [] [] .nil) (by intro _ _ e;cases e)
   exact ⟨M,L,H,_,O',h,pN,Ext.refl A M w,List.prefix_refl L⟩
  ·exact h.elim
  rename_i b hb
  have hy:=AB hgj hf hb
  have Ww:get ((g,AV.bool b)::env)=get env:=by
   rw [JX];funext t;simp only [fE];split
   ·rename_i e;rw [e,hb]
   ·rfl
  by_cases hw:b=want
  ·subst hw
   rw [if_pos (by simp [Region.wanted,No,hy])]
   exact tL o hp (hf.EZ Ww) hd hn (h.1 rfl)
  ·have GL:b=!want:=by cases b <;> cases want <;> simp_all
   subst GL
   rw [if_neg (by simp [Region.wanted,No,hy])]
   obtain ⟨O',pN⟩:=(hf.EZ Ww).pf (dst:=o.dst) (v:=undef) (x:=.tuple []) hd (.tuple [] [] .nil) (by intro _ _ e;cases e)
   exact ⟨M,L,H,_,O',h.2 rfl,pN,Ext.refl A M w,List.prefix_refl L⟩
theorem nD.trans {K K':Env→List aa→Prop} {M':Mem} {L':List Nat} {w':World} {a':Act} {w'':World} (cG:Ext A M w M' w') (hL:L <+: L') (h:nD A n M' L' w' K a' w''):nD A n M L w K a' w'':=by
 obtain ⟨M2,L2,H2,cR,O2,h1,h2,h3,h4⟩:=h
 exact ⟨M2,L2,H2,cR,O2,h1,h2,cG.trans h3,hL.trans h4⟩
theorem CB (w:World) (c c':Array Value) (e:TypeId):({ w with heap:=w.heap.push (.cells c e) }:World).setRow w.heap.size c'={ w with heap:=w.heap.push (.cells c' e) }:=by
 simp only [World.setRow]
 congr 1
 apply Array.ext
 ·simp
 ·intro i h1 h2
  rw [Array.getElem_modify]
  by_cases hi:w.heap.size=i
  ·subst hi;simp
  ·simp only [hi,if_false]
   have:i < w.heap.size:=by simp at h2;omega
   rw [Array.getElem_push_lt this,Array.getElem_push_lt this]
theorem E0 {ops:Array Oper} {o o':Oper} {x:bB} (hx:SC P ops n 2 o o'=some x) (hf:Fr A n M L w H env O a) {K:Env→List aa→Prop} (h:rZ ⟨P,lo⟩ x env H K) (r:List Oper) (Q:Exit→Act→World→Prop)
 (hrest:∀ a' w',nD A n M L w K a' w'→wpListIn (wf ro) 0 P ops Q r a' w'):wpListIn (wf ro) 0 P ops Q (o::o'::r) a w:=by
 unfold SC at hx
 split at hx <;> try cases hx
 rename_i e d t d' y _ cS gA No abt Wx abu
 split at hx <;> try cases hx
 rename_i hcond
 obtain ⟨rfl,Wr,rfl⟩:=hcond
 split at hx <;> try cases hx
 rename_i i m z hi hm hz
 split at hx <;> cases hx
 rename_i hcond
 obtain ⟨dW,jh,tC,Cm⟩:=hcond
 simp only [rZ,bA] at h
 obtain ⟨ic,jc,kQ,hK⟩:=h
 have hr:=hf.eval hi
 have NQ:=hr.gl ic
 have qz:=NQ.length
 -- the zero value
 obtain ⟨inf,jf,dc⟩:=Option.map_eq_some_iff.1 hm
 unfold fR at hz
 simp only [jf] at hz
 split at hz <;> try cases hz
 rename_i zv vB
 have uH:zv.cells.size=m:=by have:=((cM (M:=M) (L:=L) hz).gl tC).length;rw [jh] at this;simpa using this
 have hrun1:(execOp a.eval o).run P w=.ok (.value (.pointer (some ⟨w.heap.size,0,none⟩))) { w with heap:=w.heap.push (.cells zv.cells t) }:=by
  simp only [execOp,cS]
  exact aW (by simp only [Instr.alloc,zeroValue,typeInfo,Sem.run_bind,run_program,Result.andThen_ok,jf,Sem.run_pure,vB];rfl)
 have hsize:d < a.tmps.size:=by rw [hf.size];exact Wr
 have Sv:(a.put (some d) (.pointer (some ⟨w.heap.size,0,none⟩))).eval (.tmp d)=.pointer (some ⟨w.heap.size,0,none⟩):=by
  show (a.put (some d) _).tmps.getD d undef=_
  rw [vu a d _ hsize d];simp [fE]
 have abv:(a.put (some d) (.pointer (some ⟨w.heap.size,0,none⟩))).eval y=a.eval y:=by
  cases y with
  | tmp s=>
    simp [aR] at hi;subst hi
    simp [GK] at dW
    show (a.put (some d) _).tmps.getD s undef=a.tmps.getD s undef
    rw [vu a d _ hsize s];simp [fE,dW]
  | _=>rfl
 have bS:=run_storeCells_at P w.heap.size 0 t (a.eval y).cells.toList 0 zv.cells { w with heap:=w.heap.push (.cells zv.cells t) } (dO w _) (by simp at qz ⊢;omega) (NQ.gM kQ)
 have hwhole:(zv.cells.toList.take (0 + 0)++(a.eval y).cells.toList++zv.cells.toList.drop (0 + 0 + (a.eval y).cells.toList.length)).toArray=(a.eval y).cells:=by
  have:zv.cells.toList.drop (0 + 0 + (a.eval y).cells.toList.length)=[]:=List.drop_eq_nil_of_le (by simp at qz ⊢;omega)
  rw [this];simp
 rw [hwhole,CB] at bS
 have hrun2:(execOp (a.put (some d) (.pointer (some ⟨w.heap.size,0,none⟩))).eval o').run P { w with heap:=w.heap.push (.cells zv.cells t) }=.ok .skip { w with heap:=w.heap.push (.cells (a.eval y).cells t) }:=by
  simp only [execOp,abt,Sv,abv]
  refine qG ?_
  have hs:(sizeOf t).run P { w with heap:=w.heap.push (.cells zv.cells t) }=.ok m { w with heap:=w.heap.push (.cells zv.cells t) }:=by simp [sizeOf,typeInfo,jf,dc]
  simp only [Instr.storeAt,Instr.sureAddr,storeVar,Sem.run_bind,Sem.run_pure,Result.andThen_ok,hs,ne_eq]
  rw [if_neg (by simp at qz;omega)]
  exact bS
 obtain ⟨g1,g2,g3⟩:=hf.st.EA (a.eval y).cells t
 have fL:aS (M.add w.heap.size (a.eval y).cells.toList) L (.pointer (some ⟨w.heap.size,0,none⟩)) (.ai (ap env i)):=.ai _ _ _ _ (NQ.mono g2.ln (List.prefix_refl _)) g3
 obtain ⟨O',pN⟩:=(hf.mono g1 g2).pf (dst:=some d) (fun d' e=>by cases e;exact Wr) fL (by intro _ _ e;cases e)
 have jE:=hrest _ _ ⟨_,L,H,_,O',hK,pN,g2,List.prefix_refl L⟩
 unfold wpListIn
 rw [if_pos (by simp [Region.wanted,No])]
 refine lq hrun1 (by intro d e;cases e) ?_
 rw [Oper.uponIn_value,gA]
 unfold wpListIn
 rw [if_pos (by simp [Region.wanted,abu])]
 refine lq hrun2 (by intro d e;cases e) ?_
 rw [Oper.uponIn_skip,Wx]
 exact jE
theorem pQ {ops:Array Oper} {an:B9} {rid:Nat} {fu:Bool} (hp:∀ l,lo=some l→∀ id,l≤id→A.top id=none) (Q:Exit→Act→World→Prop):∀ (fuel k:Nat) (l:List Oper) (il:List bB),eV P ops an n rid fu fuel k l=some il→∀ {M:Mem} {L:List Nat} {w:World} {H:List aa} {env:Env} {O:Pos→Option Nat} {a:Act} (K:Env→List aa→Prop),
 Fr A n M L w H env O a→jl ⟨P,lo⟩ il env H K→(∀ a' w',nD A n M L w K a' w'→Q .normal a' w')→wpListIn (wf ro) 0 P ops Q l a w
 | _,_,[],il,hc,M,L,w,H,env,O,a,K,hf,h,hQ=>by
   unfold eV at hc
   cases hc
   exact hQ a w ⟨M,L,H,env,O,h,hf,Ext.refl A M w,List.prefix_refl L⟩
 | 0,_,o::r,il,hc,_,_,_,_,_,_,_,_,_,_,_=>by simp [eV] at hc
 | fuel + 1,k,o::r,il,hc,M,L,w,H,env,O,a,K,hf,h,hQ=>by
   unfold eV at hc
   split at hc
   ·-- a new variable with its first value
    split at hc <;> try cases hc
    rename_i o' r'
    split at hc <;> cases hc
    rename_i x xs hx fP
    simp only [jl] at h
    refine E0 hx hf h r' Q ?_
    rintro a' w' ⟨M',L',H',aG,O',k1,k2,k3,k4⟩
    exact pQ hp Q fuel (k + 2) r' xs fP K k2 k1 (fun a2 w2 h2=>hQ a2 w2 (nD.trans (K':=K) k3 k4 h2))
   ·split at hc <;> try cases hc
    rename_i g xs hg fP
    split at hc <;> cases hc
    rename_i gA
    simp only [jl] at h
    have h1:=yO (ro:=ro) (ops:=ops) hg gA hp hf h Q
    have hrest:∀ a' w',nD A n M L w (fun env H=>jl ⟨P,lo⟩ xs env H K) a' w'→wpListIn (wf ro) 0 P ops Q r a' w':=by
     rintro a' w' ⟨M',L',H',aG,O',k1,k2,k3,k4⟩
     exact pQ hp Q fuel (k + 1) r xs fP K k2 k1 (fun a2 w2 h2=>hQ a2 w2 (nD.trans (K':=K) k3 k4 h2))
    unfold wpListIn
    split
    ·rename_i hw
     rw [if_pos hw] at h1
     exact Oper.wpIn_mono hrest h1
    ·rename_i hw
     rw [if_neg hw] at h1
     exact ⟨fun _ _=>trivial,hrest _ _ h1⟩
theorem EY.trans {A':Perm} {M0 M1:Mem} {L0:List Nat} {w0 w1:World} {Q:Exit→Env→List aa→Prop} {e:Exit} {a:Act} {w:World} (hl:A'.Le A) (hx:Ext A M0 w0 M1 w1) (hp:EY A' n M1 L0 w1 Q e a w):EY A n M0 L0 w0 Q e a w:=by
 obtain ⟨A2,M,L,H,env,O,hA,h1,h2,h3,h4⟩:=hp
 exact ⟨A2,M,L,H,env,O,hA.trans hl,h1,h2,hx.trans (h3.le hl),h4⟩
theorem fW.le {n0:Nat} {A':Perm} (h:fW lo n0 A) (hl:A'.Le A):fW lo n0 A':=by
 unfold fW at *
 rw [hl.1]
 exact h
def Own (ro:Option Nat) (w:World):Prop:=∀ l,ro=some l→∃ r,w.heap[l]?=some (.loop r)
theorem Own.ext {M':Mem} {w':World} (h:Own ro w) (hx:Ext A M w M' w'):Own ro w':=fun l hl=>by
 obtain ⟨r,hr⟩:=h l hl
 obtain ⟨r',hr',_⟩:=hx.loops l r hr
 exact ⟨r',hr'⟩
theorem Ii (p:Nat→Prop) (h:∃ k,p k):∃ k,p k∧∀ j,p j→k≤j:=by
 obtain ⟨k,hk⟩:=h
 induction k using Nat.strongRecOn with
 | _ k ih=>
   by_cases hl:∃ j,j < k∧p j
   ·obtain ⟨j,hj,hp⟩:=hl
    exact ih j hj hp
   ·exact ⟨k,hk,fun j hj=>by
     rcases Nat.lt_or_ge j k with h' | h'
     ·exact absurd ⟨j,h',hj⟩ hl
     ·exact h'⟩
theorem AD {F:Fence} {k:Nat} {c:Code} {Q:Exit→Act→World→Prop} {w:World} {a:Act} {ι:Type} (I:ι→Act→World→Prop) (μ:ι→Nat)
 (round:∀ i a w,I i a w→c.wpIn F k P (Exit.then (fun a' w'=>∃ j,I j a' w'∧μ j < μ i) Q) a w) (i0:ι) (h0:I i0 a w):(Code.loop c).wpIn F k P Q a w:=by
 let p:Act→World→Nat→Prop:=fun a w k=>∃ i,I i a w∧μ i=k
 let ν:Act→World→Nat:=fun a w=>Classical.epsilon fun k=>p a w k∧∀ j,p a w j→k≤j
 have hν:∀ a w,(∃ i,I i a w)→p a w (ν a w)∧∀ j,p a w j→ν a w≤j:=by
  rintro a w ⟨i,hi⟩
  exact Classical.epsilon_spec (Ii (p a w) ⟨μ i,i,hi,rfl⟩)
 refine wpIn_loop (fun a w=>∃ i,I i a w) ν ⟨i0,h0⟩ ?_
 intro a w hI
 obtain ⟨⟨i,hi,hμ⟩,_⟩:=hν a w hI
 refine Go.wpIn_mono (round i a w hi) ?_
 intro e a' w' h
 cases e with
 | normal=>
   obtain ⟨j,hj,aK⟩:=h
   refine ⟨⟨j,hj⟩,?_⟩
   have:=(hν a' w' ⟨j,hj⟩).2 (μ j) ⟨j,hj,rfl⟩
   omega
 | _=>exact h
def yP (P:Program) (ro lo:Option Nat) (A:Perm) (n:Nat) (L0:List Nat):Prop:=
 ∀ {id:Nat} {ops:Array Oper} {il:List bB} {p:xM} {live:Option (List Nat)} {an:B9} {M:Mem} {L:List Nat} {w:World} {H:List aa} {env:Env} {O:Pos→Option Nat} {a:Act} {M0:Mem} {w0:World} {Q:Exit→Env→List aa→Prop},
  P.follows .mixedOrders=true→lC (ops.toList.map fun o=>j3 o.after.toList) (ff ops.toList []) il ops.size 0 none p=true→eV P ops an n id false (ops.size + 1) 0 ops.toList=some il→mi ⟨P,lo⟩ L0.length (.draw (inst il p) live) env H Q→Fr A n M L w H env O a→Ext A M0 w0 M w→L0 <+: L→(Code.region id ops true).wpIn (wf ro) 0 P (EY A n M0 L0 w0 Q) a w
theorem CC {L0:List Nat} (hA:fW lo L0.length A) {f:Operand} {ps:Array Tmp} {as bd:Code} {an:B9} {lv:m9} {pl:nc} {i:IX} (hi:aR f=some i) {Q:Exit→Env→List aa→Prop}
 (xI:Own ro w) (h:mi ⟨P,lo⟩ L0.length (.jk i ⟨n,ps.toList,as,bd,an,lv,pl⟩) env H Q) (hf:Fr A n M L w H env O a) (hL:L0 <+: L):(Code.rangeFunc f ps as bd).wpIn (wf ro) 0 P (EY A n M L0 w Q) a w:=by
 have Nn:=hf.eval hi
 simp only [mi] at h
 split at h <;> try exact h.elim
 rename_i g first cap Wt
 obtain ⟨hcf,bR,hle,hcall⟩:=h
 rw [Wt] at Nn
 generalize hu:a.eval f=u at Nn
 cases Nn with
 | fn _ fs cs _ _ Ay sn=>
 refine wpIn_rangeFunc fun fn _=>?_
 -- the record
 have enter:∃ (l:Nat) (mark:List Deferred) (w1:World) (A1:Perm),(Instr.enterLoop fn a.tmps ps as bd ro).run P w=.ok (l,mark) w1∧A1.Le A∧
  Fr A1 n M (L++[l]) w1 (H++[.loop .ready ⟨n,ps.toList,as,bd,an,lv,pl⟩ (kW n env)]) env O { a with defers:=mark++a.defers }∧Ext A M w M w1:=by
  have Ar:aM M L a.tmps.toList (kW n env):=by
   refine aM.Ab (by simp [kW,hf.size]) fun j x hx=>?_
   simp only [kW,List.getElem?_map] at hx
   obtain ⟨t,ht,rfl⟩:=Option.map_eq_some_iff.1 hx
   obtain ⟨qq,rfl⟩:=List.getElem?_eq_some_iff.1 ht
   simp only [List.length_range] at qq
   simp only [List.getElem_range]
   have:=(hf.st.env j).ab
   refine ⟨a.tmps.getD j undef,?_,this⟩
   rw [Array.getD_eq_getD_getElem?,Array.getElem?_toList,Array.getElem?_eq_getElem (by rw [hf.size];exact qq)]
   rfl
  have nC:(aa.loop .ready ⟨n,ps.toList,as,bd,an,lv,pl⟩ (kW n env)).aV (H.length + 1)=true:=by
   simp only [aa.aV]
   have:=Ar.N0
   rw [hf.st.len] at this
   exact bI (by omega) _ this
  cases ro with
  | none=>
    have hg:=hf.st.grow (w':={ w with heap:=w.heap.push (.deferred (some [])) }) (Mem.bQ M) (fun b o v hv=>by
     have h1:=hf.st.mem b o v hv
     simp only [World.cell?] at h1 ⊢
     cases hb:w.heap[b]? with
     | none=>rw [hb] at h1;simp at h1
     | some ob=>rw [eF w _ (Array.getElem?_eq_some_iff.1 hb).1];exact h1) (by simp) (fun b hb=>eF w _ hb) (fun _ _ _=>rfl)
    have tN:Ext A M w M { w with heap:=w.heap.push (.deferred (some [])) }:=Ext.grow (Mem.bQ M) (by simp) rfl rfl rfl (fun b hb=>eF w _ hb) (fun _ _ _=>rfl)
    have hb:=hg.Wv (D:=w.heap.size) (fun hm=>by have:=hf.st.lt _ hm;omega) (fun p hp=>by have:=hf.st.fq _ _ hp;omega) (by simp)
    obtain ⟨g1,g2⟩:=hb.sf (.loop { state:=.ready,pending:=none,fn,tmps:=a.tmps,params:=ps,assign:=as,body:=bd,defers:=w.heap.size }) (.loop .ready ⟨n,ps.toList,as,bd,an,lv,pl⟩ (kW n env))
     (fun w' J7 _=>⟨_,J7,(Array.toArray_toList).symm,rfl,rfl,Ar.mono (Mem.bQ M) ⟨_,rfl⟩,rfl,rfl⟩) nC (fun j=>rfl)
    refine ⟨w.heap.size + 1,_,_,A.Wv w.heap.size,run_enterLoop_outer _ _ _ _ _,A.AA _,⟨?_,hf.size,?_⟩,?_⟩
    ·have e1:({ w with heap:=w.heap.push (.deferred (some [])) }:World).heap.size=w.heap.size + 1:=by simp
     rw [e1] at g1
     exact g1
    ·have old:=((hf.defers.ext tN).le (A.AA w.heap.size)).ext g2
     refine ⟨old.1,?_,fun d hd=>?_⟩
     ·show (_::a.defers).Nodup
      rw [List.nodup_cons]
      refine ⟨fun hm=>?_,old.2.1⟩
      obtain ⟨D,e,hD,_⟩:=hf.defers.2.2 _ hm
      cases e
      have:=(Array.getElem?_eq_some_iff.1 hD).1
      omega
     rcases List.mem_append.1 hd with hd | hd
     ·rw [List.mem_singleton] at hd
      subst hd
      refine ⟨w.heap.size,rfl,?_,(fun h=>h.2 rfl),(show A.base≤w.heap.size from hf.defers.1)⟩
      show ((w.heap.push _).push _)[w.heap.size]?=_
      rw [Array.getElem?_push_lt (by simp)]
      simp
     ·exact old.2.2 d hd
    ·exact tN.trans (g2.le (A.AA _))
  | some l0=>
    obtain ⟨r0,hr0⟩:=xI l0 rfl
    obtain ⟨g1,g2⟩:=hf.st.sf (.loop { state:=.ready,pending:=none,fn,tmps:=a.tmps,params:=ps,assign:=as,body:=bd,defers:=r0.defers }) (.loop .ready ⟨n,ps.toList,as,bd,an,lv,pl⟩ (kW n env))
     (fun w' J7 _=>⟨_,J7,(Array.toArray_toList).symm,rfl,rfl,Ar.mono (Mem.bQ M) ⟨_,rfl⟩,rfl,rfl⟩) nC (fun j=>rfl)
    exact ⟨w.heap.size,[],_,A,run_enterLoop_inner hr0 _ _ _ _ _,Perm.Le.refl A,⟨g1,hf.size,by simpa using hf.defers.ext g2⟩,g2⟩
 obtain ⟨l,mark,w1,A1,he,E1,GC,tN⟩:=enter
 have Np:L.length=H.length:=hf.st.len
 have uA:(L++[l])[H.length]?=some l:=by rw [← Np];simp
 have SJ:fW lo L0.length A1:=hA.le E1
 obtain ⟨loose,vC,hcall⟩:∃ loose:Bool,(loose=true→∀ id,(H++[aa.loop .ready ⟨n,ps.toList,as,bd,an,lv,pl⟩ (kW n env)]).length≤id→A1.top id=none)∧
  kU loose P g bR (H++[.loop .ready ⟨n,ps.toList,as,bd,an,lv,pl⟩ (kW n env)]) fun _ H'=>behind H.length H' fun j H''=>pP j Q env H'':=by
  unfold ej at hcall
  split at hcall
  ·exact ⟨false,by simp,hcall⟩
  ·rename_i l' vS
   rcases hcall with hcall | ⟨h1,hcall⟩
   ·exact ⟨false,by simp,hcall⟩
   ·exact ⟨true,fun _ id bp=>SJ.opens l' vS id (by omega),hcall⟩
 have hry:aM M (L++[l]) (fs++[.func (.yield l) #[] #[]]) (first++[.nH H.length]):=
  (Ay.mono (Mem.bQ M) ⟨_,rfl⟩).append (.one (.nH l _ uA))
 obtain ⟨Oc,qz,bS,fin⟩:=sq (o:=(⟨none,.move f,0, "",#[],none⟩:Oper)) (K:=fun aG H'=>aG=env∧behind H.length H' fun j H''=>pP j Q env H'') (xs:=[]) (js:=[]) rfl (pass:=none) hry (sn.mono (Mem.bQ M) ⟨[l],rfl⟩)
  (by simpa [aI,AV.ab] using hle) GC (fun d e=>by cases e) vC
 obtain ⟨vs,xS⟩:∃ vs:List Value,vs=fs++[.func (.yield l) #[] #[]]++cs:=⟨_,rfl⟩
 simp only [List.map_nil,List.append_nil] at qz bS
 rw [← xS] at qz bS
 refine ⟨l,mark,w1,{ target:=.fn (.func g) cs.toArray,args:=fs.toArray++#[.func (.yield l) #[] #[]] },w1,g,vs.toArray,w1,he,?_,fun _ _=>trivial,?_,(fun h=>by cases h),?_⟩
 ·have ec:a.eval (.const (.func (.yield l) #[] #[]))=.func (.yield l) #[] #[]:=rfl
  simp [resolve,hu,Deferred.ofValue,ec]
 ·have e1:(fs.toArray++#[.func (.yield l) #[] #[]]++cs.toArray:Array Value)=vs.toArray:=by
   apply Array.ext';simp [xS]
  simp only [invoke]
  rw [e1]
  exact hcf _ _
 ·rcases hcall (dC A1 loose (H++[aa.loop .ready ⟨n,ps.toList,as,bd,an,lv,pl⟩ (kW n env)]) (L++[l]) Oc w1) M (L++[l]) w1 vs.toArray Oc (kV A1 loose _ _ Oc w1) (by simpa using qz) bS with ⟨_,hc⟩ | ⟨v,w',r,H',M',L',O',h1,_⟩
  ·have ph:CallsIn (wf ro) (0 - 1) P g vs.toArray w1 _:=callsIn_wide.2 hc
   refine CallsIn.mono ph fun e w' he=>?_
   obtain ⟨v,r,H',M',L',O',rfl,hK,mf,cG,Wy⟩:=he
   obtain ⟨M2,L2,H2,cR,O2,⟨rfl,hb⟩,tI,Q3,SK⟩:=fin v r H' M' L' O' w' ⟨rfl,hK⟩ mf cG Wy
   have nE:L2[H.length]?=some l:=gh SK uA
   have lZ:L0 <+: L2:=hL.trans ((List.prefix_append L [l]).trans SK)
   unfold behind at hb
   split at hb
   ·rename_i lc es E2
    obtain ⟨r,q1,q2,q3,q4,q5,q6⟩:=tI.st.obj _ _ l E2 nE
    obtain ⟨k1,k2⟩:=tI.st.oL (st':=.eO) (r':={ r with state:=.exhausted }) E2 nE (fun r2 sn=>by rw [q1] at sn;cases sn;exact ⟨rfl,rfl,rfl,rfl,rfl,trivial⟩)
    exact ⟨none,_,(run_endLoop q1 (by rw [q6.1];simp)).trans (congrArg (fun p=>Result.ok p _) q6.2),A1,M2,L2,_,cR,O2,E1,hb,⟨k1,tI.size,tI.defers.ext k2⟩,tN.trans ((Q3.trans k2).le E1),lZ⟩
   ·rename_i c lc es E2
    obtain ⟨r,q1,q2,q3,q4,q5,q6⟩:=tI.st.obj _ _ l E2 nE
    obtain ⟨k1,k2⟩:=tI.st.oL (st':=.eO) (r':={ r with state:=.exhausted }) E2 nE (fun r2 sn=>by rw [q1] at sn;cases sn;exact ⟨rfl,rfl,rfl,rfl,rfl,trivial⟩)
    refine ⟨some c,_,(run_endLoop q1 (by rw [q6.1];simp)).trans (congrArg (fun p=>Result.ok p _) q6.2),?_⟩
    unfold pP at hb
    split at hb
    ·rename_i e;cases e
    ·rename_i e;cases e
     exact wpIn_ret ⟨A1,M2,L2,_,cR,O2,E1,hb,⟨k1,tI.size,tI.defers.ext k2⟩,tN.trans ((Q3.trans k2).le E1),lZ⟩
    ·rename_i e;cases e
     exact wpIn_exit ⟨A1,M2,L2,_,cR,O2,E1,hb,⟨k1,tI.size,tI.defers.ext k2⟩,tN.trans ((Q3.trans k2).le E1),lZ⟩
    ·exact hb.elim
   ·exact hb.elim
  ·rw [hcf] at h1;cases h1
theorem sound {L0:List Nat} (hdraw:∀ A,fW lo L0.length A→yP P ro lo A n L0) {an:B9} {lv:m9} {pl:nc}:∀ (c:Code) (ir:IR),comp P an lv pl n c=some ir→∀ {A:Perm} {M:Mem} {L:List Nat} {w:World} {H:List aa} {env:Env} {O:Pos→Option Nat} {a:Act} {Q:Exit→Env→List aa→Prop},
 fW lo L0.length A→Own ro w→mi ⟨P,lo⟩ L0.length ir env H Q→Fr A n M L w H env O a→L0 <+: L→c.wpIn (wf ro) 0 P (EY A n M L0 w Q) a w:=by
 intro c
 induction c with
 | skip=>
   intro ir hc A M L w H env O a Q hA xI h hf hL
   simp only [comp] at hc;cases hc
   exact wpIn_skip ⟨A,M,L,H,env,O,.refl A,h,hf,Ext.refl A M w,hL⟩
 | exit id=>
   intro ir hc A M L w H env O a Q hA xI h hf hL
   simp only [comp] at hc;cases hc
   exact wpIn_exit ⟨A,M,L,H,env,O,.refl A,h,hf,Ext.refl A M w,hL⟩
 | ret=>
   intro ir hc A M L w H env O a Q hA xI h hf hL
   simp only [comp] at hc;cases hc
   exact wpIn_ret ⟨A,M,L,H,env,O,.refl A,h,hf,Ext.refl A M w,hL⟩
 | region id ops draw=>
   intro ir hc A M L w H env O a Q hA xI h hf hL
   cases draw with
   | true=>
     simp only [comp] at hc
     split at hc <;> try cases hc
     rename_i il xP
     split at hc <;> cases hc
     rename_i hm
     exact hdraw A hA hm.1 hm.2 xP h hf (Ext.refl A M w) hL
   | false=>
     simp only [comp] at hc
     obtain ⟨il,xP,rfl⟩:=Option.map_eq_some_iff.1 hc
     simp only [mi] at h
     refine wpIn_region_list (pQ hA.opens _ _ _ _ _ xP _ hf h ?_)
     rintro a' w' ⟨M',L',H',aG,O',h1,h2,h3,h4⟩
     obtain ⟨O'',h5⟩:=h2.weaken (yN (lv.at_ id) aG)
     exact ⟨A,M',L',H',_,O'',.refl A,h1,h5,h3,hL.trans h4⟩
 | seq x y ihx ihy=>
   intro ir hc A M L w H env O a Q hA xI h hf hL
   simp only [comp] at hc
   split at hc <;> cases hc
   rename_i x' y' hx hy
   simp only [mi] at h
   refine wpIn_seq (Go.wpIn_mono (ihx _ hx hA xI h hf hL) ?_)
   rintro e a' w' ⟨A',M',L',H',aG,O',hl,h1,h2,h3,h4⟩
   cases e with
   | normal=>exact Go.wpIn_mono (ihy _ hy (hA.le hl) (xI.ext h3) h1 h2 h4) fun e a w hp=>hp.trans hl h3
   | _=>exact ⟨A',M',L',H',aG,O',hl,h1,h2,h3,h4⟩
 | cond x c d ihc ihd=>
   intro ir hc A M L w H env O a Q hA xI h hf hL
   simp only [comp] at hc
   split at hc <;> cases hc
   rename_i i c' d' hi Ij hd'
   simp only [mi] at h
   obtain ⟨q,hq,h⟩:=oK h
   have hr:=hf.eval hi
   rw [hq] at hr
   generalize hu:a.eval x=u at hr
   cases hr
   refine wpIn_cond_split hu (fun e=>ihc _ Ij hA xI (h.1 e) hf hL) (fun e=>ihd _ hd' hA xI (h.2 e) hf hL)
 | block id c ih=>
   intro ir hc A M L w H env O a Q hA xI h hf hL
   simp only [comp] at hc
   obtain ⟨c',Ij,rfl⟩:=Option.map_eq_some_iff.1 hc
   simp only [mi] at h
   refine wpIn_block (Go.wpIn_mono (ih _ Ij hA xI h hf hL) ?_)
   rintro e a' w' ⟨A',M',L',H',aG,O',hl,h1,h2,h3,h4⟩
   cases e with
   | exit id'=>
     simp only [Exit.inBlock]
     simp only at h1
     split at h1
     ·rename_i e;rw [if_pos e];exact ⟨A',M',L',H',aG,O',hl,h1,h2,h3,h4⟩
     ·rename_i e;rw [if_neg e];exact ⟨A',M',L',H',aG,O',hl,h1,h2,h3,h4⟩
   | _=>exact ⟨A',M',L',H',aG,O',hl,h1,h2,h3,h4⟩
 | loop c ih=>
   intro ir hc A M L w H env O a Q hA xI h hf hL
   simp only [comp] at hc
   obtain ⟨c',Ij,rfl⟩:=Option.map_eq_some_iff.1 hc
   simp only [mi] at h
   obtain ⟨ι,I,se,sh,μ,⟨i0,uJ,Wz⟩,hround⟩:=h
   obtain ⟨L',O',pN,Wy⟩:=hf.sle hA hL Wz
   refine AD (fun i a' w'=>I i∧∃ A' M' L' O',A'.Le A∧Fr A' n M' L' w' (sh i) (se i) O' a'∧Ext A M w M' w'∧L0 <+: L') μ ?_ i0 ⟨uJ,A,M,L',O',.refl A,pN,Ext.refl A M w,Wy⟩
   rintro i a1 w1 ⟨hi,A1,M1,L1,O1,uA,GC,tN,hL1⟩
   refine Go.wpIn_mono (ih _ Ij (hA.le uA) (xI.ext tN) (hround i hi) GC hL1) ?_
   rintro e a' w' ⟨A',M',L',H',aG,O',hl,h1,h2,h3,h4⟩
   cases e with
   | normal=>
     obtain ⟨j,hj,aK,hs⟩:=h1
     obtain ⟨L2,O2,tI,SK⟩:=h2.sle ((hA.le uA).le hl) h4 hs
     exact ⟨j,⟨hj,A',M',L2,O2,hl.trans uA,tI,tN.trans (h3.le uA),SK⟩,aK⟩
   | _=>exact ⟨A',M',L',H',aG,O',hl.trans uA,h1,h2,tN.trans (h3.le uA),h4⟩
 | rangeFunc f ps as bd=>
   intro ir hc A M L w H env O a Q hA xI h hf hL
   simp only [comp] at hc
   obtain ⟨i,hi,rfl⟩:=Option.map_eq_some_iff.1 hc
   exact CC hA hi xI h hf hL
 | _=>
   intro ir hc A M L w H env O a Q hA xI h
   simp only [comp] at hc
   cases hc
   exact h.elim
end
end Go.aL
end
section
namespace Go.aL
open Go
section
variable {φ ψ:AV→Prop} (hm:∀ z,φ z→ψ z)
include hm
theorem sA {op:BinOp} {x y:AV} (h:dg op x y φ):dg op x y ψ:=by
 unfold dg at *
 split at h <;> (try exact h.elim)
 ·obtain ⟨h0,h⟩:=h
  refine ⟨h0,?_⟩
  split at h <;> first | exact hm _ h | exact ⟨h.1,hm _ h.2⟩ | exact h.elim
 ·split at h <;> first | exact hm _ h | exact ⟨h.1,hm _ h.2⟩ | exact h.elim
theorem nU {op:BinOp} {x y:AV} (h:dZ op x y φ):dZ op x y ψ:=by
 unfold dZ at *
 split at h <;> (try exact h.elim)
 obtain ⟨h0,h⟩:=h
 refine ⟨h0,?_⟩
 split at h <;> first | exact hm _ h | exact h.elim
theorem mq {neq:Bool} {x y:AV} (h:cV neq x y φ):cV neq x y ψ:=by
 unfold cV at *
 split at h <;> first | exact hm _ h | exact h.elim
theorem tO {kd:Nat} {neq:Bool} {x:AV} (h:cZ kd neq x φ):cZ kd neq x ψ:=by
 unfold cZ at *
 split at h
 ·exact hm _ h
 ·split at h
  ·exact ⟨hm _ h.1,hm _ h.2⟩
  ·exact h.elim
theorem vU {op:UnOp} {x:AV} (h:Ag op x φ):Ag op x ψ:=by
 unfold Ag at *
 split at h <;> first | exact hm _ h | exact h.elim
theorem j4 {sz:Option Nat} {x:AV} {H:List aa} (h:aQ sz x H φ):aQ sz x H ψ:=by
 unfold aQ at *
 split at h <;> (try exact h.elim) <;> (split at h <;> (try exact h.elim)) <;> first | exact ⟨h.1,hm _ h.2⟩ | (split at h <;> exact ⟨h.1,hm _ h.2⟩)
theorem nV {off:Nat} {sz:Option Nat} {x:AV} (h:eZ off sz x φ):eZ off sz x ψ:=by
 unfold eZ apart at *
 split at h <;> (try exact h.elim)
 split at h <;> first | exact ⟨h.1,hm _ h.2⟩ | exact ⟨h.1,h.2.1,hm _ h.2.2⟩
theorem jn {off:Nat} {sz:Option Nat} {x:AV} (h:ak off sz x φ):ak off sz x ψ:=by
 unfold ak apart at *
 split at h <;> (try exact h.elim)
 ·exact hm _ h
 ·split at h <;> first | exact ⟨h.1,hm _ h.2⟩ | exact ⟨h.1,h.2.1,hm _ h.2.2⟩
theorem jo {esz:Nat} {x i:AV} (h:ax esz x i φ):ax esz x i ψ:=by
 unfold ax at *
 split at h <;> first | exact ⟨h.1,h.2.1,hm _ h.2.2⟩ | exact h.elim
theorem j5 {x i:AV} (h:bK x i φ):bK x i ψ:=by
 unfold bK at *
 split at h <;> first | exact ⟨h.1,h.2.1,hm _ h.2.2⟩ | exact h.elim
theorem kc {n:Nat} {x i:AV} (h:bT n x i φ):bT n x i ψ:=by
 unfold bT at *
 split at h <;> first | exact ⟨h.1,h.2.1,h.2.2.1,hm _ h.2.2.2⟩ | exact h.elim
theorem sB {x:AV} {H:List aa} (h:fx x H φ):fx x H ψ:=by
 unfold fx at *
 split at h <;> (try exact h.elim) <;> (try exact hm _ h)
 ·exact fun hl=>hm _ (h hl)
 ·split at h <;> first | exact hm _ h | exact h.elim
theorem kX {x:AV} {i:Nat} (h:bF x i φ):bF x i ψ:=by
 unfold bF at *
 split at h <;> first | exact ⟨h.1,hm _ h.2⟩ | exact h.elim
theorem ke {x:AV} (h:bU x φ):bU x ψ:=by
 unfold bU at *
 split at h <;> first | exact hm _ h | exact h.elim
theorem kY {k:IntKind} {x:AV} (h:cF k x φ):cF k x ψ:=by
 unfold cF at *
 split at h <;> first | exact hm _ h | exact h.elim
theorem vV {big:Bool} {x y:AV} (h:xN big x y φ):xN big x y ψ:=by
 unfold xN at *
 split at h <;> first | exact hm _ h | exact h.elim
theorem pr {x:AV} (h:fS x φ):fS x ψ:=by
 unfold fS at *
 split at h <;> first | exact hm _ h | exact h.elim
theorem pv {own:Nat} {x:AV} (h:fe own x φ):fe own x ψ:=by
 unfold fe at *
 split at h <;> first | exact ⟨h.1,hm _ h.2⟩ | exact h.elim
theorem tP {x:AV} (h:jV x φ):jV x ψ:=by
 unfold jV at *
 split at h <;> first | exact hm _ h | exact ⟨_,h.choose_spec.1,hm _ h.choose_spec.2⟩ | (obtain ⟨l,h1,h2⟩:=h;exact ⟨l,h1,hm _ h2⟩) | exact ⟨h.1,hm _ h.2⟩ | exact h.elim
theorem tQ {esz bytes:Nat} {n:AV} (h:ji esz bytes n φ):ji esz bytes n ψ:=by
 unfold ji at *
 split at h <;> first | exact ⟨h.1,h.2.1,hm _ h.2.2⟩ | exact h.elim
theorem mr {kd:Nat} {z m k:AV} {ok:Bool} {H:List aa} (h:cv kd z m k ok H φ):cv kd z m k ok H ψ:=by
 unfold cv at *
 split at h <;> (try exact h.elim) <;> first | exact hm _ h | exact ⟨h.1,hm _ h.2⟩ | (split at h <;> (try exact h.elim) <;> first | exact hm _ h | exact ⟨h.1,hm _ h.2⟩ | (split at h <;> (try exact h.elim) <;> first | exact hm _ h | exact ⟨h.1,hm _ h.2⟩))
end
theorem eM {x:Option AV} {d:Nat} {φ ψ:Nat→Prop} (hm:∀ k,φ k→ψ k) (h:dQ x d φ):dQ x d ψ:=by
 unfold dQ at *
 split at h <;> first | exact hm _ h | exact ⟨h.1,hm _ h.2⟩ | exact h.elim
theorem tR {esz:Nat} {x:AV} {lo hi mx:Option AV} {φ ψ:AV→Prop} (hm:∀ z,φ z→ψ z) (h:eR esz x lo hi mx φ):eR esz x lo hi mx ψ:=by
 unfold eR at *
 split at h <;> (try exact h.elim)
 refine eM (fun k h=>eM (fun l h=>⟨h.1,h.2.1,?_⟩) h) h
 obtain ⟨_,_,h⟩:=h
 split at h
 ·exact hm _ h
 ·exact ⟨h.1,eM (fun m h=>⟨h.1,h.2.1,hm _ h.2.2⟩) h.2⟩
theorem ms {esz:Nat} {x:AV} {lo hi mx:Option AV} {φ ψ:AV→Prop} (hm:∀ z,φ z→ψ z) (h:bm esz x lo hi mx φ):bm esz x lo hi mx ψ:=by
 unfold bm gQ oI at *
 split at h
 ·split at h
  ·exact eM (fun k h=>eM (fun l h=>⟨h.1,h.2.1,hm _ h.2.2⟩) h) h
  ·exact ⟨h.1,eM (fun m h=>eM (fun k h=>eM (fun l h=>⟨h.1,h.2.1,h.2.2.1,hm _ h.2.2.2⟩) h) h) h.2⟩
 ·exact ⟨h.1,tR hm h.2⟩
theorem kg {x:AV} {lo hi:Option AV} {φ ψ:AV→Prop} (hm:∀ z,φ z→ψ z) (h:cn x lo hi φ):cn x lo hi ψ:=by
 unfold cn at *
 split at h <;> (try exact h.elim)
 exact eM (fun k h=>eM (fun l h=>⟨h.1,h.2.1,hm _ h.2.2⟩) h) h
theorem mv {φ ψ:List AV→Prop} (hm:∀ z,φ z→ψ z):∀ {ps:List (Nat×Nat×AV)} {zs:List AV},gO zs ps φ→gO zs ps ψ
 | [],zs,h=>hm _ h
 | (off,sz,x)::r,zs,h=>⟨h.1,h.2.1,h.2.2.1,mv hm h.2.2.2⟩
theorem gT {esz:Nat} {φ ψ:List AV→Prop} (hm:∀ z,φ z→ψ z):∀ {ps:List (Nat×AV)} {zs:List AV},bj zs esz ps φ→bj zs esz ps ψ
 | [],zs,h=>hm _ h
 | (i,x)::r,zs,h=>⟨h.1,h.2.1,h.2.2.1,gT hm h.2.2.2⟩
def SL (τ:Nat→AV) (dst:Option Nat) (x:AV):Nat→AV:=match dst with | some d=>fE τ d x | none=>τ
theorem kF (env:Env) (dst:Option Nat) (x:AV):get (put dst x env)=SL (get env) dst x:=by cases dst <;> rfl
theorem nW {lo:Option IX} {env:Env} {ρ:IX→AV} (h:∀ i∈lo.toList,ap env i=ρ i):lo.map ρ=gR env lo:=by
 cases lo with
 | none=>rfl
 | some i=>simp [gR,h i (by simp)]
theorem nX {is:List IX} {env:Env} {ρ:IX→AV} (h:∀ i∈is,ap env i=ρ i) (g:AV→AV):(is.map fun x=>g (ap env x))=is.map fun x=>g (ρ x):=by
 apply List.map_congr_left
 intro i hi
 rw [h i hi]
theorem nY (env:Env):∀ (is:List IX) (j:Nat),aI env none j is=is.map fun x=>(ap env x).ab
 | [],_=>rfl
 | .t s::r,j=>by simp [aI,nY env r,ap]
 | .c v::r,j=>by simp [aI,nY env r,ap]
theorem CD {P:Px} {o:ca} {dst:Option Nat} {ρ:IX→AV} {env:Env} {H:List aa} {x:AV} (h:db P o ρ H x) (hρ:∀ i∈o.all,ap env i=ρ i) :
 bA P o dst env H fun e h=>h=H∧get e=get (put dst x env):=by
 have key:∀ z,z=x→(H=H∧get (put dst z env)=get (put dst x env)):=fun z e=>⟨rfl,e ▸ rfl⟩
 cases o with
 | set i take=>
   cases take with
   | true=>exact h.elim
   | false=>
     simp only [db,ca.all,List.mem_singleton,forall_eq] at h hρ
     rw [← hρ] at h
     unfold bA
     cases dst with
     | none=>exact ⟨rfl,rfl⟩
     | some d=>
       subst h
       refine ⟨rfl,?_⟩
       cases i <;> rfl
 | pick c a b=>
   simp only [db,ca.all,List.mem_cons,List.not_mem_nil,or_false,forall_eq_or_imp,forall_eq] at h hρ
   obtain ⟨h1,h2,h3⟩:=hρ
   rw [← h1,← h2,← h3] at h
   obtain ⟨q,hq,h⟩:=oK h
   show eI (ap env c) _
   rw [hq]
   exact ⟨fun e=>key _ (h.1 e),fun e=>key _ (h.2 e)⟩
 | bin op i j=>
   simp only [db,ca.all,List.mem_cons,List.not_mem_nil,or_false,forall_eq_or_imp,forall_eq] at h hρ
   obtain ⟨h1,h2⟩:=hρ
   rw [← h1,← h2] at h
   exact sA key h
 | shift op i j=>
   simp only [db,ca.all,List.mem_cons,List.not_mem_nil,or_false,forall_eq_or_imp,forall_eq] at h hρ
   obtain ⟨h1,h2⟩:=hρ
   rw [← h1,← h2] at h
   exact nU key h
 | iC neq i j=>
   simp only [db,ca.all,List.mem_cons,List.not_mem_nil,or_false,forall_eq_or_imp,forall_eq] at h hρ
   obtain ⟨h1,h2⟩:=hρ
   rw [← h1,← h2] at h
   exact mq key h
 | mx big i j=>
   simp only [db,ca.all,List.mem_cons,List.not_mem_nil,or_false,forall_eq_or_imp,forall_eq] at h hρ
   obtain ⟨h1,h2⟩:=hρ
   rw [← h1,← h2] at h
   exact vV key h
 | indexAddr esz i j=>
   simp only [db,ca.all,List.mem_cons,List.not_mem_nil,or_false,forall_eq_or_imp,forall_eq] at h hρ
   obtain ⟨h1,h2⟩:=hρ
   rw [← h1,← h2] at h
   exact ⟨h.1,jo key h.2⟩
 | di i j=>
   simp only [db,ca.all,List.mem_cons,List.not_mem_nil,or_false,forall_eq_or_imp,forall_eq] at h hρ
   obtain ⟨h1,h2⟩:=hρ
   rw [← h1,← h2] at h
   exact j5 key h
 | dX n i j=>
   simp only [db,ca.all,List.mem_cons,List.not_mem_nil,or_false,forall_eq_or_imp,forall_eq] at h hρ
   obtain ⟨h1,h2⟩:=hρ
   rw [← h1,← h2] at h
   exact kc key h
 | lookup kd z i j ok=>
   simp only [db,ca.all,List.mem_cons,List.not_mem_nil,or_false,forall_eq_or_imp,forall_eq] at h hρ
   obtain ⟨h1,h2⟩:=hρ
   rw [← h1,← h2] at h
   exact mr key h
 | jw kd neq i=>
   simp only [db,ca.all,List.mem_singleton,forall_eq] at h hρ
   rw [← hρ] at h
   exact tO key h
 | un op i=>
   simp only [db,ca.all,List.mem_singleton,forall_eq] at h hρ
   rw [← hρ] at h
   exact vU key h
 | l7 i=>
   simp only [db,ca.all,List.mem_singleton,forall_eq] at h hρ
   rw [← hρ] at h
   exact ⟨h.1,key _ h.2⟩
 | load sz i=>
   simp only [db,ca.all,List.mem_singleton,forall_eq] at h hρ
   rw [← hρ] at h
   exact j4 key h
 | nilCheck i=>
   simp only [db,ca.all,List.mem_singleton,forall_eq] at h hρ
   rw [← hρ] at h
   exact ke key h
 | fieldAddr off sz i=>
   simp only [db,ca.all,List.mem_singleton,forall_eq] at h hρ
   rw [← hρ] at h
   exact jn key h
 | field off sz i=>
   simp only [db,ca.all,List.mem_singleton,forall_eq] at h hρ
   rw [← hρ] at h
   exact nV key h
 | len kd i=>
   simp only [db,ca.all,List.mem_singleton,forall_eq] at h hρ
   rw [← hρ] at h
   exact ⟨h.1,sB key h.2⟩
 | extract i k=>
   simp only [db,ca.all,List.mem_singleton,forall_eq] at h hρ
   rw [← hρ] at h
   exact kX key h
 | eU k i=>
   simp only [db,ca.all,List.mem_singleton,forall_eq] at h hρ
   rw [← hρ] at h
   exact kY key h
 | gN i=>
   simp only [db,ca.all,List.mem_singleton,forall_eq] at h hρ
   rw [← hρ] at h
   exact pr key h
 | bytesOf i=>
   simp only [db,ca.all,List.mem_singleton,forall_eq] at h hρ
   rw [← hρ] at h
   exact pv key h
 | nK esz bytes i=>
   simp only [db,ca.all,List.mem_singleton,forall_eq] at h hρ
   rw [← hρ] at h
   exact tQ key h
 | strOf i=>
   simp only [db,ca.all,List.mem_singleton,forall_eq] at h hρ
   rw [← hρ] at h
   exact tP key h
 | build z ps=>
   simp only [db,ca.all] at h hρ
   have:(ps.map fun q=>(q.1,q.2.1,ap env q.2.2))=ps.map fun q=>(q.1,q.2.1,ρ q.2.2):=
    List.map_congr_left fun q hq=>by rw [hρ _ (List.mem_map.2 ⟨q,hq,rfl⟩)]
   show cA z.cells (ps.map fun q=>(q.1,q.2.1,ap env q.2.2)) (fun v=>H=H∧get (put dst v env)=get (put dst x env))
   rw [this]
   exact mv (fun v h=>key _ h) h
 | buildSlice own esz z len ps=>
   simp only [db,ca.all] at h hρ
   have:(ps.map fun q=>(q.1,ap env q.2))=ps.map fun q=>(q.1,ρ q.2):=
    List.map_congr_left fun q hq=>by rw [hρ _ (List.mem_map.2 ⟨q,hq,rfl⟩)]
   show bj _ _ (ps.map fun q=>(q.1,ap env q.2)) _
   rw [this]
   exact gT (fun v h=>key (.al own v) h) h
 | slice esz i lo hi mx=>
   simp only [db,ca.all,List.mem_cons,List.mem_append,forall_eq_or_imp] at h hρ
   obtain ⟨h1,h2⟩:=hρ
   rw [← h1,nW (fun i hi=>h2 i (.inl (.inl hi))),nW (fun i hi=>h2 i (.inl (.inr hi))),nW (fun i hi=>h2 i (.inr hi))] at h
   exact ms key h
 | dY i lo hi=>
   simp only [db,ca.all,List.mem_cons,List.mem_append,forall_eq_or_imp] at h hρ
   obtain ⟨h1,h2⟩:=hρ
   rw [← h1,nW (fun i hi=>h2 i (.inl hi)),nW (fun i hi=>h2 i (.inr hi))] at h
   exact kg key h
 | fn f first cap=>
   simp only [db,ca.all,List.mem_append] at h hρ
   refine key _ ?_
   rw [nX (fun i hi=>hρ i (.inl hi)) AV.ab,nX (fun i hi=>hρ i (.inr hi)) AV.ab]
   exact h
 | call f args pass=>
   cases pass with
   | some _=>exact h.elim
   | none=>
     simp only [db,ca.all,List.mem_cons,forall_eq_or_imp] at h hρ
     obtain ⟨h1,h2⟩:=hρ
     rw [← h1] at h
     split at h <;> try exact h.elim
     rename_i g first cap hg
     show pq P (ap env f) args none env H (fun r aG H'=>H'=H∧get (put dst r aG)=get (put dst x env))
     rw [hg]
     obtain ⟨bR,hl,hcall⟩:=h
     refine ⟨bR,?_,ej.of <| hcall.mono ?_⟩
     ·rw [nY,nX h2 AV.ab];exact hl
     ·rintro r H' ⟨hr,rfl⟩
      exact key r hr
 | _=>exact h.elim
end Go.aL
end
section
namespace Go.aL
open Go
theorem CE {m:Nat} {p x:AV} {H:List aa} {K K':List aa→Prop} (hm:∀ H',K H'→K' H') (h:iE m p x H K):iE m p x H K':=by
 unfold iE at *
 split at h <;> (try exact h.elim)
 split at h <;> (try exact h.elim)
 exact ⟨h.1,h.2.1,h.2.2.1,h.2.2.2.1,h.2.2.2.2.1,hm _ h.2.2.2.2.2⟩
theorem yb {p x:AV} {H:List aa} {K K':List aa→Prop} (hm:∀ H',K H'→K' H') (h:ee p x H K):ee p x H K':=by
 unfold ee at *
 split at h <;> (try exact h.elim)
 split at h <;> (try exact h.elim)
 exact ⟨h.1,h.2.1,h.2.2.1,hm _ h.2.2.2⟩
theorem AE {esz bytes:Nat} {s x:AV} {φ ψ:List AV→Prop} (hm:∀ z,φ z→ψ z) (h:bn esz bytes s x φ):bn esz bytes s x ψ:=by
 unfold bn at *
 split at h <;> (try exact h.elim)
 exact ⟨h.1,h.2.1,hm _ h.2.2⟩
theorem yc {esz bytes:Nat} {z s x:AV} {H:List aa} {K K':AV→List aa→Prop} (hm:∀ v H',K v H'→K' v H') (h:b7 esz bytes z s x H K):b7 esz bytes z s x H K':=by
 unfold b7 at *
 cases hr:dl x with
 | none=>
   rw [hr] at h
   simp only at h ⊢
   split at h <;> try exact h.elim
   rename_i id off len cap n ys xX
   cases hi:H[id]? with
   | none=>rw [hi] at h;exact h.elim
   | some ob=>
     rw [hi] at h
     cases ob with
     | cells es=>
       obtain ⟨a,b,c,d,e,f⟩:=h
       exact ⟨a,b,c,d,e,hm _ _ f⟩
     | _=>exact h.elim
 | some ys=>
   rw [hr] at h
   obtain ⟨h1,h⟩:=h
   refine ⟨h1,?_⟩
   cases s with
   | ah=>
     obtain ⟨a,b,c⟩:=h
     exact ⟨a,fun e=>hm _ _ (b e),fun e cap h1 h2=>⟨(c e cap h1 h2).1,hm _ _ (c e cap h1 h2).2⟩⟩
   | pe=>
     obtain ⟨a,b,c⟩:=h
     exact ⟨a,fun e=>hm _ _ (b e),fun e cap h1 h2=>⟨(c e cap h1 h2).1,hm _ _ (c e cap h1 h2).2⟩⟩
   | bc id off len cap=>
     simp only at h ⊢
     cases hi:H[id]? with
     | none=>rw [hi] at h;exact h.elim
     | some ob=>
       rw [hi] at h
       cases ob with
       | cells es=>
         obtain ⟨a,b,c,d,f⟩:=h
         exact ⟨a,b,c,fun e=>⟨(d e).1,hm _ _ (d e).2⟩,fun e fT h1 h2=>⟨(f e fT h1 h2).1,hm _ _ (f e fT h1 h2).2⟩⟩
       | _=>exact h.elim
   | _=>exact h.elim
theorem AF {esz:Nat} {z x:AV} {H:List aa} {K K':List aa→Prop} (hm:∀ H',K H'→K' H') (h:iM esz z x H K):iM esz z x H K':=by
 unfold iM at *
 split at h <;> (try exact h.elim)
 split at h <;> (try exact h.elim)
 exact ⟨h.1,h.2.1,h.2.2.1,hm _ h.2.2.2⟩
theorem CF {esz bytes:Nat} {z n:AV} {H:List aa} {K K':AV→List aa→Prop} (hm:∀ v H',K v H'→K' v H') (h:gv esz bytes z n H K):gv esz bytes z n H K':=by
 unfold gv at *
 split at h <;> (try exact h.elim)
 exact ⟨h.1,h.2.1,h.2.2.1,hm _ _ h.2.2.2⟩
theorem AG {kd:Nat} {m k x:AV} {H:List aa} {K K':List aa→Prop} (hm:∀ H',K H'→K' H') (h:fC kd m k x H K):fC kd m k x H K':=by
 unfold fC at *
 split at h <;> (try exact h.elim)
 split at h <;> (try exact h.elim)
 refine ⟨h.1,h.2.1,h.2.2.1,?_⟩
 obtain ⟨_,_,_,h⟩:=h
 split at h
 ·exact hm _ h
 ·exact ⟨h.1,hm _ h.2⟩
 ·exact h.elim
theorem E3 {esz:Nat} {d s:AV} {H:List aa} {K K':AV→List aa→Prop} (hm:∀ v H',K v H'→K' v H') (h:jX esz d s H K):jX esz d s H K':=by
 unfold jX at *
 split at h <;> (try exact h.elim)
 split at h <;> (try exact h.elim)
 exact ⟨h.1,h.2.1,h.2.2.1,hm _ _ h.2.2.2⟩
theorem kG {esz:Nat} {x:AV} {H:List aa} {K K':AV→List aa→Prop} (hm:∀ v H',K v H'→K' v H') (h:dn esz x H K):dn esz x H K':=by
 unfold dn at *
 split at h
 ·split at h <;> (try exact h.elim)
  exact ⟨h.1,h.2.1,h.2.2.1,h.2.2.2.1,hm _ _ h.2.2.2.2⟩
 ·exact h.elim
 ·exact hm _ _ h
 ·exact hm _ _ h
theorem tS {esz:Nat}:∀ {xs:List AV} {H:List aa} {K K':List AV→List aa→Prop} (hm:∀ v H',K v H'→K' v H') (h:jY esz xs H K),jY esz xs H K'
 | [],H,K,K',hm,h=>hm _ _ h
 | x::r,H,K,K',hm,h=>kG (fun v H' hk=>tS (fun vs H'' h2=>hm _ _ h2) hk) h
theorem Ik {e id c:Nat} {H:List aa} {K K':List aa→Prop} (hm:∀ H',K H'→K' H') (h:Au e id c H K):Au e id c H K':=by
 unfold Au at *
 split at h <;> (try exact h.elim)
 split at h <;> (try exact h.elim)
 ·exact kG (fun v H' hk=>⟨hk.1,hk.2.1,hm _ hk.2.2⟩) h
 ·exact hm _ h
theorem vW {esz:Nat} {x:AV} {H:List aa} {K K':AV→List aa→Prop} (hm:∀ v H',K v H'→K' v H') (h:fF esz x H K):fF esz x H K':=by
 unfold fF at *
 split at h
 ·exact tS (fun v H' hk=>hm _ _ hk) h
 ·split at h
  ·rename_i hc;rw [if_pos hc];exact Ik (hm _) h
  ·rename_i hc;rw [if_neg hc];exact kG hm h
 ·exact kG hm h
theorem AH {l m:Nat} {p x:AV} {H:List aa} {K K':List aa→Prop} (hm:∀ H',K H'→K' H') (h:gP l m p x H K):gP l m p x H K':=by
 unfold gP at *
 split at h <;> (try exact h.elim)
 split at h <;> (try exact h.elim)
 exact ⟨h.1,h.2.1,h.2.2.1,h.2.2.2.1,h.2.2.2.2.1,h.2.2.2.2.2.1,hm _ h.2.2.2.2.2.2⟩
theorem nZ {env1 cR:Env} {pass:Option Nat}:∀ {is:List IX} {j:Nat},(∀ i∈is,ap cR i=ap env1 i)→aI cR pass j is=aI env1 pass j is
 | [],_,_=>rfl
 | .t s::r,j,h=>by
   have h1:get cR s=get env1 s:=h (.t s) (by simp)
   simp only [aI,h1,nZ (fun i hi=>h i (List.mem_cons_of_mem _ hi))]
 | .c v::r,j,h=>by
   simp only [aI,nZ (fun i hi=>h i (List.mem_cons_of_mem _ hi))]
theorem gG {lo:Option IX} {env1 cR:Env} (h:∀ i∈lo.toList,ap cR i=ap env1 i):gR cR lo=gR env1 lo:=by
 cases lo with
 | none=>rfl
 | some i=>simp [gR,h i (by simp)]
theorem oM {P:Px} {o:ca} {dst:Option Nat} {env1 cR:Env} {H:List aa} {K1 K2:Env→List aa→Prop} (hl:∀ i∈o.all,ap cR i=ap env1 i) (h:bA P o dst env1 H K1)
 (hK:∀ (mods:List (Nat×AV)) H',(∀ p∈mods,dst=some p.1∨p.1∈o.kill)→(o.SE=false→H'=H)→(o.yM=true→∃ e,H'=H++e)→K1 (mods++env1) H'→K2 (mods++cR) H'):bA P o dst cR H K2:=by
 have kput:∀ z H',(o.SE=false→H'=H)→(o.yM=true→∃ e,H'=H++e)→K1 (put dst z env1) H'→K2 (put dst z cR) H':=by
  intro z H' hc hg
  cases hd:dst with
  | none=>exact hK [] H' (by simp) hc hg
  | some d=>exact hK [(d,z)] H' (by simp [hd]) hc hg
 have kput0:∀ z,K1 (put dst z env1) H→K2 (put dst z cR) H:=fun z=>kput z H (fun _=>rfl) (fun _=>⟨[],by simp⟩)
 have kenv:∀ H',(o.SE=false→H'=H)→(o.yM=true→∃ e,H'=H++e)→K1 env1 H'→K2 cR H':=fun H' hc hg=>hK [] H' (by simp) hc hg
 cases o with
 | set i take=>
   simp only [ca.all,List.mem_singleton,forall_eq] at hl
   simp only [bA] at h ⊢
   cases dst with
   | none=>exact kenv H (fun _=>rfl) (fun _=>⟨[],by simp⟩) h
   | some d=>
     simp only at h ⊢
     cases i with
     | c v=>cases take <;> exact kput0 _ h
     | t s=>
       have hs:get cR s=get env1 s:=hl
       cases take with
       | false=>
         have e1:si env1 d (.t s) false=put (some d) (get env1 s).ab env1:=rfl
         have e2:si cR d (.t s) false=put (some d) (get env1 s).ab cR:=by simp only [si,put,ap,hs]
         rw [e2];rw [e1] at h
         exact kput0 _ h
       | true=>
         have e1:si env1 d (.t s) true=[(d,get env1 s),(s,(get env1 s).ab)]++env1:=rfl
         have e2:si cR d (.t s) true=[(d,get env1 s),(s,(get env1 s).ab)]++cR:=by simp only [si,hs];rfl
         rw [e2];rw [e1] at h
         exact hK _ H (by simp [ca.kill]) (fun _=>rfl) (fun _=>⟨[],by simp⟩) h
 | pick c a b=>
   simp only [ca.all,List.mem_cons,List.not_mem_nil,or_false,forall_eq_or_imp,forall_eq] at hl
   obtain ⟨h1,h2,h3⟩:=hl
   simp only [bA] at h ⊢
   rw [h1,h2,h3]
   obtain ⟨q,hq,h⟩:=oK h
   rw [hq]
   exact ⟨fun e=>kput0 _ (h.1 e),fun e=>kput0 _ (h.2 e)⟩
 | bin op i j=>
   simp only [ca.all,List.mem_cons,List.not_mem_nil,or_false,forall_eq_or_imp,forall_eq] at hl
   simp only [bA] at h ⊢
   rw [hl.1,hl.2]
   exact sA kput0 h
 | shift op i j=>
   simp only [ca.all,List.mem_cons,List.not_mem_nil,or_false,forall_eq_or_imp,forall_eq] at hl
   simp only [bA] at h ⊢
   rw [hl.1,hl.2]
   exact nU kput0 h
 | iC neq i j=>
   simp only [ca.all,List.mem_cons,List.not_mem_nil,or_false,forall_eq_or_imp,forall_eq] at hl
   simp only [bA] at h ⊢
   rw [hl.1,hl.2]
   exact mq kput0 h
 | indexAddr esz i j=>
   simp only [ca.all,List.mem_cons,List.not_mem_nil,or_false,forall_eq_or_imp,forall_eq] at hl
   simp only [bA] at h ⊢
   rw [hl.1,hl.2]
   exact ⟨h.1,jo kput0 h.2⟩
 | di i j=>
   simp only [ca.all,List.mem_cons,List.not_mem_nil,or_false,forall_eq_or_imp,forall_eq] at hl
   simp only [bA] at h ⊢
   rw [hl.1,hl.2]
   exact j5 kput0 h
 | dX n i j=>
   simp only [ca.all,List.mem_cons,List.not_mem_nil,or_false,forall_eq_or_imp,forall_eq] at hl
   simp only [bA] at h ⊢
   rw [hl.1,hl.2]
   exact kc kput0 h
 | lookup kd z i j ok=>
   simp only [ca.all,List.mem_cons,List.not_mem_nil,or_false,forall_eq_or_imp,forall_eq] at hl
   simp only [bA] at h ⊢
   rw [hl.1,hl.2]
   exact mr kput0 h
 | mx big i j=>
   simp only [ca.all,List.mem_cons,List.not_mem_nil,or_false,forall_eq_or_imp,forall_eq] at hl
   simp only [bA] at h ⊢
   rw [hl.1,hl.2]
   exact vV kput0 h
 | store m i j=>
   simp only [ca.all,List.mem_cons,List.not_mem_nil,or_false,forall_eq_or_imp,forall_eq] at hl
   simp only [bA] at h ⊢
   rw [hl.1,hl.2]
   exact CE (fun H' hk=>kenv H' (fun e=>by cases e) (fun e=>by cases e) hk) h
 | nJ m i j=>
   simp only [ca.all,List.mem_cons,List.not_mem_nil,or_false,forall_eq_or_imp,forall_eq] at hl
   simp only [bA] at h ⊢
   rw [hl.1,hl.2]
   split at h <;> (try exact h.elim)
   exact AH (fun H' hk=>kenv H' (fun e=>by cases e) (fun e=>by cases e) hk) h
 | append esz bytes i j=>
   simp only [ca.all,List.mem_cons,List.not_mem_nil,or_false,forall_eq_or_imp,forall_eq] at hl
   simp only [bA] at h ⊢
   rw [hl.1,hl.2]
   refine AE (fun zs hk=>?_) h
   cases i with
   | c v=>exact kput0 _ hk
   | t s=>
     have hs:get cR s=get env1 s:=hl.1
     have e:∀ env:Env,get env s=get env1 s→put dst (.al esz zs) (cQ env (IX.t s).slot)=(put dst (.al esz zs) [(s,(get env1 s).ab)])++env:=by
      intro env he
      cases dst <;> simp [put,cQ,IX.slot,he]
     rw [e env1 rfl] at hk
     rw [e cR hs]
     refine hK _ H ?_ (fun _=>rfl) (fun _=>⟨[],by simp⟩) hk
     intro p hp
     cases dst with
     | none=>simp [put] at hp;subst hp;right;simp [ca.kill]
     | some d=>
       simp [put] at hp
       rcases hp with rfl | rfl
       ·left;rfl
       ·right;simp [ca.kill]
 | copy esz i j=>
   simp only [ca.all,List.mem_cons,List.not_mem_nil,or_false,forall_eq_or_imp,forall_eq] at hl
   simp only [bA] at h ⊢
   rw [hl.1,hl.2]
   exact E3 (fun v H' hk=>kput v H' (fun e=>by cases e) (fun e=>by cases e) hk) h
 | kP kd i j k=>
   simp only [ca.all,List.mem_cons,List.not_mem_nil,or_false,forall_eq_or_imp,forall_eq] at hl
   simp only [bA] at h ⊢
   rw [hl.1,hl.2.1,hl.2.2]
   exact AG (fun H' hk=>kenv H' (fun e=>by cases e) (fun e=>by cases e) hk) h
 | fw i s=>
   simp only [ca.all,List.mem_cons,List.not_mem_nil,or_false,forall_eq_or_imp,forall_eq] at hl
   simp only [bA] at h ⊢
   have hs:get cR s=get env1 s:=hl.2
   rw [hl.1,hs]
   exact yb (fun H' hk=>hK [(s,(get env1 s).ab)] H' (by simp [ca.kill]) (fun e=>by cases e) (fun e=>by cases e) hk) h
 | jw kd neq i=>
   simp only [ca.all,List.mem_singleton,forall_eq] at hl
   simp only [bA] at h ⊢
   rw [hl]
   exact tO kput0 h
 | un op i=>
   simp only [ca.all,List.mem_singleton,forall_eq] at hl
   simp only [bA] at h ⊢
   rw [hl]
   exact vU kput0 h
 | box i=>
   simp only [ca.all,List.mem_singleton,forall_eq] at hl
   simp only [bA] at h ⊢
   rw [hl]
   exact ⟨h.1,h.2.1,kput _ _ (fun e=>by cases e) (fun _=>⟨_,rfl⟩) h.2.2⟩
 | l7 i=>
   simp only [ca.all,List.mem_singleton,forall_eq] at hl
   simp only [bA] at h ⊢
   rw [hl]
   exact ⟨h.1,kput0 _ h.2⟩
 | sg m i=>
   simp only [ca.all,List.mem_singleton,forall_eq] at hl
   simp only [bA] at h ⊢
   rw [hl]
   exact ⟨h.1,h.2.1,h.2.2.1,kput0 _ h.2.2.2⟩
 | alloc z=>
   simp only [bA] at h ⊢
   exact ⟨h.1,kput _ _ (fun e=>by cases e) (fun _=>⟨_,rfl⟩) h.2⟩
 | nL=>
   simp only [bA] at h ⊢
   exact kput _ _ (fun e=>by cases e) (fun _=>⟨_,rfl⟩) h
 | load sz i=>
   simp only [ca.all,List.mem_singleton,forall_eq] at hl
   simp only [bA] at h ⊢
   rw [hl]
   exact j4 kput0 h
 | tw sz esz i=>
   simp only [ca.all,List.mem_singleton,forall_eq] at hl
   simp only [bA] at h ⊢
   rw [hl]
   exact j4 (fun z hz=>vW (fun v H' hk=>kput v H' (fun e=>by cases e) (fun e=>by cases e) hk) hz) h
 | eH i=>
   simp only [ca.all,List.mem_singleton,forall_eq] at hl
   simp only [bA] at h ⊢
   rw [hl]
   cases dst with
   | none=>exact h.elim
   | some d=>
     cases hv:ap env1 i with
     | ptr id off=>
       rw [hv] at h
       simp only at h ⊢
       cases bp:H[id]? with
       | none=>rw [bp] at h;exact h.elim
       | some ob=>
         rw [bp] at h
         cases ob with
         | cells es=>exact ⟨h.1,hK [(d,es.getD off .any)] _ (by simp) (fun e=>by cases e) (fun e=>by cases e) h.2⟩
         | _=>exact h.elim
     | _=>rw [hv] at h;exact h.elim
 | Ae esz i=>
   simp only [ca.all,List.mem_singleton,forall_eq] at hl
   simp only [bA] at h ⊢
   rw [hl]
   exact vW (fun v H' hk=>kput v H' (fun e=>by cases e) (fun e=>by cases e) hk) h
 | nilCheck i=>
   simp only [ca.all,List.mem_singleton,forall_eq] at hl
   simp only [bA] at h ⊢
   rw [hl]
   exact ke kput0 h
 | fieldAddr off sz i=>
   simp only [ca.all,List.mem_singleton,forall_eq] at hl
   simp only [bA] at h ⊢
   rw [hl]
   exact jn kput0 h
 | field off sz i=>
   simp only [ca.all,List.mem_singleton,forall_eq] at hl
   simp only [bA] at h ⊢
   rw [hl]
   exact nV kput0 h
 | len kd i=>
   simp only [ca.all,List.mem_singleton,forall_eq] at hl
   simp only [bA] at h ⊢
   rw [hl]
   exact ⟨h.1,sB kput0 h.2⟩
 | tx esz bytes z i=>
   simp only [ca.all,List.mem_singleton,forall_eq] at hl
   simp only [bA] at h ⊢
   rw [hl]
   exact CF (fun v H' hk=>kput v H' (fun e=>by cases e) (fun e=>by cases e) hk) h
 | nK esz bytes i=>
   simp only [ca.all,List.mem_singleton,forall_eq] at hl
   simp only [bA] at h ⊢
   rw [hl]
   exact tQ kput0 h
 | extract i k=>
   simp only [ca.all,List.mem_singleton,forall_eq] at hl
   simp only [bA] at h ⊢
   rw [hl]
   exact kX kput0 h
 | eU k i=>
   simp only [ca.all,List.mem_singleton,forall_eq] at hl
   simp only [bA] at h ⊢
   rw [hl]
   exact kY kput0 h
 | gN i=>
   simp only [ca.all,List.mem_singleton,forall_eq] at hl
   simp only [bA] at h ⊢
   rw [hl]
   exact pr kput0 h
 | bytesOf i=>
   simp only [ca.all,List.mem_singleton,forall_eq] at hl
   simp only [bA] at h ⊢
   rw [hl]
   exact pv kput0 h
 | strOf i=>
   simp only [ca.all,List.mem_singleton,forall_eq] at hl
   simp only [bA] at h ⊢
   rw [hl]
   exact tP kput0 h
 | build z ps=>
   simp only [ca.all] at hl
   simp only [bA] at h ⊢
   have:(ps.map fun q=>(q.1,q.2.1,ap cR q.2.2))=ps.map fun q=>(q.1,q.2.1,ap env1 q.2.2):=
    List.map_congr_left fun q hq=>by rw [hl _ (List.mem_map.2 ⟨q,hq,rfl⟩)]
   rw [this]
   exact mv (fun v hk=>kput0 _ hk) h
 | Cc esz z len ps=>
   simp only [ca.all] at hl
   simp only [bA] at h ⊢
   have:(ps.map fun q=>(q.1,ap cR q.2))=ps.map fun q=>(q.1,ap env1 q.2):=
    List.map_congr_left fun q hq=>by rw [hl _ (List.mem_map.2 ⟨q,hq,rfl⟩)]
   rw [this]
   exact gT (fun v hk=>⟨hk.1,kput _ _ (fun e=>by cases e) (fun e=>by cases e) hk.2⟩) h
 | jB esz bytes z i j=>
   simp only [ca.all,List.mem_cons,List.not_mem_nil,or_false,forall_eq_or_imp,forall_eq] at hl
   simp only [bA] at h ⊢
   rw [hl.1,hl.2]
   exact yc (fun v H' hk=>kput v H' (fun e=>by cases e) (fun e=>by cases e) hk) h
 | nM esz z i=>
   simp only [ca.all,List.mem_singleton,forall_eq] at hl
   simp only [bA] at h ⊢
   rw [hl]
   exact AF (fun H' hk=>kput _ H' (fun e=>by cases e) (fun e=>by cases e) hk) h
 | buildSlice own esz z len ps=>
   simp only [ca.all] at hl
   simp only [bA] at h ⊢
   have:(ps.map fun q=>(q.1,ap cR q.2))=ps.map fun q=>(q.1,ap env1 q.2):=
    List.map_congr_left fun q hq=>by rw [hl _ (List.mem_map.2 ⟨q,hq,rfl⟩)]
   rw [this]
   exact gT (fun v hk=>kput0 _ hk) h
 | slice esz i lo hi m=>
   simp only [ca.all,List.mem_cons,List.mem_append,forall_eq_or_imp] at hl
   obtain ⟨h1,h2⟩:=hl
   simp only [bA] at h ⊢
   rw [h1,gG (fun i hi=>h2 i (.inl (.inl hi))),gG (fun i hi=>h2 i (.inl (.inr hi))),gG (fun i hi=>h2 i (.inr hi))]
   exact ms kput0 h
 | pJ esz i lo hi m=>
   simp only [ca.all,List.mem_cons,List.mem_append,forall_eq_or_imp] at hl
   obtain ⟨h1,h2⟩:=hl
   simp only [bA] at h ⊢
   rw [h1,gG (fun i hi=>h2 i (.inl (.inl hi))),gG (fun i hi=>h2 i (.inl (.inr hi))),gG (fun i hi=>h2 i (.inr hi))]
   exact ⟨h.1,tR (fun z hz=>⟨hz.1,kput0 _ hz.2⟩) h.2⟩
 | dY i lo hi=>
   simp only [ca.all,List.mem_cons,List.mem_append,forall_eq_or_imp] at hl
   obtain ⟨h1,h2⟩:=hl
   simp only [bA] at h ⊢
   rw [h1,gG (fun i hi=>h2 i (.inl hi)),gG (fun i hi=>h2 i (.inr hi))]
   exact kg kput0 h
 | fn f first cap=>
   simp only [ca.all,List.mem_append] at hl
   simp only [bA] at h ⊢
   rw [nX (fun i hi=>hl i (.inl hi)) AV.ab,nX (fun i hi=>hl i (.inr hi)) AV.ab]
   exact kput0 _ h
 | call f args pass=>
   simp only [ca.all,List.mem_cons,forall_eq_or_imp] at hl
   obtain ⟨h1,h2⟩:=hl
   simp only [bA,pq] at h ⊢
   rw [h1]
   split at h <;> try exact h.elim
   all_goals
   obtain ⟨bR,hle,hcall⟩:=h
   refine ⟨bR,?_,hcall.mono fun r H' hk=>?_⟩
   ·rw [nZ h2];exact hle
   ·cases hp:bh args pass with
    | none=>
      rw [hp] at hk
      exact kput r H' (fun e=>by cases e) (fun e=>by cases e) hk
    | some s=>
      rw [hp] at hk
      have je:IX.t s∈args∧s∈(ca.call f args pass).kill:=by
       unfold bh at hp
       simp only [ca.kill]
       split at hp
       ·rename_i j
        split at hp <;> cases hp
        rename_i hj
        try simp only [hj]
        exact ⟨List.mem_of_getElem? hj,by simp⟩
       ·cases hp
      have hs:get cR s=get env1 s:=h2 _ je.1
      have e:∀ env:Env,get env s=get env1 s→put dst r (cQ env (some s))=(put dst r [(s,(get env1 s).ab)])++env:=by
       intro env he
       cases dst <;> simp [put,cQ,he]
      rw [e env1 rfl] at hk
      rw [e cR hs]
      refine hK _ H' ?_ (fun e=>by cases e) (fun e=>by cases e) hk
      intro p VT
      cases dst with
      | none=>simp [put] at VT;subst VT;exact .inr je.2
      | some d=>
        simp [put] at VT
        rcases VT with rfl | rfl
        ·left;rfl
        ·exact .inr je.2
 | never=>exact h.elim
end Go.aL
end
section
namespace Go.aL
open Go
theorem cT {env1 cR:Env} (h:get env1=get cR):∀ mods:List (Nat×AV),get (mods++env1)=get (mods++cR)
 | []=>h
 | (k,v)::r=>by
   funext t
   simp only [List.cons_append,get]
   split
   ·rfl
   ·rw [cT h r]
theorem pw {env1 cR:Env} {t:Nat} (h:get env1 t=get cR t):∀ mods:List (Nat×AV),get (mods++env1) t=get (mods++cR) t
 | []=>h
 | (k,v)::r=>by
   simp only [List.cons_append,get]
   split
   ·rfl
   ·rw [pw h r]
theorem kZ {env:Env} {t:Nat}:∀ {mods:List (Nat×AV)},(∀ p∈mods,p.1≠t)→get (mods++env) t=get env t
 | [],_=>rfl
 | (k,v)::r,h=>by
   simp only [List.cons_append,get]
   rw [if_neg (fun e=>h (k,v) (by simp) e.symm),kZ (fun p hp=>h p (by simp [hp]))]
theorem Il {l:List IX} {s:Nat} (h:IX.t s∈l):s∈IX.Q0 l:=List.mem_filterMap.2 ⟨_,h,rfl⟩
theorem E4 {o:bB} {env1 cR:Env} (hl:∀ s∈o.lk,get cR s=get env1 s):∀ i∈o.op.all,ap cR i=ap env1 i:=by
 intro i hi
 cases i with
 | c v=>rfl
 | t s=>exact hl s (List.mem_append_left _ (Il hi))
theorem get_guard {env:Env} {g:Nat} {b:Bool} (h:get env g=.bool b):get ((g,AV.bool b)::env)=get env:=by
 funext t
 simp only [get]
 split
 ·rename_i e;rw [e,h]
 ·rfl
theorem oN {P:Px} {o:bB} {env1 cR:Env} {H:List aa} {K1 K2:Env→List aa→Prop} (hl:∀ s∈o.lk,get cR s=get env1 s) (h:rZ P o env1 H K1)
 (hK:∀ e1 e2 H',(∃ mods:List (Nat×AV),(∀ p∈mods,o.dst=some p.1∨p.1∈o.op.kill)∧get e1=get (mods++env1)∧get e2=get (mods++cR))→(o.op.SE=false→H'=H)→(o.op.yM=true→∃ e,H'=H++e)→K1 e1 H'→K2 e2 H'):rZ P o cR H K2:=by
 unfold rZ at *
 cases hg:o.g with
 | none=>
   simp only [hg] at h ⊢
   exact oM (E4 hl) h fun mods H' hm hc hg hk=>hK _ _ H' ⟨mods,hm,rfl,rfl⟩ hc hg hk
 | some p=>
   obtain ⟨g,want⟩:=p
   simp only [hg] at h ⊢
   unfold iF at *
   have uM:get cR g=get env1 g:=hl g (by simp [bB.lk,hg])
   rw [uM]
   split at h
   rotate_left
   ·rename_i hb
    refine hK _ _ H ⟨(match o.dst with | some d=>[(d,.tuple [])] | none=>[]),?_,?_,?_⟩ (fun _=>rfl) (fun _=>⟨[],by simp⟩) h
    ·cases hd:o.dst <;> simp
    ·cases hd:o.dst <;> rfl
    ·cases hd:o.dst <;> rfl
   ·exact h.elim
   rename_i b hb
   have qv:get cR g=.bool b:=by rw [uM,hb]
   refine ⟨fun e=>?_,fun e=>?_⟩
   ·subst e
    refine oM (env1:=(g,.bool b)::env1) (E4 (o:=o) fun s hs=>?_) (h.1 rfl) fun mods H' hm hc hg hk=>hK _ _ H' ⟨mods,hm,cT (get_guard hb) mods,cT (get_guard qv) mods⟩ hc hg hk
    rw [get_guard hb,get_guard qv]
    exact hl s hs
   ·have h2:=h.2 e
    subst e
    refine hK _ _ H ⟨(match o.dst with | some d=>[(d,.tuple [])] | none=>[]),?_,?_,?_⟩ (fun _=>rfl) (fun _=>⟨[],by simp⟩) h2
    ·cases hd:o.dst <;> simp
    ·cases hd:o.dst with
     | none=>exact get_guard hb
     | some d=>exact cT (get_guard hb) [(d,.tuple [])]
    ·cases hd:o.dst with
     | none=>exact get_guard qv
     | some d=>exact cT (get_guard qv) [(d,.tuple [])]
theorem qM {P:Px} {o:bB} {env:Env} {H:List aa} {K1 K2:Env→List aa→Prop} (h:rZ P o env H K1)
 (hK:∀ e1 e2 H',get e1=get e2→K1 e1 H'→K2 e2 H'):rZ P o env H K2:=
 oN (fun _ _=>rfl) h fun e1 e2 H' ⟨mods,_,h1,h2⟩ _ _ hk=>hK e1 e2 H' (h1.trans h2.symm) hk
section
variable {P:Px} {ops:Array Oper} {il:List bB} {K:Env→List aa→Prop}
def qA (P:Px) (il:List bB) (i:Nat) (env:Env) (H:List aa) (K:Env→List aa→Prop):Prop:=
 match il[i]? with
 | none=>K env H
 | some o=>rZ P o env H K
def vX (P:Px) (ops:Array Oper) (il:List bB) (K:Env→List aa→Prop):Nat→Array Bool→Env→List aa→Prop
 | 0,listed,env,H=>Region.ready .any ops listed=[]∧K env H
 | f + 1,listed,env,H=>(Region.ready .any ops listed=[]→K env H)∧∀ i∈Region.ready .any ops listed,qA P il i env H (vX P ops il K f (listed.setIfInBounds i true))
def Inv (K:Env→List aa→Prop):Prop:=∀ e1 e2 H,get e1=get e2→K e1 H→K e2 H
theorem iG (hK:Inv K):∀ (f:Nat) (listed:Array Bool) {e1 e2:Env} {H:List aa},get e1=get e2→vX P ops il K f listed e1 H→vX P ops il K f listed e2 H
 | 0,_,_,_,_,he,h=>⟨h.1,hK _ _ _ he h.2⟩
 | f + 1,listed,e1,e2,H,he,h=>by
   refine ⟨fun h0=>hK _ _ _ he (h.1 h0),fun i hi=>?_⟩
   have hq:=h.2 i hi
   unfold qA at *
   split
   ·rename_i hn;simp only [hn] at hq;exact iG hK f _ he hq
   ·rename_i o ho
    simp only [ho] at hq
    exact oN (fun s _=>by rw [he]) hq fun a b H' ⟨mods,_,h1,h2⟩ _ _ hk=>iG hK f _ (by rw [h1,h2,cT he]) hk
def WA (P:Px) (st:Bool) (o:bB) (env:Env) (H:List aa) (x:AV):Prop:=
 ∃ ρ:IX→AV,(∀ i∈o.op.all,ap env i=ρ i)∧match o.g with
  | none=>dv P st o.op ρ H x
  | some (g,want)=>(∃ b,get env g=.bool b∧(b=want→dv P st o.op ρ H x)∧(b≠want→x=.tuple []))∨(get env g=.tuple []∧x=.tuple [])
theorem GM {st:Bool} {o:ca} {ρ:IX→AV} {H:List aa} {x:AV} (h:dv P st o ρ H x):db P o ρ H x:=by
 cases st
 ·exact h H
 ·exact h
theorem vY {H e:List aa} {id:Nat} {o:aa} (h:H[id]?=some o):(H++e)[id]?=some o:=by
 rw [List.getElem?_append_left (List.getElem?_eq_some_iff.1 h).1,h]
theorem E5 {sz:Option Nat} {x:AV} {H e:List aa} {φ:AV→Prop} (h:aQ sz x H φ):aQ sz x (H++e) φ:=by
 unfold aQ at *
 split at h
 ·split at h
  ·rename_i bp;rw [vY bp];exact h
  ·exact h.elim
 ·exact h
 ·exact h.elim
theorem Im {x:AV} {H e:List aa} {φ:AV→Prop} (h:fx x H φ):fx x (H++e) φ:=by
 unfold fx at *
 split at h <;> (try exact h)
 split at h
 ·rename_i bp;rw [vY bp];exact h
 ·exact h.elim
theorem AI {kd:Nat} {z m k:AV} {ok:Bool} {H e:List aa} {φ:AV→Prop} (h:cv kd z m k ok H φ):cv kd z m k ok (H++e) φ:=by
 unfold cv at *
 split at h <;> (try exact h)
 split at h
 ·rename_i bp;rw [vY bp];exact h
 ·exact h.elim
theorem yQ {o:ca} {ρ:IX→AV} {H e:List aa} {x:AV} (hs:o.stays=true) (h:db P o ρ H x):db P o ρ (H++e) x:=by
 cases o with
 | call f args pass=>cases hs
 | load sz i=>
   unfold db at h ⊢
   exact E5 h
 | len kd i=>
   unfold db at h ⊢
   exact ⟨h.1,Im h.2⟩
 | lookup kd z m k ok=>
   unfold db at h ⊢
   exact AI h
 | set i t=>cases t <;> exact h
 | _=>exact h
theorem CG {st:Bool} {o:ca} {ρ:IX→AV} {H H':List aa} {x:AV} (hH:st=true→H'=H∨(o.stays=true∧∃ e,H'=H++e)) (h:dv P st o ρ H x):dv P st o ρ H' x:=by
 cases st
 ·exact h
 ·rcases hH rfl with e | ⟨h1,e,he⟩
  ·rw [e];exact h
  ·rw [he];exact yQ h1 h
theorem Io {st:Bool} {o:bB} {env1 cR:Env} {H1 H2:List aa} {x:AV} (hl:∀ s∈o.lk,get cR s=get env1 s) (hH:st=true→H2=H1∨(o.op.stays=true∧∃ e,H2=H1++e)) (h:WA P st o env1 H1 x):WA P st o cR H2 x:=by
 obtain ⟨ρ,h1,h2⟩:=h
 refine ⟨ρ,fun i hi=>(E4 hl i hi).trans (h1 i hi),?_⟩
 cases hg:o.g with
 | none=>simp only [hg] at h2 ⊢;exact CG hH h2
 | some p=>
   obtain ⟨g,want⟩:=p
   simp only [hg] at h2 ⊢
   rcases h2 with ⟨b,k1,k2,k3⟩ | ⟨k1,k2⟩
   ·exact .inl ⟨b,(hl g (by simp [bB.lk,hg])).trans k1,fun e=>CG hH (k2 e),k3⟩
   ·exact .inr ⟨(hl g (by simp [bB.lk,hg])).trans k1,k2⟩
theorem GN {st:Bool} {o:bB} {env:Env} {H:List aa} {x:AV} (h:WA P st o env H x):rZ P o env H fun e H'=>H'=H∧get e=get (put o.dst x env):=by
 obtain ⟨ρ,h1,h2⟩:=h
 unfold rZ
 cases hg:o.g with
 | none=>simp only [hg] at h2 ⊢;exact CD (GM h2) h1
 | some p=>
   obtain ⟨g,want⟩:=p
   simp only [hg] at h2 ⊢
   rcases h2 with ⟨b,k1,k2,k3⟩ | ⟨k1,k2⟩
   rotate_left
   ·unfold iF
    rw [k1]
    subst k2
    exact ⟨by simp,rfl⟩
   unfold iF
   rw [k1]
   refine ⟨fun e=>?_,fun e=>?_⟩
   ·subst e
    have No:=get_guard k1
    have:=CD (dst:=o.dst) (env:=(g,.bool b)::env) (GM (k2 rfl)) (fun i hi=>by
     rw [← h1 i hi]
     cases i with
     | c v=>rfl
     | t s=>show get _ s=get _ s;rw [No])
    refine oM (fun _ _=>rfl) this ?_
    intro mods H' _ _ _ hk
    refine ⟨hk.1,hk.2.trans ?_⟩
    rw [kF,kF,No]
   ·have dW:b≠want:=by intro e2;subst e2;cases b <;> cases e
    have hx:=k3 dW
    subst hx
    subst e
    exact ⟨by simp,by rw [kF,kF,get_guard k1]⟩
def closed (ops:Array Oper) (listed:Array Bool):Prop:=∀ k o,ops[k]?=some o→listed.getD k false=true→∀ e∈o.after,Region.binds .any e=true→listed.getD e.on false=true
theorem lD {listed:Array Bool} (hc:closed ops listed) {i:Nat}:∀ (f j:Nat) (oj:Oper),ops[j]?=some oj→(∀ e∈oj.after,Region.binds .any e=true→listed.getD e.on false=true)→dx ops f j i=true→listed.getD i false=true
 | 0,_,_,_,_,h=>by simp [dx] at h
 | f + 1,j,oj,hj,jU,h=>by
   simp only [dx,hj] at h
   obtain ⟨k,hk,he⟩:=Array.any_eq_true.1 h
   simp only [Bool.and_eq_true,Bool.or_eq_true,beq_iff_eq] at he
   have je:oj.after[k]∈oj.after:=Array.getElem_mem hk
   have hl:=jU _ je he.1
   rcases he.2 with e | e
   ·rw [← e];exact hl
   ·have hso:∃ o',ops[(oj.after[k]).on]?=some o':=by
     cases f with
     | zero=>simp [dx] at e
     | succ f=>
       cases ho:ops[(oj.after[k]).on]? with
       | none=>simp [dx,ho] at e
       | some o'=>exact ⟨o',rfl⟩
    obtain ⟨o',JI⟩:=hso
    exact lD hc f _ o' JI (hc _ _ JI hl) e
theorem pR {listed:Array Bool} {i:Nat} (h:listed.getD i true=false):listed.getD i false=false:=by
 simp only [Array.getD_eq_getD_getElem?] at *
 cases hx:listed[i]? with
 | none=>rfl
 | some b=>rw [hx] at h;simpa using h
theorem pS {listed:Array Bool} (hc:closed ops listed) {j:Nat} (hj:j∈Region.ready .any ops listed):closed ops (listed.setIfInBounds j true):=by
 obtain ⟨_,oj,SF,jU⟩:=mem_ready.1 hj
 intro k o ho hk e he hb
 refine getD_set_true ?_
 by_cases hkj:k=j
 ·subst hkj
  rw [SF] at ho
  cases ho
  exact jU e he hb
 ·rw [getD_set_ne false (Ne.symm hkj)] at hk
  exact hc k o ho hk e he hb
theorem CH {listed:Array Bool} {i j:Nat} {st:Bool} (h:nT ops il listed i st=true) (hj:j < ops.size) (GO:j≠i) (hun:listed.getD j true=false) (jW:dx ops ops.size j i=false):sr st (il.getD i default) (il.getD j default)=true:=by
 unfold nT at h
 have:=List.all_eq_true.1 h j (List.mem_range.2 hj)
 simp only [Bool.or_eq_true,beq_iff_eq,hun,jW,Bool.false_eq_true,or_false] at this
 rcases this with e | e
 ·exact absurd e GO
 ·exact e
theorem CJ {listed:Array Bool} {i j:Nat} {st:Bool} (h:nT ops il listed i st=true):nT ops il (listed.setIfInBounds j true) i st=true:=by
 unfold nT at *
 refine List.all_eq_true.2 fun k hk=>?_
 have:=List.all_eq_true.1 h k hk
 simp only [Bool.or_eq_true] at this ⊢
 rcases this with ((e | e) | e) | e
 ·exact .inl (.inl (.inl e))
 ·refine .inl (.inl (.inr ?_))
  by_cases QZ:j=k
  ·subst QZ
   simp only [Array.getD_eq_getD_getElem?,Array.getElem?_setIfInBounds]
   split
   ·split <;> simp
   ·rename_i dW;exact absurd trivial dW
  ·rw [getD_set_ne true QZ];exact e
 ·exact .inl (.inr e)
 ·exact .inr e
theorem CK {st:Bool} {oi oj:bB} (h:sr st oi oj=true) :
 (∀ d,oi.dst=some d→d∉oj.lk∧oj.dst≠some d∧d∉oj.op.kill)∧(∀ d,oj.dst=some d→d∉oi.lk)∧(∀ s∈oj.op.kill,s∉oi.lk)∧(st=true→oj.op.SE=false∨(oj.op.yM=true∧oi.op.stays=true)):=by
 unfold sr at h
 simp only [Bool.and_eq_true,Bool.or_eq_true,Bool.not_eq_true'] at h
 obtain ⟨⟨⟨h1,h2⟩,h3⟩,h4⟩:=h
 refine ⟨fun d hd=>?_,fun d hd=>?_,fun s hs=>?_,fun e=>?_⟩
 ·rw [hd] at h1
  simpa [and_assoc] using h1
 ·rw [hd] at h2
  simpa using h2
 ·have:=List.all_eq_true.1 h3 s hs
  simpa using this
 ·rcases h4 with (e2 | e2) | e2
  ·rw [e] at e2;cases e2
  ·exact .inl e2
  ·exact .inr e2
theorem qN {l:List bB} {i:Nat} {o:bB} (h:l[i]?=some o):l.getD i default=o:=by
 rw [List.getD_eq_getElem?_getD,h];rfl
theorem Ip (hK:Inv K) (dc:il.length=ops.size) {i:Nat} {oi:bB} {x:AV} {st:Bool} (hi:il[i]?=some oi):∀ (f:Nat) (listed:Array Bool) {env:Env} {H:List aa},closed ops listed→nT ops il listed i st=true→i∈Region.ready .any ops listed→
 WA P st oi env H x→vX P ops il K f (listed.setIfInBounds i true) (put oi.dst x env) H→vX P ops il K (f + 1) listed env H:=by
 intro f
 induction f with
 | zero=>
   intro listed env H jc Et hr ht hD
   refine ⟨fun h=>(by rw [h] at hr;cases hr),fun j hj=>?_⟩
   by_cases GO:j=i
   ·subst GO
    unfold qA
    simp only [hi]
    exact qM (GN ht) fun e1 e2 H' he ⟨h1,h2⟩=>by
     subst h1
     exact iG hK 0 _ (h2.symm.trans he) hD
   ·have:=ready_mono hj GO
    rw [hD.1] at this
    cases this
 | succ f ih=>
   intro listed env H jc Et hr ht hD
   refine ⟨fun h=>(by rw [h] at hr;cases hr),fun j hj=>?_⟩
   by_cases GO:j=i
   ·subst GO
    unfold qA
    simp only [hi]
    exact qM (GN ht) fun e1 e2 H' he ⟨h1,h2⟩=>by
     subst h1
     exact iG hK (f + 1) _ (h2.symm.trans he) hD
   ·have h1:=hD.2 j (ready_mono hj GO)
    obtain ⟨abz,oj',WB,jU⟩:=mem_ready.1 hj
    have hjs:j < ops.size:=(Array.getElem?_eq_some_iff.1 WB).1
    have jW:dx ops ops.size j i=false:=by
     cases hma:dx ops ops.size j i with
     | false=>rfl
     | true=>
       have:=lD jc _ j oj' WB jU hma
       rw [pR (mem_ready.1 hr).1] at this
       cases this
    have WC:=CH Et hjs GO abz jW
    rw [qN hi] at WC
    unfold qA at *
    cases SF:il[j]? with
    | none=>
      rw [List.getElem?_eq_none_iff] at SF
      omega
    | some oj=>
      rw [qN SF] at WC
      obtain ⟨a1,a2,a3,a4⟩:=CK WC
      simp only [SF] at h1 ⊢
      refine oN (env1:=put oi.dst x env) (fun s hs=>?_) h1 fun e1 e2 H' ⟨mods,hm,g1,g2⟩ hch hgr hk=>?_
      ·rw [kF]
       cases hd:oi.dst with
       | none=>rfl
       | some d=>
         simp only [SL,fE]
         rw [if_neg]
         intro e
         exact (a1 d hd).1 (e ▸ hs)
      ·have JJ:∀ s∈oi.lk,∀ p∈mods,p.1≠s:=by
        intro s hs p hp e
        rcases hm p hp with h | h
        ·exact a2 _ h (e ▸ hs)
        ·exact a3 _ h (e ▸ hs)
       have hmd:∀ d,oi.dst=some d→∀ p∈mods,p.1≠d:=by
        intro d hd p hp e
        rcases hm p hp with h | h
        ·exact (a1 d hd).2.1 (e ▸ h)
        ·exact (a1 d hd).2.2 (e ▸ h)
       refine ih (listed.setIfInBounds j true) (pS jc hj) (CJ Et) (ready_mono hr (Ne.symm GO)) ?_ ?_
       ·refine Io (fun s hs=>?_) (fun e=>(a4 e).imp hch fun ⟨q1,q2⟩=>⟨q2,hgr q1⟩) ht
        rw [g2]
        exact kZ (JJ s hs)
       ·rw [Array.setIfInBounds_comm _ _ GO]
        refine iG hK f _ ?_ hk
        rw [g1,kF,g2]
        cases hd:oi.dst with
        | none=>rfl
        | some d=>
          funext t
          simp only [SL,fE,put]
          by_cases htd:t=d
          ·subst htd
           rw [if_pos rfl,kZ (hmd t hd)]
           simp [get]
          ·rw [if_neg htd]
           refine pw ?_ mods
           simp [get,htd]
theorem N1 (hK:Inv K) (dc:il.length=ops.size):∀ (p:xM) (f:Nat) (listed:Array Bool) {env:Env} {H:List aa},closed ops listed→
 (uz ops il f listed none p=true→uL P (inst il p) env H K→vX P ops il K f listed env H)∧
 (∀ ks,(∀ i∈ks,i∈Region.ready .any ops listed)→uz ops il (f + 1) listed (some ks) p=true→uL P (inst il p) env H K→∀ i∈ks,qA P il i env H (vX P ops il K f (listed.setIfInBounds i true))):=by
 intro p
 induction p with
 | done=>
   intro f listed env H jc
   refine ⟨fun h hd=>?_,fun ks _ h _ i hi=>?_⟩
   ·have:Region.ready .any ops listed=[]:=by
     cases f <;> simpa [uz,List.isEmpty_iff] using h
    simp only [inst,uL] at hd
    cases f with
    | zero=>exact ⟨this,hd⟩
    | succ f=>exact ⟨fun _=>hd,fun i hi=>by rw [this] at hi;cases hi⟩
   ·cases ks with
    | nil=>cases hi
    | cons k ks=>simp [uz] at h
 | nil=>
   intro f listed env H jc
   refine ⟨fun h _=>by cases f <;> simp [uz] at h,fun ks _ h _ i hi=>?_⟩
   cases ks with
   | nil=>cases hi
   | cons k ks=>simp [uz] at h
 | take k st r ih=>
   intro f listed env H jc
   refine ⟨fun h hd=>?_,fun ks _ h _ i hi=>?_⟩
   ·cases f with
    | zero=>simp [uz] at h
    | succ f=>
      simp only [uz,Bool.and_eq_true,List.contains_iff_mem] at h
      obtain ⟨⟨⟨hr,agB⟩,Et⟩,hp⟩:=h
      obtain ⟨_,ok,jy,_⟩:=mem_ready.1 hr
      have EO:k < il.length:=by rw [dc];exact (Array.getElem?_eq_some_iff.1 jy).1
      have NO:il[k]?=some (il.getD k default):=by rw [List.getD_eq_getElem?_getD,List.getElem?_eq_getElem EO];rfl
      simp only [inst,uL,tM] at hd
      have fin:∀ x,WA P st (il.getD k default) env H x→uL P (inst il r) (put (il.getD k default).dst x env) H K→vX P ops il K (f + 1) listed env H:=by
       intro x hx hrest
       exact Ip hK dc NO f listed jc Et hr hx ((ih f _ (pS jc hr)).1 hp hrest)
      cases hg:(il.getD k default).g with
      | none=>
        simp only [hg] at hd
        obtain ⟨x,hx,hrest⟩:=hd
        exact fin x ⟨ap env,fun _ _=>rfl,by simp only [hg];exact hx⟩ hrest
      | some gw=>
        obtain ⟨g,want⟩:=gw
        simp only [hg,iF] at hd
        split at hd
        rotate_left
        ·rename_i hb
         exact fin (.tuple []) ⟨ap env,fun _ _=>rfl,by simp only [hg];exact .inr ⟨hb,by trivial⟩⟩ hd
        ·exact hd.elim
        rename_i b hb
        by_cases GL:b=want
        ·obtain ⟨x,hx,hrest⟩:=hd.1 GL
         exact fin x ⟨ap env,fun _ _=>rfl,by simp only [hg];exact .inl ⟨b,hb,fun _=>hx,fun e=>absurd GL e⟩⟩ hrest
        ·have hrest:=hd.2 (by cases b <;> cases want <;> first | rfl | exact absurd rfl GL)
         exact fin (.tuple []) ⟨ap env,fun _ _=>rfl,by simp only [hg];exact .inl ⟨b,hb,fun e=>absurd e GL,fun _=>by trivial⟩⟩ hrest
   ·cases ks with
    | nil=>cases hi
    | cons k ks=>simp [uz] at h
 | br k t rest Kk JH=>
   intro f listed env H jc
   have key:∀ (f:Nat) (ks:List Nat),(∀ i∈k::ks,i∈Region.ready .any ops listed)→uz ops il f (listed.setIfInBounds k true) none t=true→uz ops il (f + 1) listed (some ks) rest=true→uL P (inst il (.br k t rest)) env H K→
    ∀ i∈k::ks,qA P il i env H (vX P ops il K f (listed.setIfInBounds i true)):=by
    intro f ks EO h1 h2 hd i hi
    simp only [inst,uL] at hd
    rcases List.mem_cons.1 hi with rfl | hi
    ·have hr:=EO i (by simp)
     obtain ⟨_,ok,jy,_⟩:=mem_ready.1 hr
     have aK:i < il.length:=by rw [dc];exact (Array.getElem?_eq_some_iff.1 jy).1
     have NO:il[i]?=some (il.getD i default):=by rw [List.getD_eq_getElem?_getD,List.getElem?_eq_getElem aK];rfl
     unfold qA
     rw [NO]
     exact qM hd.1 fun e1 e2 H' he hk=>iG hK f _ he ((Kk f _ (pS jc hr)).1 h1 hk)
    ·exact (JH f listed jc).2 ks (fun j hj=>EO j (by simp [hj])) h2 hd.2 i hi
   refine ⟨fun h hd=>?_,fun ks EO h hd i hi=>?_⟩
   ·cases f with
    | zero=>simp [uz] at h
    | succ f=>
      simp only [uz] at h
      split at h
      ·rename_i k' ks hrd
       simp only [Bool.and_eq_true,beq_iff_eq] at h
       obtain ⟨⟨rfl,h1⟩,h2⟩:=h
       have:=key f ks (fun i hi=>by rw [hrd];exact hi) h1 h2 hd
       exact ⟨(fun e=>by rw [e] at hrd;cases hrd),fun i hi=>this i (by rw [hrd] at hi;exact hi)⟩
      ·cases h
   ·cases ks with
    | nil=>cases hi
    | cons k' ks=>
      simp only [uz,Bool.and_eq_true,beq_iff_eq] at h
      obtain ⟨⟨rfl,h1⟩,h2⟩:=h
      exact key f ks EO h1 h2 hd i hi
end
end Go.aL
end
section
namespace Go.aL
open Go
section
variable {ro:Option Nat} {P:Program} {lo:Option Nat} {A:Perm} {n:Nat}
theorem n7 {ops:Array Oper} {an:B9} {rid:Nat}:∀ (fuel k:Nat) (l:List Oper) (il:List bB),eV P ops an n rid false fuel k l=some il→
 il.length=l.length∧∀ (j:Nat) (o:Oper),l[j]?=some o→∃ g,GJ ops o=some g∧GI n o=true∧il[j]?=some ⟨g,o.dst,Cw P o (an.at_ rid (k + j))⟩
 | _,_,[],il,hc=>by
   unfold eV at hc
   cases hc
   exact ⟨rfl,fun j o h=>by simp at h⟩
 | 0,_,o::r,il,hc=>by simp [eV] at hc
 | fuel + 1,k,o::r,il,hc=>by
   unfold eV at hc
   simp only [Bool.false_eq_true,and_false,if_false] at hc
   split at hc <;> try cases hc
   rename_i g xs hg fP
   split at hc <;> cases hc
   rename_i gA
   obtain ⟨h1,h2⟩:=n7 fuel (k + 1) r xs fP
   refine ⟨by simp [h1],fun j o' hj=>?_⟩
   cases j with
   | zero=>
     simp at hj
     subst hj
     exact ⟨g,hg,gA,by simp⟩
   | succ j=>
     simp at hj
     obtain ⟨g',e1,e2,e3⟩:=h2 j o' hj
     exact ⟨g',e1,e2,by simp [e3,Nat.add_assoc,Nat.add_comm 1 j]⟩
theorem tT {ops:Array Oper} {il:List bB} {an:B9} {rid:Nat} {L0:List Nat} {M0:Mem} {w0:World} {K:Env→List aa→Prop} {Q:Exit→Act→World→Prop}
 (hp:∀ l,lo=some l→∀ id,l≤id→A.top id=none) (hc:eV P ops an n rid false (ops.size + 1) 0 ops.toList=some il)
 (hF:∀ (M:Mem) (L:List Nat) (w:World) (H:List aa) (env:Env) (O:Pos→Option Nat) (a:Act),K env H→Fr A n M L w H env O a→Ext A M0 w0 M w→L0 <+: L→Q .normal a w) :
 ∀ (f:Nat) (listed:Array Bool) {M:Mem} {L:List Nat} {w:World} {H:List aa} {env:Env} {O:Pos→Option Nat} {a:Act},Fr A n M L w H env O a→Ext A M0 w0 M w→L0 <+: L→vX ⟨P,lo⟩ ops il K f listed env H→wpAnyIn (wf ro) 0 P .any ops Q f listed a w
 | 0,_,_,_,_,_,_,_,_,hf,cG,hL,h=>⟨h.1,hF _ _ _ _ _ _ _ h.2 hf cG hL⟩
 | f + 1,listed,M,L,w,H,env,O,a,hf,cG,hL,h=>by
   refine ⟨fun h0=>hF _ _ _ _ _ _ _ (h.1 h0) hf cG hL,fun i hi=>?_⟩
   have hq:=h.2 i hi
   unfold wpOpIn
   cases ho:ops[i]? with
   | none=>
     obtain ⟨_,o,JI,_⟩:=mem_ready.1 hi
     rw [ho] at JI;cases JI
   | some o=>
     obtain ⟨g,hg,gA,xP⟩:=(n7 _ _ _ _ hc).2 i o (by simpa using ho)
     unfold qA at hq
     rw [xP] at hq
     have hs:=yO (ro:=ro) (ops:=ops) hg gA hp hf hq Q
     have hrest:∀ a' w',nD A n M L w (vX ⟨P,lo⟩ ops il K f (listed.setIfInBounds i true)) a' w'→wpAnyIn (wf ro) 0 P .any ops Q f (listed.setIfInBounds i true) a' w':=by
      rintro a' w' ⟨M',L',H',aG,O',k1,k2,k3,k4⟩
      exact tT hp hc hF f _ k2 (cG.trans k3) (hL.trans k4) k1
     simp only
     split
     ·rename_i hw
      rw [if_pos hw] at hs
      exact Oper.wpIn_mono hrest hs
     ·rename_i hw
      rw [if_neg hw] at hs
      exact ⟨fun _ _=>trivial,hrest _ _ hs⟩
theorem Iq (L0:List Nat) (hp:∀ l,lo=some l→∀ id,l≤id→A.top id=none):yP P ro lo A n L0:=by
 intro id ops il p live an M L w H env O a M0 w0 Q hm hB hc h hf cG hL
 simp only [mi] at h
 have hK:Inv (fun (aG:Env) (H':List aa)=>∃ e,get e=get aG∧Q .normal (eD live e) H'):=fun e1 e2 H he ⟨e,h1,h2⟩=>⟨e,h1.trans he,h2⟩
 have dc:il.length=ops.size:=by simpa using (n7 _ _ _ _ hc).1
 have hB:=Kj dc p _ _ _ _ (Ih _) (by simp) hB
 have jc:closed ops (Array.replicate ops.size false):=by
  intro k o _ hk
  simp only [Array.getD_eq_getD_getElem?,Array.getElem?_replicate] at hk
  split at hk <;> cases hk
 have hd:uL ⟨P,lo⟩ (inst il p) env H (fun (aG:Env) (H':List aa)=>∃ e,get e=get aG∧Q .normal (eD live e) H'):=by
  have mono:∀ (t:DT) (env:Env) (H:List aa) (K1 K2:Env→List aa→Prop),(∀ e H,K1 e H→K2 e H)→Inv K2→uL ⟨P,lo⟩ t env H K1→uL ⟨P,lo⟩ t env H K2:=by
   intro t
   induction t with
   | done=>intro env H K1 K2 hk _ h;exact hk _ _ h
   | nil=>intro _ _ _ _ _ _ _;trivial
   | take st o r ih=>
     intro env H K1 K2 hk hi h
     simp only [uL,tM] at h ⊢
     cases hg:o.g with
     | none=>
       simp only [hg] at h ⊢
       obtain ⟨x,hx,h⟩:=h
       exact ⟨x,hx,ih _ _ _ _ hk hi h⟩
     | some gw=>
       obtain ⟨g,want⟩:=gw
       simp only [hg,iF] at h ⊢
       split at h
       rotate_left
       ·exact ih _ _ _ _ hk hi h
       ·exact h.elim
       exact ⟨fun e=>let ⟨x,hx,h⟩:=h.1 e;⟨x,hx,ih _ _ _ _ hk hi h⟩,fun e=>ih _ _ _ _ hk hi (h.2 e)⟩
   | br o t rest Kk JH=>
     intro env H K1 K2 hk hi h
     have hinv:∀ K:Env→List aa→Prop,Inv K→∀ t,Inv fun env H=>uL ⟨P,lo⟩ t env H K:=by
      intro K hK t
      induction t with
      | done=>exact hK
      | nil=>intro _ _ _ _ _;trivial
      | take st o r ih=>
        intro e1 e2 H he h
        simp only [uL,tM] at h ⊢
        have hav:ap e2=ap e1:=by
         funext i
         cases i with
         | c v=>rfl
         | t s=>show get e2 s=get e1 s;rw [he]
        have nQ:∀ x,get (put o.dst x e1)=get (put o.dst x e2):=fun x=>by rw [kF,kF,he]
        cases hg:o.g with
        | none=>
          simp only [hg] at h ⊢
          obtain ⟨x,hx,h⟩:=h
          exact ⟨x,by rw [hav];exact hx,ih _ _ _ (nQ x) h⟩
        | some gw=>
          obtain ⟨g,want⟩:=gw
          simp only [hg,iF] at h ⊢
          rw [← he]
          split at h
          rotate_left
          ·exact ih _ _ _ (nQ _) h
          ·exact h.elim
          exact ⟨fun e=>let ⟨x,hx,h⟩:=h.1 e;⟨x,by rw [hav];exact hx,ih _ _ _ (nQ x) h⟩,fun e=>ih _ _ _ (nQ _) (h.2 e)⟩
      | br o t rest Kk JH=>
        intro e1 e2 H he h
        exact ⟨oN (fun s _=>by rw [he]) h.1 fun a b H' ⟨mods,_,g1,g2⟩ _ _ hk=>Kk _ _ _ (by rw [g1,g2,cT he]) hk,JH _ _ _ he h.2⟩
     exact ⟨qM h.1 fun e1 e2 H' he JK=>hinv K2 hi t _ _ _ he (Kk _ _ _ _ hk hi JK),JH _ _ _ _ hk hi h.2⟩
  exact mono _ _ _ _ _ (fun e H hq=>⟨e,rfl,hq⟩) hK h
 have hA:=(N1 (P:=⟨P,lo⟩) hK dc p ops.size (Array.replicate ops.size false) (env:=env) (H:=H) jc).1 hB hd
 refine wpIn_region_any hm (tT (M0:=M0) (w0:=w0) (L0:=L0) hp hc ?_ ops.size _ (M:=M) (L:=L) (H:=H) (env:=env) (O:=O) ⟨hf.st.drew,hf.size,hf.defers.ext (Ext.drew (M:=M))⟩ (cG.trans Ext.drew) hL hA)
 rintro M' L' w' H' aG O' a' ⟨e,he,hq⟩ h2 h3 h4
 obtain ⟨O'',h5⟩:=(h2.EZ he).weaken (yN live e)
 exact ⟨A,M',L',H',_,O'',.refl A,hq,h5,h3,h4⟩
theorem E6 {L0:List Nat} {an:B9} {lv:m9} {pl:nc} (c:Code) (ir:IR) (hc:comp P an lv pl n c=some ir) {M:Mem} {L:List Nat} {w:World} {H:List aa} {env:Env} {O:Pos→Option Nat} {a:Act} {Q:Exit→Env→List aa→Prop}
 (hA:fW lo L0.length A) (xI:Own ro w) (h:mi ⟨P,lo⟩ L0.length ir env H Q) (hf:Fr A n M L w H env O a) (hL:L0 <+: L):c.wpIn (wf ro) 0 P (EY A n M L0 w Q) a w:=
 sound (fun A hA=>Iq L0 hA.opens) c ir hc hA xI h hf hL
end
end Go.aL
end
section
namespace Go.aL
open Go
inductive RX where
 | t (s:Nat)
 | c (s:Nat) (sz:Option Nat)
 deriving Inhabited
def Kl (P:Program):ResultVar→Option RX
 | .tmp t=>some (.t t)
 | .cell a t=>(JG P t).map (.c a)
def iH (P:Program):List ResultVar→Option (List RX)
 | []=>some []
 | r::rs=>match Kl P r,iH P rs with
   | some x,some xs=>some (x::xs)
   | _,_=>none
def qO:List RX→Env→List aa→(List AV→Prop)→Prop
 | [],_,_,φ=>φ []
 | .t s::r,env,H,φ=>qO r env H fun xs=>φ (get env s::xs)
 | .c s sz::r,env,H,φ=>aQ sz (get env s) H fun x=>qO r env H fun xs=>φ (x::xs)
def bW (n0:Nat) (rs:List RX) (env:Env) (H:List aa) (R:AV→List aa→Prop):Prop:=
 qO rs env H fun xs=>∃ m,n0≤m∧match xs with
  | [x]=>∃ r,x.le r∧r.aV m=true∧R r (H.take m)
  | xs=>∃ ys,xY (xs.map AV.ab) ys∧aj m ys=true∧R (.tuple ys) (H.take m)
def lE (C:List aa→Nat→List aa→Prop) (n0:Nat) (rs:List RX) (env:Env) (H:List aa) (R:AV→List aa→Prop):Prop:=
 qO rs env H fun xs=>∃ m H',n0≤m∧C H m H'∧match xs with
  | [x]=>∃ r,x.le r∧r.aV m=true∧R r H'
  | xs=>∃ ys,xY (xs.map AV.ab) ys∧aj m ys=true∧R (.tuple ys) H'
theorem sC:∀ {rs:List RX} {env:Env} {H:List aa} {φ ψ:List AV→Prop},(∀ xs,φ xs→ψ xs)→qO rs env H φ→qO rs env H ψ
 | [],env,H,φ,ψ,hm,h=>hm _ h
 | .t s::r,env,H,φ,ψ,hm,h=>sC (rs:=r) (fun xs hx=>hm _ hx) h
 | .c s sz::r,env,H,φ,ψ,hm,h=>j4 (fun x hx=>sC (rs:=r) (fun xs hx=>hm _ hx) hx) h
theorem SM {n0:Nat} {rs:List RX} {env:Env} {H:List aa} {R:AV→List aa→Prop} (h:bW n0 rs env H R):lE (fun H m H'=>H'=H.take m) n0 rs env H R:=
 sC (fun xs ⟨m,h1,h2⟩=>⟨m,H.take m,h1,rfl,h2⟩) h
def bX:Nat→List AV→Env
 | _,[]=>[]
 | k,x::xs=>(k,x)::bX (k + 1) xs
theorem mw:∀ (xs:List AV) (k t:Nat),get (bX k xs) t=if k≤t then xs.getD (t - k) .any else .any
 | [],k,t=>by simp [bX,get]
 | x::xs,k,t=>by
   simp only [bX,get]
   split
   ·rename_i e;subst e;simp
   ·rename_i e
    rw [mw xs (k + 1) t]
    by_cases h:k + 1≤t
    ·have:t - k=(t - (k + 1)) + 1:=by omega
     rw [if_pos h,if_pos (by omega),this];simp
    ·rw [if_neg h,if_neg (by omega)]
section
variable {P:Program} {A:Perm} {n:Nat} {M:Mem} {L:List Nat} {w:World} {H:List aa} {env:Env} {O:Pos→Option Nat} {a:Act}
def AJ (tmps:Array Value):ResultVar→Sem Value:=fun
 | .tmp t=>pure (tmps.getD t undef)
 | .cell a t=>do loadVar t (← asAddr (tmps.getD a undef))
theorem CL {fn:Func} {tmps:Array Value} {vs:List Value} (h:(fn.results.toList.mapM (AJ tmps)).run P w=.ok vs w) :
 (results fn tmps).run P w=.ok (if h:vs.toArray.size=1 then vs.toArray[0] else .tuple vs.toArray) w:=by
 have e:(results fn tmps)=(do
  let vs ← fn.results.mapM (AJ tmps)
  pure (if h:vs.size=1 then vs[0] else .tuple vs)):=rfl
 rw [e,Array.mapM_eq_mapM_toList]
 simp only [Sem.run_bind,Sem.run_map,h]
 rfl
theorem AK (hf:Fr A n M L w H env O a):∀ (rs:List ResultVar) (is:List RX),iH P rs=some is→∀ {φ:List AV→Prop},qO is env H φ→
 ∃ vs xs,(rs.mapM (AJ a.tmps)).run P w=.ok vs w∧φ xs∧aM M L vs xs∧(∀ s,is=[.t s]→xs=[get env s]∧vs=[a.tmps.getD s undef])∧(∀ s sz,is=[.c s sz]→∀ x,xs=[x]→∀ own ys,x=.al own ys→own=0)
 | [],is,hc,φ,h=>by
   simp only [iH] at hc;cases hc
   exact ⟨[],[],by simp,h,.nil,(by intro s e;cases e),(by intro s sz e;cases e)⟩
 | r::rs,is,hc,φ,h=>by
   unfold iH at hc
   split at hc <;> cases hc
   rename_i x xs hx fP
   cases r with
   | tmp t=>
     simp only [Kl] at hx;cases hx
     simp only [qO] at h
     obtain ⟨vs,ys,h1,h2,h3,_⟩:=AK hf rs xs fP h
     refine ⟨a.tmps.getD t undef::vs,get env t::ys,?_,h2,.cons _ _ _ _ (hf.st.env t) h3,?_,?_⟩
     ·simp only [List.mapM_cons,Sem.run_bind,AJ,Sem.run_pure,Result.andThen_ok,h1]
     ·intro s e
      cases e
      cases rs with
      | nil=>
        cases h3 with
        | nil=>exact ⟨rfl,rfl⟩
        | cons v x vs xs hh tt=>
          simp at h1
      | cons r rs=>
        unfold iH at fP
        split at fP <;> cases fP
     ·intro s sz e;cases e
   | cell p t=>
     simp only [Kl,Option.map_eq_some_iff] at hx
     obtain ⟨sz,dc,rfl⟩:=hx
     simp only [qO] at h
     obtain ⟨r,z,k1,k2,k3,k4⟩:=sj (P:=P) dc hf.st h (hf.st.env p)
     obtain ⟨vs,ys,h1,h2,h3,_⟩:=AK hf rs xs fP k3
     refine ⟨r::vs,z::ys,?_,h2,.cons _ _ _ _ k2 h3,?_,?_⟩
     ·have hl:(do loadVar t (← asAddr (a.tmps.getD p undef)):Sem Value).run P w=.ok r w:=by
       have fL:=hf.st.env p
       revert k1 fL
       generalize a.tmps.getD p undef=u
       intro k1 fL
       unfold aQ at h
       split at h
       ·rename_i id off e
        rw [e] at fL
        cases fL
        exact k1
       ·rename_i y e
        rw [e] at fL
        cases fL
        exact k1
       ·exact h.elim
      have h1':(List.mapM (AJ a.tmps) rs).run P w=.ok vs w:=h1
      simp only [List.mapM_cons,Sem.run_bind,AJ] at hl ⊢
      rw [hl]
      simp only [Result.andThen_ok,h1']
      rfl
     ·intro s e;cases e
     ·intro s sz e x hx
      cases hx
      exact k4
theorem St.aZ {ev:Nat→Value} {ea:Nat→AV} (h:St A M L w H ev ea O) {v:Value} {x:AV} (hr:aS M L v x) (ob:Option Nat) (hs:bg M w v x ob)
 (h1:∀ id j b,ob=some b→O (.c id j)≠some b) (h2:∀ b,ob=some b→b∉L∧b < w.heap.size∧A b) :
 ∃ O',St A M L w H (fE (fun _=>undef) 0 v) (fE (fun _=>.any) 0 x) O':=by
 have k1:=h.qH (fun _=>undef) (fun _=>.any) (fun _=>.any _) (fun _ _ _ e=>by cases e)
 exact ⟨_,k1.put 0 hr ob hs (fun p b hob hp=>by
  cases p with
  | t t=>cases hp
  | c id j=>exact absurd hp (h1 id j b hob)) h2⟩
theorem GP {x:AV} {m:Nat} (hb:x.aV m=true) (t:Nat):(fE (fun _=>AV.any) 0 x t).aV m=true:=by
 simp only [fE]
 split
 ·exact hb
 ·rfl
theorem St.SN {ev:Nat→Value} {ea:Nat→AV} (h:St A M L w H ev ea O) (A2:Perm) (hwr:A2.wr=A.wr) (n:Nat) {H':List aa} (hlen:H'.length=min n H.length)
 (hc:∀ (id:Nat) (o:aa),H'[id]?=some o→o=.dead∨(H[id]?=some o∧o.aV (A2.jI H'.length id)=true)) (hb:∀ t,(ea t).aV n=true):∃ O',St A2 M (L.take n) w H' ev ea O':=by
 let O':Pos→Option Nat:=fun p=>match p with | .t t=>O (.t t) | .c id j=>match H'[id]? with | some .dead=>none | some _=>O (.c id j) | none=>none
 have hO:∀ p b,O' p=some b→O p=some b:=by
  intro p b hp
  cases p with
  | t t=>exact hp
  | c id j=>
    simp only [O'] at hp
    split at hp <;> first | exact hp | cases hp
 have jQ:∀ {α:Type} {l:List α} {i:Nat} {a:α},(l.take n)[i]?=some a→i < n∧l[i]?=some a:=by
  intro α l i a hi
  rw [List.getElem?_take] at hi
  split at hi
  ·exact ⟨by assumption,hi⟩
  ·cases hi
 have je:∀ b,b∈L.take n→b∈L:=fun b hb=>List.mem_of_mem_take hb
 refine ⟨O',{ len:=by simp [h.len,hlen],nodup:=(List.take_sublist n L).nodup h.nodup,env:=fun t=>(h.env t).gF (hb t),mem:=h.mem,obj:=?_,bE:=?_,lt:=fun b hb=>h.lt b (je b hb),iq:=h.iq,hZ:=?_,ch:=fun p q b hp hq=>h.ch p q b (hO p b hp) (hO q b hq),cz:=fun p b hp hm=>h.cz p b (hO p b hp) (je b hm),fq:=fun p b hp=>h.fq p b (hO p b hp),La:=fun b hb=>by rw [hwr];exact h.La b (je b hb),Oa:=fun p b hp=>by rw [hwr];exact h.Oa p b (hO p b hp),fresh:=fun b hb=>by rw [hwr];exact h.fresh b hb }⟩
 ·intro id o b ho dU
  obtain ⟨hn,dU⟩:=jQ dU
  rcases hc id o ho with rfl | ⟨h1,h2⟩
  ·trivial
  ·refine (h.obj id o b h1 dU).gF (aa.cE ?_ o h2)
   have:=A2.vr H'.length id
   omega
 ·intro id o ho
  rcases hc id o ho with rfl | ⟨h1,h2⟩
  ·rfl
  ·exact h2
 ·intro id j
  have dead:∀ x:Option aa,H'[id]?=x→(x=none∨x=some .dead)→bg M w (bM (L.take n) w id j) (bw H' id j) (O' (.c id j)):=by
   intro x hx Q3
   have e2:bw H' id j=.any:=by
    unfold bw
    rw [hx]
    rcases Q3 with rfl | rfl <;> rfl
   have e3:O' (.c id j)=none:=by
    simp only [O',hx]
    rcases Q3 with rfl | rfl <;> rfl
   rw [e2,e3]
   rfl
  cases hx:H'[id]? with
  | none=>exact dead none hx (.inl rfl)
  | some o=>
    by_cases ed:o=.dead
    ·subst ed;exact dead _ hx (.inr rfl)
    ·rcases hc id o hx with h' | ⟨h1,h2⟩
     ·exact absurd h' ed
     have hl:=aO hx
     have e1:bM (L.take n) w id j=bM L w id j:=by
      unfold bM
      rw [List.getElem?_take,if_pos (by omega)]
     have e2:bw H' id j=bw H id j:=by
      unfold bw
      rw [hx,h1]
     have e3:O' (.c id j)=O (.c id j):=by
      simp only [O',hx]
     rw [e1,e2,e3]
     exact h.hZ id j
theorem GQ:∀ {vs:List Value} {xs ys:List AV},aM M L vs xs→xY (xs.map AV.ab) ys→aM M L vs ys
 | _,_,[],.nil,h=>.nil
 | _,_,y::ys,.nil,h=>by simp [xY] at h
 | _,_,[],.cons _ _ _ _ _ _,h=>by simp [xY] at h
 | _,_,y::ys,.cons _ _ _ _ h1 h2,h=>by
   simp only [List.map_cons,xY] at h
   exact .cons _ _ _ _ (h1.ab.le h.1) (GQ h2 h.2)
def Marks (A:Perm) (w w2:World):Prop:=w2.heap.size=w.heap.size∧w2.os=w.os∧w2.tape=w.tape∧w2.output=w.output∧
 ∀ b,w2.heap[b]?=w.heap[b]?∨(A.base≤b∧¬ A b∧(∃ x,w.heap[b]?=some (.deferred x))∧∃ x,w2.heap[b]?=some (.deferred x))
theorem Marks.refl (A:Perm) (w:World):Marks A w w:=⟨rfl,rfl,rfl,rfl,fun b=>.inl rfl⟩
theorem Marks.trans {A:Perm} {w w1 w2:World} (h:Marks A w w1) (k:Marks A w1 w2):Marks A w w2:=by
 refine ⟨k.1.trans h.1,k.2.1.trans h.2.1,k.2.2.1.trans h.2.2.1,k.2.2.2.1.trans h.2.2.2.1,fun b=>?_⟩
 rcases h.2.2.2.2 b with h1 | ⟨h1,h2,h3,x,h4⟩ <;> rcases k.2.2.2.2 b with k1 | ⟨k1,k2,⟨y,k3⟩,k4⟩
 ·exact .inl (k1.trans h1)
 ·exact .inr ⟨k1,k2,⟨y,by rw [← h1];exact k3⟩,k4⟩
 ·exact .inr ⟨h1,h2,h3,x,by rw [k1];exact h4⟩
 ·exact .inr ⟨h1,h2,h3,k4⟩
theorem qP {A:Perm} {F:Fence} {m:Nat} {fn:Func} {tmps:Array Value} {R:Ending→World→Prop}:∀ (ds:List Deferred) {w:World},QV A w ds→(∀ w2,Marks A w w2→LeavesIn F m P fn tmps R [] .returning w2)→LeavesInM F m P fn tmps R ds .returning w
 | [],w,_,h=>h w (.refl A w)
 | d::ds,w,hd,h=>by
   obtain ⟨D,rfl,h2,h3,h4⟩:=hd.2.2 _ List.mem_cons_self
   have hm:Marks A w (w.putObj D (.deferred none)):=⟨World.putObj_size,rfl,rfl,rfl,fun b=>by
    by_cases e:b=D
    ·subst e
     exact .inr ⟨h4,h3,⟨_,h2⟩,_,World.putObj_heap_same (Array.getElem?_eq_some_iff.1 h2).1⟩
    ·exact .inl (World.putObj_heap_other e)⟩
   refine ⟨by simp,.inl ⟨D,_,rfl,run_takeDeferred h2,qP ds ⟨by rw [World.putObj_size];exact hd.1,(List.nodup_cons.1 hd.2.1).2,fun d' hd'=>?_⟩ fun w2 hm2=>h w2 (hm.trans hm2)⟩⟩
   obtain ⟨D',e',k2,k3⟩:=hd.2.2 d' (List.mem_cons_of_mem _ hd')
   refine ⟨D',e',?_,k3⟩
   rw [World.putObj_heap_other]
   ·exact k2
   ·rintro rfl
    exact (List.nodup_cons.1 hd.2.1).1 (e' ▸ hd')
theorem St.marks {ev:Nat→Value} {ea:Nat→AV} (h:St A M L w H ev ea O) {w2:World} (hm:Marks A w w2):St A M L w2 H ev ea O:=by
 obtain ⟨h1,_,_,_,h5⟩:=hm
 have same:∀ b,A b→w2.heap[b]?=w.heap[b]?:=fun b hb=>by
  rcases h5 b with h | ⟨_,h,_⟩
  ·exact h
  ·exact absurd hb h
 exact { len:=h.len,nodup:=h.nodup,env:=h.env,bE:=h.bE,ch:=h.ch,cz:=h.cz,La:=h.La,Oa:=h.Oa
         mem:=fun b o v hv=>by
          have hc:=h.mem b o v hv
          rcases h5 b with e | ⟨_,_,⟨x,e⟩,_⟩
          ·simp only [World.cell?] at hc ⊢;rw [e];exact hc
          ·simp [World.cell?,e] at hc
         obj:=fun id o b ho hb=>(h.obj id o b ho hb).mono (Mem.bQ M) (List.prefix_refl L) (same b (h.La b (List.mem_of_getElem? hb))) (fun _=>rfl)
         lt:=fun b hb=>by rw [h1];exact h.lt b hb
         iq:=fun t=>(h.iq t).mono fun b hb=>⟨same b (h.Oa _ b hb),fun _=>rfl⟩
         hZ:=fun id j=>by
          have e:bM L w2 id j=bM L w id j:=by
           unfold bM
           split
           ·rename_i b hb
            simp only [World.cell?]
            rw [same b (h.La b (List.mem_of_getElem? hb))]
           ·rfl
          rw [e]
          exact (h.hZ id j).mono fun b hb=>⟨same b (h.Oa _ b hb),fun _=>rfl⟩
         fq:=fun p b hp=>by rw [h1];exact h.fq p b hp
         fresh:=fun b hb=>h.fresh b (by rw [← h1];exact hb) }
theorem Ext.marks {A A':Perm} {M M':Mem} {w w' w2:World} (h:Ext A M w M' w') (hm:Marks A' w' w2) (hb:w.heap.size≤A'.base):Ext A M w M' w2:=by
 obtain ⟨h1,h2,h3,h4,h5⟩:=hm
 refine ⟨h.ln,by rw [h1];exact h.size,h2.trans h.os,h3.trans h.tape,h4.trans h.output,fun b aK hA=>?_,fun b r hr=>?_⟩
 ·obtain ⟨k1,k2⟩:=h.kO b aK hA
  refine ⟨?_,k2⟩
  rcases h5 b with e | ⟨e,_⟩
  ·exact e.trans k1
  ·omega
 ·obtain ⟨r',k1,k2⟩:=h.loops b r hr
  rcases h5 b with e | ⟨_,_,⟨x,e⟩,_⟩
  ·exact ⟨r',e.trans k1,k2⟩
  ·rw [k1] at e;cases e
theorem vZ {lo:Option Nat} {b:Bool} (A1:Perm→Perm) (C:List aa→Nat→List aa→Prop) {f:FuncId} {fn:Func} {c:Code} {an:B9} {lv:m9} {pl:nc} {ir:IR} {rs:List RX} {args:List AV} {R:AV→List aa→Prop}
 (hf:P.funcs[f]?=some fn) (hcall:∀ (as:Array Value) (w:World),(callFunc f as).run P w=.ok (.enter f as) w) (hb:fn.body=some c) (hc:comp P an lv pl fn.ntmps c=some ir) (x8:iH P fn.results.toList=some rs)
 (h1:∀ A:Perm,A.entry b H.length→fW lo H.length (A1 A)) (h2:∀ A:Perm,(A1 A).wr=A.wr) (h3:∀ (A:Perm) {M:Mem} {L:List Nat} {w:World} {ev:Nat→Value} {ea:Nat→AV} {O:Pos→Option Nat},A.entry b H.length→St A M L w H ev ea O→St (A1 A) M L w H ev ea O)
 (h4:∀ (A:Perm) {M:Mem} {L:List Nat} {w:World} {H':List aa} {ev:Nat→Value} {ea:Nat→AV} {O:Pos→Option Nat} {m:Nat} {H'':List aa},A.entry b H.length→H.length≤m→H.length≤H'.length→C H' m H''→St (A1 A) M L w H' ev ea O→(∀ t,(ea t).aV m=true)→∃ O',St A M (L.take m) w H'' ev ea O')
 (hn:args.length≤fn.ntmps) (Rt:Env→List aa→Prop) (hRt:∀ env H',Rt env H'→lE C H.length rs env H' R) (h:mi ⟨P,lo⟩ H.length ir (bX 0 args) H fun e env H'=>(e=.normal∨e=.ret)∧Rt env H'):kU b P f args H R:=by
 refine fun A M L w vs O hA hs WD=>.inl ⟨hcall _ _,callsIn_wide.1 (callsIn_of_wp_marks (F:=Fence.wide) (n:=0) hf hb trivial ?_ rfl)⟩
 obtain ⟨A2,E7⟩:∃ A2:Perm,A2={ A1 A with base:=w.heap.size }:=⟨_,rfl⟩
 have a2w:A2.wr=A.wr:=by rw [E7];exact h2 A
 have st12:∀ {M:Mem} {L:List Nat} {w:World} {H:List aa} {ev:Nat→Value} {ea:Nat→AV} {O:Pos→Option Nat},St (A1 A) M L w H ev ea O→St A2 M L w H ev ea O:=by
  intro M L w H ev ea O h;subst E7
  exact { len:=h.len,nodup:=h.nodup,env:=h.env,mem:=h.mem,obj:=h.obj,bE:=h.bE,lt:=h.lt,iq:=h.iq,hZ:=h.hZ,ch:=h.ch,cz:=h.cz,fq:=h.fq,La:=h.La,Oa:=h.Oa,fresh:=h.fresh }
 have st21:∀ {M:Mem} {L:List Nat} {w:World} {H:List aa} {ev:Nat→Value} {ea:Nat→AV} {O:Pos→Option Nat},St A2 M L w H ev ea O→St (A1 A) M L w H ev ea O:=by
  intro M L w H ev ea O h;subst E7
  exact { len:=h.len,nodup:=h.nodup,env:=h.env,mem:=h.mem,obj:=h.obj,bE:=h.bE,lt:=h.lt,iq:=h.iq,hZ:=h.hZ,ch:=h.ch,cz:=h.cz,fq:=h.fq,La:=h.La,Oa:=h.Oa,fresh:=h.fresh }
 have bS:=st12 (h3 A hA WD)
 have hfits:fW lo H.length A2:=by rw [E7];exact h1 A hA
 have Np:L.length=H.length:=WD.len
 have Et:Fr A2 fn.ntmps M L w H (bX 0 args) O { tmps:=vs++Array.replicate (fn.ntmps - vs.size) undef,defers:=[] }:=by
  refine ⟨bS.congr ?_ ?_,by simp;omega,⟨by rw [E7];exact Nat.le_refl _,List.nodup_nil,fun d h=>by cases h⟩⟩
  ·intro t
   simp only [Array.getD_eq_getD_getElem?]
   by_cases ht:t < vs.size
   ·rw [Array.getElem?_append_left ht]
   ·rw [Array.getElem?_append_right (by omega),Array.getElem?_eq_none (xs:=vs) (by omega),Array.getElem?_replicate]
    split <;> rfl
  ·intro t
   rw [mw];simp
 rw [← bS.len] at h hfits
 refine Go.wpIn_mono (E6 (ro:=none) (L0:=L) c ir hc hfits (fun l e=>by cases e) h Et (List.prefix_refl L)) ?_
 rintro e a w1 ⟨A',M',L',H',env,O',hle,⟨he,Ir⟩,N2,hext1,hL⟩
 have base:A'.base=w.heap.size:=by rw [hle.2.2,E7]
 have done:(∀ w',Marks A' w1 w'→LeavesIn Fence.wide 0 P fn a.tmps (fun e w'=>∃ v r H' M' L' O',e=.returned v∧R r H'∧St A M' L' w' H' (fE (fun _=>undef) 0 v) (fE (fun _=>.any) 0 r) O'∧Ext A M w M' w'∧L <+: L') [] .returning w')→
  bodyPostM Fence.wide 0 P fn (fun e w'=>∃ v r H' M' L' O',e=.returned v∧R r H'∧St A M' L' w' H' (fE (fun _=>undef) 0 v) (fE (fun _=>.any) 0 r) O'∧Ext A M w M' w'∧L <+: L') e a w1:=by
  intro hd
  rcases he with rfl | rfl <;> exact qP _ N2.defers hd
 refine done fun w' hm=>?_
 have AL:Fr A2 fn.ntmps M' L' w' H' env O' { a with defers:=[] }:=
  ⟨(N2.st.marks hm).le hle,N2.size,⟨by rw [hm.1,← hle.2.2];exact N2.defers.1,List.nodup_nil,fun d h=>by cases h⟩⟩
 have cG:Ext A M w M' w':=by
  have:=hext1.marks hm (Nat.le_of_eq base.symm)
  exact ⟨this.ln,this.size,this.os,this.tape,this.output,fun b hb hA=>this.kO b hb (by rw [a2w];exact hA),this.loops⟩
 have hlen2:H.length≤H'.length:=by have:=hL.length_le;rw [Np,AL.st.len] at this;exact this
 have goal:∃ v,(results fn a.tmps).run P w'=.ok v w'∧∃ v' r H'' M'' L'' O'',Ending.returned v=.returned v'∧R r H''∧St A M'' L'' w' H'' (fE (fun _=>undef) 0 v') (fE (fun _=>.any) 0 r) O''∧Ext A M w M'' w'∧L <+: L'':=by
  replace Ir:=hRt _ _ Ir
  unfold lE at Ir
  obtain ⟨us,xs,k1,⟨m,H2,hm,hC,k2⟩,k3,k4,k5⟩:=AK (P:=P) AL _ _ x8 Ir
  have lZ:L <+: L'.take m:=by
   obtain ⟨r,rfl⟩:=hL
   exact ⟨r.take (m - L.length),by rw [List.take_append,List.take_of_length_le (show L.length≤m by omega)]⟩
  have bJ:=CL k1
  split at k2
  ·rename_i x
   obtain ⟨r,hle,hb,hR⟩:=k2
   cases k3 with
   | cons v _ _ _ hv ht=>
   cases ht
   refine ⟨v,by simpa using bJ,v,r,H2,M',L'.take m,?_⟩
   have qC:∃ ob,bg M' w' v x ob∧(∀ id j b,ob=some b→O' (.c id j)≠some b)∧(∀ b,ob=some b→b∉L'∧b < w'.heap.size∧A2 b):=by
    match rs,x8,k4,k5 with
    | [],x8,_,_=>
      unfold iH at x8
      split at x8
      ·rename_i e
       rw [e] at k1
       simp at k1
      ·split at x8 <;> cases x8
    | [.t s],_,k4,_=>
      obtain ⟨e1,e2⟩:=k4 s rfl
      cases e1;cases e2
      refine ⟨O' (.t s),AL.st.iq s,fun id j b hb hc=>?_,fun b hb=>⟨AL.st.cz _ b hb,AL.st.fq _ b hb,AL.st.Oa _ b hb⟩⟩
      exact absurd (AL.st.ch _ _ b hb hc) (by intro e;cases e)
    | [.c s sz],_,_,k5=>
      exact ⟨none,bg.free (k5 s sz rfl x rfl),(fun _ _ _ e=>by cases e),(fun _ e=>by cases e)⟩
    | r1::r2::rs,x8,_,_=>
      unfold iH at x8
      split at x8
      ·cases x8
      ·split at x8 <;> cases x8
       rename_i h1 h2
       unfold iH at h2
       split at h2
       ·cases h2
       ·rename_i e
        rw [e] at k1
        simp only [List.mapM_cons,Sem.run_bind] at k1
        revert k1
        generalize JL:(AJ a.tmps _).run P w'=g1
        cases g1 <;> simp
        generalize hg2:(AJ a.tmps _).run P _=g2
        cases g2 <;> simp
        generalize hg3:(List.mapM (AJ a.tmps) _).run P _=g3
        cases g3 <;> simp
   obtain ⟨ob,o1,o2,o3⟩:=qC
   obtain ⟨ob',p1,p2⟩:=o1.le hv hle
   obtain ⟨O'',mf⟩:=AL.st.aZ (hv.le hle) ob' p1 (fun id j b hb=>by
    rcases p2 with rfl | rfl
    ·cases hb
    ·exact o2 id j b hb) (fun b hb=>by
    rcases p2 with rfl | rfl
    ·cases hb
    ·exact o3 b hb)
   obtain ⟨O3,Km⟩:=h4 A hA (by omega) hlen2 hC (st21 mf) (GP hb)
   exact ⟨O3,rfl,hR,Km,cG,lZ⟩
  ·rename_i dW
   obtain ⟨ys,hle,hb,hR⟩:=k2
   have hlen:us.toArray.size≠1:=by
    have:=k3.length
    intro e
    simp at e
    rw [e] at this
    match xs,this with
    | [x],_=>exact dW x rfl
   rw [dif_neg hlen] at bJ
   refine ⟨.tuple us.toArray,bJ,.tuple us.toArray,.tuple ys,H2,M',L'.take m,?_⟩
   obtain ⟨O'',mf⟩:=AL.st.aZ (.tuple _ _ (GQ k3 hle)) none (bg.free (by intro _ _ e;cases e)) (fun _ _ _ e=>by cases e) (fun _ e=>by cases e)
   obtain ⟨O3,Km⟩:=h4 A hA (by omega) hlen2 hC (st21 mf) (GP (x:=.tuple ys) hb)
   exact ⟨O3,rfl,hR,Km,cG,lZ⟩
 exact goal
theorem pT {A:Perm} {k:Nat} (h:A.entry false k):fW none k A:=⟨h.1,fun id bp=>by rw [h.2 id bp];rfl⟩
theorem Is {f:FuncId} {fn:Func} {c:Code} {an:B9} {lv:m9} {pl:nc} {ir:IR} {rs:List RX} {args:List AV} {R:AV→List aa→Prop}
 (hf:P.funcs[f]?=some fn) (hcall:∀ (as:Array Value) (w:World),(callFunc f as).run P w=.ok (.enter f as) w) (hb:fn.body=some c) (hc:comp P an lv pl fn.ntmps c=some ir) (x8:iH P fn.results.toList=some rs)
 (hn:args.length≤fn.ntmps) (h:mi P H.length ir (bX 0 args) H fun e env H'=>(e=.normal∨e=.ret)∧bW H.length rs env H' R):aq P f args H R:=by
 refine vZ (lo:=none) (b:=false) (fun A=>A) (fun H m H'=>H'=H.take m) hf hcall hb hc x8 (fun A=>pT) (fun A=>rfl) (fun A _ _ _ _ _ _ _ h=>h) ?_ hn (fun env H'=>bW H.length rs env H' R) (fun env H'=>SM) h
 intro A M L w H' ev ea O m H'' hA hm hl e bS NL
 subst e
 exact bS.cut m (fun id o=>(pT hA).closed hm bS id o) NL
def n8 (k:Nat) (A:Perm):Perm where
 wr:=A.wr
 top:=fun id=>if id < k then A.top id else none
 ok:=fun id n h=>by
  split at h
  ·exact A.ok id n h
  ·cases h
theorem CM {A:Perm} {k:Nat} {b:Bool} (h:A.entry b k):fW (some k) k (n8 k A):=
 ⟨fun id bp=>by obtain ⟨m,h1,h2⟩:=h.1 id bp;exact ⟨m,h1,by simp only [n8,if_pos bp];exact h2⟩,rfl,fun id bp=>by simp only [n8];rw [if_neg (by omega)]⟩
def kH (n0:Nat) (H:List aa) (m:Nat) (H':List aa):Prop:=
 H'.length=min m H.length∧∀ (id:Nat) (o:aa),H'[id]?=some o→o=.dead∨(H[id]?=some o∧(n0≤id→o.aV (id + 1)=true))
theorem E8 {f:FuncId} {fn:Func} {c:Code} {an:B9} {lv:m9} {pl:nc} {ir:IR} {rs:List RX} {args:List AV} {R:AV→List aa→Prop}
 (hf:P.funcs[f]?=some fn) (hcall:∀ (as:Array Value) (w:World),(callFunc f as).run P w=.ok (.enter f as) w) (hb:fn.body=some c) (hc:comp P an lv pl fn.ntmps c=some ir) (x8:iH P fn.results.toList=some rs)
 (hn:args.length≤fn.ntmps) (h:mi ⟨P,some H.length⟩ H.length ir (bX 0 args) H fun e env H'=>(e=.normal∨e=.ret)∧lE (kH H.length) H.length rs env H' R):aq P f args H R:=by
 refine vZ (lo:=some H.length) (b:=false) (n8 H.length) (kH H.length) hf hcall hb hc x8 (fun A hA=>CM hA) (fun A=>rfl) (fun A M L w ev ea O hA bS=>?_) ?_ hn (fun env H'=>lE (kH H.length) H.length rs env H' R) (fun env H' h=>h) h
 ·exact { len:=bS.len,nodup:=bS.nodup,env:=bS.env,mem:=bS.mem,obj:=bS.obj,lt:=bS.lt,iq:=bS.iq,hZ:=bS.hZ,ch:=bS.ch,cz:=bS.cz,fq:=bS.fq,La:=bS.La,Oa:=bS.Oa,fresh:=bS.fresh
          bE:=fun id o ho=>by
           have:=bS.bE id o ho
           have e:(n8 H.length A).jI H.length id=A.jI H.length id:=by unfold Perm.jI;simp only [n8,if_pos (aO ho)]
           rw [e];exact this }
 ·intro A M L w H' ev ea O m H'' hA hm hl hC bS NL
  obtain ⟨hlen,hC⟩:=hC
  refine bS.SN A rfl m hlen (fun id o ho=>?_) NL
  rcases hC id o ho with h' | ⟨h1,h2⟩
  ·exact .inl h'
  ·refine .inr ⟨h1,?_⟩
   by_cases bp:id < H.length
   ·obtain ⟨k,hk,ek⟩:=hA.1 id bp
    have:=bS.bE id o h1
    have e1:(n8 H.length A).jI H'.length id=min k H'.length:=by unfold Perm.jI;simp only [n8,if_pos bp,ek]
    have e2:A.jI H''.length id=min k H''.length:=by unfold Perm.jI;simp only [ek]
    rw [e1] at this
    rw [e2]
    exact aa.cE (by omega) o this
   ·have e2:A.jI H''.length id=min (id + 1) H''.length:=by unfold Perm.jI;rw [hA.2 id (by omega)];rfl
    have:=aO ho
    rw [e2]
    exact aa.cE (by omega) o (h2 (by omega))
end
end Go.aL
end
