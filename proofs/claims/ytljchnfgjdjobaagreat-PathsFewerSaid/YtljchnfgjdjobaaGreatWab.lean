/- Part 2 of 18 of the proof. -/
import Derived.Test.YtljchnfgjdjobaaGreatWaa
import Derived.RangeFuncNested
set_option linter.unusedVariables false
set_option linter.unusedSimpArgs false
set_option linter.defProp false
set_option linter.unusedSectionVars false
section
namespace Go.aH
open Go
def Perm.entry (A:Perm) (loose:Bool) (n:Nat):Prop:=(∀ id,id < n→∃ m,m≤n∧A.top id=some m)∧∀ id,n≤id→A.top id=if loose=true then none else some (id + 1)
def kF (loose:Bool) (P:Program) (f:FuncId) (args:List AV) (H:List aa) (R:AV→List aa→Prop):Prop:=
 ∀ A M L w (vs:Array Value) O,A.entry loose H.length→vs.size=args.length→St A M L w H (fun t=>vs.getD t undef) (fun t=>args.getD t .any) O→
  ((callFunc f vs).run P w=.ok (.enter f vs) w∧Calls P f vs w fun e w'=>∃ v r H' M' L' O',e=.returned v∧R r H'∧St A M' L' w' H' (fz (fun _=>undef) 0 v) (fz (fun _=>.any) 0 r) O'∧Ext A M w M' w'∧L <+: L')∨
  (∃ v w' r H' M' L' O',(callFunc f vs).run P w=.ok (.value v) w'∧R r H'∧St A M' L' w' H' (fz (fun _=>undef) 0 v) (fz (fun _=>.any) 0 r) O'∧Ext A M w M' w'∧L <+: L')
def aq (P:Program) (f:FuncId) (args:List AV) (H:List aa) (R:AV→List aa→Prop):Prop:=kF false P f args H R
def ua (P:Program) (f:FuncId) (args:List AV) (H:List aa) (R:AV→List aa→Prop):Prop:=kF true P f args H R
theorem kF.mono {b:Bool} {P:Program} {f:FuncId} {args:List AV} {H:List aa} {R R':AV→List aa→Prop} (h:kF b P f args H R) (hr:∀ r H',R r H'→R' r H'):kF b P f args H R':=by
 intro A M L w vs O hA hs bO
 rcases h A M L w vs O hA hs bO with ⟨h1,h2⟩ | ⟨v,w',r,H',M',L',O',h1,h2,h3⟩
 ·exact .inl ⟨h1,h2.mono fun e w' ⟨v,r,H',M',L',O',h1,h2,h3⟩=>⟨v,r,H',M',L',O',h1,hr _ _ h2,h3⟩⟩
 ·exact .inr ⟨v,w',r,H',M',L',O',h1,hr _ _ h2,h3⟩
theorem aq.mono {P:Program} {f:FuncId} {args:List AV} {H:List aa} {R R':AV→List aa→Prop} (h:aq P f args H R) (hr:∀ r H',R r H'→R' r H'):aq P f args H R':=kF.mono h hr
theorem ua.mono {P:Program} {f:FuncId} {args:List AV} {H:List aa} {R R':AV→List aa→Prop} (h:ua P f args H R) (hr:∀ r H',R r H'→R' r H'):ua P f args H R':=kF.mono h hr
theorem aq.body {P:Program} {f:FuncId} {args:List AV} {H:List aa} {R:AV→List aa→Prop} (h:aq P f args H R) (he:∀ (as:Array Value) (w:World),(callFunc f as).run P w=.ok (.enter f as) w)
 {A:Perm} {M:Mem} {L:List Nat} {w:World} {vs:Array Value} {O:Pos→Option Nat} (hA:A.entry false H.length) (hs:vs.size=args.length) (bO:St A M L w H (fun t=>vs.getD t undef) (fun t=>args.getD t .any) O) :
 Calls P f vs w fun e w'=>∃ v r H' M' L' O',e=.returned v∧R r H'∧St A M' L' w' H' (fz (fun _=>undef) 0 v) (fz (fun _=>.any) 0 r) O'∧Ext A M w M' w'∧L <+: L':=by
 rcases h A M L w vs O hA hs bO with ⟨h1,h2⟩ | ⟨v,w',r,H',M',L',O',h1,h2,h3⟩
 ·exact h2
 ·rw [he] at h1;cases h1
structure Px where
 prog:Program
 lo:Option Nat
instance:Coe Program Px:=⟨fun P=>⟨P,none⟩⟩
def dU (P:Px) (f:FuncId) (args:List AV) (H:List aa) (R:AV→List aa→Prop):Prop:=
 match P.lo with
 | none=>aq P.prog f args H R
 | some l=>aq P.prog f args H R∨(l≤H.length∧ua P.prog f args H R)
theorem dU.of {P:Px} {f:FuncId} {args:List AV} {H:List aa} {R:AV→List aa→Prop} (h:aq P.prog f args H R):dU P f args H R:=by
 unfold dU;split
 ·exact h
 ·exact .inl h
theorem dU.mono {P:Px} {f:FuncId} {args:List AV} {H:List aa} {R R':AV→List aa→Prop} (h:dU P f args H R) (hr:∀ r H',R r H'→R' r H'):dU P f args H R':=by
 unfold dU at *;split at h
 ·exact h.mono hr
 ·rcases h with h | ⟨h1,h2⟩
  ·exact .inl (h.mono hr)
  ·exact .inr ⟨h1,h2.mono hr⟩
def fy (loose:Bool) (P:Program) (id:Nat) (args:List AV) (H:List aa) (R:AV→List aa→Prop):Prop:=
 ∀ A M L w (vs:Array Value) O b,A.entry loose H.length→vs.size=args.length→L[id]?=some b→St A M L w H (fun t=>vs.getD t undef) (fun t=>args.getD t .any) O→
  ∃ fn tmps as bd,(Instr.yield b vs).run P w=.ok (.round b fn tmps as bd) w∧RoundIn Fence.wide 0 P b fn tmps as bd w fun e w'=>
   ∃ v r H' M' L' O',e=.returned v∧R r H'∧St A M' L' w' H' (fz (fun _=>undef) 0 v) (fz (fun _=>.any) 0 r) O'∧Ext A M w M' w'∧L <+: L'
theorem fy.mono {b:Bool} {P:Program} {id:Nat} {args:List AV} {H:List aa} {R R':AV→List aa→Prop} (h:fy b P id args H R) (hr:∀ r H',R r H'→R' r H'):fy b P id args H R':=by
 intro A M L w vs O c hA hs hc bO
 obtain ⟨fn,tmps,as,bd,h1,h2⟩:=h A M L w vs O c hA hs hc bO
 exact ⟨fn,tmps,as,bd,h1,h2.mono fun e w' ⟨v,r,H',M',L',O',h1,h2,h3⟩=>⟨v,r,H',M',L',O',h1,hr _ _ h2,h3⟩⟩
def jH (P:Program) (id:Nat) (args:List AV) (H:List aa) (R:AV→List aa→Prop):Prop:=fy false P id args H R
def Mf (P:Program) (id:Nat) (args:List AV) (H:List aa) (R:AV→List aa→Prop):Prop:=fy true P id args H R
def lU (P:Px) (id:Nat) (args:List AV) (H:List aa) (R:AV→List aa→Prop):Prop:=
 match P.lo with
 | none=>jH P.prog id args H R
 | some l=>jH P.prog id args H R∨(l≤H.length∧Mf P.prog id args H R)
theorem lU.mono {P:Px} {id:Nat} {args:List AV} {H:List aa} {R R':AV→List aa→Prop} (h:lU P id args H R) (hr:∀ r H',R r H'→R' r H'):lU P id args H R':=by
 unfold lU at *;split at h
 ·exact fy.mono h hr
 ·rcases h with h | ⟨h1,h2⟩
  ·exact .inl (fy.mono h hr)
  ·exact .inr ⟨h1,fy.mono h2 hr⟩
def w7:List AV→List AV→Prop
 | [],[]=>True
 | x::xs,y::ys=>x.le y∧w7 xs ys
 | _,_=>False
def aD (env:Env) (pass:Option Nat):Nat→List IX→List AV
 | _,[]=>[]
 | j,.t s::xs=>(if pass=some j then get env s else (get env s).ab)::aD env pass (j + 1) xs
 | j,.c v::xs=>v.ab::aD env pass (j + 1) xs
def bg (args:List IX) (pass:Option Nat):Option Nat:=
 match pass with
 | some j=>match args[j]? with
   | some (.t s)=>some s
   | _=>none
 | none=>none
def cL (env:Env) (s:Option Nat):Env:=match s with | some d=>(d,(get env d).ab)::env | none=>env
def oU (P:Px) (f:AV) (args:List IX) (pass:Option Nat) (env:Env) (H:List aa) (K:AV→Env→List aa→Prop):Prop:=
 match f with
 | .fn (.func g) first cap=>∃ bN,w7 (first.map AV.ab++aD env pass 0 args++cap.map AV.ab) bN∧dU P g bN H (fun r H'=>K r (cL env (bg args pass)) H')
 | .nk id=>∃ bN,w7 (aD env pass 0 args) bN∧lU P id bN H (fun r H'=>K r (cL env (bg args pass)) H')
 | _=>False
def aL (kd:Nat) (x:AV):Prop:=
 match kd,x with
 | 0,.str _=>True
 | 1,.ah=>True
 | 1,.ap _ _=>True
 | 1,.a8 _ _ _ _=>True
 | 1,.oN=>True
 | 2,.iS=>True
 | 2,.map _=>True
 | _,_=>False
def fY (env:Env) (x:Option IX):Option AV:=x.map (al env)
def bo (P:Px) (o:bY) (dst:Option Nat) (env:Env) (H:List aa) (K:Env→List aa→Prop):Prop:=
 match o with
 | .set x take=>match dst with | some d=>K (tL env d x take) H | none=>K env H
 | .pick c a b=>eX (al env c) fun q=>(q=true→K (put dst (al env a).ab env) H)∧(q=false→K (put dst (al env b).ab env) H)
 | .bin op x y=>de op (al env x) (al env y) fun z=>K (put dst z env) H
 | .shift op x y=>dS op (al env x) (al env y) fun z=>K (put dst z env) H
 | .ic neq x y=>cU neq (al env x) (al env y) fun z=>K (put dst z env) H
 | .jg kd neq x=>dj kd neq (al env x) fun z=>K (put dst z env) H
 | .un op x=>y7 op (al env x) fun z=>K (put dst z env) H
 | .box x=>(al env x).val=true∧aj (H.length + 1) ((al env x).cells.map AV.ab)=true∧K (put dst (.ptr H.length 0) env) (H++[.cells ((al env x).cells.map AV.ab)])
 | .lL x=>(al env x).val=true∧K (put dst (.ai (al env x)) env) H
 | .ry m x=>(al env x).val=true∧(al env x).cells.length=m∧(al env x).cells.all AV.one=true∧K (put dst (.ai (al env x)) env) H
 | .alloc z=>aj (H.length + 1) (z.cells.map AV.ab)=true∧K (put dst (.ptr H.length 0) env) (H++[.cells (z.cells.map AV.ab)])
 | .build z ps=>cu z.cells (ps.map fun q=>(q.1,q.2.1,al env q.2.2)) fun v=>K (put dst v env) H
 | .buildSlice own esz z len ps=>bi (List.replicate len (aM z)) esz (ps.map fun q=>(q.1,al env q.2)) fun xs=>K (put dst (.ap own xs) env) H
 | .load sz a=>aR sz (al env a) H fun z=>K (put dst z env) H
 | .sK sz esz a=>aR sz (al env a) H fun z=>eR esz z H fun y H'=>K (put dst y env) H'
 | .eC a=>match dst,al env a with
   | some d,.ptr id off=>match H[id]? with
     | some (.cells es)=>off < es.length∧K ((d,es.getD off .any)::env) (H.set id (.cells (es.set off (es.getD off .any).ab)))
     | _=>False
   | _,_=>False
 | .store m a x=>ij m (al env a) (al env x) H fun H'=>K env H'
 | .ns m a x=>match P.lo with | some l=>gJ l m (al env a) (al env x) H fun H'=>K env H' | none=>False
 | .fp a s=>dT (al env a) (get env s) H fun H'=>K ((s,(get env s).ab)::env) H'
 | .nilCheck x=>bQ (al env x) fun z=>K (put dst z env) H
 | .fieldAddr off sz x=>ak off sz (al env x) fun z=>K (put dst z env) H
 | .field off sz x=>eY off sz (al env x) fun z=>K (put dst z env) H
 | .indexAddr esz x i=>(∀ own xs,al env x=.ap own xs→∀ z∈xs,z.cells.length=esz)∧ay esz (al env x) (al env i) fun z=>K (put dst z env) H
 | .dg x i=>bH (al env x) (al env i) fun z=>K (put dst z env) H
 | .dQ n x i=>bP n (al env x) (al env i) fun z=>K (put dst z env) H
 | .ph esz x lo hi mx=>(∀ own xs,al env x=.ap own xs→∀ z∈xs,z.cells.length=esz)∧eJ esz (al env x) (fY env lo) (fY env hi) (fY env mx) fun z=>z=.ap esz []∧K (put dst .oN env) H
 | .slice esz x lo hi mx=>aV esz (al env x) (fY env lo) (fY env hi) (fY env mx) fun z=>K (put dst z env) H
 | .copy esz d s=>jF esz (al env d) (al env s) H fun z H'=>K (put dst z env) H'
 | .dR x lo hi=>ca (al env x) (fY env lo) (fY env hi) fun z=>K (put dst z env) H
 | .len kd x=>aL kd (al env x)∧fq (al env x) H fun z=>K (put dst z env) H
 | .append esz bytes s x=>bp esz bytes (al env s) (al env x) fun zs=>K (put dst (.ap esz zs) (cL env s.slot)) H
 | .sL esz bytes z n=>fX esz bytes z (al env n) H fun v H'=>K (put dst v env) H'
 | .nt esz bytes n=>iW esz bytes (al env n) fun v=>K (put dst v env) H
 | .nu=>K (put dst (.map H.length) env) (H++[.map []])
 | .lookup kd z m k ok=>cr kd z (al env m) (al env k) ok H fun v=>K (put dst v env) H
 | .kA kd m k x=>fx kd (al env m) (al env k) (al env x) H fun H'=>K env H'
 | .fn f first cap=>K (put dst (.fn f (first.map fun x=>(al env x).ab) (cap.map fun x=>(al env x).ab)) env) H
 | .extract x i=>bB (al env x) i fun z=>K (put dst z env) H
 | .call f args pass=>oU P (al env f) args pass env H fun r aB H'=>K (put dst r aB) H'
 | .eN k x=>cA k (al env x) fun z=>K (put dst z env) H
 | .gH x=>fI (al env x) fun z=>K (put dst z env) H
 | .bytesOf x=>fc 1 (al env x) fun z=>K (put dst z env) H
 | .strOf x=>jE (al env x) fun z=>K (put dst z env) H
 | .mx big a b=>wT big (al env a) (al env b) fun z=>K (put dst z env) H
 | .yZ esz x=>eR esz (al env x) H fun z H'=>K (put dst z env) H'
 | .Bc esz z len ps=>bi (List.replicate len (aM z)) esz (ps.map fun q=>(q.1,al env q.2)) fun xs=>pW xs H fun v H'=>K (put dst v env) H'
 | .jj esz bytes z s x=>cD esz bytes z (al env s) (al env x) H fun v H'=>K (put dst v env) H'
 | .nv esz z x=>gK esz z (al env x) H fun H'=>K (put dst (.tuple []) env) H'
 | .never=>False
def cW (P:Program) (e:TypeId):Option (Nat×AV):=
 match dK P e,fH P e with
 | some esz,some z=>if 0 < esz∧z.cells.length=esz∧z.val=true then some (esz,z) else none
 | _,_=>none
def zq (P:Program) (e:TypeId):Option Nat:=(P.info? e).map (·.bytes)
def DQ (z:AV):Bool:=z.cells.all fun y=>match y with | .ap own _=>own == 0 | _=>true
def kj:Option Operand→Option (Option IX)
 | none=>some none
 | some x=>(aQ x).map some
def I2 (x y:Operand):Bool:=match x,y with | .tmp a,.tmp b=>a == b | .const (.int .i64 a),.const (.int .i64 b)=>a == b | _,_=>false
def cv (P:Program) (o:Oper) (fl:Nat):Option bY:=
 match o.op with
 | .move x | .assign x=>(aQ x).map fun i=>.set i (fl == 1)
 | .pick c a b=>match aQ c,aQ a,aQ b with
   | some c,some a,some b=>some (.pick c a b)
   | _,_,_=>none
 | .binOp op t x y _=>match aQ x,aQ y with
   | some i,some j=>match op with
     | .shl | .shr=>some (.shift op i j)
     | .eql | .neq=>match P.underlying t with
       | some .bool=>some (.ic (op matches .neq) i j)
       | some (.int _) | some .string=>some (.bin op i j)
       | some (.slice _)=>match y with | .const (.slice none 0 0)=>some (.jg 0 (op matches .neq) i) | _=>none
       | some (.pointer _)=>match y with | .const (.pointer none)=>some (.jg 1 (op matches .neq) i) | _=>none
       | some (.map _ _)=>match y with | .const (.map none)=>some (.jg 2 (op matches .neq) i) | _=>none
       | some (.func _ _ _)=>match y with | .const .nilFunc=>some (.jg 3 (op matches .neq) i) | _=>none
       | _=>none
     | _=>some (.bin op i j)
   | _,_=>none
 | .unOp op _ x=>(aQ x).map fun i=>.un op i
 | .box _ x=>(aQ x).map fun i=>if fl=1 then .lL i else .box i
 | .alloc e=>match fH P e with
   | some z=>if z.val=true then some (.alloc z) else none
   | none=>none
 | .build t ps=>match DF P t with
   | some (z,places)=>match fw places ps.toList with
     | some qs=>if z.val=true then some (.build z qs) else none
     | none=>none
   | none=>none
 | .buildSlice t len ps=>match P.underlying t with
   | some (.slice e)=>match cW P e,jC ps.toList with
     | some (esz,z),some qs=>if len * esz≤16777216 then some (if fl=2 then .Bc esz z len qs else .buildSlice (if fl=1 then esz else 0) esz z len qs) else none
     | _,_=>none
   | _=>none
 | .load t a=>match It P t,aQ a with
   | some sz,some i=>if fl=1 then (if sz=none then some (.eC i) else none) else if 3000 < fl then some (.sK sz (fl - 3000) i) else some (.load sz i)
   | _,_=>none
 | .store t a x=>match dK P t,aQ a,aQ x with
   | some m,some i,some j=>if fl=1 then (match j with | .t s=>if m=1 then some (.fp i s) else none | _=>none) else if fl=2 then some (.ns m i j) else some (.store m i j)
   | _,_,_=>none
 | .nilCheck x=>(aQ x).map .nilCheck
 | .fieldAddr s x f=>match rB P s f,aQ x with
   | some (off,sz),some i=>some (.fieldAddr off sz i)
   | _,_=>none
 | .field s x f=>match rB P s f,aQ x with
   | some (off,sz),some i=>some (.field off sz i)
   | _,_=>none
 | .indexAddr t x i=>match P.underlying t,aQ x,aQ i with
   | some (.slice e),some j,some k=>(dK P e).map fun esz=>.indexAddr esz j k
   | _,_,_=>none
 | .index t x i=>match P.underlying t,aQ x,aQ i with
   | some .string,some j,some k=>some (.dg j k)
   | some (.array n e),some j,some k=>if It P e=some none then some (.dQ n j k) else none
   | _,_,_=>none
 | .slice t x lo hi mx=>match P.underlying t,aQ x,kj lo,kj hi,kj mx with
   | some (.slice e),some i,some l,some h,some m=>match dK P e with
     | some esz=>if 0 < esz then some (if fl=4 then .ph esz i l h m else .slice esz i l h m) else none
     | none=>none
   | some .string,some i,some l,some h,some none=>some (.dR i l h)
   | _,_,_,_,_=>none
 | .makeSlice t l c=>match P.underlying t,aQ c with
   | some (.slice e),some k=>match cW P e,zq P e with
     | some (esz,z),some bytes=>if 0 < bytes∧DQ z=true then (match l with
        | .const (.int .i64 0)=>some (.nt esz bytes k)
        | _=>if I2 l c=true then some (.sL esz bytes z k) else none) else none
     | _,_=>none
   | _,_=>none
 | .makeMap _ none=>some .nu
 | .lookup t m k ok=>match P.underlying t,aQ m,aQ k with
   | some (.map kt et),some i,some j=>match og P kt,fH P et with
     | some kd,some z=>some (.lookup kd z i j ok)
     | _,_=>none
   | _,_,_=>none
 | .mapUpdate t m k x=>match P.underlying t,aQ m,aQ k,aQ x with
   | some (.map kt _),some i,some j,some y=>(og P kt).map fun kd=>.kA kd i j y
   | _,_,_,_=>none
 | .makeFunc f first cap=>match fE first.toList,fE cap.toList with
   | some i,some j=>some (.fn f i j)
   | _,_=>none
 | .extract x i=>(aQ x).map fun j=>.extract j i
 | .convert src dst x=>match P.underlying src,P.underlying dst,aQ x with
   | some (.int _),some (.int k),some i=>some (.eN k i)
   | some .string,some .string,some i=>some (.gH i)
   | some .string,some (.slice e),some i=>match P.underlying e with
     | some (.int .u8)=>some (.bytesOf i)
     | _=>none
   | some (.slice e),some .string,some i=>match P.underlying e with
     | some (.int .u8)=>some (.strOf i)
     | _=>none
   | _,_,_=>none
 | .call c=>match c.callee with
   | .value f=>match aQ f,fE c.args.toList with
     | some i,some js=>some (.call i js (if fl=0 then none else some (fl - 1)))
     | _,_=>none
   | .builtin .len=>match c.args.toList,c.argTypes.toList with
     | [x],[t]=>match P.underlying t,aQ x with
       | some .string,some i=>some (.len 0 i)
       | some (.slice _),some i=>some (.len 1 i)
       | some (.map _ _),some i=>some (.len 2 i)
       | _,_=>none
     | _,_=>none
   | .builtin .append=>match c.args.toList,c.argTypes.toList with
     | [s,x],[t,t']=>if t=t' then (match P.underlying t,aQ s,aQ x with
        | some (.slice e),some i,some j=>match cW P e,zq P e with
          | some (esz,z),some bytes=>if 0 < bytes then (if fl=2 then (if DQ z=true then some (.jj esz bytes z i j) else none) else some (.append esz bytes i j)) else none
          | _,_=>none
        | _,_,_=>none) else none
     | _,_=>none
   | .builtin .max=>match c.args.toList with
     | [x,y]=>match aQ x,aQ y with
       | some i,some j=>some (.mx true i j)
       | _,_=>none
     | _=>none
   | .builtin .min=>match c.args.toList with
     | [x,y]=>match aQ x,aQ y with
       | some i,some j=>some (.mx false i j)
       | _,_=>none
     | _=>none
   | _=>none
 | _=>none
def pX (P:Program) (o:Oper):bY:=
 match o.op with
 | .call c=>match c.callee with
   | .builtin .copy=>match c.args.toList,c.argTypes.toList with
     | [s,x],[t,_]=>match P.underlying t,aQ s,aQ x with
        | some (.slice e),some i,some j=>match dK P e with
          | some esz=>.copy esz i j
          | none=>.never
        | _,_,_=>.never
     | _,_=>.never
   | .builtin .clear=>match c.args.toList,c.argTypes.toList with
     | [s],[t]=>match P.underlying t,aQ s with
        | some (.slice e),some i=>match cW P e with
          | some (esz,z)=>.nv esz z i
          | none=>.never
        | _,_=>.never
     | _,_=>.never
   | _=>.never
 | _=>.never
def nE (P:Program) (o:Oper):bY:=
 match o.op with
 | .move x | .assign x=>match aQ x,P.underlying o.type with
   | some i,some (.slice e)=>match dK P e with
     | some esz=>.yZ esz i
     | none=>.never
   | _,_=>.never
 | _=>.never
def kV (esz:Nat) (o:Oper):bY:=
 match o.op with
 | .move x | .assign x=>match aQ x with
   | some i=>.yZ esz i
   | none=>.never
 | _=>.never
def Mg (o:Oper):Bool:=match o.op with | .load _ _=>false | _=>true
def Bv (P:Program) (o:Oper) (fl:Nat):bY:=if fl=3000 then nE P o else if 3000 < fl∧Mg o=true then kV (fl - 3000) o else (cv P o fl).getD (pX P o)
end Go.aH
end
section
namespace Go.aH
open Go
section
variable {ro:Option Nat} {P:Program} {lo:Option Nat} {A:Perm} {n:Nat} {M:Mem} {L:List Nat} {w:World} {H:List aa} {env:Env} {O:Pos→Option Nat} {a:Act} {Q:Exit→Act→World→Prop} {K:Env→List aa→Prop}
theorem bK {o:Oper} (hf:Fr A n M L w H env O a) (hd:∀ d,o.dst=some d→d < n)
 (h:∃ r z,(execOp a.eval o).run P w=.ok (.value r) w∧aS M L r z∧K (put o.dst z env) H∧∀ own xs,z=.ap own xs→own=0):o.wpIn (wf ro) 0 P a w (nj A n M L w K) Q:=by
 obtain ⟨r,z,h1,h2,h3,h4⟩:=h
 exact wp_pure hf hd h1 h2 h4 h3
theorem aW {s:Sem Value} {r:Value} {w':World} (h:s.run P w=.ok r w'):(do pure (Next.value (← s)):Sem Next).run P w=.ok (.value r) w':=by
 simp only [Sem.run_bind,h,Result.andThen_ok,Sem.run_pure]
theorem pY {s:Sem Unit} {w':World} (h:s.run P w=.ok () w'):(do s;pure Next.skip:Sem Next).run P w=.ok .skip w':=by
 simp only [Sem.run_bind,h,Result.andThen_ok,Sem.run_pure]
theorem oh {o:Oper} (hf:Fr A n M L w H env O a) (hd:∀ d,o.dst=some d→d < n) {r:Value} {z:AV} {w':World} {M':Mem} {L':List Nat} {H':List aa} (bE:(execOp a.eval o).run P w=.ok (.value r) w')
 (hr:aS M' L' r z) (hz:∀ own xs,z=.ap own xs→own=0) (bO:St A M' L' w' H' (fun t=>a.tmps.getD t undef) (get env) O) (cB:Ext A M w M' w') (hL:L <+: L') (hK:K (put o.dst z env) H'):o.wpIn (wf ro) 0 P a w (nj A n M L w K) Q:=by
 obtain ⟨O',pn⟩:=(hf.mono bO cB).oO hd hr hz
 exact dh bE ⟨M',L',H',_,O',hK,pn,cB,hL⟩
theorem uS {o:Oper} {aB:Env} {O':Pos→Option Nat} (hf:Fr A n M L w H env O a) (hd:∀ d,o.dst=some d→d < n) {r:Value} {z:AV} {w':World} {M':Mem} {ob:Option Nat} (bE:(execOp a.eval o).run P w=.ok (.value r) w')
 (hr:aS M' L r z) (Is:bf M' w' r z ob) (bO:St A M' L w' H (fun t=>a.tmps.getD t undef) (get aB) O') (cB:Ext A M w M' w') (h1:∀ q b,ob=some b→O' q≠some b) (h2:∀ b,ob=some b→b∉L∧b < w'.heap.size∧A b) (hK:K (put o.dst z aB) H):o.wpIn (wf ro) 0 P a w (nj A n M L w K) Q:=by
 have pn:Fr A n M' L w' H aB O' a:=⟨bO,hf.size,hf.defers.ext cB⟩
 refine dh bE ?_
 cases fZ:o.dst with
 | none=>rw [fZ] at hK;exact ⟨M',L,H,_,O',hK,pn,cB,List.prefix_refl L⟩
 | some d=>
   rw [fZ] at hK
   exact ⟨M',L,H,_,_,hK,pn.DB (hd d fZ) hr ob Is (fun q b hb hq=>absurd hq (h1 q b hb)) h2,cB,List.prefix_refl L⟩
theorem xO {o:Oper} {x:Operand} (ho:o.op=.move x∨o.op=.assign x) {i:IX} (hc:aQ x=some i) {take:Bool} (hf:Fr A n M L w H env O a) (hd:∀ d,o.dst=some d→d < n)
 (h:bo ⟨P,lo⟩ (.set i take) o.dst env H K):o.wpIn (wf ro) 0 P a w (nj A n M L w K) Q:=by
 have bE:(execOp a.eval o).run P w=.ok (.value (a.eval x)) w:=by
  rcases ho with ho | ho <;> simp [execOp,ho]
 have hr:=hf.eval hc
 simp only [bo] at h
 cases fZ:o.dst with
 | none=>
   rw [fZ] at h
   refine dh bE ⟨M,L,H,env,O,h,?_,Ext.refl A M w,List.prefix_refl L⟩
   rw [fZ];exact hf
 | some d=>
   rw [fZ] at h
   have Uq:=hd d fZ
   have h:K (tL env d i take) H:=h
   unfold tL at h
   split at h
   ·rename_i s _
    -- the list moves
    cases x with
    | tmp t=>
      have hts:t=s:=by simpa [aQ] using hc
      subst hts
      have nC:=hf.st.oO t (v:=a.tmps.getD t undef) (x:=(get env t).ab) (hf.st.env t).ab (AV.bI _)
      have Ud:fz (fun t=>a.tmps.getD t undef) t (a.tmps.getD t undef)=fun t=>a.tmps.getD t undef:=by funext t';simp only [fz];split;rename_i e0;rw [e0];rfl
      rw [Ud] at nC
      have Fp:Fr A n M L w H ((t,(get env t).ab)::env) (eo O (.t t) none) a:=⟨nC,hf.size,hf.defers⟩
      have sU:=Fp.DB Uq (v:=a.tmps.getD t undef) (x:=get env t) (hf.st.env t) (O (.t t)) (hf.st.gX t) (fun p b hb hp=>by
       simp only [eo] at hp
       split at hp
       ·cases hp
       ·rename_i n';exact absurd (hf.st.b7 _ _ b hp hb) n') (fun b hb=>⟨hf.st.ct _ b hb,hf.st.fj _ b hb,hf.st.Oa _ b hb⟩)
      rw [← fZ] at sU
      exact dh bE ⟨M,L,H,_,_,h,sU,Ext.refl A M w,List.prefix_refl L⟩
    | const v=>simp only [aQ] at hc;obtain ⟨y,_,hy⟩:=Option.map_eq_some_iff.1 hc;cases hy
    | func f=>simp [aQ] at hc
    | global g=>simp [aQ] at hc
   ·have sU:=hf.DB Uq hr.ab none (bf.free (AV.bI _)) (fun p b e=>by cases e) (fun b e=>by cases e)
    rw [← fZ] at sU
    exact dh bE ⟨M,L,H,_,_,h,sU,Ext.refl A M w,List.prefix_refl L⟩
theorem uT {o:Oper} {t:TypeId} {x:Operand} (ho:o.op=.load t x) (ht:It P t=some none) {i:IX} (hc:aQ x=some i) (hf:Fr A n M L w H env O a) (hd:∀ d,o.dst=some d→d < n)
 (h:bo ⟨P,lo⟩ (.eC i) o.dst env H K):o.wpIn (wf ro) 0 P a w (nj A n M L w K) Q:=by
 have hr:=hf.eval hc
 simp only [bo] at h
 split at h <;> try exact h.elim
 rename_i d id off fZ hx
 split at h <;> try exact h.elim
 rename_i es bk
 obtain ⟨mW,hK⟩:=h
 rw [hx] at hr
 generalize hu:a.eval x=u at hr
 cases hr with
 | ptr b _ _ hl=>
 obtain ⟨cs,e,h1,h2,h3⟩:=ft hf.st bk hl
 have hlen:=h2.length
 obtain ⟨r1,r2⟩:=eD (w:=w) (m:=0) ht
 have za:off < cs.toList.length:=by omega
 have hcell:=h3 off cs.toList[off] (by simp)
 have fF:=h2.getD off
 have e0:cs.toList.getD off undef=cs.toList[off]:=by rw [List.getD_eq_getElem?_getD,List.getElem?_eq_getElem za];rfl
 rw [e0] at fF
 have bE:(execOp a.eval o).run P w=.ok (.value cs.toList[off]) w:=by
  simp only [execOp,ho,hu]
  exact aW (by simp only [Instr.loadAt,Instr.sureAddr,loadVar,Sem.run_bind,Sem.run_pure,Result.andThen_ok,r1,Bool.false_eq_true,if_false,run_load,hcell])
 have bO:=hf.st.GC bk hl mW
 have Fp:Fr A n M L w (H.set id (.cells (es.set off (es.getD off .any).ab))) env (eo O (.c id off) none) a:=⟨bO,hf.size,hf.defers⟩
 have Is:bf M w cs.toList[off] (es.getD off .any) (O (.c id off)):=by
  have h0:=hf.st.gT id off
  have e3:bJ L w id off=cs.toList[off]:=by unfold bJ;simp only [hl,hcell];rfl
  have e4:bn H id off=es.getD off .any:=by unfold bn;simp [bk]
  rwa [e3,e4] at h0
 have sU:=Fp.DB (hd d fZ) fF (O (.c id off)) Is (fun p b hb hp=>by
  simp only [eo] at hp
  split at hp
  ·cases hp
  ·rename_i n';exact absurd (hf.st.b7 _ _ b hp hb) n') (fun b hb=>⟨hf.st.ct _ b hb,hf.st.fj _ b hb,hf.st.Oa _ b hb⟩)
 rw [← fZ] at sU
 exact dh bE ⟨M,L,_,_,_,hK,sU,Ext.refl A M w,List.prefix_refl L⟩
theorem w8 {o:Oper} {t:TypeId} {x y:Operand} (ho:o.op=.store t x y) (ht:dK P t=some 1) {i:IX} {s:Nat} (hc:aQ x=some i) (hy:aQ y=some (.t s)) (hf:Fr A n M L w H env O a)
 (fZ:o.dst=none) (h:bo ⟨P,lo⟩ (.fp i s) o.dst env H K):o.wpIn (wf ro) 0 P a w (nj A n M L w K) Q:=by
 have hr:=hf.eval hc
 simp only [bo] at h
 have pQ:y=.tmp s:=by
  cases y with
  | tmp t=>simp [aQ] at hy;rw [hy]
  | const v=>simp only [aQ] at hy;obtain ⟨z,_,hz⟩:=Option.map_eq_some_iff.1 hy;cases hz
  | func f=>simp [aQ] at hy
  | global g=>simp [aQ] at hy
 subst pQ
 obtain ⟨w',H',O',h1,h2,h3,h4⟩:=zc (P:=P) hf.st ht h hr s rfl rfl
 have bE:(execOp a.eval o).run P w=.ok .skip w':=by
  simp only [execOp,ho]
  exact pY h1
 have sU:Fr A n M L w' H' ((s,(get env s).ab)::env) O' (a.put o.dst undef):=by
  rw [fZ];exact ⟨h3,hf.size,hf.defers.ext h4⟩
 exact lM bE ⟨M,L,H',_,O',h2,sU,h4,List.prefix_refl L⟩
theorem zr {o:Oper} {t e:TypeId} {s x:Operand} (ho:o.op=.call { callee:=.builtin .append,args:=#[s,x],argTypes:=#[t,t] }) (ht:P.underlying t=some (.slice e)) {esz bytes:Nat} {z:AV} (hz:cW P e=some (esz,z)) (hb:zq P e=some bytes) (uL:0 < bytes)
 {i j:IX} (hi:aQ s=some i) (hj:aQ x=some j) (hf:Fr A n M L w H env O a) (hd:∀ d,o.dst=some d→d < n)
 (h:bo ⟨P,lo⟩ (.append esz bytes i j) o.dst env H K):o.wpIn (wf ro) 0 P a w (nj A n M L w K) Q:=by
 simp only [bo] at h
 have w9:=hf.eval hi
 have YM:=hf.eval hj
 unfold cW at hz
 split at hz <;> try cases hz
 rename_i esz' z' Pa oP
 split at hz <;> cases hz
 rename_i hcond
 obtain ⟨h0,iV,sO⟩:=hcond
 obtain ⟨inf,iT,df⟩:=Option.map_eq_some_iff.1 Pa
 obtain ⟨inf',sV,xH⟩:=Option.map_eq_some_iff.1 hb
 rw [iT] at sV;cases sV
 unfold fH at oP
 simp only [iT] at oP
 split at oP <;> try cases oP
 rename_i zv uJ
 have tX:zv.cells.size=esz:=by have:=((cI (M:=M) (L:=L) oP).fV sO).length;rw [iV] at this;simpa using this
 have L7:match i.slot with | some d=>(fun t=>a.tmps.getD t undef) d=a.eval s∧get env d=al env i | none=>al env i=.ah:=by
  cases s with
  | tmp t=>simp [aQ] at hi;subst hi;exact ⟨rfl,rfl⟩
  | const v=>
    simp only [aQ] at hi
    obtain ⟨y,hy,rfl⟩:=Option.map_eq_some_iff.1 hi
    simp only [IX.slot,al]
    have h2:=h
    simp only [al,bp] at h2
    split at h2 <;> try exact h2.elim
    rename_i ej _
    unfold mO at ej
    split at ej
    ·rfl
    ·-- a constant is never an owned list
     exfalso
     unfold ofValue at hy
     split at hy
     ·obtain ⟨_,_,hq⟩:=Option.map_eq_some_iff.1 hy;cases hq
     ·unfold Ua at hy;split at hy <;> cases hy
    ·cases ej
  | func f=>
    simp [aQ] at hi;subst hi
    simp only [al,bp,mO] at h
  | global g=>simp [aQ] at hi
 obtain ⟨r,w',M',O',ob,zs,g1,g2,g3,g4,g5,g6,g7,g8⟩:=Bl (P:=P) (ty:=o.type) hf.st ht iT uJ df xH tX h0 uL h i.slot w9 L7 YM
 have bE:(execOp a.eval o).run P w=.ok (.value r) w':=by
  simp only [execOp,ho,resolve,invoke,builtin,Sem.run_bind,Sem.run_pure,Result.andThen_ok,List.map_toArray,List.map_cons,List.map_nil,g1]
 have DA:kC (get env) i.slot=get (cL env i.slot):=by
  cases i.slot with
  | none=>rfl
  | some d=>rfl
 rw [DA] at g5
 exact uS hf hd bE g3 g4 g5 g6 g7 g8 g2
theorem xa {o:Oper} {t e:TypeId} {s x:Operand} (ho:o.op=.call { callee:=.builtin .append,args:=#[s,x],argTypes:=#[t,t] }) (ht:P.underlying t=some (.slice e)) {esz bytes:Nat} {z:AV} (hz:cW P e=some (esz,z)) (hb:zq P e=some bytes) (uL:0 < bytes) (I3:DQ z=true)
 {i j:IX} (hi:aQ s=some i) (hj:aQ x=some j) (hf:Fr A n M L w H env O a) (hd:∀ d,o.dst=some d→d < n)
 (h:bo ⟨P,lo⟩ (.jj esz bytes z i j) o.dst env H K):o.wpIn (wf ro) 0 P a w (nj A n M L w K) Q:=by
 simp only [bo] at h
 have w9:=hf.eval hi
 have YM:=hf.eval hj
 unfold cW at hz
 split at hz <;> try cases hz
 rename_i esz' z' Pa oP
 split at hz <;> cases hz
 rename_i hcond
 obtain ⟨h0,iV,sO⟩:=hcond
 obtain ⟨inf,iT,df⟩:=Option.map_eq_some_iff.1 Pa
 obtain ⟨inf',sV,xH⟩:=Option.map_eq_some_iff.1 hb
 rw [iT] at sV;cases sV
 unfold fH at oP
 simp only [iT] at oP
 split at oP <;> try cases oP
 rename_i zv uJ
 have IW:∀ y∈z.cells,∀ own xs,y=.ap own xs→own=0:=by
  intro y hy own xs e
  have:=List.all_eq_true.1 I3 y hy
  subst e
  simpa using this
 obtain ⟨r,y,L',w',H',O',g1,g2,g3,g4,g5,g6,g7⟩:=zp (P:=P) (ty:=o.type) hf.st ht iT uJ df xH h0 uL oP sO iV IW h w9 YM
 have bE:(execOp a.eval o).run P w=.ok (.value r) w':=by
  simp only [execOp,ho,resolve,invoke,builtin,Sem.run_bind,Sem.run_pure,Result.andThen_ok,List.map_toArray,List.map_cons,List.map_nil,g1]
 have Fp:Fr A n M L' w' H' env O' a:=⟨g5,hf.size,hf.defers.ext g6⟩
 obtain ⟨O'',pn⟩:=Fp.oO hd g2 g3
 exact dh bE ⟨M,L',H',_,O'',g4,pn,g6,g7⟩
theorem Fq:∀ {xs ys:List AV},w7 xs ys→xs.length=ys.length∧∀ t,(xs.getD t .any).le (ys.getD t .any)
 | [],[],_=>⟨rfl,fun t=>.inl rfl⟩
 | [],_::_,h=>h.elim
 | _::_,[],h=>h.elim
 | x::xs,y::ys,h=>by
   obtain ⟨h1,h2⟩:=h
   obtain ⟨i1,i2⟩:=Fq h2
   refine ⟨by simp [i1],fun t=>?_⟩
   cases t with
   | zero=>simpa using h1
   | succ t=>simpa using i2 t
theorem dF (env:Env) (pass:Option Nat):∀ (j:Nat) (xs:List IX),(aD env pass j xs).length=xs.length
 | _,[]=>rfl
 | j,.t s::xs=>by simp [aD,dF env pass (j + 1) xs]
 | j,.c v::xs=>by simp [aD,dF env pass (j + 1) xs]
theorem jl (hf:Fr A n M L w H env O a) (pass:Option Nat):∀ {xs:List Operand} {is:List IX} (j:Nat),fE xs=some is→aG M L (xs.map a.eval) (aD env pass j is)
 | [],is,j,hc=>by simp [fE] at hc;subst hc;exact .nil
 | x::xs,is,j,hc=>by
   unfold fE at hc
   split at hc
   ·rename_i i is' h1 h2
    cases hc
    have hr:=hf.eval h1
    cases i with
    | t s=>
      refine .cons _ _ _ _ ?_ (jl hf pass (j + 1) h2)
      split
      ·exact hr
      ·exact hr.ab
    | c v=>exact .cons _ _ _ _ hr.ab (jl hf pass (j + 1) h2)
   ·cases hc
def dz (A:Perm) (loose:Bool) (H:List aa) (L:List Nat) (O:Pos→Option Nat) (w:World):Perm where
 wr:=fun b=>b∈L∨(∃ p,O p=some b)∨w.heap.size≤b
 top:=fun id=>if id < H.length then some (A.jo H.length id) else if loose=true then none else some (id + 1)
 ok:=by
  intro id n h
  split at h
  ·rename_i h1
   cases h
   have:=A.lJ h1
   omega
  ·split at h
   ·cases h
   ·cases h;omega
theorem kG (A:Perm) (loose:Bool) (H:List aa) (L:List Nat) (O:Pos→Option Nat) (w:World):(dz A loose H L O w).entry loose H.length:=
 ⟨fun id h=>⟨A.jo H.length id,A.uC _ _,by simp only [dz,if_pos h]⟩,fun id h=>by simp only [dz];rw [if_neg (by omega)]⟩
theorem sW (A:Perm) (loose:Bool) (H:List aa) (L:List Nat) (O:Pos→Option Nat) (w:World) {id:Nat} (h:id < H.length) (len:Nat):(dz A loose H L O w).jo len id=min (A.jo H.length id) len:=by
 unfold Perm.jo
 simp only [dz,if_pos h]
 rfl
theorem St.narrow {ev:Nat→Value} {ea:Nat→AV} (loose:Bool) (h:St A M L w H ev ea O):St (dz A loose H L O w) M L w H ev ea O:=
 { len:=h.len,nodup:=h.nodup,env:=h.env,mem:=h.mem,obj:=h.obj,lt:=h.lt,gX:=h.gX,gT:=h.gT,b7:=h.b7,ct:=h.ct,fj:=h.fj,
   bA:=fun id o ho=>by
    rw [sW A loose H L O w (aK ho),Nat.min_eq_left (A.uC _ _)]
    exact h.bA id o ho
   La:=fun b hb=>.inl hb,Oa:=fun p b hp=>.inr (.inl ⟨p,hp⟩),fresh:=fun b hb=>.inr (.inr hb) }
theorem St.pZ {ev:Nat→Value} {ea:Nat→AV} (h:St A M L w H ev ea O) (ev':Nat→Value) (ea':Nat→AV) (hr:∀ t,aS M L (ev' t) (ea' t)) (hx:∀ t own xs,ea' t=.ap own xs→own=0) :
 St A M L w H ev' ea' (fun p=>match p with | .t _=>none | .c id j=>O (.c id j)):=by
 have hO:∀ (p:Pos) (b:Nat),(match p with | .t _=>none | .c id j=>O (.c id j))=some b→O p=some b:=by
  intro p b hp
  cases p with
  | t t=>cases hp
  | c id j=>exact hp
 exact { len:=h.len,nodup:=h.nodup,env:=hr,mem:=h.mem,obj:=h.obj,bA:=h.bA,lt:=h.lt,gX:=fun t=>bf.free (hx t),gT:=h.gT,b7:=fun p q b hp hq=>h.b7 p q b (hO p b hp) (hO q b hq),
         ct:=fun p b hp=>h.ct p b (hO p b hp),fj:=fun p b hp=>h.fj p b (hO p b hp),La:=h.La,Oa:=fun p b hp=>h.Oa p b (hO p b hp),fresh:=h.fresh }
theorem St.GL {ev:Nat→Value} {ea:Nat→AV} (h:St A M L w H ev ea O) {Oc:Pos→Option Nat} (pt:Option Nat) (loose:Bool) (uK:loose=true→∀ id,H.length≤id→A.top id=none) (X6:∀ b,(∃ p,Oc p=some b)→(∃ id j,O (.c id j)=some b)∨∃ s,pt=some s∧O (.t s)=some b)
 {M':Mem} {L':List Nat} {w':World} {H':List aa} {v:Value} {r:AV} {O':Pos→Option Nat}
 (h':St (dz A loose H L Oc w) M' L' w' H' (fz (fun _=>undef) 0 v) (fz (fun _=>.any) 0 r) O') (cB:Ext (dz A loose H L Oc w) M w M' w') (hL:L <+: L') :
 ∃ O'',St A M' L' w' H' ev (kC ea pt) O''∧Ext A M w M' w'∧aS M' L' v r∧bf M' w' v r (O' (.t 0))∧(∀ q b,O' (.t 0)=some b→O'' q≠some b)∧(∀ b,O' (.t 0)=some b→b∉L'∧b < w'.heap.size∧A b):=by
 have hlen:H.length≤H'.length:=by
  have:=hL.length_le
  rw [h.len,h'.len] at this
  exact this
 have X7:∀ b,dz A loose H L Oc w b→A b:=by
  rintro b (hb | hb | hb)
  ·exact h.La b hb
  ·rcases X6 b hb with ⟨id,j,hq⟩ | ⟨s,_,hq⟩
   ·exact h.Oa _ b hq
   ·exact h.Oa _ b hq
  ·exact h.fresh b hb
 let O'':Pos→Option Nat:=fun p=>match p with
  | .t i=>if pt=some i then none else O (.t i)
  | .c id j=>O' (.c id j)
 -- what the caller keeps is not the callee's to write
 have kz:∀ i b,pt≠some i→O (.t i)=some b→¬ dz A loose H L Oc w b:=by
  rintro i b hi hb (hc | hc | hc)
  ·exact h.ct _ b hb hc
  ·rcases X6 b hc with ⟨id,j,hq⟩ | ⟨s,hs,hq⟩
   ·have:=h.b7 _ _ b hb hq;cases this
   ·have:=h.b7 _ _ b hb hq;cases this;exact hi hs
  ·have:=h.fj _ b hb;omega
 have GM:∀ i b,O'' (.t i)=some b→pt≠some i∧O (.t i)=some b:=by
  intro i b hb
  simp only [O''] at hb
  split at hb
  ·cases hb
  ·rename_i hi;exact ⟨hi,hb⟩
 have QC:∀ i b p,O'' (.t i)=some b→O' p≠some b:=by
  intro i b p hb hp
  obtain ⟨h1,h2⟩:=GM i b hb
  exact kz i b h1 h2 (h'.Oa p b hp)
 refine ⟨O'',{ len:=h'.len,nodup:=h'.nodup,env:=?_,mem:=h'.mem,obj:=h'.obj,bA:=?_,lt:=h'.lt,gX:=?_,gT:=h'.gT,b7:=?_,ct:=?_,fj:=?_,La:=fun b hb=>X7 b (h'.La b hb),Oa:=?_,fresh:=fun b hb=>h.fresh b (Nat.le_trans cB.size hb) },?_,?_,?_,?_,?_⟩
 ·intro t
  have:=(h.env t).mono cB.kR hL
  cases pt with
  | none=>exact this
  | some d=>
    simp only [kC,fz]
    split
    ·rename_i e0;subst e0;exact this.ab
    ·exact this
 ·intro id o ho
  have h1:=h'.bA id o ho
  have hl:=aK ho
  by_cases e:id < H.length
  ·rw [sW A loose H L Oc w e] at h1
   exact aa.cN (Nat.le_trans (Nat.min_le_left _ _) (A.Ba hlen id)) o h1
  ·by_cases hx:loose=true
   ·have e1:A.jo H'.length id=H'.length:=by unfold Perm.jo;rw [uK hx id (by omega)]
    rw [e1]
    exact aa.cN (Perm.uC _ _ _) o h1
   ·have e1:(dz A loose H L Oc w).jo H'.length id=min (id + 1) H'.length:=by
     unfold Perm.jo
     simp only [dz,if_neg e,if_neg hx]
    rw [e1] at h1
    exact aa.cN (Nat.le_trans (Nat.min_le_left _ _) (A.lJ hl)) o h1
 ·intro t
  have h1:=h.gX t
  cases pt with
  | none=>
    exact h1.mono fun b hb=>cB.kz b (h.fj _ b hb) (kz t b (by simp) hb)
  | some d=>
    simp only [kC,fz,O'']
    by_cases e0:t=d
    ·subst e0
     simp only [if_true]
     exact bf.free (AV.bI _)
    ·have:¬ (some d=some t):=fun e=>e0 (by cases e;rfl)
     simp only [e0,this,if_false]
     exact h1.mono fun b hb=>cB.kz b (h.fj _ b hb) (kz t b this hb)
 ·intro p q b hp hq
  cases p with
  | t i=>
    cases q with
    | t j=>exact h.b7 _ _ b (GM i b hp).2 (GM j b hq).2
    | c id j=>exact absurd hq (QC i b _ hp)
  | c id j=>
    cases q with
    | t i=>exact absurd hp (QC i b _ hq)
    | c id' j'=>exact h'.b7 _ _ b hp hq
 ·intro p b hp hm
  cases p with
  | t i=>exact kz i b (GM i b hp).1 (GM i b hp).2 (h'.La b hm)
  | c id j=>exact h'.ct _ b hp hm
 ·intro p b hp
  cases p with
  | t i=>exact Nat.lt_of_lt_of_le (h.fj _ b (GM i b hp).2) cB.size
  | c id j=>exact h'.fj _ b hp
 ·intro p b hp
  cases p with
  | t i=>exact h.Oa _ b (GM i b hp).2
  | c id j=>exact X7 b (h'.Oa _ b hp)
 ·exact ⟨cB.kR,cB.size,cB.os,cB.tape,cB.output,fun b hb hA=>cB.kz b hb (fun hc=>hA (X7 b hc)),cB.loops⟩
 ·simpa [fz] using h'.env 0
 ·simpa [fz] using h'.gX 0
 ·intro q b hb hq
  cases q with
  | t i=>exact QC i b _ hq hb
  | c id j=>have:=h'.b7 _ _ b hb hq;cases this
 ·intro b hb
  exact ⟨h'.ct _ b hb,h'.fj _ b hb,X7 b (h'.Oa _ b hb)⟩
theorem fJ (env:Env):∀ (xs:List IX) (j t:Nat),(aD env none j xs).getD t .any=(match xs[t]? with | some x=>(al env x).ab | none=>.any)
 | [],j,t=>by simp [aD]
 | .t s::xs,j,0=>by simp [aD,al]
 | .c v::xs,j,0=>by simp [aD,al]
 | .t s::xs,j,t + 1=>by
   simp only [aD,List.getD_cons_succ,List.getElem?_cons_succ]
   exact fJ env xs (j + 1) t
 | .c v::xs,j,t + 1=>by
   simp only [aD,List.getD_cons_succ,List.getElem?_cons_succ]
   exact fJ env xs (j + 1) t
theorem fK (env:Env) (k:Nat):∀ (xs:List IX) (j t:Nat),(aD env (some k) j xs).getD t .any=(match xs[t]? with | some (.t s)=>if k=j + t then get env s else (get env s).ab | some (.c v)=>v.ab | none=>.any)
 | [],j,t=>by simp [aD]
 | .t s::xs,j,0=>by simp [aD]
 | .c v::xs,j,0=>by simp [aD]
 | .t s::xs,j,t + 1=>by
   simp only [aD,List.getD_cons_succ,List.getElem?_cons_succ]
   rw [fK env k xs (j + 1) t,show j + 1 + t=j + (t + 1) by omega]
 | .c v::xs,j,t + 1=>by
   simp only [aD,List.getD_cons_succ,List.getElem?_cons_succ]
   rw [fK env k xs (j + 1) t,show j + 1 + t=j + (t + 1) by omega]
theorem qc (vs:List Value) (t:Nat):vs.toArray.getD t undef=vs.getD t undef:=by
 simp [List.getD_eq_getElem?_getD]
theorem kW (xs ys zs:List AV) (t:Nat):(xs++ys++zs).getD t .any=if t < xs.length then xs.getD t .any else if t < xs.length + ys.length then ys.getD (t - xs.length) .any else zs.getD (t - xs.length - ys.length) .any:=by
 simp only [List.getD_eq_getElem?_getD,List.getElem?_append,List.length_append]
 by_cases h1:t < xs.length
 ·rw [if_pos (by omega),if_pos h1,if_pos h1]
 ·by_cases h2:t < xs.length + ys.length
  ·rw [if_pos h2,if_neg h1,if_neg h1,if_pos h2]
  ·rw [if_neg h2,if_neg h1,if_neg h2,Nat.sub_sub]
theorem rG {o:Oper} {xs:List Operand} {js:List IX} (TP:fE xs=some js) {pass:Option Nat} {fs cs:List Value} {first cap:List AV} (zt:aG M L fs first) (rE:aG M L cs cap) {bN:List AV}
 (hle:w7 (first.map AV.ab++aD env pass 0 js++cap.map AV.ab) bN) (hf:Fr A n M L w H env O a) (hd:∀ d,o.dst=some d→d < n) {loose:Bool} (uK:loose=true→∀ id,H.length≤id→A.top id=none) :
 ∃ Oc,(fs++xs.map a.eval++cs).length=bN.length∧St (dz A loose H L Oc w) M L w H (fun t=>(fs++xs.map a.eval++cs).toArray.getD t undef) (fun t=>bN.getD t .any) Oc∧
  ∀ (v:Value) (r:AV) (H':List aa) (M':Mem) (L':List Nat) (O':Pos→Option Nat) (w':World),K (put o.dst r (cL env (bg js pass))) H'→St (dz A loose H L Oc w) M' L' w' H' (fz (fun _=>undef) 0 v) (fz (fun _=>.any) 0 r) O'→Ext (dz A loose H L Oc w) M w M' w'→L <+: L'→
   nj A n M L w K (a.put o.dst v) w':=by
 have hrb:=jl hf pass 0 TP
 have YN:=jl hf none 0 TP
 obtain ⟨hlen,YO⟩:=Fq hle
 obtain ⟨vs,wX⟩:∃ vs:List Value,vs=fs++xs.map a.eval++cs:=⟨_,rfl⟩
 have hrv:aG M L vs (first.map AV.ab++aD env pass 0 js++cap.map AV.ab):=by rw [wX];exact (zt.dc.append hrb).append rE.dc
 have YP:aG M L vs (first.map AV.ab++aD env none 0 js++cap.map AV.ab):=by rw [wX];exact (zt.dc.append YN).append rE.dc
 have pP:vs.length=bN.length:=by rw [hrv.length];exact hlen
 -- the callee's state
 have YQ:∃ Oc,St A M L w H (fun t=>vs.toArray.getD t undef) (fun t=>bN.getD t .any) Oc∧(∀ b,(∃ p,Oc p=some b)→(∃ id j,O (.c id j)=some b)∨∃ s,bg js pass=some s∧O (.t s)=some b):=by
  have hfree:∀ t own zs,(first.map AV.ab++aD env none 0 js++cap.map AV.ab).getD t .any=.ap own zs→own=0:=by
   intro t own zs he
   have hm:∀ (l:List AV) q,(l.map AV.ab).getD q .any=.ap own zs→own=0:=by
    intro l q hq
    rw [List.getD_eq_getElem?_getD,List.getElem?_map] at hq
    cases hx:l[q]? with
    | none=>simp [hx] at hq
    | some y=>simp [hx] at hq;exact AV.bI y own zs hq
   rw [kW] at he
   split at he
   ·exact hm _ _ he
   ·split at he
    ·rw [fJ] at he
     split at he
     ·exact AV.bI _ own zs he
     ·cases he
    ·exact hm _ _ he
  have h0:=hf.st.pZ (fun t=>vs.toArray.getD t undef) (fun t=>(first.map AV.ab++aD env none 0 js++cap.map AV.ab).getD t .any) (fun t=>by rw [qc];exact YP.getD t) hfree
  -- then the one that is handed over
  have h1:∃ O1,St A M L w H (fun t=>vs.toArray.getD t undef) (fun t=>(first.map AV.ab++aD env pass 0 js++cap.map AV.ab).getD t .any) O1∧(∀ b,(∃ p,O1 p=some b)→(∃ id j,O (.c id j)=some b)∨∃ s,bg js pass=some s∧O (.t s)=some b):=by
   cases oV:bg js pass with
   | none=>
     refine ⟨_,h0.congr (fun _=>rfl) (fun t=>?_),?_⟩
     ·rw [kW,kW,dF,dF]
      split
      ·rfl
      ·split
       ·cases pass with
        | none=>rfl
        | some k=>
          rw [fJ,fK]
          unfold bg at oV
          simp only at oV
          cases hx:js[t - (first.map AV.ab).length]? with
          | none=>rfl
          | some x=>
            cases x with
            | c v=>rfl
            | t s=>
              simp only
              rw [if_neg]
              ·rfl
              ·intro e
               rw [Nat.zero_add] at e
               rw [e,hx] at oV
               simp at oV
       ·rfl
     ·rintro b ⟨p,hp⟩
      cases p with
      | t t=>cases hp
      | c id j=>exact .inl ⟨id,j,hp⟩
   | some s=>
     -- where it stands
     obtain ⟨k,rfl,Pc⟩:∃ k,pass=some k∧js[k]?=some (.t s):=by
      unfold bg at oV
      split at oV
      ·rename_i k
       split at oV
       ·rename_i s' Ur;cases oV;exact ⟨k,rfl,Ur⟩
       ·cases oV
      ·cases oV
     have Bw:k < js.length:=aK Pc
     have hargs:∀ (xs:List Operand) (is:List IX),fE xs=some is→∀ (q s:Nat),is[q]?=some (IX.t s)→xs[q]?=some (Operand.tmp s):=by
      intro xs
      induction xs with
      | nil=>intro is hc q s hq;simp [fE] at hc;subst hc;simp at hq
      | cons x xs ih=>
        intro is hc q s hq
        unfold fE at hc
        split at hc
        ·rename_i i is' e1 e2
         cases hc
         cases q with
         | zero=>
           simp at hq;subst hq
           cases x with
           | tmp t=>simp [aQ] at e1;simp [e1]
           | const v=>simp only [aQ] at e1;obtain ⟨_,_,hz⟩:=Option.map_eq_some_iff.1 e1;cases hz
           | func f=>simp [aQ] at e1
           | global g=>simp [aQ] at e1
         | succ q=>simpa using ih is' e2 q s (by simpa using hq)
        ·cases hc
     have cR:=hargs _ _ TP k s Pc
     have mX:vs[first.length + k]?=some (a.tmps.getD s undef):=by
      have Md:fs.length=first.length:=zt.length
      rw [wX]
      rw [List.append_assoc,List.getElem?_append_right (by omega),Md,show first.length + k - first.length=k by omega,List.getElem?_append_left (by simpa using aK cR),List.getElem?_map,cR]
      rfl
     have nC:=h0.put (first.length + k) (v:=a.tmps.getD s undef) (x:=get env s) (hf.st.env s) (O (.t s)) (hf.st.gX s) (fun p b hb hp=>by
      cases p with
      | t t=>cases hp
      | c id j=>have:=hf.st.b7 _ _ b hb hp;cases this) (fun b hb=>⟨hf.st.ct _ b hb,hf.st.fj _ b hb,hf.st.Oa _ b hb⟩)
     refine ⟨_,nC.congr (fun t=>?_) (fun t=>?_),?_⟩
     ·simp only [fz]
      split
      ·rename_i e;subst e
       rw [qc,List.getD_eq_getElem?_getD,mX];rfl
      ·rfl
     ·simp only [fz]
      rw [kW,kW,dF,dF]
      simp only [List.length_map]
      by_cases e:t=first.length + k
      ·subst e
       rw [if_pos rfl,if_neg (by omega),if_pos (by omega),show first.length + k - first.length=k by omega,fK,Pc]
       simp
      ·rw [if_neg e]
       split
       ·rfl
       ·split
        ·rw [fJ,fK]
         cases hx:js[t - first.length]? with
         | none=>rfl
         | some x=>
           cases x with
           | c v=>rfl
           | t s=>
             simp only
             rw [if_neg (by omega)]
             rfl
        ·rfl
     ·rintro b ⟨p,hp⟩
      simp only [eo] at hp
      split at hp
      ·exact .inr ⟨s,rfl,hp⟩
      ·cases p with
       | t t=>cases hp
       | c id j=>exact .inl ⟨id,j,hp⟩
  obtain ⟨O1,g1,g2⟩:=h1
  obtain ⟨O2,g3,g4⟩:=g1.Fi (ea':=fun t=>bN.getD t .any) YO
  exact ⟨O2,g3,fun b ⟨p,hp⟩=>g2 b ⟨p,g4 p b hp⟩⟩
 obtain ⟨Oc,bO,X6⟩:=YQ
 refine ⟨Oc,by rw [← wX];exact pP,by rw [← wX];exact bO.narrow loose,?_⟩
 intro v r H' M' L' O' w' hK lR cB hL
 obtain ⟨O'',k1,k2,k3,k4,k5,k6⟩:=hf.st.GL (bg js pass) loose uK X6 lR cB hL
 have DA:kC (get env) (bg js pass)=get (cL env (bg js pass)):=by
  cases bg js pass <;> rfl
 rw [DA] at k1
 have pn:Fr A n M' L' w' H' (cL env (bg js pass)) O'' a:=⟨k1,hf.size,hf.defers.ext k2⟩
 show nj A n M L w K (a.put o.dst v) w'
 cases fZ:o.dst with
 | none=>rw [fZ] at hK;exact ⟨M',L',H',_,O'',hK,pn,k2,hL⟩
 | some d=>
   rw [fZ] at hK
   exact ⟨M',L',H',_,_,hK,pn.DB (hd d fZ) k3 (O' (.t 0)) k4 (fun q b hb hq=>absurd hq (k5 q b hb)) k6,k2,hL⟩
theorem DR {o:Oper} {c:Call} (ho:o.op=.call c) {f:Operand} (mZ:c.callee=.value f) {i:IX} {js:List IX} (Ft:aQ f=some i) (TP:fE c.args.toList=some js) {pass:Option Nat}
 (hp:∀ l,lo=some l→∀ id,l≤id→A.top id=none) (hf:Fr A n M L w H env O a) (hd:∀ d,o.dst=some d→d < n) (h:bo ⟨P,lo⟩ (.call i js pass) o.dst env H K):o.wpIn (wf ro) 0 P a w (nj A n M L w K) Q:=by
 simp only [bo] at h
 have Lz:=hf.eval Ft
 unfold oU at h
 split at h <;> try exact h.elim
 ·rename_i g first cap Us
  obtain ⟨bN,hle,hcall⟩:=h
  rw [Us] at Lz
  generalize hu:a.eval f=u at Lz
  cases Lz with
  | fn _ fs cs _ _ zt rE=>
  obtain ⟨loose,uK,hcall⟩:∃ loose:Bool,(loose=true→∀ id,H.length≤id→A.top id=none)∧kF loose P g bN H fun r H'=>K (put o.dst r (cL env (bg js pass))) H':=by
   unfold dU at hcall
   split at hcall
   ·exact ⟨false,by simp,hcall⟩
   ·rename_i l hl
    rcases hcall with hcall | ⟨h1,hcall⟩
    ·exact ⟨false,by simp,hcall⟩
    ·exact ⟨true,fun _ id bk=>hp l hl id (by omega),hcall⟩
  obtain ⟨Oc,pP,bO,fin⟩:=rG (K:=K) (o:=o) TP zt rE hle hf hd uK
  obtain ⟨vs,wX⟩:∃ vs:List Value,vs=fs++c.args.toList.map a.eval++cs:=⟨_,rfl⟩
  rw [← wX] at pP bO
  have bE:(execOp a.eval o).run P w=(callFunc g vs.toArray).run P w:=by
   simp only [execOp,ho,resolve,mZ,Deferred.ofValue,hu,invoke,Sem.run_bind,Sem.run_pure,Result.andThen_ok]
   have e1:(fs.toArray++c.args.map a.eval++cs.toArray)=vs.toArray:=by
    apply Array.ext';simp [wX]
   rw [e1]
  rcases hcall (dz A loose H L Oc w) M L w vs.toArray Oc (kG A loose H L Oc w) (by simpa using pP) bO with ⟨h1,hc⟩ | ⟨v,w',r,H',M',L',O',h1,hK,lR,cB,hL⟩
  ·refine kS (bE.trans h1) (by intro d e;cases e) ⟨(fun h=>by cases h),?_⟩
   have oP:CallsIn (wf ro) (0 - 1) P g vs.toArray w _:=callsIn_wide.2 hc
   refine CallsIn.mono oP fun e w' he=>?_
   obtain ⟨v,r,H',M',L',O',rfl,hK,lR,cB,hL⟩:=he
   exact fin v r H' M' L' O' w' hK lR cB hL
  ·exact dh (bE.trans h1) (fin v r H' M' L' O' w' hK lR cB hL)
 ·rename_i id Us
  obtain ⟨bN,hle,hcall⟩:=h
  rw [Us] at Lz
  generalize hu:a.eval f=u at Lz
  cases Lz with
  | nk b _ hl=>
  obtain ⟨loose,uK,hcall⟩:∃ loose:Bool,(loose=true→∀ id,H.length≤id→A.top id=none)∧fy loose P id bN H fun r H'=>K (put o.dst r (cL env (bg js pass))) H':=by
   unfold lU at hcall
   split at hcall
   ·exact ⟨false,by simp,hcall⟩
   ·rename_i l hl
    rcases hcall with hcall | ⟨h1,hcall⟩
    ·exact ⟨false,by simp,hcall⟩
    ·exact ⟨true,fun _ id bk=>hp l hl id (by omega),hcall⟩
  obtain ⟨Oc,pP,bO,fin⟩:=rG (K:=K) (o:=o) (fs:=[]) (cs:=[]) (first:=[]) (cap:=[]) TP .nil .nil (by simpa using hle) hf hd uK
  simp only [List.nil_append,List.append_nil] at pP bO
  obtain ⟨fn,tmps,as,bd,h1,h2⟩:=hcall (dz A loose H L Oc w) M L w (c.args.toList.map a.eval).toArray Oc b (kG A loose H L Oc w) (by simpa using pP) hl bO
  have bE:(execOp a.eval o).run P w=.ok (.round b fn tmps as bd) w:=by
   simp only [execOp,ho,resolve,mZ,Deferred.ofValue,hu,invoke,Sem.run_bind,Sem.run_pure,Result.andThen_ok]
   have e1:(#[]++c.args.map a.eval:Array Value)=(c.args.toList.map a.eval).toArray:=by
    apply Array.ext';simp
   rw [e1]
   exact h1
  refine kS bE (by intro d e;cases e) ⟨(fun h=>by cases h),?_⟩
  have oP:RoundIn (wf ro) (0 - 1) P b fn tmps as bd w _:=h2
  refine RoundIn.mono oP fun e w' he=>?_
  obtain ⟨v,r,H',M',L',O',rfl,hK,lR,cB,hL⟩:=he
  exact fin v r H' M' L' O' w' hK lR cB hL
end
end Go.aH
end
section
namespace Go.aH
open Go
section
variable {ro:Option Nat} {P:Program} {lo:Option Nat} {A:Perm} {n:Nat} {M:Mem} {L:List Nat} {w:World} {H:List aa} {env:Env} {O:Pos→Option Nat} {a:Act} {Q:Exit→Act→World→Prop} {K:Env→List aa→Prop}
theorem ol {x:AV} {φ:Bool→Prop} (h:eX x φ):∃ b,x=.bool b∧φ b:=by
 unfold eX at h
 split at h
 ·exact ⟨_,rfl,h⟩
 ·exact h.elim
def gY (kd:Nat):Value:=match kd with | 0=>.slice none 0 0 | 1=>.pointer none | 2=>.map none | _=>.nilFunc
def qd (kd:Nat) (D:TypeDesc):Bool:=match kd,D with | 0,.slice _=>true | 1,.pointer _=>true | 2,.map _ _=>true | 3,.func _ _ _=>true | _,_=>false
theorem tR {d kd:Nat} {t:TypeId} {D:TypeDesc} (ht:P.underlying t=some D) (hD:qd kd D=true) {u:Value} {x:AV} {b:Bool} (hx:isNil kd x=some b) (hu:aS M L u x):(Op.equalIn (d + 1) t u (gY kd)).run P w=.ok b w:=by
 unfold isNil at hx
 split at hx <;> cases hx <;> cases D <;> simp [qd] at hD <;> cases hu <;> simp [Op.equalIn,run_underlying ht,gY]
theorem uU {kd:Nat} {neq:Bool} {t:TypeId} {D:TypeDesc} (ht:P.underlying t=some D) (hD:qd kd D=true) {u:Value} {x:AV} {φ:AV→Prop} (h:dj kd neq x φ) (hu:aS M L u x) (X Y:Operand) :
 ∃ r z,(do eqGuard (if neq then .neq else .eql) t X Y u (gY kd);binOp (if neq then .neq else .eql) t u (gY kd):Sem Value).run P w=.ok r w∧aS M L r z∧φ z∧∀ own xs,z=.ap own xs→own=0:=by
 unfold dj at h
 split at h
 rotate_left
 ·split at h <;> try exact h.elim
  cases hu with
  | ap b off c own e cs xs he hx hn hle hc hr hm=>simp at hn
  | gF ad c own hc=>
    have hDs:∃ e,D=.slice e:=by
     cases D <;> simp [qd] at hD
     exact ⟨_,rfl⟩
    obtain ⟨e,rfl⟩:=hDs
    have YR:∀ d,(Op.equalIn (d + 1) t (.slice ad 0 c) (gY 0)).run P w=.ok (ad.isNone) w:=by
     intro d
     cases ad <;> simp [Op.equalIn,run_underlying ht,gY]
    have he:(Op.equal t (.slice ad 0 c) (gY 0)).run P w=.ok (ad.isNone) w:=YR 9999
    have hg:∀ op,(eqGuard op t X Y (.slice ad 0 c) (gY 0)).run P w=.ok () w:=by
     intro op
     unfold eqGuard;cases op <;> rfl
    have h1:binOp .eql t (.slice ad 0 c) (gY 0)=(Op.equal t (.slice ad 0 c) (gY 0) >>= fun q=>(pure (.bool q):Sem Value)):=rfl
    have h2:binOp .neq t (.slice ad 0 c) (gY 0)=(Op.equal t (.slice ad 0 c) (gY 0) >>= fun q=>(pure (.bool (!q)):Sem Value)):=rfl
    have hφ:∀ b,φ (.bool b):=fun b=>by cases b;exact h.2;exact h.1
    cases neq
    ·refine ⟨.bool ad.isNone,.bool ad.isNone,?_,.bool _,hφ _,by intro _ _ e;cases e⟩
     simp only [Bool.false_eq_true,if_false,Sem.run_bind,hg,Result.andThen_ok,h1,he,Sem.run_pure]
    ·refine ⟨.bool (!ad.isNone),.bool (!ad.isNone),?_,.bool _,hφ _,by intro _ _ e;cases e⟩
     simp only [if_true,Sem.run_bind,hg,Result.andThen_ok,h2,he,Sem.run_pure]
 rename_i b hb
 have he:(Op.equal t u (gY kd)).run P w=.ok b w:=tR (d:=9999) ht hD hb hu
 have hg:∀ op,(eqGuard op t X Y u (gY kd)).run P w=.ok () w:=by
  intro op
  unfold isNil at hb
  split at hb <;> cases hb <;> cases hu <;> (unfold eqGuard;cases op <;> rfl)
 have h1:binOp .eql t u (gY kd)=(Op.equal t u (gY kd) >>= fun q=>(pure (.bool q):Sem Value)):=by
  unfold isNil at hb
  split at hb <;> cases hb <;> cases hu <;> rfl
 have h2:binOp .neq t u (gY kd)=(Op.equal t u (gY kd) >>= fun q=>(pure (.bool (!q)):Sem Value)):=by
  unfold isNil at hb
  split at hb <;> cases hb <;> cases hu <;> rfl
 cases neq
 ·refine ⟨.bool b,.bool b,?_,.bool _,h,by intro _ _ e;cases e⟩
  simp only [Bool.false_eq_true,if_false,Sem.run_bind,hg,Result.andThen_ok,h1,he,Sem.run_pure]
 ·refine ⟨.bool (!b),.bool (!b),?_,.bool _,h,by intro _ _ e;cases e⟩
  simp only [if_true,Sem.run_bind,hg,Result.andThen_ok,h2,he,Sem.run_pure]
theorem uV (hf:Fr A n M L w H env O a) {xs:List Operand} {is:List IX} (hc:fE xs=some is):aG M L (xs.map a.eval) (is.map fun x=>(al env x).ab):=by
 have:=(hf.O8 hc).dc
 rwa [List.map_map] at this
theorem cj (hf:Fr A n M L w H env O a) {x:Option Operand} {i:Option IX} (hc:kj x=some i):iX M L (fY env i) (x.map a.eval):=by
 cases x with
 | none=>simp [kj] at hc;subst hc;trivial
 | some x=>
   simp only [kj] at hc
   obtain ⟨j,hj,rfl⟩:=Option.map_eq_some_iff.1 hc
   exact hf.eval hj
theorem Fu {e:TypeId} {esz:Nat} {z:AV} (h:cW P e=some (esz,z)):dK P e=some esz∧fH P e=some z∧0 < esz∧z.cells.length=esz∧z.val=true:=by
 unfold cW at h
 split at h <;> try cases h
 rename_i h1 h2
 split at h <;> cases h
 rename_i hc
 exact ⟨h1,h2,hc⟩
theorem GN {x:AV} (h:aL 0 x):iU .string x=true:=by
 cases x <;> first | rfl | exact (show False from h).elim
theorem Bx {x:AV} (h:aL 1 x) (e:TypeId):iU (.slice e) x=true:=by
 cases x <;> first | rfl | exact (show False from h).elim
theorem GO {x:AV} (h:aL 2 x) (k e:TypeId):iU (.map k e) x=true:=by
 cases x <;> first | rfl | exact (show False from h).elim
theorem I4 (o:Oper) {fl:Nat} {i:bY} (hc:cv P o fl=some i) (hp:∀ l,lo=some l→∀ id,l≤id→A.top id=none) (hf:Fr A n M L w H env O a) (hd:∀ d,o.dst=some d→d < n) (hnone:(match o.op with | .store .. | .mapUpdate ..=>o.dst=none | _=>True))
 (h:bo ⟨P,lo⟩ i o.dst env H K):o.wpIn (wf ro) 0 P a w (nj A n M L w K) Q:=by
 cases cR:o.op with
 | move x=>
   simp only [cv,cR] at hc
   obtain ⟨j,hj,rfl⟩:=Option.map_eq_some_iff.1 hc
   exact xO (.inl cR) hj hf hd h
 | assign x=>
   simp only [cv,cR] at hc
   obtain ⟨j,hj,rfl⟩:=Option.map_eq_some_iff.1 hc
   exact xO (.inr cR) hj hf hd h
 | pick c x y=>
   simp only [cv,cR] at hc
   split at hc <;> cases hc
   rename_i c' x' y' h1 h2 h3
   simp only [bo] at h
   obtain ⟨b,hb,h⟩:=ol h
   have hr:=hf.eval h1
   rw [hb] at hr
   generalize hu:a.eval c=u at hr
   cases hr
   cases b
   ·exact wp_pure hf hd (by simp [execOp,cR,hu,asBool]) (hf.eval h3).ab (AV.bI _) (h.2 rfl)
   ·exact wp_pure hf hd (by simp [execOp,cR,hu,asBool]) (hf.eval h2).ab (AV.bI _) (h.1 rfl)
 | alloc e=>
   simp only [cv,cR] at hc
   split at hc <;> try cases hc
   rename_i z hz
   split at hc <;> cases hc
   rename_i hv
   simp only [bo] at h
   obtain ⟨r,L',w',h1,h2,h3,h4,h5⟩:=DE (P:=P) hf.st hz hv h.1
   exact oh hf hd (by simp only [execOp,cR];exact aW h1) h2 (by intro _ _ e;cases e) h3 h4 h5 h.2
 | box e x=>
   simp only [cv,cR] at hc
   obtain ⟨j,hj,hc⟩:=Option.map_eq_some_iff.1 hc
   split at hc <;> subst hc <;> simp only [bo] at h
   ·obtain ⟨r,M',w',h1,h2,h3,h4⟩:=GA (P:=P) hf.st e (hf.eval hj) h.1
    exact oh hf hd (by simp only [execOp,cR];exact aW h1) h2 (by intro _ _ e;cases e) h3 h4 (List.prefix_refl L) h.2
   ·obtain ⟨r,L',w',h1,h2,h3,h4,h5⟩:=Bf (P:=P) hf.st e (hf.eval hj) h.1 h.2.1
    exact oh hf hd (by simp only [execOp,cR];exact aW h1) h2 (by intro _ _ e;cases e) h3 h4 h5 h.2.2
 | build t ps=>
   simp only [cv,cR] at hc
   split at hc <;> try cases hc
   rename_i z places ht
   split at hc <;> try cases hc
   rename_i qs hq
   split at hc <;> cases hc
   rename_i hv
   simp only [bo] at h
   obtain ⟨r,x,h1,h2,h3,h4⟩:=DG (P:=P) hf ht hq h hv
   exact wp_pure hf hd (by simp only [execOp,cR];exact aW h1) h2 h4 h3
 | buildSlice t len ps=>
   simp only [cv,cR] at hc
   split at hc <;> try cases hc
   rename_i e ht
   split at hc <;> try cases hc
   rename_i esz z qs hz hq
   split at hc <;> cases hc
   rename_i hlen
   obtain ⟨p1,p2,p3,p4,p5⟩:=Fu hz
   obtain ⟨q1,q2⟩:=mN hf _ _ hq
   by_cases Ut:fl=2
   ·rw [if_pos Ut] at h
    simp only [bo] at h
    obtain ⟨r,x,L',w',H',h1,h2,h3,h4,h5,h6,h7⟩:=GK (P:=P) hf.st ht p1 p3 p2 p4 p5 hlen (vs:=ps.map fun (i,x)=>(i,a.eval x)) (by
     intro j p hp
     obtain ⟨v,v1,v2⟩:=q1 j p hp
     exact ⟨v,by simpa using v1,v2⟩) (by simp [q2]) h
    exact oh hf hd (by simp only [execOp,cR];exact aW h1) h2 h3 h5 h6 h7 h4
   rw [if_neg Ut] at h
   simp only [bo] at h
   obtain ⟨m,xs,M',w',ad,h1,h2,h3,h4,h5,h6⟩:=tM (P:=P) hf.st ht p1 p3 p2 p4 p5 (if fl=1 then esz else 0) hlen (vs:=ps.map fun (i,x)=>(i,a.eval x)) (by
    intro j p hp
    obtain ⟨v,v1,v2⟩:=q1 j p hp
    exact ⟨v,by simpa using v1,v2⟩) (by simp [q2]) h
   obtain ⟨O',pn⟩:=(hf.mono h5 h6).Fk (dst:=o.dst) hd h2 (fun eM y hy=>by
    split at eM
    ·rename_i Md;rw [if_pos Md];exact h3 y hy
    ·exact absurd rfl eM)
   exact dh (by simp only [execOp,cR];exact aW h1) ⟨M',L,H,_,O',h4,pn,h6,List.prefix_refl L⟩
 | load t x=>
   simp only [cv,cR] at hc
   split at hc <;> try cases hc
   rename_i sz j ht hj
   split at hc
   ·split at hc <;> cases hc
    rename_i hs
    subst hs
    exact uT cR ht hj hf hd h
   split at hc
   ·cases hc
    simp only [bo] at h
    obtain ⟨r,z,h1,h2,h3,h4⟩:=rA (P:=P) ht hf.st h (hf.eval hj)
    obtain ⟨y,M',H',O',g1,g2,g3,g4,g5⟩:=rF hf.st h3 h2
    obtain ⟨O'',pn⟩:=(hf.mono g3 g4).oO (dst:=o.dst) hd g1 g5
    exact dh (by simp only [execOp,cR];exact aW h1) ⟨M',L,H',_,O'',g2,pn,g4,List.prefix_refl L⟩
   ·cases hc
    simp only [bo] at h
    obtain ⟨r,z,h1,h2,h3,h4⟩:=rA (P:=P) ht hf.st h (hf.eval hj)
    exact bK hf hd ⟨r,z,by simp only [execOp,cR];exact aW h1,h2,h3,h4⟩
 | store t x y=>
   simp only [cR] at hnone
   simp only [cv,cR] at hc
   split at hc <;> try cases hc
   rename_i m j k ht hj hk
   split at hc
   ·split at hc <;> try cases hc
    rename_i s
    split at hc <;> cases hc
    rename_i hm
    subst hm
    exact w8 cR ht hj hk hf hnone h
   split at hc
   ·cases hc
    simp only [bo] at h
    obtain ⟨l,rfl⟩:∃ l,lo=some l:=by cases lo with | none=>exact h.elim | some l=>exact ⟨l,rfl⟩
    obtain ⟨w',H',O',h1,h2,h3,h4⟩:=Bj (P:=P) hf.st (hp l rfl) ht h (hf.eval hj) (hf.eval hk)
    refine lM (by simp only [execOp,cR];exact pY h1) ⟨M,L,H',env,O',h2,?_,h4,List.prefix_refl L⟩
    rw [hnone];exact ⟨h3,hf.size,hf.defers.ext h4⟩
   ·cases hc
    simp only [bo] at h
    obtain ⟨w',H',O',h1,h2,h3,h4⟩:=DH (P:=P) hf.st ht h (hf.eval hj) (hf.eval hk)
    refine lM (by simp only [execOp,cR];exact pY h1) ⟨M,L,H',env,O',h2,?_,h4,List.prefix_refl L⟩
    rw [hnone];exact ⟨h3,hf.size,hf.defers.ext h4⟩
 | nilCheck x=>
   simp only [cv,cR] at hc
   obtain ⟨j,hj,rfl⟩:=Option.map_eq_some_iff.1 hc
   simp only [bo] at h
   exact bK hf hd (wW cR h (hf.eval hj))
 | binOp op t x y yt=>
   simp only [cv,cR] at hc
   split at hc <;> try cases hc
   rename_i j k hj hk
   have hx:=hf.eval hj
   have hy:=hf.eval hk
   have plain:∀ {op},de op (al env j) (al env k) (fun z=>K (put o.dst z env) H)→o.op=.binOp op t x y yt→o.wpIn (wf ro) 0 P a w (nj A n M L w K) Q:=by
    intro op h cR
    obtain ⟨r,z,h1,h2,h3,h4⟩:=IJ (P:=P) (w:=w) (t:=t) h hx hy x y
    exact bK hf hd ⟨r,z,by simp only [execOp,cR];exact aW h1,h2,h3,h4⟩
   split at hc
   ·cases hc
    simp only [bo] at h
    obtain ⟨r,z,h1,h2,h3,h4⟩:=uF (P:=P) (w:=w) (t:=t) h hx hy x y
    exact bK hf hd ⟨r,z,by simp only [execOp,cR];exact aW h1,h2,h3,h4⟩
   ·cases hc
    simp only [bo] at h
    obtain ⟨r,z,h1,h2,h3,h4⟩:=uF (P:=P) (w:=w) (t:=t) h hx hy x y
    exact bK hf hd ⟨r,z,by simp only [execOp,cR];exact aW h1,h2,h3,h4⟩
   ·split at hc <;> try cases hc
    ·rename_i ht
     simp only [bo] at h
     obtain ⟨r,z,h1,h2,h3,h4⟩:=sM (P:=P) (w:=w) (neq:=false) ht h hx hy x y
     exact bK hf hd ⟨r,z,by simp only [execOp,cR];exact aW h1,h2,h3,h4⟩
    ·exact plain (op:=.eql) h cR
    ·exact plain (op:=.eql) h cR
    all_goals
     rename_i ht
     split at hc <;> cases hc
     simp only [bo] at h
     obtain ⟨r,z,h1,h2,h3,h4⟩:=uU (P:=P) (w:=w) (neq:=false) ht rfl h hx x (.const .nilFunc)
     exact bK hf hd ⟨r,z,by simp only [execOp,cR];exact aW h1,h2,h3,h4⟩
   ·split at hc <;> try cases hc
    ·rename_i ht
     simp only [bo] at h
     obtain ⟨r,z,h1,h2,h3,h4⟩:=sM (P:=P) (w:=w) (neq:=true) ht h hx hy x y
     exact bK hf hd ⟨r,z,by simp only [execOp,cR];exact aW h1,h2,h3,h4⟩
    ·exact plain (op:=.neq) h cR
    ·exact plain (op:=.neq) h cR
    all_goals
     rename_i ht
     split at hc <;> cases hc
     simp only [bo] at h
     obtain ⟨r,z,h1,h2,h3,h4⟩:=uU (P:=P) (w:=w) (neq:=true) ht rfl h hx x (.const .nilFunc)
     exact bK hf hd ⟨r,z,by simp only [execOp,cR];exact aW h1,h2,h3,h4⟩
   ·cases hc;exact plain h cR
 | unOp op t x=>
   simp only [cv,cR] at hc
   obtain ⟨j,hj,rfl⟩:=Option.map_eq_some_iff.1 hc
   simp only [bo] at h
   obtain ⟨r,z,h1,h2,h3,h4⟩:=LZ (P:=P) (w:=w) h (hf.eval hj)
   exact bK hf hd ⟨r,z,by simp only [execOp,cR];exact aW h1,h2,h3,h4⟩
 | convert src dst x=>
   simp only [cv,cR] at hc
   split at hc <;> try cases hc
   ·rename_i k1 k2 j hs QD hj
    simp only [bo] at h
    obtain ⟨r,z,h1,h2,h3,h4⟩:=y9 (P:=P) (w:=w) hs QD h (hf.eval hj)
    exact bK hf hd ⟨r,z,by simp only [execOp,cR];exact aW h1,h2,h3,h4⟩
   ·rename_i j hs QD hj
    simp only [bo] at h
    obtain ⟨r,z,h1,h2,h3,h4⟩:=zg (P:=P) (w:=w) hs QD h (hf.eval hj)
    exact bK hf hd ⟨r,z,by simp only [execOp,cR];exact aW h1,h2,h3,h4⟩
   ·rename_i e j hs QD hj
    split at hc <;> cases hc
    rename_i he
    simp only [bo] at h
    obtain ⟨r,z,w',M',ob,h1,h2,h3,h4,h5,h6,h7,h8⟩:=zh (P:=P) hf.st hs QD he h (hf.eval hj)
    exact uS hf hd (by simp only [execOp,cR];exact aW h1) h2 h4 h5 h6 h7 h8 h3
   ·rename_i e j hs QD hj
    split at hc <;> cases hc
    rename_i he
    simp only [bo] at h
    obtain ⟨r,z,h1,h2,h3,h4⟩:=DL (P:=P) hf.st hs he QD h (hf.eval hj)
    exact bK hf hd ⟨r,z,by simp only [execOp,cR];exact aW h1,h2,h3,h4⟩
 | makeFunc f first cap=>
   simp only [cv,cR] at hc
   split at hc <;> cases hc
   rename_i i j hi hj
   simp only [bo] at h
   refine bK hf hd ⟨.func f (first.map a.eval) (cap.map a.eval),_,?_,?_,h,by intro _ _ e;cases e⟩
   ·simp only [execOp,cR];rfl
   ·have:=aS.fn (M:=M) (L:=L) f (first.toList.map a.eval) (cap.toList.map a.eval) _ _ (uV hf hi) (uV hf hj)
    rw [show (first.toList.map a.eval).toArray=first.map a.eval by apply Array.ext';simp,show (cap.toList.map a.eval).toArray=cap.map a.eval by apply Array.ext';simp] at this
    exact this
 | makeMap t r=>
   cases r with
   | some r=>simp [cv,cR] at hc
   | none=>
     simp only [cv,cR] at hc
     cases hc
     simp only [bo] at h
     obtain ⟨r,L',w',h1,h2,h3,h4,h5⟩:=DO (P:=P) hf.st t
     exact oh hf hd (by simp only [execOp,cR];exact aW h1) h2 (by intro _ _ e;cases e) h3 h4 h5 h
 | makeSlice t l c=>
   simp only [cv,cR] at hc
   split at hc <;> try cases hc
   rename_i e k ht hk
   split at hc <;> try cases hc
   rename_i esz z bytes hz hb
   split at hc <;> try cases hc
   rename_i hcond
   obtain ⟨uL,I3⟩:=hcond
   obtain ⟨p1,p2,p3,p4,p5⟩:=Fu hz
   obtain ⟨inf,iT,df⟩:=Option.map_eq_some_iff.1 p1
   obtain ⟨inf',sV,xH⟩:=Option.map_eq_some_iff.1 hb
   rw [iT] at sV;cases sV
   unfold fH at p2
   simp only [iT] at p2
   split at p2 <;> try cases p2
   rename_i zv sO
   split at hc
   ·cases hc
    simp only [bo] at h
    have tX:zv.cells.size=esz:=by have:=((cI (M:=M) (L:=L) p2).fV p5).length;rw [p4] at this;simpa using this
    obtain ⟨r,w',M',b,h1,h2,h3,h4,h5,h6,h7,h8,h9,YT⟩:=DK (P:=P) hf.st ht iT sO df xH p3 uL tX h (hf.eval hk)
    exact uS hf hd (by simp only [execOp,cR];exact aW h1) h2 h4 h5 h6 (fun q b' eh=>by cases eh;exact h7 q) (fun b' eh=>by cases eh;exact ⟨h8,h9,YT⟩) h3
   ·split at hc <;> cases hc
    rename_i hsame
    simp only [bo] at h
    have za:a.eval l=a.eval c:=by
     unfold I2 at hsame
     split at hsame
     ·simp at hsame;subst hsame;rfl
     ·simp at hsame;subst hsame;rfl
     ·cases hsame
    have IW:∀ y∈z.cells,∀ own xs,y=.ap own xs→own=0:=by
     intro y hy own xs e
     have:=List.all_eq_true.1 I3 y hy
     subst e
     simpa using this
    obtain ⟨r,x,L',w',H',h1,h2,h3,h4,h5,h6,h7⟩:=DJ (P:=P) hf.st ht iT sO df xH p3 uL p2 p5 p4 IW h (hf.eval hk)
    exact oh hf hd (by simp only [execOp,cR,za];exact aW h1) h2 h3 h5 h6 h7 h4
 | slice t x lo hi mx=>
   simp only [cv,cR] at hc
   split at hc <;> try cases hc
   ·rename_i e i l h' m ht mY hl hh hm
    split at hc <;> try cases hc
    rename_i esz he
    split at hc <;> cases hc
    rename_i h0
    by_cases Md:fl=4
    ·rw [if_pos Md] at h
     simp only [bo] at h
     obtain ⟨ad,k,c,own,ys,h1,h2,⟨h3,X8⟩,h4⟩:=uM (P:=P) hf.st ht he h0 h.2 (hf.eval mY) h.1 (cj hf hl) (cj hf hh) (cj hf hm)
     cases h3
     obtain ⟨rfl,_⟩:=h4 (by omega)
     have hk:k=0:=by
      cases h2 with
      | gF=>rfl
      | ap b off c own e cs xs he hx hn=>simp at hn
     subst hk
     exact bK hf hd ⟨_,_,by simp only [execOp,cR];exact aW h1,.oN ad,X8,by intro _ _ e;cases e⟩
    rw [if_neg Md] at h
    simp only [bo] at h
    unfold aV at h
    split at h
    ·rename_i e0 a0 b0 c0 d0 IV
     rw [← IV] at h
     split at h
     ·rename_i Bm
      have TN:mx=none:=by
       cases mx with
       | none=>rfl
       | some q=>simp only [kj] at hm;obtain ⟨_,_,rfl⟩:=Option.map_eq_some_iff.1 hm;cases Bm
      subst TN
      obtain ⟨r,z,h1,h2,h3,h4⟩:=Br (P:=P) ht he h (hf.eval mY) (cj hf hl) (cj hf hh)
      exact bK hf hd ⟨r,z,by simp only [execOp,cR];exact aW h1,h2,h3,h4⟩
     ·rename_i m0 Bm
      have hm3:=cj (a:=a) hf hm
      rw [Bm] at hm3
      obtain ⟨r,z,h1,h2,h3,h4⟩:=Bs (P:=P) ht he h (hf.eval mY) (cj hf hl) (cj hf hh) hm3
      exact bK hf hd ⟨r,z,by simp only [execOp,cR];exact aW h1,h2,h3,h4⟩
    obtain ⟨ad,k,c,own,ys,h1,h2,h3,h4⟩:=uM (P:=P) hf.st ht he h0 h.2 (hf.eval mY) h.1 (cj hf hl) (cj hf hh) (cj hf hm)
    by_cases tO:own=0
    ·subst tO
     exact bK hf hd ⟨_,_,by simp only [execOp,cR];exact aW h1,h2,h3,by intro _ _ e;cases e;rfl⟩
    ·obtain ⟨rfl,h5⟩:=h4 tO
     obtain ⟨O',pn⟩:=hf.Fk (dst:=o.dst) hd h2 (fun _=>h5)
     exact dh (by simp only [execOp,cR];exact aW h1) ⟨M,L,H,_,O',h3,pn,Ext.refl A M w,List.prefix_refl L⟩
   ·rename_i i l h' ht mY hl hh hm
    simp only [bo] at h
    have TN:mx=none:=by
     cases mx with
     | none=>rfl
     | some q=>simp only [kj] at hm;obtain ⟨_,_,hz⟩:=Option.map_eq_some_iff.1 hm;cases hz
    subst TN
    obtain ⟨r,z,h1,h2,h3,h4⟩:=w5 (P:=P) (w:=w) ht h (hf.eval mY) (cj hf hl) (cj hf hh)
    exact bK hf hd ⟨r,z,by simp only [execOp,cR];exact aW h1,h2,h3,h4⟩
 | fieldAddr s x f=>
   simp only [cv,cR] at hc
   split at hc <;> cases hc
   rename_i off sz j ht hj
   simp only [bo] at h
   obtain ⟨r,z,h1,h2,h3,h4⟩:=uG (P:=P) (w:=w) ht h (hf.eval hj)
   exact bK hf hd ⟨r,z,by simp only [execOp,cR];exact aW h1,h2,h3,h4⟩
 | field s x f=>
   simp only [cv,cR] at hc
   split at hc <;> cases hc
   rename_i off sz j ht hj
   simp only [bo] at h
   obtain ⟨r,z,h1,h2,h3,h4⟩:=DC (P:=P) (w:=w) ht h (hf.eval hj)
   exact bK hf hd ⟨r,z,by simp only [execOp,cR];exact aW h1,h2,h3,h4⟩
 | indexAddr t x i=>
   simp only [cv,cR] at hc
   split at hc <;> try cases hc
   rename_i e j k ht hj hk
   obtain ⟨esz,he,rfl⟩:=Option.map_eq_some_iff.1 hc
   simp only [bo] at h
   obtain ⟨r,z,h1,h2,h3,h4⟩:=uH (P:=P) (w:=w) ht he h.2 h.1 (hf.eval hj) (hf.eval hk)
   exact bK hf hd ⟨r,z,by simp only [execOp,cR];exact aW h1,h2,h3,h4⟩
 | index t x i=>
   simp only [cv,cR] at hc
   split at hc <;> try cases hc
   ·rename_i j k ht hj hk
    simp only [bo] at h
    obtain ⟨r,z,h1,h2,h3,h4⟩:=wV (P:=P) (w:=w) ht h (hf.eval hj) (hf.eval hk)
    exact bK hf hd ⟨r,z,by simp only [execOp,cR];exact aW h1,h2,h3,h4⟩
   ·rename_i m e j k ht hj hk
    split at hc <;> cases hc
    rename_i he
    simp only [bo] at h
    obtain ⟨r,z,h1,h2,h3,h4⟩:=wU (P:=P) (w:=w) ht he h (hf.eval hj) (hf.eval hk)
    exact bK hf hd ⟨r,z,by simp only [execOp,cR];exact aW h1,h2,h3,h4⟩
 | lookup t m k ok=>
   simp only [cv,cR] at hc
   split at hc <;> try cases hc
   rename_i kt et i j ht hi hj
   split at hc <;> cases hc
   rename_i kd z hk hz
   simp only [bo] at h
   obtain ⟨r,z,h1,h2,h3,h4⟩:=Bp (P:=P) hf.st ht hk hz h (hf.eval hi) (hf.eval hj)
   exact bK hf hd ⟨r,z,by simp only [execOp,cR];exact aW h1,h2,h3,h4⟩
 | mapUpdate t m k x=>
   simp only [cR] at hnone
   simp only [cv,cR] at hc
   split at hc <;> try cases hc
   rename_i kt et i j y ht hi hj hy
   obtain ⟨kd,hk,rfl⟩:=Option.map_eq_some_iff.1 hc
   simp only [bo] at h
   obtain ⟨w',H',h1,h2,h3,h4⟩:=Bq (P:=P) hf.st ht hk h (hf.eval hi) (hf.eval hj) (hf.eval hy)
   refine lM (by simp only [execOp,cR];exact pY h1) ⟨M,L,H',env,O,h2,?_,h4,List.prefix_refl L⟩
   rw [hnone];exact ⟨h3,hf.size,hf.defers.ext h4⟩
 | extract x i=>
   simp only [cv,cR] at hc
   obtain ⟨j,hj,rfl⟩:=Option.map_eq_some_iff.1 hc
   simp only [bo] at h
   obtain ⟨r,z,h1,h2,h3,h4⟩:=y8 (P:=P) (w:=w) h (hf.eval hj)
   exact bK hf hd ⟨r,z,by simp only [execOp,cR];exact aW h1,h2,h3,h4⟩
 | call c=>
   simp only [cv,cR] at hc
   split at hc
   ·rename_i f mZ
    split at hc <;> cases hc
    rename_i i js hi hj
    exact DR cR mZ hi hj hp hf hd h
   ·rename_i mZ
    split at hc <;> try cases hc
    rename_i x t hargs zw
    have hcall:c={ callee:=.builtin .len,args:=#[x],argTypes:=#[t] }:=by
     obtain ⟨c1,c2,c3⟩:=c
     simp only at mZ hargs zw
     subst mZ
     rw [show c2=#[x] from Array.ext' hargs,show c3=#[t] from Array.ext' zw]
    subst hcall
    have fin:∀ {d:TypeDesc} {kd:Nat} {j:IX},P.underlying t=some d→aQ x=some j→iU d (al env j)=true→(fq (al env j) H fun z=>K (put o.dst z env) H)→o.wpIn (wf ro) 0 P a w (nj A n M L w K) Q:=by
     intro d kd j ht hj hk h
     obtain ⟨r,z,h1,h2,h3,h4⟩:=IP (P:=P) ht hf.st hk h (hf.eval hj) o.type
     refine bK hf hd ⟨r,z,?_,h2,h3,h4⟩
     simp only [execOp,cR,resolve,invoke,builtin,Sem.run_bind,Sem.run_pure,Result.andThen_ok,List.map_toArray,List.map_cons,List.map_nil,h1]
    split at hc <;> cases hc
    ·rename_i j ht hj;exact fin (kd:=0) ht hj (GN h.1) h.2
    ·rename_i e j ht hj;exact fin (kd:=0) ht hj (Bx h.1 e) h.2
    ·rename_i k e j ht hj;exact fin (kd:=0) ht hj (GO h.1 k e) h.2
   ·rename_i mZ
    split at hc <;> try cases hc
    rename_i s x t t' hargs zw
    split at hc <;> try cases hc
    rename_i htt
    subst htt
    split at hc <;> try cases hc
    rename_i e i j ht hi hj
    split at hc <;> try cases hc
    rename_i esz z bytes hz hb
    split at hc <;> try cases hc
    rename_i uL
    have hcall:c={ callee:=.builtin .append,args:=#[s,x],argTypes:=#[t,t] }:=by
     obtain ⟨c1,c2,c3⟩:=c
     simp only at mZ hargs zw
     subst mZ
     rw [show c2=#[s,x] from Array.ext' hargs,show c3=#[t,t] from Array.ext' zw]
    subst hcall
    split at hc
    ·split at hc <;> cases hc
     rename_i I3
     exact xa cR ht hz hb uL I3 hi hj hf hd h
    cases hc
    exact zr cR ht hz hb uL hi hj hf hd h
   ·rename_i mZ
    split at hc <;> try cases hc
    rename_i x y hargs
    split at hc <;> cases hc
    rename_i i j hi hj
    simp only [bo] at h
    obtain ⟨r,z,h1,h2,h3,h4⟩:=Fl (P:=P) (w:=w) (big:=true) h (hf.eval hi) (hf.eval hj) c.argTypes o.type
    refine bK hf hd ⟨r,z,?_,h2,h3,h4⟩
    have hargs':c.args=#[x,y]:=Array.ext' hargs
    simp only [if_true] at h1
    simp only [execOp,cR,resolve,mZ,invoke,builtin,Sem.run_bind,Sem.run_pure,Result.andThen_ok,hargs',List.map_toArray,List.map_cons,List.map_nil,h1]
   ·rename_i mZ
    split at hc <;> try cases hc
    rename_i x y hargs
    split at hc <;> cases hc
    rename_i i j hi hj
    simp only [bo] at h
    obtain ⟨r,z,h1,h2,h3,h4⟩:=Fl (P:=P) (w:=w) (big:=false) h (hf.eval hi) (hf.eval hj) c.argTypes o.type
    refine bK hf hd ⟨r,z,?_,h2,h3,h4⟩
    have hargs':c.args=#[x,y]:=Array.ext' hargs
    simp only [Bool.false_eq_true,if_false] at h1
    simp only [execOp,cR,resolve,mZ,invoke,builtin,Sem.run_bind,Sem.run_pure,Result.andThen_ok,hargs',List.map_toArray,List.map_cons,List.map_nil,h1]
   ·cases hc
 | _=>simp [cv,cR] at hc
theorem DS (o:Oper) (hf:Fr A n M L w H env O a) (hd:∀ d,o.dst=some d→d < n) (h:bo ⟨P,lo⟩ (pX P o) o.dst env H K):o.wpIn (wf ro) 0 P a w (nj A n M L w K) Q:=by
 cases cR:o.op with
 | call c=>
   simp only [pX,cR] at h
   split at h <;> try exact h.elim
   rotate_left
   ·rename_i mZ
    split at h <;> try exact h.elim
    rename_i s t hargs zw
    split at h <;> try exact h.elim
    rename_i e i ht hi
    split at h <;> try exact h.elim
    rename_i esz z hz
    simp only [bo] at h
    unfold cW at hz
    split at hz <;> try cases hz
    rename_i esz' z' Pa oP
    split at hz <;> cases hz
    rename_i hcond
    obtain ⟨h0,iV,sO⟩:=hcond
    obtain ⟨inf,iT,df⟩:=Option.map_eq_some_iff.1 Pa
    unfold fH at oP
    simp only [iT] at oP
    split at oP <;> try cases oP
    rename_i zv uJ
    obtain ⟨w',H',O',h1,h2,h3,h4⟩:=Bu (P:=P) hf.st ht iT uJ h0 oP sO iV h (hf.eval hi) o.type
    obtain ⟨O'',pn⟩:=(hf.mono h3 h4).oO (dst:=o.dst) hd (.tuple [] [] .nil) (by intro _ _ e;cases e)
    have hargs':c.args=#[s]:=Array.ext' hargs
    have I5:c.argTypes=#[t]:=Array.ext' zw
    refine dh (v:=.tuple #[]) ?_ ⟨M,L,H',_,O'',h2,pn,h4,List.prefix_refl L⟩
    simp only [execOp,cR,resolve,mZ,invoke,builtin,Sem.run_bind,Sem.run_pure,Result.andThen_ok,hargs',I5,List.map_toArray,List.map_cons,List.map_nil,h1]
   rename_i mZ
   split at h <;> try exact h.elim
   rename_i s x t t' hargs zw
   split at h <;> try exact h.elim
   rename_i e i j ht hi hj
   split at h <;> try exact h.elim
   rename_i esz he
   simp only [bo] at h
   obtain ⟨r,z,w',H',O',h1,h2,h3,h4,h5,h6⟩:=GI (P:=P) hf.st ht he h (hf.eval hi) (hf.eval hj) t' o.type
   obtain ⟨O'',pn⟩:=(hf.mono h4 h5).oO (dst:=o.dst) hd h2 h6
   have hargs':c.args=#[s,x]:=Array.ext' hargs
   have I5:c.argTypes=#[t,t']:=Array.ext' zw
   refine dh (v:=r) ?_ ⟨M,L,H',_,O'',h3,pn,h5,List.prefix_refl L⟩
   simp only [execOp,cR,resolve,mZ,invoke,builtin,Sem.run_bind,Sem.run_pure,Result.andThen_ok,hargs',I5,List.map_toArray,List.map_cons,List.map_nil,h1]
 | _=>simp only [pX,cR] at h;exact h.elim
theorem DU (o:Oper) (hf:Fr A n M L w H env O a) (hd:∀ d,o.dst=some d→d < n) (h:bo ⟨P,lo⟩ (nE P o) o.dst env H K):o.wpIn (wf ro) 0 P a w (nj A n M L w K) Q:=by
 have key:∀ {x:Operand},(o.op=.move x∨o.op=.assign x)→∀ {i:IX} {esz:Nat},aQ x=some i→(eR esz (al env i) H fun z H'=>K (put o.dst z env) H')→o.wpIn (wf ro) 0 P a w (nj A n M L w K) Q:=by
  intro x ho i esz hi h
  obtain ⟨z,M',H',O',h1,h2,h3,h4,h5⟩:=rF hf.st h (hf.eval hi)
  have bE:(execOp a.eval o).run P w=.ok (.value (a.eval x)) w:=by
   rcases ho with ho | ho <;> simp [execOp,ho]
  obtain ⟨O'',pn⟩:=(hf.mono h3 h4).oO (dst:=o.dst) hd h1 h5
  exact dh bE ⟨M',L,H',_,O'',h2,pn,h4,List.prefix_refl L⟩
 cases cR:o.op with
 | move x=>
   simp only [nE,cR] at h
   split at h <;> try exact h.elim
   rename_i hi ht
   split at h <;> try exact h.elim
   exact key (.inl cR) hi h
 | assign x=>
   simp only [nE,cR] at h
   split at h <;> try exact h.elim
   rename_i hi ht
   split at h <;> try exact h.elim
   exact key (.inr cR) hi h
 | _=>simp only [nE,cR] at h;exact h.elim
theorem By (o:Oper) (esz:Nat) (hf:Fr A n M L w H env O a) (hd:∀ d,o.dst=some d→d < n) (h:bo ⟨P,lo⟩ (kV esz o) o.dst env H K):o.wpIn (wf ro) 0 P a w (nj A n M L w K) Q:=by
 have key:∀ {x:Operand},(o.op=.move x∨o.op=.assign x)→∀ {i:IX},aQ x=some i→(eR esz (al env i) H fun z H'=>K (put o.dst z env) H')→o.wpIn (wf ro) 0 P a w (nj A n M L w K) Q:=by
  intro x ho i hi h
  obtain ⟨z,M',H',O',h1,h2,h3,h4,h5⟩:=rF hf.st h (hf.eval hi)
  have bE:(execOp a.eval o).run P w=.ok (.value (a.eval x)) w:=by
   rcases ho with ho | ho <;> simp [execOp,ho]
  obtain ⟨O'',pn⟩:=(hf.mono h3 h4).oO (dst:=o.dst) hd h1 h5
  exact dh bE ⟨M',L,H',_,O'',h2,pn,h4,List.prefix_refl L⟩
 cases cR:o.op with
 | move x=>
   simp only [kV,cR] at h
   split at h <;> try exact h.elim
   rename_i hi
   exact key (.inl cR) hi h
 | assign x=>
   simp only [kV,cR] at h
   split at h <;> try exact h.elim
   rename_i hi
   exact key (.inr cR) hi h
 | _=>simp only [kV,cR] at h;exact h.elim
theorem sX (o:Oper) {fl:Nat} (hp:∀ l,lo=some l→∀ id,l≤id→A.top id=none) (hf:Fr A n M L w H env O a) (hd:∀ d,o.dst=some d→d < n) (hnone:(match o.op with | .store .. | .mapUpdate ..=>o.dst=none | _=>True))
 (h:bo ⟨P,lo⟩ (Bv P o fl) o.dst env H K):o.wpIn (wf ro) 0 P a w (nj A n M L w K) Q:=by
 unfold Bv at h
 split at h
 ·exact DU o hf hd h
 split at h
 ·exact By o _ hf hd h
 cases hc:cv P o fl with
 | none=>rw [hc] at h;exact DS o hf hd h
 | some i=>rw [hc] at h;exact I4 o hc hp hf hd hnone h
end
end Go.aH
end
section
namespace Go.aH
open Go
section
variable {M:Mem} {L:List Nat}
theorem qe {n:Nat}:∀ {xs:List AV},(∀ x∈xs,x.cells.length≠0)→aj n (flat xs)=true→aj n xs=true
 | [],_,_=>rfl
 | x::xs,hx,h=>by
   rw [ba] at h ⊢
   intro y hy
   rcases List.mem_cons.1 hy with rfl | hy
   ·cases y with
    | agg ys=>
      simp only [AV.aZ]
      rw [ba]
      intro z hz
      exact h z (by simp [flat,AV.cells,hz])
    | _=>exact h _ (by simp [flat,AV.cells])
   ·have:=qe (xs:=xs) (n:=n) (fun x wO=>hx x (List.mem_cons_of_mem _ wO)) (by
     rw [ba]
     intro z hz
     exact h z (by simp only [flat,List.flatMap_cons,List.mem_append] at hz ⊢;exact .inr hz))
    rw [ba] at this
    exact this y hy
theorem GP {n:Nat} {x:AV} (h:aj n x.cells=true):x.aZ n=true:=by
 cases x <;> simp_all [AV.cells,AV.aZ,aj]
theorem aS.Mh {v:Value} {x:AV} (h:aS M L v x):x.aZ L.length=true:=by
 induction h using aS.rec (motive_2:=fun vs xs _=>aj L.length xs=true) with
 | ap b off c own e cs xs he hx hn hle hc hr hm ih=>exact qe (fun x wO=>by rw [hx x wO];omega) ih
 | a8 b off len cap id hl hc=>simp only [AV.aZ,decide_eq_true_eq];exact aK hl
 | agg cs xs hr ih=>exact ih
 | tuple cs xs hr ih=>exact ih
 | ptr b off id hl=>simp only [AV.aZ,decide_eq_true_eq];exact aK hl
 | ai b off cs x hr hm ih=>simp only [AV.aZ];exact GP ih
 | map b id hl=>simp only [AV.aZ,decide_eq_true_eq];exact aK hl
 | nk b id hl=>simp only [AV.aZ,decide_eq_true_eq];exact aK hl
 | fn f fs cs xs ys h1 h2 i1 i2=>simp only [AV.aZ,Bool.and_eq_true];exact ⟨i1,i2⟩
 | iface t v x h ih=>exact ih
 | cons v x vs xs h t i1 i2=>simp only [aj,Bool.and_eq_true];exact ⟨i1,i2⟩
 | nil=>rfl
 | _=>rfl
theorem aG.Mh:∀ {vs:List Value} {xs:List AV},aG M L vs xs→aj L.length xs=true
 | _,_,.nil=>rfl
 | _,_,.cons _ _ _ _ h t=>by simp only [aj,Bool.and_eq_true];exact ⟨h.Mh,t.Mh⟩
end
section
variable {A:Perm} {M:Mem} {L:List Nat} {w:World} {H:List aa} {ev:Nat→Value} {ea:Nat→AV} {O:Pos→Option Nat}
theorem St.om (h:St A M L w H ev ea O) {id b:Nat} {st st':TL} {lc:iH} {es:List AV} {r':Loop} (bk:H[id]?=some (.loop st lc es)) (hL:L[id]?=some b)
 (hr:∀ r,w.heap[b]?=some (.loop r)→r'.params=r.params∧r'.assign=r.assign∧r'.body=r.body∧r'.tmps=r.tmps∧r'.defers=r.defers∧st'.ok r') :
 St A M L (w.putObj b (.loop r')) (H.set id (.loop st' lc es)) ev ea O∧Ext A M w M (w.putObj b (.loop r')):=by
 have xE:b∈L:=List.mem_of_getElem? hL
 have Qt:=h.lt b xE
 obtain ⟨r0,hc,p1,p2,p3,p4,p5⟩:=h.obj id _ b bk hL
 obtain ⟨q1,q2,q3,q4,q5,q6⟩:=hr r0 hc
 have fU:∀ k,k≠b→(w.putObj b (.loop r')).heap[k]?=w.heap[k]?:=fun k hk=>World.putObj_heap_other hk
 have mV:(w.putObj b (.loop r')).heap[b]?=some (.loop r'):=World.putObj_heap_same Qt
 have TM:∀ o,M b o=none:=by
  intro o
  cases hm:M b o with
  | none=>rfl
  | some v=>
    have:=h.mem b o v hm
    simp [World.cell?,hc] at this
 have nr:id < H.length:=aK bk
 refine ⟨{ len:=by simp [h.len],nodup:=h.nodup,env:=h.env,mem:=?_,obj:=?_,bA:=?_,lt:=?_,gX:=?_,gT:=?_,b7:=h.b7,ct:=h.ct,fj:=?_,La:=h.La,Oa:=h.Oa,fresh:=?_ },?_⟩
 ·intro k o v hv
  have hk:k≠b:=by rintro rfl;rw [TM o] at hv;cases hv
  have:=h.mem k o v hv
  simp only [World.cell?] at this ⊢
  rw [fU k hk];exact this
 ·intro id' o k ho hk
  by_cases e0:id'=id
  ·subst e0
   rw [hL] at hk;cases hk
   rw [List.getElem?_set_self nr] at ho
   cases ho
   exact ⟨r',mV,q1.trans p1,q2.trans p2,q3.trans p3,by rw [q4];exact p4,q6⟩
  ·rw [List.getElem?_set_ne (fun h'=>e0 h'.symm)] at ho
   have Dp:k≠b:=by
    rintro rfl
    exact e0 ((List.getElem?_inj (aK hk) h.nodup).1 (hk.trans hL.symm))
   exact (h.obj id' o k ho hk).mono (Mem.bM M) (List.prefix_refl _) (fU k Dp) (fun _=>rfl)
 ·intro id' o ho
  rw [List.length_set]
  by_cases e0:id'=id
  ·subst e0
   rw [List.getElem?_set_self nr] at ho
   cases ho
   exact h.bA id' (.loop st lc es) bk
  ·rw [List.getElem?_set_ne (fun h'=>e0 h'.symm)] at ho
   exact h.bA id' o ho
 ·intro k hk;simpa using h.lt k hk
 ·intro t
  exact (h.gX t).mono fun k hk=>⟨fU k (fun e3=>h.ct _ k hk (e3 ▸ xE)),fun _=>rfl⟩
 ·intro id' j
  by_cases e0:id'=id
  ·subst e0
   have hn:O (.c id' j)=none:=by
    have:=h.gT id' j
    simp only [bn,bk] at this
    exact this
   have e2:bn (H.set id' (.loop st' lc es)) id' j=.any:=by
    unfold bn
    rw [List.getElem?_set_self nr]
   rw [e2,hn];rfl
  ·have e1:bJ L (w.putObj b (.loop r')) id' j=bJ L w id' j:=by
    unfold bJ
    split
    ·rename_i k hk
     have Dp:k≠b:=by
      rintro rfl
      exact e0 ((List.getElem?_inj (aK hk) h.nodup).1 (hk.trans hL.symm))
     simp only [World.cell?]
     rw [fU k Dp]
    ·rfl
   have e2:bn (H.set id (.loop st' lc es)) id' j=bn H id' j:=by
    unfold bn
    rw [List.getElem?_set_ne (fun h'=>e0 h'.symm)]
   rw [e1,e2]
   exact (h.gT id' j).mono fun k hk=>⟨fU k (fun e3=>h.ct _ k hk (e3 ▸ xE)),fun _=>rfl⟩
 ·intro p k hp;simpa using h.fj p k hp
 ·intro k hk;simp at hk;exact h.fresh k hk
 ·exact ⟨Mem.bM M,by simp,rfl,rfl,rfl,fun k hk hA=>⟨fU k (fun e0=>hA (e0 ▸ h.La b xE)),fun _=>rfl⟩,fun k r hk=>by
   by_cases e0:k=b
   ·subst e0
    rw [hc] at hk;cases hk
    exact ⟨r',mV,q5⟩
   ·exact ⟨r,(fU k e0).trans hk,rfl⟩⟩
def Perm.Uu (A:Perm) (D:Nat):Perm:=⟨fun b=>A b∧b≠D,A.top,A.ok,A.base⟩
def Perm.Le (A' A:Perm):Prop:=A'.top=A.top∧(∀ b,A' b→A b)∧A'.base=A.base
theorem Perm.Le.refl (A:Perm):A.Le A:=⟨rfl,fun _ h=>h,rfl⟩
theorem Perm.Le.trans {A B C:Perm} (h:A.Le B) (k:B.Le C):A.Le C:=⟨h.1.trans k.1,fun b hb=>k.2.1 b (h.2.1 b hb),h.2.2.trans k.2.2⟩
theorem Perm.zx (A:Perm) (D:Nat):(A.Uu D).Le A:=⟨rfl,fun _ h=>h.1,rfl⟩
theorem Perm.Le.jo {A' A:Perm} (h:A'.Le A) (len id:Nat):A'.jo len id=A.jo len id:=by unfold Perm.jo;rw [h.1]
theorem Ext.le {A':Perm} {M':Mem} {w':World} (h:Ext A' M w M' w') (hl:A'.Le A):Ext A M w M' w':=
 ⟨h.kR,h.size,h.os,h.tape,h.output,fun b hb hA=>h.kz b hb fun h'=>hA (hl.2.1 b h'),h.loops⟩
theorem St.le {A':Perm} (h:St A' M L w H ev ea O) (hl:A'.Le A):St A M L w H ev ea O:=
 { h with bA:=fun id o ho=>by rw [← hl.jo];exact h.bA id o ho,La:=fun b hb=>hl.2.1 b (h.La b hb),Oa:=fun p b hp=>hl.2.1 b (h.Oa p b hp),fresh:=fun b hb=>hl.2.1 b (h.fresh b hb) }
theorem St.Uu (h:St A M L w H ev ea O) {D:Nat} (h1:D∉L) (h2:∀ p,O p≠some D) (h3:D < w.heap.size):St (A.Uu D) M L w H ev ea O:=
 { h with
   bA:=fun id o ho=>by rw [(A.zx D).jo];exact h.bA id o ho
   La:=fun b hb=>⟨h.La b hb,fun e=>h1 (e ▸ hb)⟩
   Oa:=fun p b hp=>⟨h.Oa p b hp,fun e=>h2 p (e ▸ hp)⟩
   fresh:=fun b hb=>⟨h.fresh b hb,fun e=>by omega⟩ }
theorem O7.le {A':Perm} {ds:List Deferred} (h:O7 A w ds) (hl:A'.Le A):O7 A' w ds:=⟨by rw [hl.2.2];exact h.1,h.2.1,fun d hd=>by
 obtain ⟨D,h1,h2,h3,h4⟩:=h.2.2 d hd
 exact ⟨D,h1,h2,fun h'=>h3 (hl.2.1 D h'),by rw [hl.2.2];exact h4⟩⟩
end
end Go.aH
end
section
namespace Go.aH
open Go
structure bt where
 g:Option (Nat×Bool)
 dst:Option Nat
 op:bY
 deriving Inhabited
inductive DT where
 | done
 | take (st:Bool) (o:bt) (r:DT)
 | br (o:bt) (t rest:DT)
 | nil
 deriving Inhabited
def inst (il:List bt):wS→DT
 | .done=>.done
 | .take i st r=>.take st (il.getD i default) (inst il r)
 | .br i t rest=>.br (il.getD i default) (inst il t) (inst il rest)
 | .nil=>.nil
inductive IR where
 | skip
 | region (ops:List bt) (live:Option (List Nat))
 | draw (t:DT) (live:Option (List Nat))
 | seq (a b:IR)
 | cond (x:IX) (a b:IR)
 | block (id:Nat) (a:IR)
 | loop (a:IR)
 | exit (id:Nat)
 | ret
 | never
 | iY (f:IX) (lc:iH)
 deriving Inhabited
def eE (live:Option (List Nat)) (env:Env):Env:=
 match live with
 | none=>env
 | some l=>l.map fun t=>(t,get env t)
def iq (env:Env) (g:Nat) (want:Bool) (yes no:Env→Prop):Prop:=
 match get env g with
 | .bool b=>(b=want→yes ((g,.bool want)::env))∧(b=(!want)→no ((g,.bool (!want))::env))
 | .tuple []=>no env
 | _=>False
def rH (P:Px) (o:bt) (env:Env) (H:List aa) (K:Env→List aa→Prop):Prop:=
 match o.g with
 | none=>bo P o.op o.dst env H K
 | some (g,want)=>iq env g want (fun env=>bo P o.op o.dst env H K) (fun env=>K (put o.dst (.tuple []) env) H)
def jm (P:Px):List bt→Env→List aa→(Env→List aa→Prop)→Prop
 | [],env,H,K=>K env H
 | o::r,env,H,K=>rH P o env H fun env H=>jm P r env H K
def db (P:Px) (o:bY) (ρ:IX→AV) (H:List aa) (x:AV):Prop:=
 match o with
 | .set i false=>(ρ i).ab=x
 | .pick c a b=>eX (ρ c) fun q=>(q=true→(ρ a).ab=x)∧(q=false→(ρ b).ab=x)
 | .bin op i j=>de op (ρ i) (ρ j) fun z=>z=x
 | .shift op i j=>dS op (ρ i) (ρ j) fun z=>z=x
 | .ic neq i j=>cU neq (ρ i) (ρ j) fun z=>z=x
 | .jg kd neq i=>dj kd neq (ρ i) fun z=>z=x
 | .un op i=>y7 op (ρ i) fun z=>z=x
 | .lL i=>(ρ i).val=true∧.ai (ρ i)=x
 | .build z ps=>cu z.cells (ps.map fun q=>(q.1,q.2.1,ρ q.2.2)) fun v=>v=x
 | .buildSlice own esz z len ps=>bi (List.replicate len (aM z)) esz (ps.map fun q=>(q.1,ρ q.2)) fun xs=>.ap own xs=x
 | .load sz i=>aR sz (ρ i) H fun z=>z=x
 | .nilCheck i=>bQ (ρ i) fun z=>z=x
 | .fieldAddr off sz i=>ak off sz (ρ i) fun z=>z=x
 | .field off sz i=>eY off sz (ρ i) fun z=>z=x
 | .indexAddr esz i j=>(∀ own xs,ρ i=.ap own xs→∀ z∈xs,z.cells.length=esz)∧ay esz (ρ i) (ρ j) fun z=>z=x
 | .dg i j=>bH (ρ i) (ρ j) fun z=>z=x
 | .dQ n i j=>bP n (ρ i) (ρ j) fun z=>z=x
 | .slice esz i lo hi mx=>aV esz (ρ i) (lo.map ρ) (hi.map ρ) (mx.map ρ) fun z=>z=x
 | .dR i lo hi=>ca (ρ i) (lo.map ρ) (hi.map ρ) fun z=>z=x
 | .len kd i=>aL kd (ρ i)∧fq (ρ i) H fun z=>z=x
 | .lookup kd z m k ok=>cr kd z (ρ m) (ρ k) ok H fun v=>v=x
 | .fn f first cap=>.fn f (first.map fun x=>(ρ x).ab) (cap.map fun x=>(ρ x).ab)=x
 | .extract i k=>bB (ρ i) k fun z=>z=x
 | .call f args none=>match ρ f with
   | .fn (.func g) first cap=>∃ bN,w7 (first.map AV.ab++(args.map fun x=>(ρ x).ab)++cap.map AV.ab) bN∧aq P.prog g bN H (fun r H'=>r=x∧H'=H)
   | _=>False
 | .eN k i=>cA k (ρ i) fun z=>z=x
 | .gH i=>fI (ρ i) fun z=>z=x
 | .bytesOf i=>fc 1 (ρ i) fun z=>z=x
 | .nt esz bytes i=>iW esz bytes (ρ i) fun z=>z=x
 | .strOf i=>jE (ρ i) fun z=>z=x
 | .mx big i j=>wT big (ρ i) (ρ j) fun z=>z=x
 | _=>False
def dv (P:Px) (st:Bool) (o:bY) (ρ:IX→AV) (H:List aa) (x:AV):Prop:=
 match st with
 | true=>db P o ρ H x
 | false=>∀ H',db P o ρ H' x
def sY (P:Px) (st:Bool) (o:bt) (env:Env) (H:List aa) (K:Env→Prop):Prop:=
 match o.g with
 | none=>∃ x,dv P st o.op (al env) H x∧K (put o.dst x env)
 | some (g,want)=>iq env g want (fun _=>∃ x,dv P st o.op (al env) H x∧K (put o.dst x env)) (fun _=>K (put o.dst (.tuple []) env))
def ub (P:Px):DT→Env→List aa→(Env→List aa→Prop)→Prop
 | .done,env,H,K=>K env H
 | .take st o r,env,H,K=>sY P st o env H fun env=>ub P r env H K
 | .br o t rest,env,H,K=>rH P o env H (fun env H=>ub P t env H K)∧ub P rest env H K
 | .nil,_,_,_=>True
def sle (n0:Nat) (env:Env) (H:List aa) (aB:Env) (H':List aa):Prop:=
 (∀ t,(get env t).le (get aB t))∧(H'=H∨∃ m,n0≤m∧H'=H.take m∧∀ t,(get aB t).aZ m=true)
def GQ (n0:Nat) (env:Env) (H:List aa) (aB:Env) (H':List aa):Prop:=
 (∀ t,(get env t).le (get aB t))∧(H'=H∨∃ m,n0≤m∧H'=H.take m∧(∀ id o,n0≤id→id < m→H[id]?=some o→o.aZ m=true)∧∀ t,(get aB t).aZ m=true)
def GR (lo:Option Nat) (n0:Nat) (env:Env) (H:List aa) (aB:Env) (H':List aa):Prop:=
 match lo with
 | none=>sle n0 env H aB H'
 | some _=>GQ n0 env H aB H'
def kH (n:Nat) (env:Env):List AV:=(List.range n).map fun t=>(get env t).ab
def behind (id:Nat) (H':List aa) (K:Option Code→List aa→Prop):Prop:=
 match H'[id]? with
 | some (.loop .ready lc es)=>K none (H'.set id (.loop .eI lc es))
 | some (.loop (.jump c) lc es)=>K (some c) (H'.set id (.loop .eI lc es))
 | _=>False
def po (j:Option Code) (Q:Exit→Env→List aa→Prop) (env:Env) (H:List aa):Prop:=
 match j with
 | none=>Q .normal env H
 | some .ret=>Q .ret env H
 | some (.exit id)=>Q (.exit id) env H
 | _=>False
def mP (P:Px) (n0:Nat):IR→Env→List aa→(Exit→Env→List aa→Prop)→Prop
 | .skip,env,H,Q=>Q .normal env H
 | .region ops live,env,H,Q=>jm P ops env H fun aB H'=>Q .normal (eE live aB) H'
 | .draw t live,env,H,Q=>ub P t env H fun aB H'=>Q .normal (eE live aB) H'
 | .seq a b,env,H,Q=>mP P n0 a env H fun e aB H'=>match e with
   | .normal=>mP P n0 b aB H' Q
   | e=>Q e aB H'
 | .cond x a b,env,H,Q=>eX (al env x) fun q=>(q=true→mP P n0 a env H Q)∧(q=false→mP P n0 b env H Q)
 | .block id a,env,H,Q=>mP P n0 a env H fun e aB H'=>match e with
   | .exit id'=>if id'=id then Q .normal aB H' else Q (.exit id') aB H'
   | e=>Q e aB H'
 | .loop a,env,H,Q=>∃ (ι:Type) (I:ι→Prop) (se:ι→Env) (sh:ι→List aa) (μ:ι→Nat),(∃ i,I i∧GR P.lo n0 env H (se i) (sh i))∧
    ∀ i,I i→mP P n0 a (se i) (sh i) fun e aB H'=>match e with
     | .normal=>∃ j,I j∧μ j < μ i∧GR P.lo n0 aB H' (se j) (sh j)
     | e=>Q e aB H'
 | .exit id,env,H,Q=>Q (.exit id) env H
 | .ret,env,H,Q=>Q .ret env H
 | .never,env,H,Q=>False
 | .iY f lc,env,H,Q=>match al env f with
   | .fn (.func g) first cap=>(∀ (as:Array Value) (w:World),(callFunc g as).run P.prog w=.ok (.enter g as) w)∧
     ∃ bN,w7 (first.map AV.ab++[.nk H.length]++cap.map AV.ab) bN∧dU P g bN (H++[.loop .ready lc (kH lc.n env)]) fun _ H'=>behind H.length H' fun j H''=>po j Q env H''
   | _=>False
def A9.at_ (an:A9) (r i:Nat):Nat:=match an.find? fun x=>x.1 == r && x.2.1 == i with | some x=>x.2.2 | none=>0
def mL.at_ (lv:mL) (r:Nat):Option (List Nat):=(lv.find? fun x=>x.1 == r).map (·.2)
def Fv (n:Nat) (o:Oper):Bool:=(match o.dst with | some d=>d < n | none=>true) && (match o.op with | .store .. | .mapUpdate ..=>o.dst.isNone | _=>true)
def Fx (ops:Array Oper) (o:Oper):Option (Option (Nat×Bool)):=
 match o.guard with
 | none=>some none
 | some (j,want)=>match (ops[j]?).bind (·.dst) with
   | some g=>some (some (g,want))
   | none=>none
def Fy (i:IX) (d:Nat):Bool:=match i with | .t s=>decide (s≠d) | _=>true
def QE (P:Program) (ops:Array Oper) (n:Nat) (fl:Nat) (o o':Oper):Option bt:=
 match fl,o.op,o.dst,o.guard,o'.op,o'.dst,o'.guard with
 | 2,.alloc e,some d,none,.store t (.tmp d') x,none,none=>
   if d=d'∧d < n∧t=e then (match aQ x,dK P t,fH P e with
    | some i,some m,some z=>if Fy i d=true∧z.cells.length=m∧z.val=true∧m≠0 then some ⟨none,some d,.ry m i⟩ else none
    | _,_,_=>none) else none
 | _,_,_,_,_,_,_=>none
def eS (P:Program) (ops:Array Oper) (an:A9) (n rid:Nat) (fu:Bool):Nat→Nat→List Oper→Option (List bt)
 | _,_,[]=>some []
 | 0,_,_=>none
 | fuel + 1,k,o::r=>
   if an.at_ rid k=1000∧fu=true then
    match r with
    | o'::r'=>match QE P ops n 2 o o',eS P ops an n rid fu fuel (k + 2) r' with
      | some x,some xs=>some (x::xs)
      | _,_=>none
    | []=>none
   else
    match Fx ops o,eS P ops an n rid fu fuel (k + 1) r with
    | some g,some xs=>if Fv n o=true then some (⟨g,o.dst,Bv P o (an.at_ rid k)⟩::xs) else none
    | _,_=>none
def bY.all:bY→List IX
 | .set i _=>[i]
 | .pick c a b=>[c,a,b]
 | .bin _ i j | .shift _ i j | .ic _ i j | .indexAddr _ i j | .dg i j | .dQ _ i j | .lookup _ _ i j _ | .mx _ i j | .store _ i j | .ns _ i j | .append _ _ i j | .jj _ _ _ i j | .copy _ i j=>[i,j]
 | .nv _ _ i | .yZ _ i | .jg _ _ i | .un _ i | .box i | .lL i | .ry _ i | .load _ i | .sK _ _ i | .eC i | .nilCheck i | .fieldAddr _ _ i | .field _ _ i | .len _ i | .sL _ _ _ i | .nt _ _ i | .extract i _ | .eN _ i | .gH i | .bytesOf i | .strOf i=>[i]
 | .fp i s=>[i,.t s]
 | .kA _ i j k=>[i,j,k]
 | .build _ ps=>ps.map fun q=>q.2.2
 | .buildSlice _ _ _ _ ps | .Bc _ _ _ ps=>ps.map fun q=>q.2
 | .slice _ i lo hi m | .ph _ i lo hi m=>i::(lo.toList++hi.toList++m.toList)
 | .dR i lo hi=>i::(lo.toList++hi.toList)
 | .fn _ first cap=>first++cap
 | .call f args _=>f::args
 | .alloc _ | .nu | .never=>[]
def IX.Pd:List IX→List Nat:=fun l=>l.filterMap fun i=>match i with | .t s=>some s | .c _=>none
def bY.kill:bY→List Nat
 | .set (.t s) true=>[s]
 | .fp _ s=>[s]
 | .append _ _ (.t s) _=>[s]
 | .call _ args pass=>(match pass with | some j=>(match args[j]? with | some (.t s)=>[s] | _=>[]) | none=>[])
 | _=>[]
def bY.QF:bY→Bool
 | .box _ | .alloc _ | .eC _ | .store .. | .ns .. | .sK .. | .fp .. | .sL .. | .nu | .kA .. | .call .. | .copy .. | .yZ .. | .Bc .. | .jj .. | .nv .. | .never=>true
 | _=>false
def bt.lk (o:bt):List Nat:=IX.Pd o.op.all++(match o.g with | some (g,_)=>[g] | none=>[])
def bY.TQ (o:bY) (pure:Bool):Bool:=
 match o with
 | .set _ take=>!take
 | .call _ _ none=>pure
 | .never | .call .. | .append ..=>false
 | .ry ..=>false
 | o=>!o.QF
def bY.xP:bY→Bool
 | .box _ | .alloc _ | .nu=>true
 | _=>false
def bY.stays:bY→Bool
 | .call ..=>false
 | _=>true
def rI (st:Bool) (oi oj:bt):Bool:=
 (match oi.dst with | some d=>!oj.lk.contains d && oj.dst != some d && !oj.op.kill.contains d | none=>true) &&
 (match oj.dst with | some d=>!oi.lk.contains d | none=>true) &&
 oj.op.kill.all (fun s=>!oi.lk.contains s) && (!st || !oj.op.QF || (oj.op.xP && oi.op.stays))
def dn (ops:Array Oper):Nat→Nat→Nat→Bool
 | 0,_,_=>false
 | f + 1,j,i=>match ops[j]? with
   | some o=>o.after.any fun e=>Region.binds .any e && (e.on == i || dn ops f e.on i)
   | none=>false
def nF (ops:Array Oper) (il:List bt) (listed:Array Bool) (i:Nat) (st:Bool):Bool:=
 (List.range ops.size).all fun j=>j == i || listed.getD j true || dn ops ops.size j i || rI st (il.getD i default) (il.getD j default)
def tS (ops:Array Oper) (il:List bt):Nat→Array Bool→Option (List Nat)→wS→Bool
 | _,listed,none,.done=>(Region.ready .any ops listed).isEmpty
 | f + 1,listed,none,.take i st r=>(Region.ready .any ops listed).contains i && (il.getD i default).op.TQ true && nF ops il listed i st && tS ops il f (listed.setIfInBounds i true) none r
 | f + 1,listed,none,.br i t rest=>(match Region.ready .any ops listed with | k::ks=>k == i && tS ops il f (listed.setIfInBounds i true) none t && tS ops il (f + 1) listed (some ks) rest | []=>false)
 | f + 1,listed,some (k::ks),.br i t rest=>k == i && tS ops il f (listed.setIfInBounds i true) none t && tS ops il (f + 1) listed (some ks) rest
 | _,_,some [],.nil=>true
 | _,_,_,_=>false
def jI:List Edge→Nat
 | []=>0
 | e::r=>if Region.binds .any e=true then (1 <<< e.on) ||| jI r else jI r
def gL (rs:List Nat):List Edge→Nat
 | []=>0
 | e::r=>if Region.binds .any e=true∧e.on < rs.length then ((1 <<< e.on) ||| rs.getD e.on 0) ||| gL rs r else gL rs r
def fe:List Oper→List Nat→List Nat
 | [],acc=>acc
 | o::r,acc=>fe r (acc++[gL acc o.after.toList])
def lV (m:Nat):Nat→List Nat→List Nat
 | _,[]=>[]
 | i,a::r=>if m.testBit i=false∧a &&& m=a then i::lV m (i + 1) r else lV m (i + 1) r
def Bz (m i:Nat) (st:Bool) (oi:bt):Nat→List Nat→List bt→Bool
 | j,r::rs,o::os=>(j == i || m.testBit j || r.testBit i || rI st oi o) && Bz m i st oi (j + 1) rs os
 | _,_,[]=>true
 | _,[],_::_=>false
def kX (am rm:List Nat) (il:List bt):Nat→Nat→Option (List Nat)→wS→Bool
 | _,m,none,.done=>(lV m 0 am).isEmpty
 | f + 1,m,none,.take i st r=>(lV m 0 am).contains i && (il.getD i default).op.TQ true && Bz m i st (il.getD i default) 0 rm il && kX am rm il f (m ||| (1 <<< i)) none r
 | f + 1,m,none,.br i t rest=>(match lV m 0 am with | k::ks=>k == i && kX am rm il f (m ||| (1 <<< i)) none t && kX am rm il (f + 1) m (some ks) rest | []=>false)
 | f + 1,m,some (k::ks),.br i t rest=>k == i && kX am rm il f (m ||| (1 <<< i)) none t && kX am rm il (f + 1) m (some ks) rest
 | _,_,some [],.nil=>true
 | _,_,_,_=>false
def mM.at_ (pl:mM) (r:Nat):wS:=match pl.find? fun x=>x.1 == r with | some x=>x.2 | none=>.done
def comp (P:Program) (an:A9) (lv:mL) (pl:mM) (n:Nat):Code→Option IR
 | .skip=>some .skip
 | .region id ops false=>(eS P ops an n id true (ops.size + 1) 0 ops.toList).map fun l=>.region l (lv.at_ id)
 | .region id ops true=>match eS P ops an n id false (ops.size + 1) 0 ops.toList with
   | some il=>if P.follows .mixedOrders=true∧kX (ops.toList.map fun o=>jI o.after.toList) (fe ops.toList []) il ops.size 0 none (pl.at_ id)=true then some (.draw (inst il (pl.at_ id)) (lv.at_ id)) else none
   | none=>none
 | .seq a b=>match comp P an lv pl n a,comp P an lv pl n b with
   | some x,some y=>some (.seq x y)
   | _,_=>none
 | .cond c a b=>match aQ c,comp P an lv pl n a,comp P an lv pl n b with
   | some i,some x,some y=>some (.cond i x y)
   | _,_,_=>none
 | .block id a=>(comp P an lv pl n a).map (.block id)
 | .loop a=>(comp P an lv pl n a).map .loop
 | .exit id=>some (.exit id)
 | .ret=>some .ret
 | .rangeFunc f ps as bd=>(aQ f).map fun i=>.iY i ⟨n,ps.toList,as,bd,an,lv,pl⟩
 | _=>some .never
theorem iZ (n k:Nat):(1 <<< n).testBit k=decide (n=k):=by
 rw [Nat.shiftLeft_eq,Nat.one_mul,Nat.testBit_two_pow]
theorem DV (m:Nat):∀ (es:List Edge),(jI es &&& m=jI es)↔∀ e∈es,Region.binds .any e=true→m.testBit e.on=true:=by
 have key:∀ a:Nat,(a &&& m=a)↔∀ i,a.testBit i=true→m.testBit i=true:=by
  intro a
  constructor
  ·intro h i hi
   rw [← h] at hi
   simp only [Nat.testBit_and,Bool.and_eq_true] at hi
   exact hi.2
  ·intro h
   apply Nat.eq_of_testBit_eq
   intro i
   rw [Nat.testBit_and]
   cases ha:a.testBit i with
   | false=>simp
   | true=>simp [h i ha]
 intro es
 rw [key]
 induction es with
 | nil=>simp [jI]
 | cons e r ih=>
   simp only [jI]
   split
   ·rename_i hb
    constructor
    ·intro h e' DW eh
     rcases List.mem_cons.1 DW with rfl | DW
     ·exact h _ (by simp [])
     ·exact ih.1 (fun i hi=>h i (by simp [hi])) e' DW eh
    ·intro h i hi
     simp only [Nat.testBit_or,Bool.or_eq_true,iZ,decide_eq_true_eq] at hi
     rcases hi with rfl | hi
     ·exact h e (by simp) hb
     ·exact ih.2 (fun e' DW eh=>h e' (List.mem_cons_of_mem _ DW) eh) i hi
   ·rename_i hb
    constructor
    ·intro h e' DW eh
     rcases List.mem_cons.1 DW with rfl | DW
     ·exact absurd eh hb
     ·exact ih.1 h e' DW eh
    ·intro h
     exact ih.2 (fun e' DW eh=>h e' (List.mem_cons_of_mem _ DW) eh)
theorem lW {rs:List Nat} {i:Nat}:∀ {es:List Edge},(gL rs es).testBit i=true→∃ e∈es,Region.binds .any e=true∧e.on < rs.length∧(e.on=i∨(rs.getD e.on 0).testBit i=true)
 | [],h=>by simp [gL] at h
 | e::r,h=>by
   simp only [gL] at h
   split at h
   ·rename_i hb
    simp only [Nat.testBit_or,Bool.or_eq_true,iZ,decide_eq_true_eq] at h
    rcases h with h | h
    ·exact ⟨e,by simp,hb.1,hb.2,h⟩
    ·obtain ⟨e',DW,h'⟩:=lW h
     exact ⟨e',List.mem_cons_of_mem _ DW,h'⟩
   ·obtain ⟨e',DW,h'⟩:=lW h
    exact ⟨e',List.mem_cons_of_mem _ DW,h'⟩
theorem uW:∀ (l:List Oper) (acc:List Nat),∃ r,fe l acc=acc++r∧r.length=l.length
 | [],acc=>⟨[],by simp [fe],rfl⟩
 | o::l,acc=>by
   obtain ⟨r,h1,h2⟩:=uW l (acc++[gL acc o.after.toList])
   exact ⟨gL acc o.after.toList::r,by simp [fe,h1],by simp [h2]⟩
theorem uX:∀ (l:List Oper) (acc:List Nat) (j:Nat) (o:Oper),l[j]?=some o→(fe l acc)[acc.length + j]?=some (gL ((fe l acc).take (acc.length + j)) o.after.toList)
 | [],acc,j,o,h=>by simp at h
 | x::l,acc,0,o,h=>by
   simp at h
   subst h
   simp only [fe]
   obtain ⟨r,h1,h2⟩:=uW l (acc++[gL acc x.after.toList])
   rw [h1]
   simp
 | x::l,acc,j + 1,o,h=>by
   have ih:=uX l (acc++[gL acc x.after.toList]) j o (by simpa using h)
   simp only [fe]
   simp only [List.length_append,List.length_cons,List.length_nil] at ih
   rw [show acc.length + (j + 1)=acc.length + (0 + 1) + j by omega]
   exact ih
theorem DX {ops:Array Oper} {i:Nat}:∀ (j f:Nat),j < f→j < ops.size→((fe ops.toList []).getD j 0).testBit i=true→dn ops f j i=true:=by
 intro j
 induction j using Nat.strongRecOn with
 | _ j ih=>
   intro f hf hj h
   have QG:ops[j]?=some ops[j]:=by simp [hj]
   have hg:=uX ops.toList [] j ops[j] (by simp [hj])
   simp only [List.length_nil,Nat.zero_add] at hg
   rw [List.getD_eq_getElem?_getD,hg,Option.getD_some] at h
   obtain ⟨e,he,hb,aX,Uf⟩:=lW h
   have m8:e.on < j:=by simp at aX;omega
   cases f with
   | zero=>omega
   | succ f=>
     simp only [dn,QG]
     rw [Array.any_eq_true']
     refine ⟨e,by simpa using he,?_⟩
     simp only [Bool.and_eq_true,Bool.or_eq_true,beq_iff_eq]
     refine ⟨hb,?_⟩
     rcases Uf with h1 | h1
     ·exact .inl h1
     ·refine .inr (ih e.on m8 f (by omega) (by omega) ?_)
      have:((fe ops.toList []).take j).getD e.on 0=(fe ops.toList []).getD e.on 0:=by
       simp [List.getD_eq_getElem?_getD,m8]
      rw [this] at h1
      exact h1
def bitsOf (n:Nat) (listed:Array Bool) (m:Nat):Prop:=listed.size=n∧∀ k,m.testBit k=listed.getD k false
theorem uY {n:Nat} {listed:Array Bool} {m i:Nat} (h:bitsOf n listed m) (hi:i < n):bitsOf n (listed.setIfInBounds i true) (m ||| (1 <<< i)):=by
 obtain ⟨h1,h2⟩:=h
 refine ⟨by simp [h1],fun k=>?_⟩
 rw [Nat.testBit_or,h2 k,iZ]
 simp only [Array.getD_eq_getD_getElem?,Array.getElem?_setIfInBounds]
 by_cases hk:i=k
 ·subst hk
  simp [h1,hi]
 ·simp [hk]
theorem uZ {ops:Array Oper} {listed:Array Bool} {m:Nat} (hb:bitsOf ops.size listed m):∀ (l:List Oper) (i:Nat),(∀ j,l[j]?=ops[i + j]?)→
 lV m i (l.map fun o=>jI o.after.toList)=(List.range' i l.length).filter fun i=>!listed.getD i true && ((ops[i]?).map (·.after.all fun e=>!Region.binds .any e || listed.getD e.on false)).getD false
 | [],i,_=>by simp [lV]
 | o::l,i,h=>by
   have h0:ops[i]?=some o:=by simpa using (h 0).symm
   have hi:i < ops.size:=(Array.getElem?_eq_some_iff.1 h0).1
   have ih:=uZ hb l (i + 1) (fun j=>by have:=h (j + 1);simpa [Nat.add_assoc,Nat.add_comm 1 j] using this)
   simp only [List.map_cons,lV,List.length_cons,List.range'_succ,List.filter_cons]
   have e1:(m.testBit i=false)↔(listed.getD i true=false):=by
    rw [hb.2 i]
    have:i < listed.size:=by rw [hb.1];exact hi
    simp [Array.getD,this]
   have e2:(jI o.after.toList &&& m=jI o.after.toList)↔(o.after.all fun e=>!Region.binds .any e || listed.getD e.on false)=true:=by
    rw [DV,Array.all_eq_true']
    simp only [Array.mem_toList_iff,Bool.or_eq_true,Bool.not_eq_true',hb.2]
    constructor
    ·intro h e he
     cases YU:Region.binds .any e with
     | false=>exact .inl rfl
     | true=>exact .inr (h e he YU)
    ·intro h e he YU
     rcases h e he with h | h
     ·rw [YU] at h;cases h
     ·exact h
   by_cases hc:m.testBit i=false∧jI o.after.toList &&& m=jI o.after.toList
   ·rw [if_pos hc,if_pos (by rw [h0];simp only [Option.map_some,Option.getD_some,e1.1 hc.1,e2.1 hc.2,Bool.not_false,Bool.and_self]),ih]
   ·rw [if_neg hc,if_neg (by
     rw [h0]
     simp only [Option.map_some,Option.getD_some,Bool.and_eq_true,Bool.not_eq_true']
     intro h'
     exact hc ⟨e1.2 h'.1,e2.2 h'.2⟩),ih]
theorem rJ {ops:Array Oper} {listed:Array Bool} {m:Nat} (hb:bitsOf ops.size listed m):lV m 0 (ops.toList.map fun o=>jI o.after.toList)=Region.ready .any ops listed:=by
 rw [uZ hb ops.toList 0 (by simp)]
 unfold Region.ready
 simp [List.range_eq_range']
theorem u0 {ops:Array Oper} {il:List bt} {listed:Array Bool} {m i:Nat} {st:Bool} {oi:bt} (hb:bitsOf ops.size listed m):∀ (rs:List Nat) (os:List bt) (j:Nat),(∀ k,os[k]?=il[j + k]?)→(∀ k,rs[k]?=(fe ops.toList [])[j + k]?)→Bz m i st oi j rs os=true→
 ∀ k,j≤k→k < ops.size→k < il.length→(k == i || listed.getD k true || dn ops ops.size k i || rI st oi (il.getD k default))=true
 | rs,[],j,h1,_,_,k,Pc,_,hk=>by
   have:=h1 (k - j)
   rw [show j + (k - j)=k by omega] at this
   simp at this
   omega
 | [],o::os,j,h1,h2,h,_,_,_,_=>by simp [Bz] at h
 | r::rs,o::os,j,h1,h2,h,k,Pc,DN,Bw=>by
   simp only [Bz,Bool.and_eq_true] at h
   by_cases hk:k=j
   ·subst hk
    have ho:il.getD k default=o:=by
     have:=h1 0
     simp at this
     rw [List.getD_eq_getElem?_getD,← this];rfl
    have hr:(fe ops.toList []).getD k 0=r:=by
     have:=h2 0
     simp at this
     rw [List.getD_eq_getElem?_getD,← this];rfl
    have h:=h.1
    simp only [Bool.or_eq_true] at h ⊢
    rcases h with ((h | h) | h) | h
    ·exact .inl (.inl (.inl h))
    ·refine .inl (.inl (.inr ?_))
     rw [hb.2 k] at h
     have:k < listed.size:=by rw [hb.1];exact DN
     simpa [Array.getD,this] using h
    ·exact .inl (.inr (DX k _ DN DN (by rw [hr];exact h)))
    ·rw [ho];exact .inr h
   ·exact u0 hb rs os (j + 1) (fun q=>by have:=h1 (q + 1);simpa [Nat.add_assoc,Nat.add_comm 1 q] using this) (fun q=>by have:=h2 (q + 1);simpa [Nat.add_assoc,Nat.add_comm 1 q] using this) h.2 k (by omega) DN Bw
theorem qf {ops:Array Oper} {listed:Array Bool} {i:Nat} (h:i∈Region.ready .any ops listed):i < ops.size:=by
 unfold Region.ready at h
 simp at h
 exact h.1
theorem I6 {ops:Array Oper} {il:List bt} (df:il.length=ops.size):∀ (p:wS) (f m:Nat) (listed:Array Bool) (rem:Option (List Nat)),bitsOf ops.size listed m→(∀ ks,rem=some ks→∀ k∈ks,k < ops.size)→
 kX (ops.toList.map fun o=>jI o.after.toList) (fe ops.toList []) il f m rem p=true→tS ops il f listed rem p=true:=by
 intro p
 induction p with
 | done=>
   intro f m listed rem hb _ h
   cases rem with
   | none=>cases f <;> (simp only [kX,rJ hb] at h;simpa [tS] using h)
   | some ks=>cases ks <;> cases f <;> simp [kX] at h
 | nil=>
   intro f m listed rem hb _ h
   cases rem with
   | none=>cases f <;> simp [kX] at h
   | some ks=>cases ks <;> cases f <;> simp [kX] at h <;> simp [tS]
 | take i st r ih=>
   intro f m listed rem hb _ h
   cases rem with
   | some ks=>cases ks <;> cases f <;> simp [kX] at h
   | none=>
     cases f with
     | zero=>simp [kX] at h
     | succ f=>
       simp only [kX,rJ hb,Bool.and_eq_true] at h
       obtain ⟨⟨⟨h1,h2⟩,h3⟩,h4⟩:=h
       have hi:i < ops.size:=qf (by simpa using h1)
       simp only [tS,Bool.and_eq_true]
       refine ⟨⟨⟨h1,h2⟩,?_⟩,ih _ _ _ _ (uY hb hi) (by simp) h4⟩
       unfold nF
       refine List.all_eq_true.2 fun k hk=>?_
       have T9:k < ops.size:=List.mem_range.1 hk
       exact u0 hb (fe ops.toList []) il 0 (fun k=>by rw [Nat.zero_add]) (fun k=>by rw [Nat.zero_add]) h3 k (Nat.zero_le _) T9 (by omega)
 | br i t rest I7 Fz=>
   intro f m listed rem hb YV h
   cases f with
   | zero=>cases rem with
     | none=>simp [kX] at h
     | some ks=>cases ks <;> simp [kX] at h
   | succ f=>
     cases rem with
     | none=>
       simp only [kX,rJ hb] at h
       simp only [tS]
       split at h
       ·rename_i k ks hr
        simp only [Bool.and_eq_true,beq_iff_eq] at h
        obtain ⟨⟨rfl,h1⟩,h2⟩:=h
        have hk:∀ q∈k::ks,q < ops.size:=fun q hq=>qf (by rw [hr];exact hq)
        simp only [Bool.and_eq_true,beq_iff_eq,true_and]
        exact ⟨I7 _ _ _ _ (uY hb (hk k (by simp))) (by simp) h1,Fz _ _ _ _ hb (fun ks' e q hq=>by cases e;exact hk q (by simp [hq])) h2⟩
       ·cases h
     | some ks=>
       cases ks with
       | nil=>simp [kX] at h
       | cons k ks=>
         simp only [kX,Bool.and_eq_true,beq_iff_eq] at h
         obtain ⟨⟨rfl,h1⟩,h2⟩:=h
         have hk:=YV _ rfl
         simp only [tS,Bool.and_eq_true,beq_iff_eq,true_and]
         exact ⟨I7 _ _ _ _ (uY hb (hk k (by simp))) (by simp) h1,Fz _ _ _ _ hb (fun ks' e q hq=>by cases e;exact hk q (by simp [hq])) h2⟩
theorem GS (n:Nat):bitsOf n (Array.replicate n false) 0:=⟨by simp,fun k=>by
 simp only [Nat.zero_testBit,Array.getD_eq_getD_getElem?,Array.getElem?_replicate]
 split <;> rfl⟩
section
variable {ro:Option Nat} {P:Program} {lo:Option Nat} {A:Perm} {n:Nat} {M:Mem} {L:List Nat} {w:World} {H:List aa} {env:Env} {O:Pos→Option Nat} {a:Act} {ev:Nat→Value} {ea:Nat→AV}
def DY (A:Perm) (n:Nat) (M0:Mem) (L0:List Nat) (w0:World) (Q:Exit→Env→List aa→Prop) (e:Exit) (a:Act) (w:World):Prop:=
 ∃ A' M L H env O,A'.Le A∧Q e env H∧Fr A' n M L w H env O a∧Ext A M0 w0 M w∧L0 <+: L
theorem Fr.DZ (h:Fr A n M L w H env O a) {aB:Env} (he:get aB=get env):Fr A n M L w H aB O a:=⟨by rw [he];exact h.st,h.size,h.defers⟩
theorem Fr.weaken (h:Fr A n M L w H env O a) {aB:Env} (hl:∀ t,(get env t).le (get aB t)):∃ O',Fr A n M L w H aB O' a:=by
 obtain ⟨O',h'⟩:=h.st.weaken hl
 exact ⟨O',h',h.size,h.defers⟩
theorem le_refl (x:AV):x.le x:=.inl rfl
theorem QH (x:AV):x.le .any:=.inr (.inl rfl)
theorem xQ (live:Option (List Nat)) (env:Env) (t:Nat):(get env t).le (get (eE live env) t):=by
 cases live with
 | none=>exact le_refl _
 | some l=>
   simp only [eE]
   induction l with
   | nil=>exact QH _
   | cons s l ih=>
     simp only [List.map_cons,get]
     split
     ·rename_i e;subst e;exact le_refl _
     ·exact ih
theorem get_mem {env:Env} {t:Nat} {x:AV} (h:get env t=x):x=.any∨(t,x)∈env:=by
 induction env with
 | nil=>left;exact h.symm
 | cons p r ih=>
   obtain ⟨k,v⟩:=p
   simp only [get] at h
   split at h
   ·rename_i e;subst e;subst h;right;simp
   ·rcases ih h with h' | h'
    ·exact .inl h'
    ·exact .inr (List.mem_cons_of_mem _ h')
theorem aA (n0:Nat) (env:Env) (H:List aa):sle n0 env H env H:=⟨fun t=>le_refl _,.inl rfl⟩
def fL (lo:Option Nat) (n0:Nat) (A:Perm):Prop:=(∀ id,id < n0→∃ m,m≤n0∧A.top id=some m)∧match lo with
 | none=>∀ id,n0≤id→A.top id=some (id + 1)
 | some l=>l=n0∧∀ id,n0≤id→A.top id=none
theorem fL.opens {n0:Nat} (h:fL lo n0 A):∀ l,lo=some l→∀ id,l≤id→A.top id=none:=by
 rintro l rfl id bk
 obtain ⟨_,rfl,h⟩:=h
 exact h id bk
theorem fL.low {n0 m:Nat} (h:fL lo n0 A) (hm:n0≤m) (hs:St A M L w H ev ea O):∀ id o,id < n0→H[id]?=some o→o.aZ m=true:=by
 intro id o bk ho
 obtain ⟨k,hk,e⟩:=h.1 id bk
 have:=hs.bA id o ho
 refine aa.cN ?_ o this
 unfold Perm.jo
 rw [e]
 exact Nat.le_trans (Nat.min_le_left _ _) (by omega)
theorem fL.closed {n0 m:Nat} (h:fL none n0 A) (hm:n0≤m) (hs:St A M L w H ev ea O):∀ id o,id < m→H[id]?=some o→o.aZ m=true:=by
 intro id o bk ho
 by_cases e:id < n0
 ·exact h.low hm hs id o e ho
 ·have e1:=h.2 id (by omega)
  have:=hs.bA id o ho
  refine aa.cN ?_ o this
  unfold Perm.jo
  rw [e1]
  exact Nat.le_trans (Nat.min_le_left _ _) (by omega)
theorem Fr.sle (h:Fr A n M L w H env O a) {aB:Env} {H':List aa} {L0:List Nat} (hA:fL lo L0.length A) (hL:L0 <+: L) (hl:GR lo L0.length env H aB H'):∃ L' O',Fr A n M L' w H' aB O' a∧L0 <+: L':=by
 have xb:GQ L0.length env H aB H':=by
  unfold GR at hl
  split at hl
  ·obtain ⟨h1,h2⟩:=hl
   refine ⟨h1,?_⟩
   rcases h2 with rfl | ⟨m,hm,rfl,hb⟩
   ·exact .inl rfl
   ·exact .inr ⟨m,hm,rfl,fun id o _ bk ho=>hA.closed hm h.st id o bk ho,hb⟩
  ·exact hl
 obtain ⟨h1,h2⟩:=xb
 obtain ⟨O',hf⟩:=h.weaken h1
 rcases h2 with rfl | ⟨m,hm,rfl,hc,hb⟩
 ·exact ⟨L,O',hf,hL⟩
 ·obtain ⟨O'',bO⟩:=hf.st.cut m (fun id o bk ho=>by
   by_cases e:id < L0.length
   ·exact hA.low hm hf.st id o e ho
   ·exact hc id o (by omega) bk ho) hb
  refine ⟨L.take m,O'',⟨bO,hf.size,hf.defers⟩,?_⟩
  obtain ⟨r,rfl⟩:=hL
  exact ⟨r.take (m - L0.length),by rw [List.take_append,List.take_of_length_le hm]⟩
theorem zy {ops:Array Oper} {j g:Nat} (hg:(ops[j]?).bind (·.dst)=some g) (hf:Fr A n M L w H env O a) {b:Bool} (hb:get env g=.bool b):yielded ops a.tmps j=some b:=by
 have hr:=hf.st.env g
 rw [hb] at hr
 generalize hv:a.tmps.getD g undef=v at hr
 cases hr
 have:a.tmps[g]?=some (.bool b):=by
  rw [Array.getD_eq_getD_getElem?] at hv
  cases h:a.tmps[g]? with
  | none=>rw [h] at hv;cases hv
  | some v=>rw [h] at hv;simp at hv;rw [hv]
 simp [yielded,hg,this]
theorem xc {ops:Array Oper} {j g:Nat} (hg:(ops[j]?).bind (·.dst)=some g) (hf:Fr A n M L w H env O a) (hb:get env g=.tuple []):yielded ops a.tmps j=none:=by
 have hr:=hf.st.env g
 rw [hb] at hr
 generalize hv:a.tmps.getD g undef=v at hr
 cases hr with
 | tuple cs _ h=>
 rw [Array.getD_eq_getD_getElem?] at hv
 simp only [yielded,hg,Option.bind_some]
 cases h:a.tmps[g]? with
 | none=>rfl
 | some v=>rw [h] at hv;simp at hv;rw [hv]
theorem xR {ops:Array Oper} {o:Oper} {fl:Nat} {g:Option (Nat×Bool)} (hg:Fx ops o=some g) (fZ:Fv n o=true) (hp:∀ l,lo=some l→∀ id,l≤id→A.top id=none) (hf:Fr A n M L w H env O a) {K:Env→List aa→Prop} (h:rH ⟨P,lo⟩ ⟨g,o.dst,Bv P o fl⟩ env H K) (Q:Exit→Act→World→Prop) :
 if Region.wanted o (yielded ops a.tmps) then o.wpIn (wf ro) 0 P a w (nj A n M L w K) Q else nj A n M L w K (a.put o.dst undef) w:=by
 simp only [Fv,Bool.and_eq_true] at fZ
 have hd:∀ d,o.dst=some d→d < n:=by
  intro d hd
  have:=fZ.1
  rw [hd] at this
  simpa using this
 have hn:(match o.op with | .store .. | .mapUpdate ..=>o.dst=none | _=>True):=by
  have:=fZ.2
  split at this <;> first | trivial | skip
  ·simpa using this
  ·simpa using this
 unfold Fx at hg
 split at hg
 ·rename_i LA
  cases hg
  rw [if_pos (by simp [Region.wanted,LA])]
  exact sX o hp hf hd hn h
 ·rename_i j want LA
  split at hg <;> cases hg
  rename_i g hgj
  simp only [rH,iq] at h
  split at h
  rotate_left
  ·rename_i hb
   have hy:=xc hgj hf hb
   rw [if_neg (by simp [Region.wanted,LA,hy])]
   obtain ⟨O',pn⟩:=hf.oO (dst:=o.dst) (v:=undef) (x:=.tuple []) hd (.tuple [] [] .nil) (by intro _ _ e;cases e)
   exact ⟨M,L,H,_,O',h,pn,Ext.refl A M w,List.prefix_refl L⟩
  ·exact h.elim
  rename_i b hb
  have hy:=zy hgj hf hb
  have Uv:get ((g,AV.bool b)::env)=get env:=by
   rw [II];funext t;simp only [fz];split
   ·rename_i e;rw [e,hb]
   ·rfl
  by_cases hw:b=want
  ·subst hw
   rw [if_pos (by simp [Region.wanted,LA,hy])]
   exact sX o hp (hf.DZ Uv) hd hn (h.1 rfl)
  ·have FA:b=!want:=by cases b <;> cases want <;> simp_all
   subst FA
   rw [if_neg (by simp [Region.wanted,LA,hy])]
   obtain ⟨O',pn⟩:=(hf.DZ Uv).oO (dst:=o.dst) (v:=undef) (x:=.tuple []) hd (.tuple [] [] .nil) (by intro _ _ e;cases e)
   exact ⟨M,L,H,_,O',h.2 rfl,pn,Ext.refl A M w,List.prefix_refl L⟩
theorem nj.trans {K K':Env→List aa→Prop} {M':Mem} {L':List Nat} {w':World} {a':Act} {w'':World} (cB:Ext A M w M' w') (hL:L <+: L') (h:nj A n M' L' w' K a' w''):nj A n M L w K a' w'':=by
 obtain ⟨M2,L2,H2,cP,O2,h1,h2,h3,h4⟩:=h
 exact ⟨M2,L2,H2,cP,O2,h1,h2,cB.trans h3,hL.trans h4⟩
theorem BA (w:World) (c c':Array Value) (e:TypeId):({ w with heap:=w.heap.push (.cells c e) }:World).setRow w.heap.size c'={ w with heap:=w.heap.push (.cells c' e) }:=by
 simp only [World.setRow]
 congr 1
 apply Array.ext
 ·simp
 ·intro i h1 h2
  rw [Array.getElem_modify]
  by_cases hi:w.heap.size=i
  ·subst hi;simp
  ·simp only [hi,if_false]
   have:i < w.heap.size:=by simp at h2;omega
   rw [Array.getElem_push_lt this,Array.getElem_push_lt this]
theorem D0 {ops:Array Oper} {o o':Oper} {x:bt} (hx:QE P ops n 2 o o'=some x) (hf:Fr A n M L w H env O a) {K:Env→List aa→Prop} (h:rH ⟨P,lo⟩ x env H K) (r:List Oper) (Q:Exit→Act→World→Prop)
 (hrest:∀ a' w',nj A n M L w K a' w'→wpListIn (wf ro) 0 P ops Q r a' w'):wpListIn (wf ro) 0 P ops Q (o::o'::r) a w:=by
 unfold QE at hx
 split at hx <;> try cases hx
 rename_i e d t d' y _ cR fZ LA YW Uw YX
 split at hx <;> try cases hx
 rename_i hcond
 obtain ⟨rfl,Uq,rfl⟩:=hcond
 split at hx <;> try cases hx
 rename_i i m z hi hm hz
 split at hx <;> cases hx
 rename_i hcond
 obtain ⟨eM,iV,sO,Bm⟩:=hcond
 simp only [rH,bo] at h
 obtain ⟨nB,iR,kB,hK⟩:=h
 have hr:=hf.eval hi
 have L6:=hr.fV nB
 have pP:=L6.length
 -- the zero value
 obtain ⟨inf,iT,df⟩:=Option.map_eq_some_iff.1 hm
 unfold fH at hz
 simp only [iT] at hz
 split at hz <;> try cases hz
 rename_i zv uJ
 have tX:zv.cells.size=m:=by have:=((cI (M:=M) (L:=L) hz).fV sO).length;rw [iV] at this;simpa using this
 have hrun1:(execOp a.eval o).run P w=.ok (.value (.pointer (some ⟨w.heap.size,0,none⟩))) { w with heap:=w.heap.push (.cells zv.cells t) }:=by
  simp only [execOp,cR]
  exact aW (by simp only [Instr.alloc,zeroValue,typeInfo,Sem.run_bind,run_program,Result.andThen_ok,iT,Sem.run_pure,uJ];rfl)
 have hsize:d < a.tmps.size:=by rw [hf.size];exact Uq
 have Qy:(a.put (some d) (.pointer (some ⟨w.heap.size,0,none⟩))).eval (.tmp d)=.pointer (some ⟨w.heap.size,0,none⟩):=by
  show (a.put (some d) _).tmps.getD d undef=_
  rw [uE a d _ hsize d];simp [fz]
 have YY:(a.put (some d) (.pointer (some ⟨w.heap.size,0,none⟩))).eval y=a.eval y:=by
  cases y with
  | tmp s=>
    simp [aQ] at hi;subst hi
    simp [Fy] at eM
    show (a.put (some d) _).tmps.getD s undef=a.tmps.getD s undef
    rw [uE a d _ hsize s];simp [fz,eM]
  | _=>rfl
 have bO:=run_storeCells_at P w.heap.size 0 t (a.eval y).cells.toList 0 zv.cells { w with heap:=w.heap.push (.cells zv.cells t) } (dJ w _) (by simp at pP ⊢;omega) (L6.gG kB)
 have hwhole:(zv.cells.toList.take (0 + 0)++(a.eval y).cells.toList++zv.cells.toList.drop (0 + 0 + (a.eval y).cells.toList.length)).toArray=(a.eval y).cells:=by
  have:zv.cells.toList.drop (0 + 0 + (a.eval y).cells.toList.length)=[]:=List.drop_eq_nil_of_le (by simp at pP ⊢;omega)
  rw [this];simp
 rw [hwhole,BA] at bO
 have hrun2:(execOp (a.put (some d) (.pointer (some ⟨w.heap.size,0,none⟩))).eval o').run P { w with heap:=w.heap.push (.cells zv.cells t) }=.ok .skip { w with heap:=w.heap.push (.cells (a.eval y).cells t) }:=by
  simp only [execOp,YW,Qy,YY]
  refine pY ?_
  have hs:(sizeOf t).run P { w with heap:=w.heap.push (.cells zv.cells t) }=.ok m { w with heap:=w.heap.push (.cells zv.cells t) }:=by simp [sizeOf,typeInfo,iT,df]
  simp only [Instr.storeAt,Instr.sureAddr,storeVar,Sem.run_bind,Sem.run_pure,Result.andThen_ok,hs,ne_eq]
  rw [if_neg (by simp at pP;omega)]
  exact bO
 obtain ⟨g1,g2,g3⟩:=hf.st.Dz (a.eval y).cells t
 have fF:aS (M.add w.heap.size (a.eval y).cells.toList) L (.pointer (some ⟨w.heap.size,0,none⟩)) (.ai (al env i)):=.ai _ _ _ _ (L6.mono g2.kR (List.prefix_refl _)) g3
 obtain ⟨O',pn⟩:=(hf.mono g1 g2).oO (dst:=some d) (fun d' e=>by cases e;exact Uq) fF (by intro _ _ e;cases e)
 have j4:=hrest _ _ ⟨_,L,H,_,O',hK,pn,g2,List.prefix_refl L⟩
 unfold wpListIn
 rw [if_pos (by simp [Region.wanted,LA])]
 refine kS hrun1 (by intro d e;cases e) ?_
 rw [Oper.uponIn_value,fZ]
 unfold wpListIn
 rw [if_pos (by simp [Region.wanted,YX])]
 refine kS hrun2 (by intro d e;cases e) ?_
 rw [Oper.uponIn_skip,Uw]
 exact j4
theorem pq {ops:Array Oper} {an:A9} {rid:Nat} {fu:Bool} (hp:∀ l,lo=some l→∀ id,l≤id→A.top id=none) (Q:Exit→Act→World→Prop):∀ (fuel k:Nat) (l:List Oper) (il:List bt),eS P ops an n rid fu fuel k l=some il→∀ {M:Mem} {L:List Nat} {w:World} {H:List aa} {env:Env} {O:Pos→Option Nat} {a:Act} (K:Env→List aa→Prop),
 Fr A n M L w H env O a→jm ⟨P,lo⟩ il env H K→(∀ a' w',nj A n M L w K a' w'→Q .normal a' w')→wpListIn (wf ro) 0 P ops Q l a w
 | _,_,[],il,hc,M,L,w,H,env,O,a,K,hf,h,hQ=>by
   unfold eS at hc
   cases hc
   exact hQ a w ⟨M,L,H,env,O,h,hf,Ext.refl A M w,List.prefix_refl L⟩
 | 0,_,o::r,il,hc,_,_,_,_,_,_,_,_,_,_,_=>by simp [eS] at hc
 | fuel + 1,k,o::r,il,hc,M,L,w,H,env,O,a,K,hf,h,hQ=>by
   unfold eS at hc
   split at hc
   ·-- a new variable with its first value
    split at hc <;> try cases hc
    rename_i o' r'
    split at hc <;> cases hc
    rename_i x xs hx ej
    simp only [jm] at h
    refine D0 hx hf h r' Q ?_
    rintro a' w' ⟨M',L',H',aB,O',k1,k2,k3,k4⟩
    exact pq hp Q fuel (k + 2) r' xs ej K k2 k1 (fun a2 w2 h2=>hQ a2 w2 (nj.trans (K':=K) k3 k4 h2))
   ·split at hc <;> try cases hc
    rename_i g xs hg ej
    split at hc <;> cases hc
    rename_i fZ
    simp only [jm] at h
    have h1:=xR (ro:=ro) (ops:=ops) hg fZ hp hf h Q
    have hrest:∀ a' w',nj A n M L w (fun env H=>jm ⟨P,lo⟩ xs env H K) a' w'→wpListIn (wf ro) 0 P ops Q r a' w':=by
     rintro a' w' ⟨M',L',H',aB,O',k1,k2,k3,k4⟩
     exact pq hp Q fuel (k + 1) r xs ej K k2 k1 (fun a2 w2 h2=>hQ a2 w2 (nj.trans (K':=K) k3 k4 h2))
    unfold wpListIn
    split
    ·rename_i hw
     rw [if_pos hw] at h1
     exact Oper.wpIn_mono hrest h1
    ·rename_i hw
     rw [if_neg hw] at h1
     exact ⟨fun _ _=>trivial,hrest _ _ h1⟩
theorem DY.trans {A':Perm} {M0 M1:Mem} {L0:List Nat} {w0 w1:World} {Q:Exit→Env→List aa→Prop} {e:Exit} {a:Act} {w:World} (hl:A'.Le A) (hx:Ext A M0 w0 M1 w1) (hp:DY A' n M1 L0 w1 Q e a w):DY A n M0 L0 w0 Q e a w:=by
 obtain ⟨A2,M,L,H,env,O,hA,h1,h2,h3,h4⟩:=hp
 exact ⟨A2,M,L,H,env,O,hA.trans hl,h1,h2,hx.trans (h3.le hl),h4⟩
theorem fL.le {n0:Nat} {A':Perm} (h:fL lo n0 A) (hl:A'.Le A):fL lo n0 A':=by
 unfold fL at *
 rw [hl.1]
 exact h
def Own (ro:Option Nat) (w:World):Prop:=∀ l,ro=some l→∃ r,w.heap[l]?=some (.loop r)
theorem Own.ext {M':Mem} {w':World} (h:Own ro w) (hx:Ext A M w M' w'):Own ro w':=fun l hl=>by
 obtain ⟨r,hr⟩:=h l hl
 obtain ⟨r',YZ,_⟩:=hx.loops l r hr
 exact ⟨r',YZ⟩
theorem GU (p:Nat→Prop) (h:∃ k,p k):∃ k,p k∧∀ j,p j→k≤j:=by
 obtain ⟨k,hk⟩:=h
 induction k using Nat.strongRecOn with
 | _ k ih=>
   by_cases hl:∃ j,j < k∧p j
   ·obtain ⟨j,hj,hp⟩:=hl
    exact ih j hj hp
   ·exact ⟨k,hk,fun j hj=>by
     rcases Nat.lt_or_ge j k with h' | h'
     ·exact absurd ⟨j,h',hj⟩ hl
     ·exact h'⟩
theorem zz {F:Fence} {k:Nat} {c:Code} {Q:Exit→Act→World→Prop} {w:World} {a:Act} {ι:Type} (I:ι→Act→World→Prop) (μ:ι→Nat)
 (round:∀ i a w,I i a w→c.wpIn F k P (Exit.then (fun a' w'=>∃ j,I j a' w'∧μ j < μ i) Q) a w) (i0:ι) (h0:I i0 a w):(Code.loop c).wpIn F k P Q a w:=by
 let p:Act→World→Nat→Prop:=fun a w k=>∃ i,I i a w∧μ i=k
 let ν:Act→World→Nat:=fun a w=>Classical.epsilon fun k=>p a w k∧∀ j,p a w j→k≤j
 have hν:∀ a w,(∃ i,I i a w)→p a w (ν a w)∧∀ j,p a w j→ν a w≤j:=by
  rintro a w ⟨i,hi⟩
  exact Classical.epsilon_spec (GU (p a w) ⟨μ i,i,hi,rfl⟩)
 refine wpIn_loop (fun a w=>∃ i,I i a w) ν ⟨i0,h0⟩ ?_
 intro a w hI
 obtain ⟨⟨i,hi,hμ⟩,_⟩:=hν a w hI
 refine Go.wpIn_mono (round i a w hi) ?_
 intro e a' w' h
 cases e with
 | normal=>
   obtain ⟨j,hj,aX⟩:=h
   refine ⟨⟨j,hj⟩,?_⟩
   have:=(hν a' w' ⟨j,hj⟩).2 (μ j) ⟨j,hj,rfl⟩
   omega
 | _=>exact h
def xS (P:Program) (ro lo:Option Nat) (A:Perm) (n:Nat) (L0:List Nat):Prop:=
 ∀ {id:Nat} {ops:Array Oper} {il:List bt} {p:wS} {live:Option (List Nat)} {an:A9} {M:Mem} {L:List Nat} {w:World} {H:List aa} {env:Env} {O:Pos→Option Nat} {a:Act} {M0:Mem} {w0:World} {Q:Exit→Env→List aa→Prop},
  P.follows .mixedOrders=true→kX (ops.toList.map fun o=>jI o.after.toList) (fe ops.toList []) il ops.size 0 none p=true→eS P ops an n id false (ops.size + 1) 0 ops.toList=some il→mP ⟨P,lo⟩ L0.length (.draw (inst il p) live) env H Q→Fr A n M L w H env O a→Ext A M0 w0 M w→L0 <+: L→(Code.region id ops true).wpIn (wf ro) 0 P (DY A n M0 L0 w0 Q) a w
theorem BB {L0:List Nat} (hA:fL lo L0.length A) {f:Operand} {ps:Array Tmp} {as bd:Code} {an:A9} {lv:mL} {pl:mM} {i:IX} (hi:aQ f=some i) {Q:Exit→Env→List aa→Prop}
 (wQ:Own ro w) (h:mP ⟨P,lo⟩ L0.length (.iY i ⟨n,ps.toList,as,bd,an,lv,pl⟩) env H Q) (hf:Fr A n M L w H env O a) (hL:L0 <+: L):(Code.rangeFunc f ps as bd).wpIn (wf ro) 0 P (DY A n M L0 w Q) a w:=by
 have Lz:=hf.eval hi
 simp only [mP] at h
 split at h <;> try exact h.elim
 rename_i g first cap Us
 obtain ⟨hcf,bN,hle,hcall⟩:=h
 rw [Us] at Lz
 generalize hu:a.eval f=u at Lz
 cases Lz with
 | fn _ fs cs _ _ zt rE=>
 refine wpIn_rangeFunc fun fn _=>?_
 -- the record
 have enter:∃ (l:Nat) (mark:List Deferred) (w1:World) (A1:Perm),(Instr.enterLoop fn a.tmps ps as bd ro).run P w=.ok (l,mark) w1∧A1.Le A∧
  Fr A1 n M (L++[l]) w1 (H++[.loop .ready ⟨n,ps.toList,as,bd,an,lv,pl⟩ (kH n env)]) env O { a with defers:=mark++a.defers }∧Ext A M w M w1:=by
  have zj:aG M L a.tmps.toList (kH n env):=by
   refine aG.yW (by simp [kH,hf.size]) fun j x hx=>?_
   simp only [kH,List.getElem?_map] at hx
   obtain ⟨t,ht,rfl⟩:=Option.map_eq_some_iff.1 hx
   obtain ⟨pO,rfl⟩:=List.getElem?_eq_some_iff.1 ht
   simp only [List.length_range] at pO
   simp only [List.getElem_range]
   have:=(hf.st.env j).ab
   refine ⟨a.tmps.getD j undef,?_,this⟩
   rw [Array.getD_eq_getD_getElem?,Array.getElem?_toList,Array.getElem?_eq_getElem (by rw [hf.size];exact pO)]
   rfl
  have ni:(aa.loop .ready ⟨n,ps.toList,as,bd,an,lv,pl⟩ (kH n env)).aZ (H.length + 1)=true:=by
   simp only [aa.aZ]
   have:=zj.Mh
   rw [hf.st.len] at this
   exact bD (by omega) _ this
  cases ro with
  | none=>
    have hg:=hf.st.grow (w':={ w with heap:=w.heap.push (.deferred (some [])) }) (Mem.bM M) (fun b o v hv=>by
     have h1:=hf.st.mem b o v hv
     simp only [World.cell?] at h1 ⊢
     cases hb:w.heap[b]? with
     | none=>rw [hb] at h1;simp at h1
     | some ob=>rw [ep w _ (Array.getElem?_eq_some_iff.1 hb).1];exact h1) (by simp) (fun b hb=>ep w _ hb) (fun _ _ _=>rfl)
    have s5:Ext A M w M { w with heap:=w.heap.push (.deferred (some [])) }:=Ext.grow (Mem.bM M) (by simp) rfl rfl rfl (fun b hb=>ep w _ hb) (fun _ _ _=>rfl)
    have hb:=hg.Uu (D:=w.heap.size) (fun hm=>by have:=hf.st.lt _ hm;omega) (fun p hp=>by have:=hf.st.fj _ _ hp;omega) (by simp)
    obtain ⟨g1,g2⟩:=hb.rv (.loop { state:=.ready,pending:=none,fn,tmps:=a.tmps,params:=ps,assign:=as,body:=bd,defers:=w.heap.size }) (.loop .ready ⟨n,ps.toList,as,bd,an,lv,pl⟩ (kH n env))
     (fun w' IU _=>⟨_,IU,(Array.toArray_toList).symm,rfl,rfl,zj.mono (Mem.bM M) ⟨_,rfl⟩,rfl,rfl⟩) ni (fun j=>rfl)
    refine ⟨w.heap.size + 1,_,_,A.Uu w.heap.size,run_enterLoop_outer _ _ _ _ _,A.zx _,⟨?_,hf.size,?_⟩,?_⟩
    ·have e1:({ w with heap:=w.heap.push (.deferred (some [])) }:World).heap.size=w.heap.size + 1:=by simp
     rw [e1] at g1
     exact g1
    ·have old:=((hf.defers.ext s5).le (A.zx w.heap.size)).ext g2
     refine ⟨old.1,?_,fun d hd=>?_⟩
     ·show (_::a.defers).Nodup
      rw [List.nodup_cons]
      refine ⟨fun hm=>?_,old.2.1⟩
      obtain ⟨D,e,hD,_⟩:=hf.defers.2.2 _ hm
      cases e
      have:=(Array.getElem?_eq_some_iff.1 hD).1
      omega
     rcases List.mem_append.1 hd with hd | hd
     ·rw [List.mem_singleton] at hd
      subst hd
      refine ⟨w.heap.size,rfl,?_,(fun h=>h.2 rfl),(show A.base≤w.heap.size from hf.defers.1)⟩
      show ((w.heap.push _).push _)[w.heap.size]?=_
      rw [Array.getElem?_push_lt (by simp)]
      simp
     ·exact old.2.2 d hd
    ·exact s5.trans (g2.le (A.zx _))
  | some l0=>
    obtain ⟨r0,Y0⟩:=wQ l0 rfl
    obtain ⟨g1,g2⟩:=hf.st.rv (.loop { state:=.ready,pending:=none,fn,tmps:=a.tmps,params:=ps,assign:=as,body:=bd,defers:=r0.defers }) (.loop .ready ⟨n,ps.toList,as,bd,an,lv,pl⟩ (kH n env))
     (fun w' IU _=>⟨_,IU,(Array.toArray_toList).symm,rfl,rfl,zj.mono (Mem.bM M) ⟨_,rfl⟩,rfl,rfl⟩) ni (fun j=>rfl)
    exact ⟨w.heap.size,[],_,A,run_enterLoop_inner Y0 _ _ _ _ _,Perm.Le.refl A,⟨g1,hf.size,by simpa using hf.defers.ext g2⟩,g2⟩
 obtain ⟨l,mark,w1,A1,he,D1,Fp,s5⟩:=enter
 have LB:L.length=H.length:=hf.st.len
 have tT:(L++[l])[H.length]?=some l:=by rw [← LB];simp
 have QI:fL lo L0.length A1:=hA.le D1
 obtain ⟨loose,uK,hcall⟩:∃ loose:Bool,(loose=true→∀ id,(H++[aa.loop .ready ⟨n,ps.toList,as,bd,an,lv,pl⟩ (kH n env)]).length≤id→A1.top id=none)∧
  kF loose P g bN (H++[.loop .ready ⟨n,ps.toList,as,bd,an,lv,pl⟩ (kH n env)]) fun _ H'=>behind H.length H' fun j H''=>po j Q env H'':=by
  unfold dU at hcall
  split at hcall
  ·exact ⟨false,by simp,hcall⟩
  ·rename_i l' xb
   rcases hcall with hcall | ⟨h1,hcall⟩
   ·exact ⟨false,by simp,hcall⟩
   ·exact ⟨true,fun _ id bk=>QI.opens l' xb id (by omega),hcall⟩
 have hry:aG M (L++[l]) (fs++[.func (.yield l) #[] #[]]) (first++[.nk H.length]):=
  (zt.mono (Mem.bM M) ⟨_,rfl⟩).append (.one (.nk l _ tT))
 obtain ⟨Oc,pP,bO,fin⟩:=rG (o:=(⟨none,.move f,0, "",#[],none⟩:Oper)) (K:=fun aB H'=>aB=env∧behind H.length H' fun j H''=>po j Q env H'') (xs:=[]) (js:=[]) rfl (pass:=none) hry (rE.mono (Mem.bM M) ⟨[l],rfl⟩)
  (by simpa [aD,AV.ab] using hle) Fp (fun d e=>by cases e) uK
 obtain ⟨vs,wX⟩:∃ vs:List Value,vs=fs++[.func (.yield l) #[] #[]]++cs:=⟨_,rfl⟩
 simp only [List.map_nil,List.append_nil] at pP bO
 rw [← wX] at pP bO
 refine ⟨l,mark,w1,{ target:=.fn (.func g) cs.toArray,args:=fs.toArray++#[.func (.yield l) #[] #[]] },w1,g,vs.toArray,w1,he,?_,fun _ _=>trivial,?_,(fun h=>by cases h),?_⟩
 ·have ec:a.eval (.const (.func (.yield l) #[] #[]))=.func (.yield l) #[] #[]:=rfl
  simp [resolve,hu,Deferred.ofValue,ec]
 ·have e1:(fs.toArray++#[.func (.yield l) #[] #[]]++cs.toArray:Array Value)=vs.toArray:=by
   apply Array.ext';simp [wX]
  simp only [invoke]
  rw [e1]
  exact hcf _ _
 ·rcases hcall (dz A1 loose (H++[aa.loop .ready ⟨n,ps.toList,as,bd,an,lv,pl⟩ (kH n env)]) (L++[l]) Oc w1) M (L++[l]) w1 vs.toArray Oc (kG A1 loose _ _ Oc w1) (by simpa using pP) bO with ⟨_,hc⟩ | ⟨v,w',r,H',M',L',O',h1,_⟩
  ·have oP:CallsIn (wf ro) (0 - 1) P g vs.toArray w1 _:=callsIn_wide.2 hc
   refine CallsIn.mono oP fun e w' he=>?_
   obtain ⟨v,r,H',M',L',O',rfl,hK,lR,cB,Ux⟩:=he
   obtain ⟨M2,L2,H2,cP,O2,⟨rfl,hb⟩,sU,Pe,QJ⟩:=fin v r H' M' L' O' w' ⟨rfl,hK⟩ lR cB Ux
   have rn:L2[H.length]?=some l:=fR QJ tT
   have lK:L0 <+: L2:=hL.trans ((List.prefix_append L [l]).trans QJ)
   unfold behind at hb
   split at hb
   ·rename_i lc es D2
    obtain ⟨r,q1,q2,q3,q4,q5,q6⟩:=sU.st.obj _ _ l D2 rn
    obtain ⟨k1,k2⟩:=sU.st.om (st':=.eI) (r':={ r with state:=.exhausted }) D2 rn (fun r2 rE=>by rw [q1] at rE;cases rE;exact ⟨rfl,rfl,rfl,rfl,rfl,trivial⟩)
    exact ⟨none,_,(run_endLoop q1 (by rw [q6.1];simp)).trans (congrArg (fun p=>Result.ok p _) q6.2),A1,M2,L2,_,cP,O2,D1,hb,⟨k1,sU.size,sU.defers.ext k2⟩,s5.trans ((Pe.trans k2).le D1),lK⟩
   ·rename_i c lc es D2
    obtain ⟨r,q1,q2,q3,q4,q5,q6⟩:=sU.st.obj _ _ l D2 rn
    obtain ⟨k1,k2⟩:=sU.st.om (st':=.eI) (r':={ r with state:=.exhausted }) D2 rn (fun r2 rE=>by rw [q1] at rE;cases rE;exact ⟨rfl,rfl,rfl,rfl,rfl,trivial⟩)
    refine ⟨some c,_,(run_endLoop q1 (by rw [q6.1];simp)).trans (congrArg (fun p=>Result.ok p _) q6.2),?_⟩
    unfold po at hb
    split at hb
    ·rename_i e;cases e
    ·rename_i e;cases e
     exact wpIn_ret ⟨A1,M2,L2,_,cP,O2,D1,hb,⟨k1,sU.size,sU.defers.ext k2⟩,s5.trans ((Pe.trans k2).le D1),lK⟩
    ·rename_i e;cases e
     exact wpIn_exit ⟨A1,M2,L2,_,cP,O2,D1,hb,⟨k1,sU.size,sU.defers.ext k2⟩,s5.trans ((Pe.trans k2).le D1),lK⟩
    ·exact hb.elim
   ·exact hb.elim
  ·rw [hcf] at h1;cases h1
theorem sound {L0:List Nat} (hdraw:∀ A,fL lo L0.length A→xS P ro lo A n L0) {an:A9} {lv:mL} {pl:mM}:∀ (c:Code) (ir:IR),comp P an lv pl n c=some ir→∀ {A:Perm} {M:Mem} {L:List Nat} {w:World} {H:List aa} {env:Env} {O:Pos→Option Nat} {a:Act} {Q:Exit→Env→List aa→Prop},
 fL lo L0.length A→Own ro w→mP ⟨P,lo⟩ L0.length ir env H Q→Fr A n M L w H env O a→L0 <+: L→c.wpIn (wf ro) 0 P (DY A n M L0 w Q) a w:=by
 intro c
 induction c with
 | skip=>
   intro ir hc A M L w H env O a Q hA wQ h hf hL
   simp only [comp] at hc;cases hc
   exact wpIn_skip ⟨A,M,L,H,env,O,.refl A,h,hf,Ext.refl A M w,hL⟩
 | exit id=>
   intro ir hc A M L w H env O a Q hA wQ h hf hL
   simp only [comp] at hc;cases hc
   exact wpIn_exit ⟨A,M,L,H,env,O,.refl A,h,hf,Ext.refl A M w,hL⟩
 | ret=>
   intro ir hc A M L w H env O a Q hA wQ h hf hL
   simp only [comp] at hc;cases hc
   exact wpIn_ret ⟨A,M,L,H,env,O,.refl A,h,hf,Ext.refl A M w,hL⟩
 | region id ops draw=>
   intro ir hc A M L w H env O a Q hA wQ h hf hL
   cases draw with
   | true=>
     simp only [comp] at hc
     split at hc <;> try cases hc
     rename_i il A4
     split at hc <;> cases hc
     rename_i hm
     exact hdraw A hA hm.1 hm.2 A4 h hf (Ext.refl A M w) hL
   | false=>
     simp only [comp] at hc
     obtain ⟨il,A4,rfl⟩:=Option.map_eq_some_iff.1 hc
     simp only [mP] at h
     refine wpIn_region_list (pq hA.opens _ _ _ _ _ A4 _ hf h ?_)
     rintro a' w' ⟨M',L',H',aB,O',h1,h2,h3,h4⟩
     obtain ⟨O'',h5⟩:=h2.weaken (xQ (lv.at_ id) aB)
     exact ⟨A,M',L',H',_,O'',.refl A,h1,h5,h3,hL.trans h4⟩
 | seq x y ihx ihy=>
   intro ir hc A M L w H env O a Q hA wQ h hf hL
   simp only [comp] at hc
   split at hc <;> cases hc
   rename_i x' y' hx hy
   simp only [mP] at h
   refine wpIn_seq (Go.wpIn_mono (ihx _ hx hA wQ h hf hL) ?_)
   rintro e a' w' ⟨A',M',L',H',aB,O',hl,h1,h2,h3,h4⟩
   cases e with
   | normal=>exact Go.wpIn_mono (ihy _ hy (hA.le hl) (wQ.ext h3) h1 h2 h4) fun e a w hp=>hp.trans hl h3
   | _=>exact ⟨A',M',L',H',aB,O',hl,h1,h2,h3,h4⟩
 | cond x c d ihc Y1=>
   intro ir hc A M L w H env O a Q hA wQ h hf hL
   simp only [comp] at hc
   split at hc <;> cases hc
   rename_i i c' d' hi GV X9
   simp only [mP] at h
   obtain ⟨q,hq,h⟩:=ol h
   have hr:=hf.eval hi
   rw [hq] at hr
   generalize hu:a.eval x=u at hr
   cases hr
   refine wpIn_cond_split hu (fun e=>ihc _ GV hA wQ (h.1 e) hf hL) (fun e=>Y1 _ X9 hA wQ (h.2 e) hf hL)
 | block id c ih=>
   intro ir hc A M L w H env O a Q hA wQ h hf hL
   simp only [comp] at hc
   obtain ⟨c',GV,rfl⟩:=Option.map_eq_some_iff.1 hc
   simp only [mP] at h
   refine wpIn_block (Go.wpIn_mono (ih _ GV hA wQ h hf hL) ?_)
   rintro e a' w' ⟨A',M',L',H',aB,O',hl,h1,h2,h3,h4⟩
   cases e with
   | exit id'=>
     simp only [Exit.inBlock]
     simp only at h1
     split at h1
     ·rename_i e;rw [if_pos e];exact ⟨A',M',L',H',aB,O',hl,h1,h2,h3,h4⟩
     ·rename_i e;rw [if_neg e];exact ⟨A',M',L',H',aB,O',hl,h1,h2,h3,h4⟩
   | _=>exact ⟨A',M',L',H',aB,O',hl,h1,h2,h3,h4⟩
 | loop c ih=>
   intro ir hc A M L w H env O a Q hA wQ h hf hL
   simp only [comp] at hc
   obtain ⟨c',GV,rfl⟩:=Option.map_eq_some_iff.1 hc
   simp only [mP] at h
   obtain ⟨ι,I,se,sh,μ,⟨i0,tZ,Ya⟩,hround⟩:=h
   obtain ⟨L',O',pn,Ux⟩:=hf.sle hA hL Ya
   refine zz (fun i a' w'=>I i∧∃ A' M' L' O',A'.Le A∧Fr A' n M' L' w' (sh i) (se i) O' a'∧Ext A M w M' w'∧L0 <+: L') μ ?_ i0 ⟨tZ,A,M,L',O',.refl A,pn,Ext.refl A M w,Ux⟩
   rintro i a1 w1 ⟨hi,A1,M1,L1,O1,tT,Fp,s5,Yb⟩
   refine Go.wpIn_mono (ih _ GV (hA.le tT) (wQ.ext s5) (hround i hi) Fp Yb) ?_
   rintro e a' w' ⟨A',M',L',H',aB,O',hl,h1,h2,h3,h4⟩
   cases e with
   | normal=>
     obtain ⟨j,hj,aX,hs⟩:=h1
     obtain ⟨L2,O2,sU,QJ⟩:=h2.sle ((hA.le tT).le hl) h4 hs
     exact ⟨j,⟨hj,A',M',L2,O2,hl.trans tT,sU,s5.trans (h3.le tT),QJ⟩,aX⟩
   | _=>exact ⟨A',M',L',H',aB,O',hl.trans tT,h1,h2,s5.trans (h3.le tT),h4⟩
 | rangeFunc f ps as bd=>
   intro ir hc A M L w H env O a Q hA wQ h hf hL
   simp only [comp] at hc
   obtain ⟨i,hi,rfl⟩:=Option.map_eq_some_iff.1 hc
   exact BB hA hi wQ h hf hL
 | _=>
   intro ir hc A M L w H env O a Q hA wQ h
   simp only [comp] at hc
   cases hc
   exact h.elim
end
end Go.aH
end
section
namespace Go.aH
open Go
section
variable {φ ψ:AV→Prop} (hm:∀ z,φ z→ψ z)
include hm
theorem rK {op:BinOp} {x y:AV} (h:de op x y φ):de op x y ψ:=by
 unfold de at *
 split at h <;> (try exact h.elim)
 ·obtain ⟨h0,h⟩:=h
  refine ⟨h0,?_⟩
  split at h <;> first | exact hm _ h | exact ⟨h.1,hm _ h.2⟩ | exact h.elim
 ·split at h <;> first | exact hm _ h | exact ⟨h.1,hm _ h.2⟩ | exact h.elim
theorem nG {op:BinOp} {x y:AV} (h:dS op x y φ):dS op x y ψ:=by
 unfold dS at *
 split at h <;> (try exact h.elim)
 obtain ⟨h0,h⟩:=h
 refine ⟨h0,?_⟩
 split at h <;> first | exact hm _ h | exact h.elim
theorem lX {neq:Bool} {x y:AV} (h:cU neq x y φ):cU neq x y ψ:=by
 unfold cU at *
 split at h <;> first | exact hm _ h | exact h.elim
theorem s6 {kd:Nat} {neq:Bool} {x:AV} (h:dj kd neq x φ):dj kd neq x ψ:=by
 unfold dj at *
 split at h
 ·exact hm _ h
 ·split at h
  ·exact ⟨hm _ h.1,hm _ h.2⟩
  ·exact h.elim
theorem ve {op:UnOp} {x:AV} (h:y7 op x φ):y7 op x ψ:=by
 unfold y7 at *
 split at h <;> first | exact hm _ h | exact h.elim
theorem jJ {sz:Option Nat} {x:AV} {H:List aa} (h:aR sz x H φ):aR sz x H ψ:=by
 unfold aR at *
 split at h <;> (try exact h.elim) <;> (split at h <;> (try exact h.elim)) <;> first | exact ⟨h.1,hm _ h.2⟩ | (split at h <;> exact ⟨h.1,hm _ h.2⟩)
theorem nH {off:Nat} {sz:Option Nat} {x:AV} (h:eY off sz x φ):eY off sz x ψ:=by
 unfold eY apart at *
 split at h <;> (try exact h.elim)
 split at h <;> first | exact ⟨h.1,hm _ h.2⟩ | exact ⟨h.1,h.2.1,hm _ h.2.2⟩
theorem ja {off:Nat} {sz:Option Nat} {x:AV} (h:ak off sz x φ):ak off sz x ψ:=by
 unfold ak apart at *
 split at h <;> (try exact h.elim)
 ·exact hm _ h
 ·split at h <;> first | exact ⟨h.1,hm _ h.2⟩ | exact ⟨h.1,h.2.1,hm _ h.2.2⟩
theorem jb {esz:Nat} {x i:AV} (h:ay esz x i φ):ay esz x i ψ:=by
 unfold ay at *
 split at h <;> first | exact ⟨h.1,h.2.1,hm _ h.2.2⟩ | exact h.elim
theorem jK {x i:AV} (h:bH x i φ):bH x i ψ:=by
 unfold bH at *
 split at h <;> first | exact ⟨h.1,h.2.1,hm _ h.2.2⟩ | exact h.elim
theorem jL {n:Nat} {x i:AV} (h:bP n x i φ):bP n x i ψ:=by
 unfold bP at *
 split at h <;> first | exact ⟨h.1,h.2.1,h.2.2.1,hm _ h.2.2.2⟩ | exact h.elim
theorem rL {x:AV} {H:List aa} (h:fq x H φ):fq x H ψ:=by
 unfold fq at *
 split at h <;> (try exact h.elim) <;> (try exact hm _ h)
 ·exact fun hl=>hm _ (h hl)
 ·split at h <;> first | exact hm _ h | exact h.elim
theorem kI {x:AV} {i:Nat} (h:bB x i φ):bB x i ψ:=by
 unfold bB at *
 split at h <;> first | exact ⟨h.1,hm _ h.2⟩ | exact h.elim
theorem jM {x:AV} (h:bQ x φ):bQ x ψ:=by
 unfold bQ at *
 split at h <;> first | exact hm _ h | exact h.elim
theorem kJ {k:IntKind} {x:AV} (h:cA k x φ):cA k x ψ:=by
 unfold cA at *
 split at h <;> first | exact hm _ h | exact h.elim
theorem vf {big:Bool} {x y:AV} (h:wT big x y φ):wT big x y ψ:=by
 unfold wT at *
 split at h <;> first | exact hm _ h | exact h.elim
theorem oW {x:AV} (h:fI x φ):fI x ψ:=by
 unfold fI at *
 split at h <;> first | exact hm _ h | exact h.elim
theorem oX {own:Nat} {x:AV} (h:fc own x φ):fc own x ψ:=by
 unfold fc at *
 split at h <;> first | exact ⟨h.1,hm _ h.2⟩ | exact h.elim
theorem s7 {x:AV} (h:jE x φ):jE x ψ:=by
 unfold jE at *
 split at h <;> first | exact hm _ h | exact ⟨_,h.choose_spec.1,hm _ h.choose_spec.2⟩ | (obtain ⟨l,h1,h2⟩:=h;exact ⟨l,h1,hm _ h2⟩) | exact ⟨h.1,hm _ h.2⟩ | exact h.elim
theorem s8 {esz bytes:Nat} {n:AV} (h:iW esz bytes n φ):iW esz bytes n ψ:=by
 unfold iW at *
 split at h <;> first | exact ⟨h.1,h.2.1,hm _ h.2.2⟩ | exact h.elim
theorem lZ {kd:Nat} {z m k:AV} {ok:Bool} {H:List aa} (h:cr kd z m k ok H φ):cr kd z m k ok H ψ:=by
 unfold cr at *
 split at h <;> (try exact h.elim) <;> first | exact hm _ h | exact ⟨h.1,hm _ h.2⟩ | (split at h <;> (try exact h.elim) <;> first | exact hm _ h | exact ⟨h.1,hm _ h.2⟩ | (split at h <;> (try exact h.elim) <;> first | exact hm _ h | exact ⟨h.1,hm _ h.2⟩))
end
theorem eH {x:Option AV} {d:Nat} {φ ψ:Nat→Prop} (hm:∀ k,φ k→ψ k) (h:dx x d φ):dx x d ψ:=by
 unfold dx at *
 split at h <;> first | exact hm _ h | exact ⟨h.1,hm _ h.2⟩ | exact h.elim
theorem s9 {esz:Nat} {x:AV} {lo hi mx:Option AV} {φ ψ:AV→Prop} (hm:∀ z,φ z→ψ z) (h:eJ esz x lo hi mx φ):eJ esz x lo hi mx ψ:=by
 unfold eJ at *
 split at h <;> (try exact h.elim)
 refine eH (fun k h=>eH (fun l h=>⟨h.1,h.2.1,?_⟩) h) h
 obtain ⟨_,_,h⟩:=h
 split at h
 ·exact hm _ h
 ·exact ⟨h.1,eH (fun m h=>⟨h.1,h.2.1,hm _ h.2.2⟩) h.2⟩
theorem l7 {esz:Nat} {x:AV} {lo hi mx:Option AV} {φ ψ:AV→Prop} (hm:∀ z,φ z→ψ z) (h:aV esz x lo hi mx φ):aV esz x lo hi mx ψ:=by
 unfold aV eO lQ at *
 split at h
 ·split at h
  ·exact eH (fun k h=>eH (fun l h=>⟨h.1,h.2.1,hm _ h.2.2⟩) h) h
  ·exact ⟨h.1,eH (fun m h=>eH (fun k h=>eH (fun l h=>⟨h.1,h.2.1,h.2.2.1,hm _ h.2.2.2⟩) h) h) h.2⟩
 ·exact ⟨h.1,s9 hm h.2⟩
theorem jN {x:AV} {lo hi:Option AV} {φ ψ:AV→Prop} (hm:∀ z,φ z→ψ z) (h:ca x lo hi φ):ca x lo hi ψ:=by
 unfold ca at *
 split at h <;> (try exact h.elim)
 exact eH (fun k h=>eH (fun l h=>⟨h.1,h.2.1,hm _ h.2.2⟩) h) h
theorem l8 {φ ψ:List AV→Prop} (hm:∀ z,φ z→ψ z):∀ {ps:List (Nat×Nat×AV)} {zs:List AV},gI zs ps φ→gI zs ps ψ
 | [],zs,h=>hm _ h
 | (off,sz,x)::r,zs,h=>⟨h.1,h.2.1,h.2.2.1,l8 hm h.2.2.2⟩
theorem gM {esz:Nat} {φ ψ:List AV→Prop} (hm:∀ z,φ z→ψ z):∀ {ps:List (Nat×AV)} {zs:List AV},bi zs esz ps φ→bi zs esz ps ψ
 | [],zs,h=>hm _ h
 | (i,x)::r,zs,h=>⟨h.1,h.2.1,h.2.2.1,gM hm h.2.2.2⟩
def QK (τ:Nat→AV) (dst:Option Nat) (x:AV):Nat→AV:=match dst with | some d=>fz τ d x | none=>τ
theorem km (env:Env) (dst:Option Nat) (x:AV):get (put dst x env)=QK (get env) dst x:=by cases dst <;> rfl
theorem nI {lo:Option IX} {env:Env} {ρ:IX→AV} (h:∀ i∈lo.toList,al env i=ρ i):lo.map ρ=fY env lo:=by
 cases lo with
 | none=>rfl
 | some i=>simp [fY,h i (by simp)]
theorem nJ {is:List IX} {env:Env} {ρ:IX→AV} (h:∀ i∈is,al env i=ρ i) (g:AV→AV):(is.map fun x=>g (al env x))=is.map fun x=>g (ρ x):=by
 apply List.map_congr_left
 intro i hi
 rw [h i hi]
theorem nK (env:Env):∀ (is:List IX) (j:Nat),aD env none j is=is.map fun x=>(al env x).ab
 | [],_=>rfl
 | .t s::r,j=>by simp [aD,nK env r,al]
 | .c v::r,j=>by simp [aD,nK env r,al]
theorem BC {P:Px} {o:bY} {dst:Option Nat} {ρ:IX→AV} {env:Env} {H:List aa} {x:AV} (h:db P o ρ H x) (hρ:∀ i∈o.all,al env i=ρ i) :
 bo P o dst env H fun e h=>h=H∧get e=get (put dst x env):=by
 have key:∀ z,z=x→(H=H∧get (put dst z env)=get (put dst x env)):=fun z e=>⟨rfl,e ▸ rfl⟩
 cases o with
 | set i take=>
   cases take with
   | true=>exact h.elim
   | false=>
     simp only [db,bY.all,List.mem_singleton,forall_eq] at h hρ
     rw [← hρ] at h
     unfold bo
     cases dst with
     | none=>exact ⟨rfl,rfl⟩
     | some d=>
       subst h
       refine ⟨rfl,?_⟩
       cases i <;> rfl
 | pick c a b=>
   simp only [db,bY.all,List.mem_cons,List.not_mem_nil,or_false,forall_eq_or_imp,forall_eq] at h hρ
   obtain ⟨h1,h2,h3⟩:=hρ
   rw [← h1,← h2,← h3] at h
   obtain ⟨q,hq,h⟩:=ol h
   show eX (al env c) _
   rw [hq]
   exact ⟨fun e=>key _ (h.1 e),fun e=>key _ (h.2 e)⟩
 | bin op i j=>
   simp only [db,bY.all,List.mem_cons,List.not_mem_nil,or_false,forall_eq_or_imp,forall_eq] at h hρ
   obtain ⟨h1,h2⟩:=hρ
   rw [← h1,← h2] at h
   exact rK key h
 | shift op i j=>
   simp only [db,bY.all,List.mem_cons,List.not_mem_nil,or_false,forall_eq_or_imp,forall_eq] at h hρ
   obtain ⟨h1,h2⟩:=hρ
   rw [← h1,← h2] at h
   exact nG key h
 | ic neq i j=>
   simp only [db,bY.all,List.mem_cons,List.not_mem_nil,or_false,forall_eq_or_imp,forall_eq] at h hρ
   obtain ⟨h1,h2⟩:=hρ
   rw [← h1,← h2] at h
   exact lX key h
 | mx big i j=>
   simp only [db,bY.all,List.mem_cons,List.not_mem_nil,or_false,forall_eq_or_imp,forall_eq] at h hρ
   obtain ⟨h1,h2⟩:=hρ
   rw [← h1,← h2] at h
   exact vf key h
 | indexAddr esz i j=>
   simp only [db,bY.all,List.mem_cons,List.not_mem_nil,or_false,forall_eq_or_imp,forall_eq] at h hρ
   obtain ⟨h1,h2⟩:=hρ
   rw [← h1,← h2] at h
   exact ⟨h.1,jb key h.2⟩
 | dg i j=>
   simp only [db,bY.all,List.mem_cons,List.not_mem_nil,or_false,forall_eq_or_imp,forall_eq] at h hρ
   obtain ⟨h1,h2⟩:=hρ
   rw [← h1,← h2] at h
   exact jK key h
 | dQ n i j=>
   simp only [db,bY.all,List.mem_cons,List.not_mem_nil,or_false,forall_eq_or_imp,forall_eq] at h hρ
   obtain ⟨h1,h2⟩:=hρ
   rw [← h1,← h2] at h
   exact jL key h
 | lookup kd z i j ok=>
   simp only [db,bY.all,List.mem_cons,List.not_mem_nil,or_false,forall_eq_or_imp,forall_eq] at h hρ
   obtain ⟨h1,h2⟩:=hρ
   rw [← h1,← h2] at h
   exact lZ key h
 | jg kd neq i=>
   simp only [db,bY.all,List.mem_singleton,forall_eq] at h hρ
   rw [← hρ] at h
   exact s6 key h
 | un op i=>
   simp only [db,bY.all,List.mem_singleton,forall_eq] at h hρ
   rw [← hρ] at h
   exact ve key h
 | lL i=>
   simp only [db,bY.all,List.mem_singleton,forall_eq] at h hρ
   rw [← hρ] at h
   exact ⟨h.1,key _ h.2⟩
 | load sz i=>
   simp only [db,bY.all,List.mem_singleton,forall_eq] at h hρ
   rw [← hρ] at h
   exact jJ key h
 | nilCheck i=>
   simp only [db,bY.all,List.mem_singleton,forall_eq] at h hρ
   rw [← hρ] at h
   exact jM key h
 | fieldAddr off sz i=>
   simp only [db,bY.all,List.mem_singleton,forall_eq] at h hρ
   rw [← hρ] at h
   exact ja key h
 | field off sz i=>
   simp only [db,bY.all,List.mem_singleton,forall_eq] at h hρ
   rw [← hρ] at h
   exact nH key h
 | len kd i=>
   simp only [db,bY.all,List.mem_singleton,forall_eq] at h hρ
   rw [← hρ] at h
   exact ⟨h.1,rL key h.2⟩
 | extract i k=>
   simp only [db,bY.all,List.mem_singleton,forall_eq] at h hρ
   rw [← hρ] at h
   exact kI key h
 | eN k i=>
   simp only [db,bY.all,List.mem_singleton,forall_eq] at h hρ
   rw [← hρ] at h
   exact kJ key h
 | gH i=>
   simp only [db,bY.all,List.mem_singleton,forall_eq] at h hρ
   rw [← hρ] at h
   exact oW key h
 | bytesOf i=>
   simp only [db,bY.all,List.mem_singleton,forall_eq] at h hρ
   rw [← hρ] at h
   exact oX key h
 | nt esz bytes i=>
   simp only [db,bY.all,List.mem_singleton,forall_eq] at h hρ
   rw [← hρ] at h
   exact s8 key h
 | strOf i=>
   simp only [db,bY.all,List.mem_singleton,forall_eq] at h hρ
   rw [← hρ] at h
   exact s7 key h
 | build z ps=>
   simp only [db,bY.all] at h hρ
   have:(ps.map fun q=>(q.1,q.2.1,al env q.2.2))=ps.map fun q=>(q.1,q.2.1,ρ q.2.2):=
    List.map_congr_left fun q hq=>by rw [hρ _ (List.mem_map.2 ⟨q,hq,rfl⟩)]
   show cu z.cells (ps.map fun q=>(q.1,q.2.1,al env q.2.2)) (fun v=>H=H∧get (put dst v env)=get (put dst x env))
   rw [this]
   exact l8 (fun v h=>key _ h) h
 | buildSlice own esz z len ps=>
   simp only [db,bY.all] at h hρ
   have:(ps.map fun q=>(q.1,al env q.2))=ps.map fun q=>(q.1,ρ q.2):=
    List.map_congr_left fun q hq=>by rw [hρ _ (List.mem_map.2 ⟨q,hq,rfl⟩)]
   show bi _ _ (ps.map fun q=>(q.1,al env q.2)) _
   rw [this]
   exact gM (fun v h=>key (.ap own v) h) h
 | slice esz i lo hi mx=>
   simp only [db,bY.all,List.mem_cons,List.mem_append,forall_eq_or_imp] at h hρ
   obtain ⟨h1,h2⟩:=hρ
   rw [← h1,nI (fun i hi=>h2 i (.inl (.inl hi))),nI (fun i hi=>h2 i (.inl (.inr hi))),nI (fun i hi=>h2 i (.inr hi))] at h
   exact l7 key h
 | dR i lo hi=>
   simp only [db,bY.all,List.mem_cons,List.mem_append,forall_eq_or_imp] at h hρ
   obtain ⟨h1,h2⟩:=hρ
   rw [← h1,nI (fun i hi=>h2 i (.inl hi)),nI (fun i hi=>h2 i (.inr hi))] at h
   exact jN key h
 | fn f first cap=>
   simp only [db,bY.all,List.mem_append] at h hρ
   refine key _ ?_
   rw [nJ (fun i hi=>hρ i (.inl hi)) AV.ab,nJ (fun i hi=>hρ i (.inr hi)) AV.ab]
   exact h
 | call f args pass=>
   cases pass with
   | some _=>exact h.elim
   | none=>
     simp only [db,bY.all,List.mem_cons,forall_eq_or_imp] at h hρ
     obtain ⟨h1,h2⟩:=hρ
     rw [← h1] at h
     split at h <;> try exact h.elim
     rename_i g first cap hg
     show oU P (al env f) args none env H (fun r aB H'=>H'=H∧get (put dst r aB)=get (put dst x env))
     rw [hg]
     obtain ⟨bN,hl,hcall⟩:=h
     refine ⟨bN,?_,dU.of <| hcall.mono ?_⟩
     ·rw [nK,nJ h2 AV.ab];exact hl
     ·rintro r H' ⟨hr,rfl⟩
      exact key r hr
 | _=>exact h.elim
end Go.aH
end
section
namespace Go.aH
open Go
theorem BD {m:Nat} {p x:AV} {H:List aa} {K K':List aa→Prop} (hm:∀ H',K H'→K' H') (h:ij m p x H K):ij m p x H K':=by
 unfold ij at *
 split at h <;> (try exact h.elim)
 split at h <;> (try exact h.elim)
 exact ⟨h.1,h.2.1,h.2.2.1,h.2.2.2.1,h.2.2.2.2.1,hm _ h.2.2.2.2.2⟩
theorem xd {p x:AV} {H:List aa} {K K':List aa→Prop} (hm:∀ H',K H'→K' H') (h:dT p x H K):dT p x H K':=by
 unfold dT at *
 split at h <;> (try exact h.elim)
 split at h <;> (try exact h.elim)
 exact ⟨h.1,h.2.1,h.2.2.1,hm _ h.2.2.2⟩
theorem zA {esz bytes:Nat} {s x:AV} {φ ψ:List AV→Prop} (hm:∀ z,φ z→ψ z) (h:bp esz bytes s x φ):bp esz bytes s x ψ:=by
 unfold bp at *
 split at h <;> (try exact h.elim)
 exact ⟨h.1,h.2.1,hm _ h.2.2⟩
theorem xe {esz bytes:Nat} {z s x:AV} {H:List aa} {K K':AV→List aa→Prop} (hm:∀ v H',K v H'→K' v H') (h:cD esz bytes z s x H K):cD esz bytes z s x H K':=by
 unfold cD at *
 cases hr:dw x with
 | none=>
   rw [hr] at h
   simp only at h ⊢
   split at h <;> try exact h.elim
   rename_i id off len cap n ys w6
   cases hi:H[id]? with
   | none=>rw [hi] at h;exact h.elim
   | some ob=>
     rw [hi] at h
     cases ob with
     | cells es=>
       obtain ⟨a,b,c,d,e,f⟩:=h
       exact ⟨a,b,c,d,e,hm _ _ f⟩
     | _=>exact h.elim
 | some ys=>
   rw [hr] at h
   obtain ⟨h1,h⟩:=h
   refine ⟨h1,?_⟩
   cases s with
   | ah=>
     obtain ⟨a,b,c⟩:=h
     exact ⟨a,fun e=>hm _ _ (b e),fun e cap h1 h2=>⟨(c e cap h1 h2).1,hm _ _ (c e cap h1 h2).2⟩⟩
   | oN=>
     obtain ⟨a,b,c⟩:=h
     exact ⟨a,fun e=>hm _ _ (b e),fun e cap h1 h2=>⟨(c e cap h1 h2).1,hm _ _ (c e cap h1 h2).2⟩⟩
   | a8 id off len cap=>
     simp only at h ⊢
     cases hi:H[id]? with
     | none=>rw [hi] at h;exact h.elim
     | some ob=>
       rw [hi] at h
       cases ob with
       | cells es=>
         obtain ⟨a,b,c,d,f⟩:=h
         exact ⟨a,b,c,fun e=>⟨(d e).1,hm _ _ (d e).2⟩,fun e gC h1 h2=>⟨(f e gC h1 h2).1,hm _ _ (f e gC h1 h2).2⟩⟩
       | _=>exact h.elim
   | _=>exact h.elim
theorem zB {esz:Nat} {z x:AV} {H:List aa} {K K':List aa→Prop} (hm:∀ H',K H'→K' H') (h:gK esz z x H K):gK esz z x H K':=by
 unfold gK at *
 split at h <;> (try exact h.elim)
 split at h <;> (try exact h.elim)
 exact ⟨h.1,h.2.1,h.2.2.1,hm _ h.2.2.2⟩
theorem BE {esz bytes:Nat} {z n:AV} {H:List aa} {K K':AV→List aa→Prop} (hm:∀ v H',K v H'→K' v H') (h:fX esz bytes z n H K):fX esz bytes z n H K':=by
 unfold fX at *
 split at h <;> (try exact h.elim)
 exact ⟨h.1,h.2.1,h.2.2.1,hm _ _ h.2.2.2⟩
theorem zC {kd:Nat} {m k x:AV} {H:List aa} {K K':List aa→Prop} (hm:∀ H',K H'→K' H') (h:fx kd m k x H K):fx kd m k x H K':=by
 unfold fx at *
 split at h <;> (try exact h.elim)
 split at h <;> (try exact h.elim)
 refine ⟨h.1,h.2.1,h.2.2.1,?_⟩
 obtain ⟨_,_,_,h⟩:=h
 split at h
 ·exact hm _ h
 ·exact ⟨h.1,hm _ h.2⟩
 ·exact h.elim
theorem D3 {esz:Nat} {d s:AV} {H:List aa} {K K':AV→List aa→Prop} (hm:∀ v H',K v H'→K' v H') (h:jF esz d s H K):jF esz d s H K':=by
 unfold jF at *
 split at h <;> (try exact h.elim)
 split at h <;> (try exact h.elim)
 exact ⟨h.1,h.2.1,h.2.2.1,hm _ _ h.2.2.2⟩
theorem ko {esz:Nat} {x:AV} {H:List aa} {K K':AV→List aa→Prop} (hm:∀ v H',K v H'→K' v H') (h:dC esz x H K):dC esz x H K':=by
 unfold dC at *
 split at h
 ·split at h <;> (try exact h.elim)
  exact ⟨h.1,h.2.1,h.2.2.1,h.2.2.2.1,hm _ _ h.2.2.2.2⟩
 ·exact h.elim
 ·exact hm _ _ h
 ·exact hm _ _ h
theorem td {esz:Nat}:∀ {xs:List AV} {H:List aa} {K K':List AV→List aa→Prop} (hm:∀ v H',K v H'→K' v H') (h:jG esz xs H K),jG esz xs H K'
 | [],H,K,K',hm,h=>hm _ _ h
 | x::r,H,K,K',hm,h=>ko (fun v H' hk=>td (fun vs H'' h2=>hm _ _ h2) hk) h
theorem GW {e id c:Nat} {H:List aa} {K K':List aa→Prop} (hm:∀ H',K H'→K' H') (h:zn e id c H K):zn e id c H K':=by
 unfold zn at *
 split at h <;> (try exact h.elim)
 split at h <;> (try exact h.elim)
 ·exact ko (fun v H' hk=>⟨hk.1,hk.2.1,hm _ hk.2.2⟩) h
 ·exact hm _ h
theorem vg {esz:Nat} {x:AV} {H:List aa} {K K':AV→List aa→Prop} (hm:∀ v H',K v H'→K' v H') (h:eR esz x H K):eR esz x H K':=by
 unfold eR at *
 split at h
 ·exact td (fun v H' hk=>hm _ _ hk) h
 ·split at h
  ·rename_i hc;rw [if_pos hc];exact GW (hm _) h
  ·rename_i hc;rw [if_neg hc];exact ko hm h
 ·exact ko hm h
theorem zD {l m:Nat} {p x:AV} {H:List aa} {K K':List aa→Prop} (hm:∀ H',K H'→K' H') (h:gJ l m p x H K):gJ l m p x H K':=by
 unfold gJ at *
 split at h <;> (try exact h.elim)
 split at h <;> (try exact h.elim)
 exact ⟨h.1,h.2.1,h.2.2.1,h.2.2.2.1,h.2.2.2.2.1,h.2.2.2.2.2.1,hm _ h.2.2.2.2.2.2⟩
theorem nL {env1 cP:Env} {pass:Option Nat}:∀ {is:List IX} {j:Nat},(∀ i∈is,al cP i=al env1 i)→aD cP pass j is=aD env1 pass j is
 | [],_,_=>rfl
 | .t s::r,j,h=>by
   have h1:get cP s=get env1 s:=h (.t s) (by simp)
   simp only [aD,h1,nL (fun i hi=>h i (List.mem_cons_of_mem _ hi))]
 | .c v::r,j,h=>by
   simp only [aD,nL (fun i hi=>h i (List.mem_cons_of_mem _ hi))]
theorem gl {lo:Option IX} {env1 cP:Env} (h:∀ i∈lo.toList,al cP i=al env1 i):fY cP lo=fY env1 lo:=by
 cases lo with
 | none=>rfl
 | some i=>simp [fY,h i (by simp)]
theorem oo {P:Px} {o:bY} {dst:Option Nat} {env1 cP:Env} {H:List aa} {K1 K2:Env→List aa→Prop} (hl:∀ i∈o.all,al cP i=al env1 i) (h:bo P o dst env1 H K1)
 (hK:∀ (mods:List (Nat×AV)) H',(∀ p∈mods,dst=some p.1∨p.1∈o.kill)→(o.QF=false→H'=H)→(o.xP=true→∃ e,H'=H++e)→K1 (mods++env1) H'→K2 (mods++cP) H'):bo P o dst cP H K2:=by
 have kput:∀ z H',(o.QF=false→H'=H)→(o.xP=true→∃ e,H'=H++e)→K1 (put dst z env1) H'→K2 (put dst z cP) H':=by
  intro z H' hc hg
  cases hd:dst with
  | none=>exact hK [] H' (by simp) hc hg
  | some d=>exact hK [(d,z)] H' (by simp [hd]) hc hg
 have kput0:∀ z,K1 (put dst z env1) H→K2 (put dst z cP) H:=fun z=>kput z H (fun _=>rfl) (fun _=>⟨[],by simp⟩)
 have kenv:∀ H',(o.QF=false→H'=H)→(o.xP=true→∃ e,H'=H++e)→K1 env1 H'→K2 cP H':=fun H' hc hg=>hK [] H' (by simp) hc hg
 cases o with
 | set i take=>
   simp only [bY.all,List.mem_singleton,forall_eq] at hl
   simp only [bo] at h ⊢
   cases dst with
   | none=>exact kenv H (fun _=>rfl) (fun _=>⟨[],by simp⟩) h
   | some d=>
     simp only at h ⊢
     cases i with
     | c v=>cases take <;> exact kput0 _ h
     | t s=>
       have hs:get cP s=get env1 s:=hl
       cases take with
       | false=>
         have e1:tL env1 d (.t s) false=put (some d) (get env1 s).ab env1:=rfl
         have e2:tL cP d (.t s) false=put (some d) (get env1 s).ab cP:=by simp only [tL,put,al,hs]
         rw [e2];rw [e1] at h
         exact kput0 _ h
       | true=>
         have e1:tL env1 d (.t s) true=[(d,get env1 s),(s,(get env1 s).ab)]++env1:=rfl
         have e2:tL cP d (.t s) true=[(d,get env1 s),(s,(get env1 s).ab)]++cP:=by simp only [tL,hs];rfl
         rw [e2];rw [e1] at h
         exact hK _ H (by simp [bY.kill]) (fun _=>rfl) (fun _=>⟨[],by simp⟩) h
 | pick c a b=>
   simp only [bY.all,List.mem_cons,List.not_mem_nil,or_false,forall_eq_or_imp,forall_eq] at hl
   obtain ⟨h1,h2,h3⟩:=hl
   simp only [bo] at h ⊢
   rw [h1,h2,h3]
   obtain ⟨q,hq,h⟩:=ol h
   rw [hq]
   exact ⟨fun e=>kput0 _ (h.1 e),fun e=>kput0 _ (h.2 e)⟩
 | bin op i j=>
   simp only [bY.all,List.mem_cons,List.not_mem_nil,or_false,forall_eq_or_imp,forall_eq] at hl
   simp only [bo] at h ⊢
   rw [hl.1,hl.2]
   exact rK kput0 h
 | shift op i j=>
   simp only [bY.all,List.mem_cons,List.not_mem_nil,or_false,forall_eq_or_imp,forall_eq] at hl
   simp only [bo] at h ⊢
   rw [hl.1,hl.2]
   exact nG kput0 h
 | ic neq i j=>
   simp only [bY.all,List.mem_cons,List.not_mem_nil,or_false,forall_eq_or_imp,forall_eq] at hl
   simp only [bo] at h ⊢
   rw [hl.1,hl.2]
   exact lX kput0 h
 | indexAddr esz i j=>
   simp only [bY.all,List.mem_cons,List.not_mem_nil,or_false,forall_eq_or_imp,forall_eq] at hl
   simp only [bo] at h ⊢
   rw [hl.1,hl.2]
   exact ⟨h.1,jb kput0 h.2⟩
 | dg i j=>
   simp only [bY.all,List.mem_cons,List.not_mem_nil,or_false,forall_eq_or_imp,forall_eq] at hl
   simp only [bo] at h ⊢
   rw [hl.1,hl.2]
   exact jK kput0 h
 | dQ n i j=>
   simp only [bY.all,List.mem_cons,List.not_mem_nil,or_false,forall_eq_or_imp,forall_eq] at hl
   simp only [bo] at h ⊢
   rw [hl.1,hl.2]
   exact jL kput0 h
 | lookup kd z i j ok=>
   simp only [bY.all,List.mem_cons,List.not_mem_nil,or_false,forall_eq_or_imp,forall_eq] at hl
   simp only [bo] at h ⊢
   rw [hl.1,hl.2]
   exact lZ kput0 h
 | mx big i j=>
   simp only [bY.all,List.mem_cons,List.not_mem_nil,or_false,forall_eq_or_imp,forall_eq] at hl
   simp only [bo] at h ⊢
   rw [hl.1,hl.2]
   exact vf kput0 h
 | store m i j=>
   simp only [bY.all,List.mem_cons,List.not_mem_nil,or_false,forall_eq_or_imp,forall_eq] at hl
   simp only [bo] at h ⊢
   rw [hl.1,hl.2]
   exact BD (fun H' hk=>kenv H' (fun e=>by cases e) (fun e=>by cases e) hk) h
 | ns m i j=>
   simp only [bY.all,List.mem_cons,List.not_mem_nil,or_false,forall_eq_or_imp,forall_eq] at hl
   simp only [bo] at h ⊢
   rw [hl.1,hl.2]
   split at h <;> (try exact h.elim)
   exact zD (fun H' hk=>kenv H' (fun e=>by cases e) (fun e=>by cases e) hk) h
 | append esz bytes i j=>
   simp only [bY.all,List.mem_cons,List.not_mem_nil,or_false,forall_eq_or_imp,forall_eq] at hl
   simp only [bo] at h ⊢
   rw [hl.1,hl.2]
   refine zA (fun zs hk=>?_) h
   cases i with
   | c v=>exact kput0 _ hk
   | t s=>
     have hs:get cP s=get env1 s:=hl.1
     have e:∀ env:Env,get env s=get env1 s→put dst (.ap esz zs) (cL env (IX.t s).slot)=(put dst (.ap esz zs) [(s,(get env1 s).ab)])++env:=by
      intro env he
      cases dst <;> simp [put,cL,IX.slot,he]
     rw [e env1 rfl] at hk
     rw [e cP hs]
     refine hK _ H ?_ (fun _=>rfl) (fun _=>⟨[],by simp⟩) hk
     intro p hp
     cases dst with
     | none=>simp [put] at hp;subst hp;right;simp [bY.kill]
     | some d=>
       simp [put] at hp
       rcases hp with rfl | rfl
       ·left;rfl
       ·right;simp [bY.kill]
 | copy esz i j=>
   simp only [bY.all,List.mem_cons,List.not_mem_nil,or_false,forall_eq_or_imp,forall_eq] at hl
   simp only [bo] at h ⊢
   rw [hl.1,hl.2]
   exact D3 (fun v H' hk=>kput v H' (fun e=>by cases e) (fun e=>by cases e) hk) h
 | kA kd i j k=>
   simp only [bY.all,List.mem_cons,List.not_mem_nil,or_false,forall_eq_or_imp,forall_eq] at hl
   simp only [bo] at h ⊢
   rw [hl.1,hl.2.1,hl.2.2]
   exact zC (fun H' hk=>kenv H' (fun e=>by cases e) (fun e=>by cases e) hk) h
 | fp i s=>
   simp only [bY.all,List.mem_cons,List.not_mem_nil,or_false,forall_eq_or_imp,forall_eq] at hl
   simp only [bo] at h ⊢
   have hs:get cP s=get env1 s:=hl.2
   rw [hl.1,hs]
   exact xd (fun H' hk=>hK [(s,(get env1 s).ab)] H' (by simp [bY.kill]) (fun e=>by cases e) (fun e=>by cases e) hk) h
 | jg kd neq i=>
   simp only [bY.all,List.mem_singleton,forall_eq] at hl
   simp only [bo] at h ⊢
   rw [hl]
   exact s6 kput0 h
 | un op i=>
   simp only [bY.all,List.mem_singleton,forall_eq] at hl
   simp only [bo] at h ⊢
   rw [hl]
   exact ve kput0 h
 | box i=>
   simp only [bY.all,List.mem_singleton,forall_eq] at hl
   simp only [bo] at h ⊢
   rw [hl]
   exact ⟨h.1,h.2.1,kput _ _ (fun e=>by cases e) (fun _=>⟨_,rfl⟩) h.2.2⟩
 | lL i=>
   simp only [bY.all,List.mem_singleton,forall_eq] at hl
   simp only [bo] at h ⊢
   rw [hl]
   exact ⟨h.1,kput0 _ h.2⟩
 | ry m i=>
   simp only [bY.all,List.mem_singleton,forall_eq] at hl
   simp only [bo] at h ⊢
   rw [hl]
   exact ⟨h.1,h.2.1,h.2.2.1,kput0 _ h.2.2.2⟩
 | alloc z=>
   simp only [bo] at h ⊢
   exact ⟨h.1,kput _ _ (fun e=>by cases e) (fun _=>⟨_,rfl⟩) h.2⟩
 | nu=>
   simp only [bo] at h ⊢
   exact kput _ _ (fun e=>by cases e) (fun _=>⟨_,rfl⟩) h
 | load sz i=>
   simp only [bY.all,List.mem_singleton,forall_eq] at hl
   simp only [bo] at h ⊢
   rw [hl]
   exact jJ kput0 h
 | sK sz esz i=>
   simp only [bY.all,List.mem_singleton,forall_eq] at hl
   simp only [bo] at h ⊢
   rw [hl]
   exact jJ (fun z hz=>vg (fun v H' hk=>kput v H' (fun e=>by cases e) (fun e=>by cases e) hk) hz) h
 | eC i=>
   simp only [bY.all,List.mem_singleton,forall_eq] at hl
   simp only [bo] at h ⊢
   rw [hl]
   cases dst with
   | none=>exact h.elim
   | some d=>
     cases hv:al env1 i with
     | ptr id off=>
       rw [hv] at h
       simp only at h ⊢
       cases bk:H[id]? with
       | none=>rw [bk] at h;exact h.elim
       | some ob=>
         rw [bk] at h
         cases ob with
         | cells es=>exact ⟨h.1,hK [(d,es.getD off .any)] _ (by simp) (fun e=>by cases e) (fun e=>by cases e) h.2⟩
         | _=>exact h.elim
     | _=>rw [hv] at h;exact h.elim
 | yZ esz i=>
   simp only [bY.all,List.mem_singleton,forall_eq] at hl
   simp only [bo] at h ⊢
   rw [hl]
   exact vg (fun v H' hk=>kput v H' (fun e=>by cases e) (fun e=>by cases e) hk) h
 | nilCheck i=>
   simp only [bY.all,List.mem_singleton,forall_eq] at hl
   simp only [bo] at h ⊢
   rw [hl]
   exact jM kput0 h
 | fieldAddr off sz i=>
   simp only [bY.all,List.mem_singleton,forall_eq] at hl
   simp only [bo] at h ⊢
   rw [hl]
   exact ja kput0 h
 | field off sz i=>
   simp only [bY.all,List.mem_singleton,forall_eq] at hl
   simp only [bo] at h ⊢
   rw [hl]
   exact nH kput0 h
 | len kd i=>
   simp only [bY.all,List.mem_singleton,forall_eq] at hl
   simp only [bo] at h ⊢
   rw [hl]
   exact ⟨h.1,rL kput0 h.2⟩
 | sL esz bytes z i=>
   simp only [bY.all,List.mem_singleton,forall_eq] at hl
   simp only [bo] at h ⊢
   rw [hl]
   exact BE (fun v H' hk=>kput v H' (fun e=>by cases e) (fun e=>by cases e) hk) h
 | nt esz bytes i=>
   simp only [bY.all,List.mem_singleton,forall_eq] at hl
   simp only [bo] at h ⊢
   rw [hl]
   exact s8 kput0 h
 | extract i k=>
   simp only [bY.all,List.mem_singleton,forall_eq] at hl
   simp only [bo] at h ⊢
   rw [hl]
   exact kI kput0 h
 | eN k i=>
   simp only [bY.all,List.mem_singleton,forall_eq] at hl
   simp only [bo] at h ⊢
   rw [hl]
   exact kJ kput0 h
 | gH i=>
   simp only [bY.all,List.mem_singleton,forall_eq] at hl
   simp only [bo] at h ⊢
   rw [hl]
   exact oW kput0 h
 | bytesOf i=>
   simp only [bY.all,List.mem_singleton,forall_eq] at hl
   simp only [bo] at h ⊢
   rw [hl]
   exact oX kput0 h
 | strOf i=>
   simp only [bY.all,List.mem_singleton,forall_eq] at hl
   simp only [bo] at h ⊢
   rw [hl]
   exact s7 kput0 h
 | build z ps=>
   simp only [bY.all] at hl
   simp only [bo] at h ⊢
   have:(ps.map fun q=>(q.1,q.2.1,al cP q.2.2))=ps.map fun q=>(q.1,q.2.1,al env1 q.2.2):=
    List.map_congr_left fun q hq=>by rw [hl _ (List.mem_map.2 ⟨q,hq,rfl⟩)]
   rw [this]
   exact l8 (fun v hk=>kput0 _ hk) h
 | Bc esz z len ps=>
   simp only [bY.all] at hl
   simp only [bo] at h ⊢
   have:(ps.map fun q=>(q.1,al cP q.2))=ps.map fun q=>(q.1,al env1 q.2):=
    List.map_congr_left fun q hq=>by rw [hl _ (List.mem_map.2 ⟨q,hq,rfl⟩)]
   rw [this]
   exact gM (fun v hk=>⟨hk.1,kput _ _ (fun e=>by cases e) (fun e=>by cases e) hk.2⟩) h
 | jj esz bytes z i j=>
   simp only [bY.all,List.mem_cons,List.not_mem_nil,or_false,forall_eq_or_imp,forall_eq] at hl
   simp only [bo] at h ⊢
   rw [hl.1,hl.2]
   exact xe (fun v H' hk=>kput v H' (fun e=>by cases e) (fun e=>by cases e) hk) h
 | nv esz z i=>
   simp only [bY.all,List.mem_singleton,forall_eq] at hl
   simp only [bo] at h ⊢
   rw [hl]
   exact zB (fun H' hk=>kput _ H' (fun e=>by cases e) (fun e=>by cases e) hk) h
 | buildSlice own esz z len ps=>
   simp only [bY.all] at hl
   simp only [bo] at h ⊢
   have:(ps.map fun q=>(q.1,al cP q.2))=ps.map fun q=>(q.1,al env1 q.2):=
    List.map_congr_left fun q hq=>by rw [hl _ (List.mem_map.2 ⟨q,hq,rfl⟩)]
   rw [this]
   exact gM (fun v hk=>kput0 _ hk) h
 | slice esz i lo hi m=>
   simp only [bY.all,List.mem_cons,List.mem_append,forall_eq_or_imp] at hl
   obtain ⟨h1,h2⟩:=hl
   simp only [bo] at h ⊢
   rw [h1,gl (fun i hi=>h2 i (.inl (.inl hi))),gl (fun i hi=>h2 i (.inl (.inr hi))),gl (fun i hi=>h2 i (.inr hi))]
   exact l7 kput0 h
 | ph esz i lo hi m=>
   simp only [bY.all,List.mem_cons,List.mem_append,forall_eq_or_imp] at hl
   obtain ⟨h1,h2⟩:=hl
   simp only [bo] at h ⊢
   rw [h1,gl (fun i hi=>h2 i (.inl (.inl hi))),gl (fun i hi=>h2 i (.inl (.inr hi))),gl (fun i hi=>h2 i (.inr hi))]
   exact ⟨h.1,s9 (fun z hz=>⟨hz.1,kput0 _ hz.2⟩) h.2⟩
 | dR i lo hi=>
   simp only [bY.all,List.mem_cons,List.mem_append,forall_eq_or_imp] at hl
   obtain ⟨h1,h2⟩:=hl
   simp only [bo] at h ⊢
   rw [h1,gl (fun i hi=>h2 i (.inl hi)),gl (fun i hi=>h2 i (.inr hi))]
   exact jN kput0 h
 | fn f first cap=>
   simp only [bY.all,List.mem_append] at hl
   simp only [bo] at h ⊢
   rw [nJ (fun i hi=>hl i (.inl hi)) AV.ab,nJ (fun i hi=>hl i (.inr hi)) AV.ab]
   exact kput0 _ h
 | call f args pass=>
   simp only [bY.all,List.mem_cons,forall_eq_or_imp] at hl
   obtain ⟨h1,h2⟩:=hl
   simp only [bo,oU] at h ⊢
   rw [h1]
   split at h <;> try exact h.elim
   all_goals
   obtain ⟨bN,hle,hcall⟩:=h
   refine ⟨bN,?_,hcall.mono fun r H' hk=>?_⟩
   ·rw [nL h2];exact hle
   ·cases hp:bg args pass with
    | none=>
      rw [hp] at hk
      exact kput r H' (fun e=>by cases e) (fun e=>by cases e) hk
    | some s=>
      rw [hp] at hk
      have gU:IX.t s∈args∧s∈(bY.call f args pass).kill:=by
       unfold bg at hp
       simp only [bY.kill]
       split at hp
       ·rename_i j
        split at hp <;> cases hp
        rename_i hj
        try simp only [hj]
        exact ⟨List.mem_of_getElem? hj,by simp⟩
       ·cases hp
      have hs:get cP s=get env1 s:=h2 _ gU.1
      have e:∀ env:Env,get env s=get env1 s→put dst r (cL env (some s))=(put dst r [(s,(get env1 s).ab)])++env:=by
       intro env he
       cases dst <;> simp [put,cL,he]
      rw [e env1 rfl] at hk
      rw [e cP hs]
      refine hK _ H' ?_ (fun e=>by cases e) (fun e=>by cases e) hk
      intro p TR
      cases dst with
      | none=>simp [put] at TR;subst TR;exact .inr gU.2
      | some d=>
        simp [put] at TR
        rcases TR with rfl | rfl
        ·left;rfl
        ·exact .inr gU.2
 | never=>exact h.elim
end Go.aH
end
section
namespace Go.aH
open Go
theorem cS {env1 cP:Env} (h:get env1=get cP):∀ mods:List (Nat×AV),get (mods++env1)=get (mods++cP)
 | []=>h
 | (k,v)::r=>by
   funext t
   simp only [List.cons_append,get]
   split
   ·rfl
   ·rw [cS h r]
theorem oY {env1 cP:Env} {t:Nat} (h:get env1 t=get cP t):∀ mods:List (Nat×AV),get (mods++env1) t=get (mods++cP) t
 | []=>h
 | (k,v)::r=>by
   simp only [List.cons_append,get]
   split
   ·rfl
   ·rw [oY h r]
theorem kK {env:Env} {t:Nat}:∀ {mods:List (Nat×AV)},(∀ p∈mods,p.1≠t)→get (mods++env) t=get env t
 | [],_=>rfl
 | (k,v)::r,h=>by
   simp only [List.cons_append,get]
   rw [if_neg (fun e=>h (k,v) (by simp) e.symm),kK (fun p hp=>h p (by simp [hp]))]
theorem GX {l:List IX} {s:Nat} (h:IX.t s∈l):s∈IX.Pd l:=List.mem_filterMap.2 ⟨_,h,rfl⟩
theorem D4 {o:bt} {env1 cP:Env} (hl:∀ s∈o.lk,get cP s=get env1 s):∀ i∈o.op.all,al cP i=al env1 i:=by
 intro i hi
 cases i with
 | c v=>rfl
 | t s=>exact hl s (List.mem_append_left _ (GX hi))
theorem get_guard {env:Env} {g:Nat} {b:Bool} (h:get env g=.bool b):get ((g,AV.bool b)::env)=get env:=by
 funext t
 simp only [get]
 split
 ·rename_i e;rw [e,h]
 ·rfl
theorem oq {P:Px} {o:bt} {env1 cP:Env} {H:List aa} {K1 K2:Env→List aa→Prop} (hl:∀ s∈o.lk,get cP s=get env1 s) (h:rH P o env1 H K1)
 (hK:∀ e1 e2 H',(∃ mods:List (Nat×AV),(∀ p∈mods,o.dst=some p.1∨p.1∈o.op.kill)∧get e1=get (mods++env1)∧get e2=get (mods++cP))→(o.op.QF=false→H'=H)→(o.op.xP=true→∃ e,H'=H++e)→K1 e1 H'→K2 e2 H'):rH P o cP H K2:=by
 unfold rH at *
 cases hg:o.g with
 | none=>
   simp only [hg] at h ⊢
   exact oo (D4 hl) h fun mods H' hm hc hg hk=>hK _ _ H' ⟨mods,hm,rfl,rfl⟩ hc hg hk
 | some p=>
   obtain ⟨g,want⟩:=p
   simp only [hg] at h ⊢
   unfold iq at *
   have xT:get cP g=get env1 g:=hl g (by simp [bt.lk,hg])
   rw [xT]
   split at h
   rotate_left
   ·rename_i hb
    refine hK _ _ H ⟨(match o.dst with | some d=>[(d,.tuple [])] | none=>[]),?_,?_,?_⟩ (fun _=>rfl) (fun _=>⟨[],by simp⟩) h
    ·cases hd:o.dst <;> simp
    ·cases hd:o.dst <;> rfl
    ·cases hd:o.dst <;> rfl
   ·exact h.elim
   rename_i b hb
   have pR:get cP g=.bool b:=by rw [xT,hb]
   refine ⟨fun e=>?_,fun e=>?_⟩
   ·subst e
    refine oo (env1:=(g,.bool b)::env1) (D4 (o:=o) fun s hs=>?_) (h.1 rfl) fun mods H' hm hc hg hk=>hK _ _ H' ⟨mods,hm,cS (get_guard hb) mods,cS (get_guard pR) mods⟩ hc hg hk
    rw [get_guard hb,get_guard pR]
    exact hl s hs
   ·have h2:=h.2 e
    subst e
    refine hK _ _ H ⟨(match o.dst with | some d=>[(d,.tuple [])] | none=>[]),?_,?_,?_⟩ (fun _=>rfl) (fun _=>⟨[],by simp⟩) h2
    ·cases hd:o.dst <;> simp
    ·cases hd:o.dst with
     | none=>exact get_guard hb
     | some d=>exact cS (get_guard hb) [(d,.tuple [])]
    ·cases hd:o.dst with
     | none=>exact get_guard pR
     | some d=>exact cS (get_guard pR) [(d,.tuple [])]
theorem qg {P:Px} {o:bt} {env:Env} {H:List aa} {K1 K2:Env→List aa→Prop} (h:rH P o env H K1)
 (hK:∀ e1 e2 H',get e1=get e2→K1 e1 H'→K2 e2 H'):rH P o env H K2:=
 oq (fun _ _=>rfl) h fun e1 e2 H' ⟨mods,_,h1,h2⟩ _ _ hk=>hK e1 e2 H' (h1.trans h2.symm) hk
section
variable {P:Px} {ops:Array Oper} {il:List bt} {K:Env→List aa→Prop}
def qA (P:Px) (il:List bt) (i:Nat) (env:Env) (H:List aa) (K:Env→List aa→Prop):Prop:=
 match il[i]? with
 | none=>K env H
 | some o=>rH P o env H K
def vh (P:Px) (ops:Array Oper) (il:List bt) (K:Env→List aa→Prop):Nat→Array Bool→Env→List aa→Prop
 | 0,listed,env,H=>Region.ready .any ops listed=[]∧K env H
 | f + 1,listed,env,H=>(Region.ready .any ops listed=[]→K env H)∧∀ i∈Region.ready .any ops listed,qA P il i env H (vh P ops il K f (listed.setIfInBounds i true))
def Inv (K:Env→List aa→Prop):Prop:=∀ e1 e2 H,get e1=get e2→K e1 H→K e2 H
theorem iu (hK:Inv K):∀ (f:Nat) (listed:Array Bool) {e1 e2:Env} {H:List aa},get e1=get e2→vh P ops il K f listed e1 H→vh P ops il K f listed e2 H
 | 0,_,_,_,_,he,h=>⟨h.1,hK _ _ _ he h.2⟩
 | f + 1,listed,e1,e2,H,he,h=>by
   refine ⟨fun h0=>hK _ _ _ he (h.1 h0),fun i hi=>?_⟩
   have hq:=h.2 i hi
   unfold qA at *
   split
   ·rename_i hn;simp only [hn] at hq;exact iu hK f _ he hq
   ·rename_i o ho
    simp only [ho] at hq
    exact oq (fun s _=>by rw [he]) hq fun a b H' ⟨mods,_,h1,h2⟩ _ _ hk=>iu hK f _ (by rw [h1,h2,cS he]) hk
def Uy (P:Px) (st:Bool) (o:bt) (env:Env) (H:List aa) (x:AV):Prop:=
 ∃ ρ:IX→AV,(∀ i∈o.op.all,al env i=ρ i)∧match o.g with
  | none=>dv P st o.op ρ H x
  | some (g,want)=>(∃ b,get env g=.bool b∧(b=want→dv P st o.op ρ H x)∧(b≠want→x=.tuple []))∨(get env g=.tuple []∧x=.tuple [])
theorem FB {st:Bool} {o:bY} {ρ:IX→AV} {H:List aa} {x:AV} (h:dv P st o ρ H x):db P o ρ H x:=by
 cases st
 ·exact h H
 ·exact h
theorem vi {H e:List aa} {id:Nat} {o:aa} (h:H[id]?=some o):(H++e)[id]?=some o:=by
 rw [List.getElem?_append_left (List.getElem?_eq_some_iff.1 h).1,h]
theorem D5 {sz:Option Nat} {x:AV} {H e:List aa} {φ:AV→Prop} (h:aR sz x H φ):aR sz x (H++e) φ:=by
 unfold aR at *
 split at h
 ·split at h
  ·rename_i bk;rw [vi bk];exact h
  ·exact h.elim
 ·exact h
 ·exact h.elim
theorem GY {x:AV} {H e:List aa} {φ:AV→Prop} (h:fq x H φ):fq x (H++e) φ:=by
 unfold fq at *
 split at h <;> (try exact h)
 split at h
 ·rename_i bk;rw [vi bk];exact h
 ·exact h.elim
theorem zF {kd:Nat} {z m k:AV} {ok:Bool} {H e:List aa} {φ:AV→Prop} (h:cr kd z m k ok H φ):cr kd z m k ok (H++e) φ:=by
 unfold cr at *
 split at h <;> (try exact h)
 split at h
 ·rename_i bk;rw [vi bk];exact h
 ·exact h.elim
theorem xU {o:bY} {ρ:IX→AV} {H e:List aa} {x:AV} (hs:o.stays=true) (h:db P o ρ H x):db P o ρ (H++e) x:=by
 cases o with
 | call f args pass=>cases hs
 | load sz i=>
   unfold db at h ⊢
   exact D5 h
 | len kd i=>
   unfold db at h ⊢
   exact ⟨h.1,GY h.2⟩
 | lookup kd z m k ok=>
   unfold db at h ⊢
   exact zF h
 | set i t=>cases t <;> exact h
 | _=>exact h
theorem BF {st:Bool} {o:bY} {ρ:IX→AV} {H H':List aa} {x:AV} (hH:st=true→H'=H∨(o.stays=true∧∃ e,H'=H++e)) (h:dv P st o ρ H x):dv P st o ρ H' x:=by
 cases st
 ·exact h
 ·rcases hH rfl with e | ⟨h1,e,he⟩
  ·rw [e];exact h
  ·rw [he];exact xU h1 h
theorem GZ {st:Bool} {o:bt} {env1 cP:Env} {H1 H2:List aa} {x:AV} (hl:∀ s∈o.lk,get cP s=get env1 s) (hH:st=true→H2=H1∨(o.op.stays=true∧∃ e,H2=H1++e)) (h:Uy P st o env1 H1 x):Uy P st o cP H2 x:=by
 obtain ⟨ρ,h1,h2⟩:=h
 refine ⟨ρ,fun i hi=>(D4 hl i hi).trans (h1 i hi),?_⟩
 cases hg:o.g with
 | none=>simp only [hg] at h2 ⊢;exact BF hH h2
 | some p=>
   obtain ⟨g,want⟩:=p
   simp only [hg] at h2 ⊢
   rcases h2 with ⟨b,k1,k2,k3⟩ | ⟨k1,k2⟩
   ·exact .inl ⟨b,(hl g (by simp [bt.lk,hg])).trans k1,fun e=>BF hH (k2 e),k3⟩
   ·exact .inr ⟨(hl g (by simp [bt.lk,hg])).trans k1,k2⟩
theorem FC {st:Bool} {o:bt} {env:Env} {H:List aa} {x:AV} (h:Uy P st o env H x):rH P o env H fun e H'=>H'=H∧get e=get (put o.dst x env):=by
 obtain ⟨ρ,h1,h2⟩:=h
 unfold rH
 cases hg:o.g with
 | none=>simp only [hg] at h2 ⊢;exact BC (FB h2) h1
 | some p=>
   obtain ⟨g,want⟩:=p
   simp only [hg] at h2 ⊢
   rcases h2 with ⟨b,k1,k2,k3⟩ | ⟨k1,k2⟩
   rotate_left
   ·unfold iq
    rw [k1]
    subst k2
    exact ⟨by simp,rfl⟩
   unfold iq
   rw [k1]
   refine ⟨fun e=>?_,fun e=>?_⟩
   ·subst e
    have LA:=get_guard k1
    have:=BC (dst:=o.dst) (env:=(g,.bool b)::env) (FB (k2 rfl)) (fun i hi=>by
     rw [← h1 i hi]
     cases i with
     | c v=>rfl
     | t s=>show get _ s=get _ s;rw [LA])
    refine oo (fun _ _=>rfl) this ?_
    intro mods H' _ _ _ hk
    refine ⟨hk.1,hk.2.trans ?_⟩
    rw [km,km,LA]
   ·have eM:b≠want:=by intro e2;subst e2;cases b <;> cases e
    have hx:=k3 eM
    subst hx
    subst e
    exact ⟨by simp,by rw [km,km,get_guard k1]⟩
def closed (ops:Array Oper) (listed:Array Bool):Prop:=∀ k o,ops[k]?=some o→listed.getD k false=true→∀ e∈o.after,Region.binds .any e=true→listed.getD e.on false=true
theorem kY {listed:Array Bool} (hc:closed ops listed) {i:Nat}:∀ (f j:Nat) (oj:Oper),ops[j]?=some oj→(∀ e∈oj.after,Region.binds .any e=true→listed.getD e.on false=true)→dn ops f j i=true→listed.getD i false=true
 | 0,_,_,_,_,h=>by simp [dn] at h
 | f + 1,j,oj,hj,iI,h=>by
   simp only [dn,hj] at h
   obtain ⟨k,hk,he⟩:=Array.any_eq_true.1 h
   simp only [Bool.and_eq_true,Bool.or_eq_true,beq_iff_eq] at he
   have gU:oj.after[k]∈oj.after:=Array.getElem_mem hk
   have hl:=iI _ gU he.1
   rcases he.2 with e | e
   ·rw [← e];exact hl
   ·have hso:∃ o',ops[(oj.after[k]).on]?=some o':=by
     cases f with
     | zero=>simp [dn] at e
     | succ f=>
       cases ho:ops[(oj.after[k]).on]? with
       | none=>simp [dn,ho] at e
       | some o'=>exact ⟨o',rfl⟩
    obtain ⟨o',Uz⟩:=hso
    exact kY hc f _ o' Uz (hc _ _ Uz hl) e
theorem pr {listed:Array Bool} {i:Nat} (h:listed.getD i true=false):listed.getD i false=false:=by
 simp only [Array.getD_eq_getD_getElem?] at *
 cases hx:listed[i]? with
 | none=>rfl
 | some b=>rw [hx] at h;simpa using h
theorem pv {listed:Array Bool} (hc:closed ops listed) {j:Nat} (hj:j∈Region.ready .any ops listed):closed ops (listed.setIfInBounds j true):=by
 obtain ⟨_,oj,QG,iI⟩:=mem_ready.1 hj
 intro k o ho hk e he hb
 refine getD_set_true ?_
 by_cases hkj:k=j
 ·subst hkj
  rw [QG] at ho
  cases ho
  exact iI e he hb
 ·rw [getD_set_ne false (Ne.symm hkj)] at hk
  exact hc k o ho hk e he hb
theorem BG {listed:Array Bool} {i j:Nat} {st:Bool} (h:nF ops il listed i st=true) (hj:j < ops.size) (LC:j≠i) (Yc:listed.getD j true=false) (j3:dn ops ops.size j i=false):rI st (il.getD i default) (il.getD j default)=true:=by
 unfold nF at h
 have:=List.all_eq_true.1 h j (List.mem_range.2 hj)
 simp only [Bool.or_eq_true,beq_iff_eq,Yc,j3,Bool.false_eq_true,or_false] at this
 rcases this with e | e
 ·exact absurd e LC
 ·exact e
theorem BH {listed:Array Bool} {i j:Nat} {st:Bool} (h:nF ops il listed i st=true):nF ops il (listed.setIfInBounds j true) i st=true:=by
 unfold nF at *
 refine List.all_eq_true.2 fun k hk=>?_
 have:=List.all_eq_true.1 h k hk
 simp only [Bool.or_eq_true] at this ⊢
 rcases this with ((e | e) | e) | e
 ·exact .inl (.inl (.inl e))
 ·refine .inl (.inl (.inr ?_))
  by_cases Pc:j=k
  ·subst Pc
   simp only [Array.getD_eq_getD_getElem?,Array.getElem?_setIfInBounds]
   split
   ·split <;> simp
   ·rename_i eM;exact absurd trivial eM
  ·rw [getD_set_ne true Pc];exact e
 ·exact .inl (.inr e)
 ·exact .inr e
theorem BI {st:Bool} {oi oj:bt} (h:rI st oi oj=true) :
 (∀ d,oi.dst=some d→d∉oj.lk∧oj.dst≠some d∧d∉oj.op.kill)∧(∀ d,oj.dst=some d→d∉oi.lk)∧(∀ s∈oj.op.kill,s∉oi.lk)∧(st=true→oj.op.QF=false∨(oj.op.xP=true∧oi.op.stays=true)):=by
 unfold rI at h
 simp only [Bool.and_eq_true,Bool.or_eq_true,Bool.not_eq_true'] at h
 obtain ⟨⟨⟨h1,h2⟩,h3⟩,h4⟩:=h
 refine ⟨fun d hd=>?_,fun d hd=>?_,fun s hs=>?_,fun e=>?_⟩
 ·rw [hd] at h1
  simpa [and_assoc] using h1
 ·rw [hd] at h2
  simpa using h2
 ·have:=List.all_eq_true.1 h3 s hs
  simpa using this
 ·rcases h4 with (e2 | e2) | e2
  ·rw [e] at e2;cases e2
  ·exact .inl e2
  ·exact .inr e2
theorem qh {l:List bt} {i:Nat} {o:bt} (h:l[i]?=some o):l.getD i default=o:=by
 rw [List.getD_eq_getElem?_getD,h];rfl
theorem G7 (hK:Inv K) (df:il.length=ops.size) {i:Nat} {oi:bt} {x:AV} {st:Bool} (hi:il[i]?=some oi):∀ (f:Nat) (listed:Array Bool) {env:Env} {H:List aa},closed ops listed→nF ops il listed i st=true→i∈Region.ready .any ops listed→
 Uy P st oi env H x→vh P ops il K f (listed.setIfInBounds i true) (put oi.dst x env) H→vh P ops il K (f + 1) listed env H:=by
 intro f
 induction f with
 | zero=>
   intro listed env H iR Dr hr ht hD
   refine ⟨fun h=>(by rw [h] at hr;cases hr),fun j hj=>?_⟩
   by_cases LC:j=i
   ·subst LC
    unfold qA
    simp only [hi]
    exact qg (FC ht) fun e1 e2 H' he ⟨h1,h2⟩=>by
     subst h1
     exact iu hK 0 _ (h2.symm.trans he) hD
   ·have:=ready_mono hj LC
    rw [hD.1] at this
    cases this
 | succ f ih=>
   intro listed env H iR Dr hr ht hD
   refine ⟨fun h=>(by rw [h] at hr;cases hr),fun j hj=>?_⟩
   by_cases LC:j=i
   ·subst LC
    unfold qA
    simp only [hi]
    exact qg (FC ht) fun e1 e2 H' he ⟨h1,h2⟩=>by
     subst h1
     exact iu hK (f + 1) _ (h2.symm.trans he) hD
   ·have h1:=hD.2 j (ready_mono hj LC)
    obtain ⟨Y2,oj',UA,iI⟩:=mem_ready.1 hj
    have hjs:j < ops.size:=(Array.getElem?_eq_some_iff.1 UA).1
    have j3:dn ops ops.size j i=false:=by
     cases hma:dn ops ops.size j i with
     | false=>rfl
     | true=>
       have:=kY iR _ j oj' UA iI hma
       rw [pr (mem_ready.1 hr).1] at this
       cases this
    have UB:=BG Dr hjs LC Y2 j3
    rw [qh hi] at UB
    unfold qA at *
    cases QG:il[j]? with
    | none=>
      rw [List.getElem?_eq_none_iff] at QG
      omega
    | some oj=>
      rw [qh QG] at UB
      obtain ⟨a1,a2,a3,a4⟩:=BI UB
      simp only [QG] at h1 ⊢
      refine oq (env1:=put oi.dst x env) (fun s hs=>?_) h1 fun e1 e2 H' ⟨mods,hm,g1,g2⟩ hch hgr hk=>?_
      ·rw [km]
       cases hd:oi.dst with
       | none=>rfl
       | some d=>
         simp only [QK,fz]
         rw [if_neg]
         intro e
         exact (a1 d hd).1 (e ▸ hs)
      ·have Iu:∀ s∈oi.lk,∀ p∈mods,p.1≠s:=by
        intro s hs p hp e
        rcases hm p hp with h | h
        ·exact a2 _ h (e ▸ hs)
        ·exact a3 _ h (e ▸ hs)
       have Y3:∀ d,oi.dst=some d→∀ p∈mods,p.1≠d:=by
        intro d hd p hp e
        rcases hm p hp with h | h
        ·exact (a1 d hd).2.1 (e ▸ h)
        ·exact (a1 d hd).2.2 (e ▸ h)
       refine ih (listed.setIfInBounds j true) (pv iR hj) (BH Dr) (ready_mono hr (Ne.symm LC)) ?_ ?_
       ·refine GZ (fun s hs=>?_) (fun e=>(a4 e).imp hch fun ⟨q1,q2⟩=>⟨q2,hgr q1⟩) ht
        rw [g2]
        exact kK (Iu s hs)
       ·rw [Array.setIfInBounds_comm _ _ LC]
        refine iu hK f _ ?_ hk
        rw [g1,km,g2]
        cases hd:oi.dst with
        | none=>rfl
        | some d=>
          funext t
          simp only [QK,fz,put]
          by_cases Y4:t=d
          ·subst Y4
           rw [if_pos rfl,kK (Y3 t hd)]
           simp [get]
          ·rw [if_neg Y4]
           refine oY ?_ mods
           simp [get,Y4]
theorem Mi (hK:Inv K) (df:il.length=ops.size):∀ (p:wS) (f:Nat) (listed:Array Bool) {env:Env} {H:List aa},closed ops listed→
 (tS ops il f listed none p=true→ub P (inst il p) env H K→vh P ops il K f listed env H)∧
 (∀ ks,(∀ i∈ks,i∈Region.ready .any ops listed)→tS ops il (f + 1) listed (some ks) p=true→ub P (inst il p) env H K→∀ i∈ks,qA P il i env H (vh P ops il K f (listed.setIfInBounds i true))):=by
 intro p
 induction p with
 | done=>
   intro f listed env H iR
   refine ⟨fun h hd=>?_,fun ks _ h _ i hi=>?_⟩
   ·have:Region.ready .any ops listed=[]:=by
     cases f <;> simpa [tS,List.isEmpty_iff] using h
    simp only [inst,ub] at hd
    cases f with
    | zero=>exact ⟨this,hd⟩
    | succ f=>exact ⟨fun _=>hd,fun i hi=>by rw [this] at hi;cases hi⟩
   ·cases ks with
    | nil=>cases hi
    | cons k ks=>simp [tS] at h
 | nil=>
   intro f listed env H iR
   refine ⟨fun h _=>by cases f <;> simp [tS] at h,fun ks _ h _ i hi=>?_⟩
   cases ks with
   | nil=>cases hi
   | cons k ks=>simp [tS] at h
 | take k st r ih=>
   intro f listed env H iR
   refine ⟨fun h hd=>?_,fun ks _ h _ i hi=>?_⟩
   ·cases f with
    | zero=>simp [tS] at h
    | succ f=>
      simp only [tS,Bool.and_eq_true,List.contains_iff_mem] at h
      obtain ⟨⟨⟨hr,adL⟩,Dr⟩,hp⟩:=h
      obtain ⟨_,ok,jr,_⟩:=mem_ready.1 hr
      have DN:k < il.length:=by rw [df];exact (Array.getElem?_eq_some_iff.1 jr).1
      have L4:il[k]?=some (il.getD k default):=by rw [List.getD_eq_getElem?_getD,List.getElem?_eq_getElem DN];rfl
      simp only [inst,ub,sY] at hd
      have fin:∀ x,Uy P st (il.getD k default) env H x→ub P (inst il r) (put (il.getD k default).dst x env) H K→vh P ops il K (f + 1) listed env H:=by
       intro x hx hrest
       exact G7 hK df L4 f listed iR Dr hr hx ((ih f _ (pv iR hr)).1 hp hrest)
      cases hg:(il.getD k default).g with
      | none=>
        simp only [hg] at hd
        obtain ⟨x,hx,hrest⟩:=hd
        exact fin x ⟨al env,fun _ _=>rfl,by simp only [hg];exact hx⟩ hrest
      | some gw=>
        obtain ⟨g,want⟩:=gw
        simp only [hg,iq] at hd
        split at hd
        rotate_left
        ·rename_i hb
         exact fin (.tuple []) ⟨al env,fun _ _=>rfl,by simp only [hg];exact .inr ⟨hb,by trivial⟩⟩ hd
        ·exact hd.elim
        rename_i b hb
        by_cases FA:b=want
        ·obtain ⟨x,hx,hrest⟩:=hd.1 FA
         exact fin x ⟨al env,fun _ _=>rfl,by simp only [hg];exact .inl ⟨b,hb,fun _=>hx,fun e=>absurd FA e⟩⟩ hrest
        ·have hrest:=hd.2 (by cases b <;> cases want <;> first | rfl | exact absurd rfl FA)
         exact fin (.tuple []) ⟨al env,fun _ _=>rfl,by simp only [hg];exact .inl ⟨b,hb,fun e=>absurd e FA,fun _=>by trivial⟩⟩ hrest
   ·cases ks with
    | nil=>cases hi
    | cons k ks=>simp [tS] at h
 | br k t rest I7 Fz=>
   intro f listed env H iR
   have key:∀ (f:Nat) (ks:List Nat),(∀ i∈k::ks,i∈Region.ready .any ops listed)→tS ops il f (listed.setIfInBounds k true) none t=true→tS ops il (f + 1) listed (some ks) rest=true→ub P (inst il (.br k t rest)) env H K→
    ∀ i∈k::ks,qA P il i env H (vh P ops il K f (listed.setIfInBounds i true)):=by
    intro f ks DN h1 h2 hd i hi
    simp only [inst,ub] at hd
    rcases List.mem_cons.1 hi with rfl | hi
    ·have hr:=DN i (by simp)
     obtain ⟨_,ok,jr,_⟩:=mem_ready.1 hr
     have aX:i < il.length:=by rw [df];exact (Array.getElem?_eq_some_iff.1 jr).1
     have L4:il[i]?=some (il.getD i default):=by rw [List.getD_eq_getElem?_getD,List.getElem?_eq_getElem aX];rfl
     unfold qA
     rw [L4]
     exact qg hd.1 fun e1 e2 H' he hk=>iu hK f _ he ((I7 f _ (pv iR hr)).1 h1 hk)
    ·exact (Fz f listed iR).2 ks (fun j hj=>DN j (by simp [hj])) h2 hd.2 i hi
   refine ⟨fun h hd=>?_,fun ks DN h hd i hi=>?_⟩
   ·cases f with
    | zero=>simp [tS] at h
    | succ f=>
      simp only [tS] at h
      split at h
      ·rename_i k' ks Yd
       simp only [Bool.and_eq_true,beq_iff_eq] at h
       obtain ⟨⟨rfl,h1⟩,h2⟩:=h
       have:=key f ks (fun i hi=>by rw [Yd];exact hi) h1 h2 hd
       exact ⟨(fun e=>by rw [e] at Yd;cases Yd),fun i hi=>this i (by rw [Yd] at hi;exact hi)⟩
      ·cases h
   ·cases ks with
    | nil=>cases hi
    | cons k' ks=>
      simp only [tS,Bool.and_eq_true,beq_iff_eq] at h
      obtain ⟨⟨rfl,h1⟩,h2⟩:=h
      exact key f ks DN h1 h2 hd i hi
end
end Go.aH
end
section
namespace Go.aH
open Go
section
variable {ro:Option Nat} {P:Program} {lo:Option Nat} {A:Perm} {n:Nat}
theorem nM {ops:Array Oper} {an:A9} {rid:Nat}:∀ (fuel k:Nat) (l:List Oper) (il:List bt),eS P ops an n rid false fuel k l=some il→
 il.length=l.length∧∀ (j:Nat) (o:Oper),l[j]?=some o→∃ g,Fx ops o=some g∧Fv n o=true∧il[j]?=some ⟨g,o.dst,Bv P o (an.at_ rid (k + j))⟩
 | _,_,[],il,hc=>by
   unfold eS at hc
   cases hc
   exact ⟨rfl,fun j o h=>by simp at h⟩
 | 0,_,o::r,il,hc=>by simp [eS] at hc
 | fuel + 1,k,o::r,il,hc=>by
   unfold eS at hc
   simp only [Bool.false_eq_true,and_false,if_false] at hc
   split at hc <;> try cases hc
   rename_i g xs hg ej
   split at hc <;> cases hc
   rename_i fZ
   obtain ⟨h1,h2⟩:=nM fuel (k + 1) r xs ej
   refine ⟨by simp [h1],fun j o' hj=>?_⟩
   cases j with
   | zero=>
     simp at hj
     subst hj
     exact ⟨g,hg,fZ,by simp⟩
   | succ j=>
     simp at hj
     obtain ⟨g',e1,e2,e3⟩:=h2 j o' hj
     exact ⟨g',e1,e2,by simp [e3,Nat.add_assoc,Nat.add_comm 1 j]⟩
theorem tf {ops:Array Oper} {il:List bt} {an:A9} {rid:Nat} {L0:List Nat} {M0:Mem} {w0:World} {K:Env→List aa→Prop} {Q:Exit→Act→World→Prop}
 (hp:∀ l,lo=some l→∀ id,l≤id→A.top id=none) (hc:eS P ops an n rid false (ops.size + 1) 0 ops.toList=some il)
 (hF:∀ (M:Mem) (L:List Nat) (w:World) (H:List aa) (env:Env) (O:Pos→Option Nat) (a:Act),K env H→Fr A n M L w H env O a→Ext A M0 w0 M w→L0 <+: L→Q .normal a w) :
 ∀ (f:Nat) (listed:Array Bool) {M:Mem} {L:List Nat} {w:World} {H:List aa} {env:Env} {O:Pos→Option Nat} {a:Act},Fr A n M L w H env O a→Ext A M0 w0 M w→L0 <+: L→vh ⟨P,lo⟩ ops il K f listed env H→wpAnyIn (wf ro) 0 P .any ops Q f listed a w
 | 0,_,_,_,_,_,_,_,_,hf,cB,hL,h=>⟨h.1,hF _ _ _ _ _ _ _ h.2 hf cB hL⟩
 | f + 1,listed,M,L,w,H,env,O,a,hf,cB,hL,h=>by
   refine ⟨fun h0=>hF _ _ _ _ _ _ _ (h.1 h0) hf cB hL,fun i hi=>?_⟩
   have hq:=h.2 i hi
   unfold wpOpIn
   cases ho:ops[i]? with
   | none=>
     obtain ⟨_,o,Uz,_⟩:=mem_ready.1 hi
     rw [ho] at Uz;cases Uz
   | some o=>
     obtain ⟨g,hg,fZ,A4⟩:=(nM _ _ _ _ hc).2 i o (by simpa using ho)
     unfold qA at hq
     rw [A4] at hq
     have hs:=xR (ro:=ro) (ops:=ops) hg fZ hp hf hq Q
     have hrest:∀ a' w',nj A n M L w (vh ⟨P,lo⟩ ops il K f (listed.setIfInBounds i true)) a' w'→wpAnyIn (wf ro) 0 P .any ops Q f (listed.setIfInBounds i true) a' w':=by
      rintro a' w' ⟨M',L',H',aB,O',k1,k2,k3,k4⟩
      exact tf hp hc hF f _ k2 (cB.trans k3) (hL.trans k4) k1
     simp only
     split
     ·rename_i hw
      rw [if_pos hw] at hs
      exact Oper.wpIn_mono hrest hs
     ·rename_i hw
      rw [if_neg hw] at hs
      exact ⟨fun _ _=>trivial,hrest _ _ hs⟩
theorem G8 (L0:List Nat) (hp:∀ l,lo=some l→∀ id,l≤id→A.top id=none):xS P ro lo A n L0:=by
 intro id ops il p live an M L w H env O a M0 w0 Q hm hB hc h hf cB hL
 simp only [mP] at h
 have hK:Inv (fun (aB:Env) (H':List aa)=>∃ e,get e=get aB∧Q .normal (eE live e) H'):=fun e1 e2 H he ⟨e,h1,h2⟩=>⟨e,h1.trans he,h2⟩
 have df:il.length=ops.size:=by simpa using (nM _ _ _ _ hc).1
 have hB:=I6 df p _ _ _ _ (GS _) (by simp) hB
 have iR:closed ops (Array.replicate ops.size false):=by
  intro k o _ hk
  simp only [Array.getD_eq_getD_getElem?,Array.getElem?_replicate] at hk
  split at hk <;> cases hk
 have hd:ub ⟨P,lo⟩ (inst il p) env H (fun (aB:Env) (H':List aa)=>∃ e,get e=get aB∧Q .normal (eE live e) H'):=by
  have mono:∀ (t:DT) (env:Env) (H:List aa) (K1 K2:Env→List aa→Prop),(∀ e H,K1 e H→K2 e H)→Inv K2→ub ⟨P,lo⟩ t env H K1→ub ⟨P,lo⟩ t env H K2:=by
   intro t
   induction t with
   | done=>intro env H K1 K2 hk _ h;exact hk _ _ h
   | nil=>intro _ _ _ _ _ _ _;trivial
   | take st o r ih=>
     intro env H K1 K2 hk hi h
     simp only [ub,sY] at h ⊢
     cases hg:o.g with
     | none=>
       simp only [hg] at h ⊢
       obtain ⟨x,hx,h⟩:=h
       exact ⟨x,hx,ih _ _ _ _ hk hi h⟩
     | some gw=>
       obtain ⟨g,want⟩:=gw
       simp only [hg,iq] at h ⊢
       split at h
       rotate_left
       ·exact ih _ _ _ _ hk hi h
       ·exact h.elim
       exact ⟨fun e=>let ⟨x,hx,h⟩:=h.1 e;⟨x,hx,ih _ _ _ _ hk hi h⟩,fun e=>ih _ _ _ _ hk hi (h.2 e)⟩
   | br o t rest I7 Fz=>
     intro env H K1 K2 hk hi h
     have hinv:∀ K:Env→List aa→Prop,Inv K→∀ t,Inv fun env H=>ub ⟨P,lo⟩ t env H K:=by
      intro K hK t
      induction t with
      | done=>exact hK
      | nil=>intro _ _ _ _ _;trivial
      | take st o r ih=>
        intro e1 e2 H he h
        simp only [ub,sY] at h ⊢
        have hav:al e2=al e1:=by
         funext i
         cases i with
         | c v=>rfl
         | t s=>show get e2 s=get e1 s;rw [he]
        have nC:∀ x,get (put o.dst x e1)=get (put o.dst x e2):=fun x=>by rw [km,km,he]
        cases hg:o.g with
        | none=>
          simp only [hg] at h ⊢
          obtain ⟨x,hx,h⟩:=h
          exact ⟨x,by rw [hav];exact hx,ih _ _ _ (nC x) h⟩
        | some gw=>
          obtain ⟨g,want⟩:=gw
          simp only [hg,iq] at h ⊢
          rw [← he]
          split at h
          rotate_left
          ·exact ih _ _ _ (nC _) h
          ·exact h.elim
          exact ⟨fun e=>let ⟨x,hx,h⟩:=h.1 e;⟨x,by rw [hav];exact hx,ih _ _ _ (nC x) h⟩,fun e=>ih _ _ _ (nC _) (h.2 e)⟩
      | br o t rest I7 Fz=>
        intro e1 e2 H he h
        exact ⟨oq (fun s _=>by rw [he]) h.1 fun a b H' ⟨mods,_,g1,g2⟩ _ _ hk=>I7 _ _ _ (by rw [g1,g2,cS he]) hk,Fz _ _ _ he h.2⟩
     exact ⟨qg h.1 fun e1 e2 H' he Iv=>hinv K2 hi t _ _ _ he (I7 _ _ _ _ hk hi Iv),Fz _ _ _ _ hk hi h.2⟩
  exact mono _ _ _ _ _ (fun e H hq=>⟨e,rfl,hq⟩) hK h
 have hA:=(Mi (P:=⟨P,lo⟩) hK df p ops.size (Array.replicate ops.size false) (env:=env) (H:=H) iR).1 hB hd
 refine wpIn_region_any hm (tf (M0:=M0) (w0:=w0) (L0:=L0) hp hc ?_ ops.size _ (M:=M) (L:=L) (H:=H) (env:=env) (O:=O) ⟨hf.st.drew,hf.size,hf.defers.ext (Ext.drew (M:=M))⟩ (cB.trans Ext.drew) hL hA)
 rintro M' L' w' H' aB O' a' ⟨e,he,hq⟩ h2 h3 h4
 obtain ⟨O'',h5⟩:=(h2.DZ he).weaken (xQ live e)
 exact ⟨A,M',L',H',_,O'',.refl A,hq,h5,h3,h4⟩
theorem D6 {L0:List Nat} {an:A9} {lv:mL} {pl:mM} (c:Code) (ir:IR) (hc:comp P an lv pl n c=some ir) {M:Mem} {L:List Nat} {w:World} {H:List aa} {env:Env} {O:Pos→Option Nat} {a:Act} {Q:Exit→Env→List aa→Prop}
 (hA:fL lo L0.length A) (wQ:Own ro w) (h:mP ⟨P,lo⟩ L0.length ir env H Q) (hf:Fr A n M L w H env O a) (hL:L0 <+: L):c.wpIn (wf ro) 0 P (DY A n M L0 w Q) a w:=
 sound (fun A hA=>G8 L0 hA.opens) c ir hc hA wQ h hf hL
end
end Go.aH
end
section
namespace Go.aH
open Go
inductive RX where
 | t (s:Nat)
 | c (s:Nat) (sz:Option Nat)
 deriving Inhabited
def I8 (P:Program):ResultVar→Option RX
 | .tmp t=>some (.t t)
 | .cell a t=>(It P t).map (.c a)
def iv (P:Program):List ResultVar→Option (List RX)
 | []=>some []
 | r::rs=>match I8 P r,iv P rs with
   | some x,some xs=>some (x::xs)
   | _,_=>none
def rM:List RX→Env→List aa→(List AV→Prop)→Prop
 | [],_,_,φ=>φ []
 | .t s::r,env,H,φ=>rM r env H fun xs=>φ (get env s::xs)
 | .c s sz::r,env,H,φ=>aR sz (get env s) H fun x=>rM r env H fun xs=>φ (x::xs)
def bR (n0:Nat) (rs:List RX) (env:Env) (H:List aa) (R:AV→List aa→Prop):Prop:=
 rM rs env H fun xs=>∃ m,n0≤m∧match xs with
  | [x]=>∃ r,x.le r∧r.aZ m=true∧R r (H.take m)
  | xs=>∃ ys,w7 (xs.map AV.ab) ys∧aj m ys=true∧R (.tuple ys) (H.take m)
def kZ (C:List aa→Nat→List aa→Prop) (n0:Nat) (rs:List RX) (env:Env) (H:List aa) (R:AV→List aa→Prop):Prop:=
 rM rs env H fun xs=>∃ m H',n0≤m∧C H m H'∧match xs with
  | [x]=>∃ r,x.le r∧r.aZ m=true∧R r H'
  | xs=>∃ ys,w7 (xs.map AV.ab) ys∧aj m ys=true∧R (.tuple ys) H'
theorem rN:∀ {rs:List RX} {env:Env} {H:List aa} {φ ψ:List AV→Prop},(∀ xs,φ xs→ψ xs)→rM rs env H φ→rM rs env H ψ
 | [],env,H,φ,ψ,hm,h=>hm _ h
 | .t s::r,env,H,φ,ψ,hm,h=>rN (rs:=r) (fun xs hx=>hm _ hx) h
 | .c s sz::r,env,H,φ,ψ,hm,h=>jJ (fun x hx=>rN (rs:=r) (fun xs hx=>hm _ hx) hx) h
theorem QL {n0:Nat} {rs:List RX} {env:Env} {H:List aa} {R:AV→List aa→Prop} (h:bR n0 rs env H R):kZ (fun H m H'=>H'=H.take m) n0 rs env H R:=
 rN (fun xs ⟨m,h1,h2⟩=>⟨m,H.take m,h1,rfl,h2⟩) h
def bX:Nat→List AV→Env
 | _,[]=>[]
 | k,x::xs=>(k,x)::bX (k + 1) xs
theorem l9:∀ (xs:List AV) (k t:Nat),get (bX k xs) t=if k≤t then xs.getD (t - k) .any else .any
 | [],k,t=>by simp [bX,get]
 | x::xs,k,t=>by
   simp only [bX,get]
   split
   ·rename_i e;subst e;simp
   ·rename_i e
    rw [l9 xs (k + 1) t]
    by_cases h:k + 1≤t
    ·have:t - k=(t - (k + 1)) + 1:=by omega
     rw [if_pos h,if_pos (by omega),this];simp
    ·rw [if_neg h,if_neg (by omega)]
section
variable {P:Program} {A:Perm} {n:Nat} {M:Mem} {L:List Nat} {w:World} {H:List aa} {env:Env} {O:Pos→Option Nat} {a:Act}
def zG (tmps:Array Value):ResultVar→Sem Value:=fun
 | .tmp t=>pure (tmps.getD t undef)
 | .cell a t=>do loadVar t (← asAddr (tmps.getD a undef))
theorem BJ {fn:Func} {tmps:Array Value} {vs:List Value} (h:(fn.results.toList.mapM (zG tmps)).run P w=.ok vs w) :
 (results fn tmps).run P w=.ok (if h:vs.toArray.size=1 then vs.toArray[0] else .tuple vs.toArray) w:=by
 have e:(results fn tmps)=(do
  let vs ← fn.results.mapM (zG tmps)
  pure (if h:vs.size=1 then vs[0] else .tuple vs)):=rfl
 rw [e,Array.mapM_eq_mapM_toList]
 simp only [Sem.run_bind,Sem.run_map,h]
 rfl
theorem zH (hf:Fr A n M L w H env O a):∀ (rs:List ResultVar) (is:List RX),iv P rs=some is→∀ {φ:List AV→Prop},rM is env H φ→
 ∃ vs xs,(rs.mapM (zG a.tmps)).run P w=.ok vs w∧φ xs∧aG M L vs xs∧(∀ s,is=[.t s]→xs=[get env s]∧vs=[a.tmps.getD s undef])∧(∀ s sz,is=[.c s sz]→∀ x,xs=[x]→∀ own ys,x=.ap own ys→own=0)
 | [],is,hc,φ,h=>by
   simp only [iv] at hc;cases hc
   exact ⟨[],[],by simp,h,.nil,(by intro s e;cases e),(by intro s sz e;cases e)⟩
 | r::rs,is,hc,φ,h=>by
   unfold iv at hc
   split at hc <;> cases hc
   rename_i x xs hx ej
   cases r with
   | tmp t=>
     simp only [I8] at hx;cases hx
     simp only [rM] at h
     obtain ⟨vs,ys,h1,h2,h3,_⟩:=zH hf rs xs ej h
     refine ⟨a.tmps.getD t undef::vs,get env t::ys,?_,h2,.cons _ _ _ _ (hf.st.env t) h3,?_,?_⟩
     ·simp only [List.mapM_cons,Sem.run_bind,zG,Sem.run_pure,Result.andThen_ok,h1]
     ·intro s e
      cases e
      cases rs with
      | nil=>
        cases h3 with
        | nil=>exact ⟨rfl,rfl⟩
        | cons v x vs xs hh tt=>
          simp at h1
      | cons r rs=>
        unfold iv at ej
        split at ej <;> cases ej
     ·intro s sz e;cases e
   | cell p t=>
     simp only [I8,Option.map_eq_some_iff] at hx
     obtain ⟨sz,df,rfl⟩:=hx
     simp only [rM] at h
     obtain ⟨r,z,k1,k2,k3,k4⟩:=rA (P:=P) df hf.st h (hf.st.env p)
     obtain ⟨vs,ys,h1,h2,h3,_⟩:=zH hf rs xs ej k3
     refine ⟨r::vs,z::ys,?_,h2,.cons _ _ _ _ k2 h3,?_,?_⟩
     ·have hl:(do loadVar t (← asAddr (a.tmps.getD p undef)):Sem Value).run P w=.ok r w:=by
       have fF:=hf.st.env p
       revert k1 fF
       generalize a.tmps.getD p undef=u
       intro k1 fF
       unfold aR at h
       split at h
       ·rename_i id off e
        rw [e] at fF
        cases fF
        exact k1
       ·rename_i y e
        rw [e] at fF
        cases fF
        exact k1
       ·exact h.elim
      have Y5:(List.mapM (zG a.tmps) rs).run P w=.ok vs w:=h1
      simp only [List.mapM_cons,Sem.run_bind,zG] at hl ⊢
      rw [hl]
      simp only [Result.andThen_ok,Y5]
      rfl
     ·intro s e;cases e
     ·intro s sz e x hx
      cases hx
      exact k4
theorem St.bh {ev:Nat→Value} {ea:Nat→AV} (h:St A M L w H ev ea O) {v:Value} {x:AV} (hr:aS M L v x) (ob:Option Nat) (hs:bf M w v x ob)
 (h1:∀ id j b,ob=some b→O (.c id j)≠some b) (h2:∀ b,ob=some b→b∉L∧b < w.heap.size∧A b) :
 ∃ O',St A M L w H (fz (fun _=>undef) 0 v) (fz (fun _=>.any) 0 x) O':=by
 have k1:=h.pZ (fun _=>undef) (fun _=>.any) (fun _=>.any _) (fun _ _ _ e=>by cases e)
 exact ⟨_,k1.put 0 hr ob hs (fun p b hob hp=>by
  cases p with
  | t t=>cases hp
  | c id j=>exact absurd hp (h1 id j b hob)) h2⟩
theorem FD {x:AV} {m:Nat} (hb:x.aZ m=true) (t:Nat):(fz (fun _=>AV.any) 0 x t).aZ m=true:=by
 simp only [fz]
 split
 ·exact hb
 ·rfl
theorem St.QM {ev:Nat→Value} {ea:Nat→AV} (h:St A M L w H ev ea O) (A2:Perm) (Y6:A2.wr=A.wr) (n:Nat) {H':List aa} (hlen:H'.length=min n H.length)
 (hc:∀ (id:Nat) (o:aa),H'[id]?=some o→o=.dead∨(H[id]?=some o∧o.aZ (A2.jo H'.length id)=true)) (hb:∀ t,(ea t).aZ n=true):∃ O',St A2 M (L.take n) w H' ev ea O':=by
 let O':Pos→Option Nat:=fun p=>match p with | .t t=>O (.t t) | .c id j=>match H'[id]? with | some .dead=>none | some _=>O (.c id j) | none=>none
 have hO:∀ p b,O' p=some b→O p=some b:=by
  intro p b hp
  cases p with
  | t t=>exact hp
  | c id j=>
    simp only [O'] at hp
    split at hp <;> first | exact hp | cases hp
 have jA:∀ {α:Type} {l:List α} {i:Nat} {a:α},(l.take n)[i]?=some a→i < n∧l[i]?=some a:=by
  intro α l i a hi
  rw [List.getElem?_take] at hi
  split at hi
  ·exact ⟨by assumption,hi⟩
  ·cases hi
 have gU:∀ b,b∈L.take n→b∈L:=fun b hb=>List.mem_of_mem_take hb
 refine ⟨O',{ len:=by simp [h.len,hlen],nodup:=(List.take_sublist n L).nodup h.nodup,env:=fun t=>(h.env t).gk (hb t),mem:=h.mem,obj:=?_,bA:=?_,lt:=fun b hb=>h.lt b (gU b hb),gX:=h.gX,gT:=?_,b7:=fun p q b hp hq=>h.b7 p q b (hO p b hp) (hO q b hq),ct:=fun p b hp hm=>h.ct p b (hO p b hp) (gU b hm),fj:=fun p b hp=>h.fj p b (hO p b hp),La:=fun b hb=>by rw [Y6];exact h.La b (gU b hb),Oa:=fun p b hp=>by rw [Y6];exact h.Oa p b (hO p b hp),fresh:=fun b hb=>by rw [Y6];exact h.fresh b hb }⟩
 ·intro id o b ho eh
  obtain ⟨hn,eh⟩:=jA eh
  rcases hc id o ho with rfl | ⟨h1,h2⟩
  ·trivial
  ·refine (h.obj id o b h1 eh).gk (aa.cN ?_ o h2)
   have:=A2.uC H'.length id
   omega
 ·intro id o ho
  rcases hc id o ho with rfl | ⟨h1,h2⟩
  ·rfl
  ·exact h2
 ·intro id j
  have dead:∀ x:Option aa,H'[id]?=x→(x=none∨x=some .dead)→bf M w (bJ (L.take n) w id j) (bn H' id j) (O' (.c id j)):=by
   intro x hx Pe
   have e2:bn H' id j=.any:=by
    unfold bn
    rw [hx]
    rcases Pe with rfl | rfl <;> rfl
   have e3:O' (.c id j)=none:=by
    simp only [O',hx]
    rcases Pe with rfl | rfl <;> rfl
   rw [e2,e3]
   rfl
  cases hx:H'[id]? with
  | none=>exact dead none hx (.inl rfl)
  | some o=>
    by_cases ed:o=.dead
    ·subst ed;exact dead _ hx (.inr rfl)
    ·rcases hc id o hx with h' | ⟨h1,h2⟩
     ·exact absurd h' ed
     have hl:=aK hx
     have e1:bJ (L.take n) w id j=bJ L w id j:=by
      unfold bJ
      rw [List.getElem?_take,if_pos (by omega)]
     have e2:bn H' id j=bn H id j:=by
      unfold bn
      rw [hx,h1]
     have e3:O' (.c id j)=O (.c id j):=by
      simp only [O',hx]
     rw [e1,e2,e3]
     exact h.gT id j
theorem FE:∀ {vs:List Value} {xs ys:List AV},aG M L vs xs→w7 (xs.map AV.ab) ys→aG M L vs ys
 | _,_,[],.nil,h=>.nil
 | _,_,y::ys,.nil,h=>by simp [w7] at h
 | _,_,[],.cons _ _ _ _ _ _,h=>by simp [w7] at h
 | _,_,y::ys,.cons _ _ _ _ h1 h2,h=>by
   simp only [List.map_cons,w7] at h
   exact .cons _ _ _ _ (h1.ab.le h.1) (FE h2 h.2)
def Marks (A:Perm) (w w2:World):Prop:=w2.heap.size=w.heap.size∧w2.os=w.os∧w2.tape=w.tape∧w2.output=w.output∧
 ∀ b,w2.heap[b]?=w.heap[b]?∨(A.base≤b∧¬ A b∧(∃ x,w.heap[b]?=some (.deferred x))∧∃ x,w2.heap[b]?=some (.deferred x))
theorem Marks.refl (A:Perm) (w:World):Marks A w w:=⟨rfl,rfl,rfl,rfl,fun b=>.inl rfl⟩
theorem Marks.trans {A:Perm} {w w1 w2:World} (h:Marks A w w1) (k:Marks A w1 w2):Marks A w w2:=by
 refine ⟨k.1.trans h.1,k.2.1.trans h.2.1,k.2.2.1.trans h.2.2.1,k.2.2.2.1.trans h.2.2.2.1,fun b=>?_⟩
 rcases h.2.2.2.2 b with h1 | ⟨h1,h2,h3,x,h4⟩ <;> rcases k.2.2.2.2 b with k1 | ⟨k1,k2,⟨y,k3⟩,k4⟩
 ·exact .inl (k1.trans h1)
 ·exact .inr ⟨k1,k2,⟨y,by rw [← h1];exact k3⟩,k4⟩
 ·exact .inr ⟨h1,h2,h3,x,by rw [k1];exact h4⟩
 ·exact .inr ⟨h1,h2,h3,k4⟩
theorem qi {A:Perm} {F:Fence} {m:Nat} {fn:Func} {tmps:Array Value} {R:Ending→World→Prop}:∀ (ds:List Deferred) {w:World},O7 A w ds→(∀ w2,Marks A w w2→LeavesIn F m P fn tmps R [] .returning w2)→LeavesInM F m P fn tmps R ds .returning w
 | [],w,_,h=>h w (.refl A w)
 | d::ds,w,hd,h=>by
   obtain ⟨D,rfl,h2,h3,h4⟩:=hd.2.2 _ List.mem_cons_self
   have hm:Marks A w (w.putObj D (.deferred none)):=⟨World.putObj_size,rfl,rfl,rfl,fun b=>by
    by_cases e:b=D
    ·subst e
     exact .inr ⟨h4,h3,⟨_,h2⟩,_,World.putObj_heap_same (Array.getElem?_eq_some_iff.1 h2).1⟩
    ·exact .inl (World.putObj_heap_other e)⟩
   refine ⟨by simp,.inl ⟨D,_,rfl,run_takeDeferred h2,qi ds ⟨by rw [World.putObj_size];exact hd.1,(List.nodup_cons.1 hd.2.1).2,fun d' X9=>?_⟩ fun w2 hm2=>h w2 (hm.trans hm2)⟩⟩
   obtain ⟨D',e',k2,k3⟩:=hd.2.2 d' (List.mem_cons_of_mem _ X9)
   refine ⟨D',e',?_,k3⟩
   rw [World.putObj_heap_other]
   ·exact k2
   ·rintro rfl
    exact (List.nodup_cons.1 hd.2.1).1 (e' ▸ X9)
theorem St.marks {ev:Nat→Value} {ea:Nat→AV} (h:St A M L w H ev ea O) {w2:World} (hm:Marks A w w2):St A M L w2 H ev ea O:=by
 obtain ⟨h1,_,_,_,h5⟩:=hm
 have same:∀ b,A b→w2.heap[b]?=w.heap[b]?:=fun b hb=>by
  rcases h5 b with h | ⟨_,h,_⟩
  ·exact h
  ·exact absurd hb h
 exact { len:=h.len,nodup:=h.nodup,env:=h.env,bA:=h.bA,b7:=h.b7,ct:=h.ct,La:=h.La,Oa:=h.Oa
         mem:=fun b o v hv=>by
          have hc:=h.mem b o v hv
          rcases h5 b with e | ⟨_,_,⟨x,e⟩,_⟩
          ·simp only [World.cell?] at hc ⊢;rw [e];exact hc
          ·simp [World.cell?,e] at hc
         obj:=fun id o b ho hb=>(h.obj id o b ho hb).mono (Mem.bM M) (List.prefix_refl L) (same b (h.La b (List.mem_of_getElem? hb))) (fun _=>rfl)
         lt:=fun b hb=>by rw [h1];exact h.lt b hb
         gX:=fun t=>(h.gX t).mono fun b hb=>⟨same b (h.Oa _ b hb),fun _=>rfl⟩
         gT:=fun id j=>by
          have e:bJ L w2 id j=bJ L w id j:=by
           unfold bJ
           split
           ·rename_i b hb
            simp only [World.cell?]
            rw [same b (h.La b (List.mem_of_getElem? hb))]
           ·rfl
          rw [e]
          exact (h.gT id j).mono fun b hb=>⟨same b (h.Oa _ b hb),fun _=>rfl⟩
         fj:=fun p b hp=>by rw [h1];exact h.fj p b hp
         fresh:=fun b hb=>h.fresh b (by rw [← h1];exact hb) }
theorem Ext.marks {A A':Perm} {M M':Mem} {w w' w2:World} (h:Ext A M w M' w') (hm:Marks A' w' w2) (hb:w.heap.size≤A'.base):Ext A M w M' w2:=by
 obtain ⟨h1,h2,h3,h4,h5⟩:=hm
 refine ⟨h.kR,by rw [h1];exact h.size,h2.trans h.os,h3.trans h.tape,h4.trans h.output,fun b aX hA=>?_,fun b r hr=>?_⟩
 ·obtain ⟨k1,k2⟩:=h.kz b aX hA
  refine ⟨?_,k2⟩
  rcases h5 b with e | ⟨e,_⟩
  ·exact e.trans k1
  ·omega
 ·obtain ⟨r',k1,k2⟩:=h.loops b r hr
  rcases h5 b with e | ⟨_,_,⟨x,e⟩,_⟩
  ·exact ⟨r',e.trans k1,k2⟩
  ·rw [k1] at e;cases e
theorem vj {lo:Option Nat} {b:Bool} (A1:Perm→Perm) (C:List aa→Nat→List aa→Prop) {f:FuncId} {fn:Func} {c:Code} {an:A9} {lv:mL} {pl:mM} {ir:IR} {rs:List RX} {args:List AV} {R:AV→List aa→Prop}
 (hf:P.funcs[f]?=some fn) (hcall:∀ (as:Array Value) (w:World),(callFunc f as).run P w=.ok (.enter f as) w) (hb:fn.body=some c) (hc:comp P an lv pl fn.ntmps c=some ir) (w9:iv P fn.results.toList=some rs)
 (h1:∀ A:Perm,A.entry b H.length→fL lo H.length (A1 A)) (h2:∀ A:Perm,(A1 A).wr=A.wr) (h3:∀ (A:Perm) {M:Mem} {L:List Nat} {w:World} {ev:Nat→Value} {ea:Nat→AV} {O:Pos→Option Nat},A.entry b H.length→St A M L w H ev ea O→St (A1 A) M L w H ev ea O)
 (h4:∀ (A:Perm) {M:Mem} {L:List Nat} {w:World} {H':List aa} {ev:Nat→Value} {ea:Nat→AV} {O:Pos→Option Nat} {m:Nat} {H'':List aa},A.entry b H.length→H.length≤m→H.length≤H'.length→C H' m H''→St (A1 A) M L w H' ev ea O→(∀ t,(ea t).aZ m=true)→∃ O',St A M (L.take m) w H'' ev ea O')
 (hn:args.length≤fn.ntmps) (Rt:Env→List aa→Prop) (hRt:∀ env H',Rt env H'→kZ C H.length rs env H' R) (h:mP ⟨P,lo⟩ H.length ir (bX 0 args) H fun e env H'=>(e=.normal∨e=.ret)∧Rt env H'):kF b P f args H R:=by
 refine fun A M L w vs O hA hs UC=>.inl ⟨hcall _ _,callsIn_wide.1 (callsIn_of_wp_marks (F:=Fence.wide) (n:=0) hf hb trivial ?_ rfl)⟩
 obtain ⟨A2,D7⟩:∃ A2:Perm,A2={ A1 A with base:=w.heap.size }:=⟨_,rfl⟩
 have a2w:A2.wr=A.wr:=by rw [D7];exact h2 A
 have st12:∀ {M:Mem} {L:List Nat} {w:World} {H:List aa} {ev:Nat→Value} {ea:Nat→AV} {O:Pos→Option Nat},St (A1 A) M L w H ev ea O→St A2 M L w H ev ea O:=by
  intro M L w H ev ea O h;subst D7
  exact { len:=h.len,nodup:=h.nodup,env:=h.env,mem:=h.mem,obj:=h.obj,bA:=h.bA,lt:=h.lt,gX:=h.gX,gT:=h.gT,b7:=h.b7,ct:=h.ct,fj:=h.fj,La:=h.La,Oa:=h.Oa,fresh:=h.fresh }
 have st21:∀ {M:Mem} {L:List Nat} {w:World} {H:List aa} {ev:Nat→Value} {ea:Nat→AV} {O:Pos→Option Nat},St A2 M L w H ev ea O→St (A1 A) M L w H ev ea O:=by
  intro M L w H ev ea O h;subst D7
  exact { len:=h.len,nodup:=h.nodup,env:=h.env,mem:=h.mem,obj:=h.obj,bA:=h.bA,lt:=h.lt,gX:=h.gX,gT:=h.gT,b7:=h.b7,ct:=h.ct,fj:=h.fj,La:=h.La,Oa:=h.Oa,fresh:=h.fresh }
 have bO:=st12 (h3 A hA UC)
 have hfits:fL lo H.length A2:=by rw [D7];exact h1 A hA
 have LB:L.length=H.length:=UC.len
 have Dr:Fr A2 fn.ntmps M L w H (bX 0 args) O { tmps:=vs++Array.replicate (fn.ntmps - vs.size) undef,defers:=[] }:=by
  refine ⟨bO.congr ?_ ?_,by simp;omega,⟨by rw [D7];exact Nat.le_refl _,List.nodup_nil,fun d h=>by cases h⟩⟩
  ·intro t
   simp only [Array.getD_eq_getD_getElem?]
   by_cases ht:t < vs.size
   ·rw [Array.getElem?_append_left ht]
   ·rw [Array.getElem?_append_right (by omega),Array.getElem?_eq_none (xs:=vs) (by omega),Array.getElem?_replicate]
    split <;> rfl
  ·intro t
   rw [l9];simp
 rw [← bO.len] at h hfits
 refine Go.wpIn_mono (D6 (ro:=none) (L0:=L) c ir hc hfits (fun l e=>by cases e) h Dr (List.prefix_refl L)) ?_
 rintro e a w1 ⟨A',M',L',H',env,O',hle,⟨he,G9⟩,Mj,hext1,hL⟩
 have base:A'.base=w.heap.size:=by rw [hle.2.2,D7]
 have done:(∀ w',Marks A' w1 w'→LeavesIn Fence.wide 0 P fn a.tmps (fun e w'=>∃ v r H' M' L' O',e=.returned v∧R r H'∧St A M' L' w' H' (fz (fun _=>undef) 0 v) (fz (fun _=>.any) 0 r) O'∧Ext A M w M' w'∧L <+: L') [] .returning w')→
  bodyPostM Fence.wide 0 P fn (fun e w'=>∃ v r H' M' L' O',e=.returned v∧R r H'∧St A M' L' w' H' (fz (fun _=>undef) 0 v) (fz (fun _=>.any) 0 r) O'∧Ext A M w M' w'∧L <+: L') e a w1:=by
  intro hd
  rcases he with rfl | rfl <;> exact qi _ Mj.defers hd
 refine done fun w' hm=>?_
 have zJ:Fr A2 fn.ntmps M' L' w' H' env O' { a with defers:=[] }:=
  ⟨(Mj.st.marks hm).le hle,Mj.size,⟨by rw [hm.1,← hle.2.2];exact Mj.defers.1,List.nodup_nil,fun d h=>by cases h⟩⟩
 have cB:Ext A M w M' w':=by
  have:=hext1.marks hm (Nat.le_of_eq base.symm)
  exact ⟨this.kR,this.size,this.os,this.tape,this.output,fun b hb hA=>this.kz b hb (by rw [a2w];exact hA),this.loops⟩
 have hlen2:H.length≤H'.length:=by have:=hL.length_le;rw [LB,zJ.st.len] at this;exact this
 have goal:∃ v,(results fn a.tmps).run P w'=.ok v w'∧∃ v' r H'' M'' L'' O'',Ending.returned v=.returned v'∧R r H''∧St A M'' L'' w' H'' (fz (fun _=>undef) 0 v') (fz (fun _=>.any) 0 r) O''∧Ext A M w M'' w'∧L <+: L'':=by
  replace G9:=hRt _ _ G9
  unfold kZ at G9
  obtain ⟨us,xs,k1,⟨m,H2,hm,hC,k2⟩,k3,k4,k5⟩:=zH (P:=P) zJ _ _ w9 G9
  have lK:L <+: L'.take m:=by
   obtain ⟨r,rfl⟩:=hL
   exact ⟨r.take (m - L.length),by rw [List.take_append,List.take_of_length_le (show L.length≤m by omega)]⟩
  have bE:=BJ k1
  split at k2
  ·rename_i x
   obtain ⟨r,hle,hb,hR⟩:=k2
   cases k3 with
   | cons v _ _ _ hv ht=>
   cases ht
   refine ⟨v,by simpa using bE,v,r,H2,M',L'.take m,?_⟩
   have tO:∃ ob,bf M' w' v x ob∧(∀ id j b,ob=some b→O' (.c id j)≠some b)∧(∀ b,ob=some b→b∉L'∧b < w'.heap.size∧A2 b):=by
    match rs,w9,k4,k5 with
    | [],w9,_,_=>
      unfold iv at w9
      split at w9
      ·rename_i e
       rw [e] at k1
       simp at k1
      ·split at w9 <;> cases w9
    | [.t s],_,k4,_=>
      obtain ⟨e1,e2⟩:=k4 s rfl
      cases e1;cases e2
      refine ⟨O' (.t s),zJ.st.gX s,fun id j b hb hc=>?_,fun b hb=>⟨zJ.st.ct _ b hb,zJ.st.fj _ b hb,zJ.st.Oa _ b hb⟩⟩
      exact absurd (zJ.st.b7 _ _ b hb hc) (by intro e;cases e)
    | [.c s sz],_,_,k5=>
      exact ⟨none,bf.free (k5 s sz rfl x rfl),(fun _ _ _ e=>by cases e),(fun _ e=>by cases e)⟩
    | r1::r2::rs,w9,_,_=>
      unfold iv at w9
      split at w9
      ·cases w9
      ·split at w9 <;> cases w9
       rename_i h1 h2
       unfold iv at h2
       split at h2
       ·cases h2
       ·rename_i e
        rw [e] at k1
        simp only [List.mapM_cons,Sem.run_bind] at k1
        revert k1
        generalize Iw:(zG a.tmps _).run P w'=g1
        cases g1 <;> simp
        generalize Y7:(zG a.tmps _).run P _=g2
        cases g2 <;> simp
        generalize hg3:(List.mapM (zG a.tmps) _).run P _=g3
        cases g3 <;> simp
   obtain ⟨ob,o1,o2,o3⟩:=tO
   obtain ⟨ob',p1,p2⟩:=o1.le hv hle
   obtain ⟨O'',lR⟩:=zJ.st.bh (hv.le hle) ob' p1 (fun id j b hb=>by
    rcases p2 with rfl | rfl
    ·cases hb
    ·exact o2 id j b hb) (fun b hb=>by
    rcases p2 with rfl | rfl
    ·cases hb
    ·exact o3 b hb)
   obtain ⟨O3,I9⟩:=h4 A hA (by omega) hlen2 hC (st21 lR) (FD hb)
   exact ⟨O3,rfl,hR,I9,cB,lK⟩
  ·rename_i eM
   obtain ⟨ys,hle,hb,hR⟩:=k2
   have hlen:us.toArray.size≠1:=by
    have:=k3.length
    intro e
    simp at e
    rw [e] at this
    match xs,this with
    | [x],_=>exact eM x rfl
   rw [dif_neg hlen] at bE
   refine ⟨.tuple us.toArray,bE,.tuple us.toArray,.tuple ys,H2,M',L'.take m,?_⟩
   obtain ⟨O'',lR⟩:=zJ.st.bh (.tuple _ _ (FE k3 hle)) none (bf.free (by intro _ _ e;cases e)) (fun _ _ _ e=>by cases e) (fun _ e=>by cases e)
   obtain ⟨O3,I9⟩:=h4 A hA (by omega) hlen2 hC (st21 lR) (FD (x:=.tuple ys) hb)
   exact ⟨O3,rfl,hR,I9,cB,lK⟩
 exact goal
theorem pw {A:Perm} {k:Nat} (h:A.entry false k):fL none k A:=⟨h.1,fun id bk=>by rw [h.2 id bk];rfl⟩
theorem Ha {f:FuncId} {fn:Func} {c:Code} {an:A9} {lv:mL} {pl:mM} {ir:IR} {rs:List RX} {args:List AV} {R:AV→List aa→Prop}
 (hf:P.funcs[f]?=some fn) (hcall:∀ (as:Array Value) (w:World),(callFunc f as).run P w=.ok (.enter f as) w) (hb:fn.body=some c) (hc:comp P an lv pl fn.ntmps c=some ir) (w9:iv P fn.results.toList=some rs)
 (hn:args.length≤fn.ntmps) (h:mP P H.length ir (bX 0 args) H fun e env H'=>(e=.normal∨e=.ret)∧bR H.length rs env H' R):aq P f args H R:=by
 refine vj (lo:=none) (b:=false) (fun A=>A) (fun H m H'=>H'=H.take m) hf hcall hb hc w9 (fun A=>pw) (fun A=>rfl) (fun A _ _ _ _ _ _ _ h=>h) ?_ hn (fun env H'=>bR H.length rs env H' R) (fun env H'=>QL) h
 intro A M L w H' ev ea O m H'' hA hm hl e bO LY
 subst e
 exact bO.cut m (fun id o=>(pw hA).closed hm bO id o) LY
def nN (k:Nat) (A:Perm):Perm where
 wr:=A.wr
 top:=fun id=>if id < k then A.top id else none
 ok:=fun id n h=>by
  split at h
  ·exact A.ok id n h
  ·cases h
theorem BK {A:Perm} {k:Nat} {b:Bool} (h:A.entry b k):fL (some k) k (nN k A):=
 ⟨fun id bk=>by obtain ⟨m,h1,h2⟩:=h.1 id bk;exact ⟨m,h1,by simp only [nN,if_pos bk];exact h2⟩,rfl,fun id bk=>by simp only [nN];rw [if_neg (by omega)]⟩
def mQ (n0:Nat) (H:List aa) (m:Nat) (H':List aa):Prop:=
 H'.length=min m H.length∧∀ (id:Nat) (o:aa),H'[id]?=some o→o=.dead∨(H[id]?=some o∧(n0≤id→o.aZ (id + 1)=true))
theorem D8 {f:FuncId} {fn:Func} {c:Code} {an:A9} {lv:mL} {pl:mM} {ir:IR} {rs:List RX} {args:List AV} {R:AV→List aa→Prop}
 (hf:P.funcs[f]?=some fn) (hcall:∀ (as:Array Value) (w:World),(callFunc f as).run P w=.ok (.enter f as) w) (hb:fn.body=some c) (hc:comp P an lv pl fn.ntmps c=some ir) (w9:iv P fn.results.toList=some rs)
 (hn:args.length≤fn.ntmps) (h:mP ⟨P,some H.length⟩ H.length ir (bX 0 args) H fun e env H'=>(e=.normal∨e=.ret)∧kZ (mQ H.length) H.length rs env H' R):aq P f args H R:=by
 refine vj (lo:=some H.length) (b:=false) (nN H.length) (mQ H.length) hf hcall hb hc w9 (fun A hA=>BK hA) (fun A=>rfl) (fun A M L w ev ea O hA bO=>?_) ?_ hn (fun env H'=>kZ (mQ H.length) H.length rs env H' R) (fun env H' h=>h) h
 ·exact { len:=bO.len,nodup:=bO.nodup,env:=bO.env,mem:=bO.mem,obj:=bO.obj,lt:=bO.lt,gX:=bO.gX,gT:=bO.gT,b7:=bO.b7,ct:=bO.ct,fj:=bO.fj,La:=bO.La,Oa:=bO.Oa,fresh:=bO.fresh
          bA:=fun id o ho=>by
           have:=bO.bA id o ho
           have e:(nN H.length A).jo H.length id=A.jo H.length id:=by unfold Perm.jo;simp only [nN,if_pos (aK ho)]
           rw [e];exact this }
 ·intro A M L w H' ev ea O m H'' hA hm hl hC bO LY
  obtain ⟨hlen,hC⟩:=hC
  refine bO.QM A rfl m hlen (fun id o ho=>?_) LY
  rcases hC id o ho with h' | ⟨h1,h2⟩
  ·exact .inl h'
  ·refine .inr ⟨h1,?_⟩
   by_cases bk:id < H.length
   ·obtain ⟨k,hk,ek⟩:=hA.1 id bk
    have:=bO.bA id o h1
    have e1:(nN H.length A).jo H'.length id=min k H'.length:=by unfold Perm.jo;simp only [nN,if_pos bk,ek]
    have e2:A.jo H''.length id=min k H''.length:=by unfold Perm.jo;simp only [ek]
    rw [e1] at this
    rw [e2]
    exact aa.cN (by omega) o this
   ·have e2:A.jo H''.length id=min (id + 1) H''.length:=by unfold Perm.jo;rw [hA.2 id (by omega)];rfl
    have:=aK ho
    rw [e2]
    exact aa.cN (by omega) o (h2 (by omega))
end
end Go.aH
end
