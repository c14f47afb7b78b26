/- Part 2 of 17 of the proof. -/
import Derived.Test.YtljchnfgjdjobaaGreatXaa
import Derived.RangeFuncNested
set_option linter.unusedVariables false
set_option linter.unusedSimpArgs false
set_option linter.defProp false
set_option linter.unusedSectionVars false
section
namespace Go.aK
open Go
def Perm.entry (A:Perm) (loose:Bool) (n:Nat):Prop:=(∀ id,id < n→∃ m,m≤n∧A.top id=some m)∧∀ id,n≤id→A.top id=if loose=true then none else some (id + 1)
def lL (loose:Bool) (P:Program) (f:FuncId) (args:List AV) (H:List aa) (R:AV→List aa→Prop):Prop:=
 ∀ A M L w (vs:Array Value) O,A.entry loose H.length→vs.size=args.length→St A M L w H (fun t=>vs.getD t undef) (fun t=>args.getD t .any) O→
  ((callFunc f vs).run P w=.ok (.enter f vs) w∧Calls P f vs w fun e w'=>∃ v r H' M' L' O',e=.returned v∧R r H'∧St A M' L' w' H' (fZ (fun _=>undef) 0 v) (fZ (fun _=>.any) 0 r) O'∧Ext A M w M' w'∧L <+: L')∨
  (∃ v w' r H' M' L' O',(callFunc f vs).run P w=.ok (.value v) w'∧R r H'∧St A M' L' w' H' (fZ (fun _=>undef) 0 v) (fZ (fun _=>.any) 0 r) O'∧Ext A M w M' w'∧L <+: L')
def aw (P:Program) (f:FuncId) (args:List AV) (H:List aa) (R:AV→List aa→Prop):Prop:=lL false P f args H R
def vQ (P:Program) (f:FuncId) (args:List AV) (H:List aa) (R:AV→List aa→Prop):Prop:=lL true P f args H R
theorem lL.mono {b:Bool} {P:Program} {f:FuncId} {args:List AV} {H:List aa} {R R':AV→List aa→Prop} (h:lL b P f args H R) (hr:∀ r H',R r H'→R' r H'):lL b P f args H R':=by
 intro A M L w vs O hA hs b7
 rcases h A M L w vs O hA hs b7 with ⟨h1,h2⟩ | ⟨v,w',r,H',M',L',O',h1,h2,h3⟩
 ·exact .inl ⟨h1,h2.mono fun e w' ⟨v,r,H',M',L',O',h1,h2,h3⟩=>⟨v,r,H',M',L',O',h1,hr _ _ h2,h3⟩⟩
 ·exact .inr ⟨v,w',r,H',M',L',O',h1,hr _ _ h2,h3⟩
theorem aw.mono {P:Program} {f:FuncId} {args:List AV} {H:List aa} {R R':AV→List aa→Prop} (h:aw P f args H R) (hr:∀ r H',R r H'→R' r H'):aw P f args H R':=lL.mono h hr
theorem vQ.mono {P:Program} {f:FuncId} {args:List AV} {H:List aa} {R R':AV→List aa→Prop} (h:vQ P f args H R) (hr:∀ r H',R r H'→R' r H'):vQ P f args H R':=lL.mono h hr
theorem aw.body {P:Program} {f:FuncId} {args:List AV} {H:List aa} {R:AV→List aa→Prop} (h:aw P f args H R) (he:∀ (as:Array Value) (w:World),(callFunc f as).run P w=.ok (.enter f as) w)
 {A:Perm} {M:Mem} {L:List Nat} {w:World} {vs:Array Value} {O:Pos→Option Nat} (hA:A.entry false H.length) (hs:vs.size=args.length) (b7:St A M L w H (fun t=>vs.getD t undef) (fun t=>args.getD t .any) O) :
 Calls P f vs w fun e w'=>∃ v r H' M' L' O',e=.returned v∧R r H'∧St A M' L' w' H' (fZ (fun _=>undef) 0 v) (fZ (fun _=>.any) 0 r) O'∧Ext A M w M' w'∧L <+: L':=by
 rcases h A M L w vs O hA hs b7 with ⟨h1,h2⟩ | ⟨v,w',r,H',M',L',O',h1,h2,h3⟩
 ·exact h2
 ·rw [he] at h1;cases h1
structure Px where
 prog:Program
 lo:Option Nat
instance:Coe Program Px:=⟨fun P=>⟨P,none⟩⟩
def eC (P:Px) (f:FuncId) (args:List AV) (H:List aa) (R:AV→List aa→Prop):Prop:=
 match P.lo with
 | none=>aw P.prog f args H R
 | some l=>aw P.prog f args H R∨(l≤H.length∧vQ P.prog f args H R)
theorem eC.of {P:Px} {f:FuncId} {args:List AV} {H:List aa} {R:AV→List aa→Prop} (h:aw P.prog f args H R):eC P f args H R:=by
 unfold eC;split
 ·exact h
 ·exact .inl h
theorem eC.mono {P:Px} {f:FuncId} {args:List AV} {H:List aa} {R R':AV→List aa→Prop} (h:eC P f args H R) (hr:∀ r H',R r H'→R' r H'):eC P f args H R':=by
 unfold eC at *;split at h
 ·exact h.mono hr
 ·rcases h with h | ⟨h1,h2⟩
  ·exact .inl (h.mono hr)
  ·exact .inr ⟨h1,h2.mono hr⟩
def fX (loose:Bool) (P:Program) (id:Nat) (args:List AV) (H:List aa) (R:AV→List aa→Prop):Prop:=
 ∀ A M L w (vs:Array Value) O b,A.entry loose H.length→vs.size=args.length→L[id]?=some b→St A M L w H (fun t=>vs.getD t undef) (fun t=>args.getD t .any) O→
  ∃ fn tmps as bd,(Instr.yield b vs).run P w=.ok (.round b fn tmps as bd) w∧RoundIn Fence.wide 0 P b fn tmps as bd w fun e w'=>
   ∃ v r H' M' L' O',e=.returned v∧R r H'∧St A M' L' w' H' (fZ (fun _=>undef) 0 v) (fZ (fun _=>.any) 0 r) O'∧Ext A M w M' w'∧L <+: L'
theorem fX.mono {b:Bool} {P:Program} {id:Nat} {args:List AV} {H:List aa} {R R':AV→List aa→Prop} (h:fX b P id args H R) (hr:∀ r H',R r H'→R' r H'):fX b P id args H R':=by
 intro A M L w vs O c hA hs hc b7
 obtain ⟨fn,tmps,as,bd,h1,h2⟩:=h A M L w vs O c hA hs hc b7
 exact ⟨fn,tmps,as,bd,h1,h2.mono fun e w' ⟨v,r,H',M',L',O',h1,h2,h3⟩=>⟨v,r,H',M',L',O',h1,hr _ _ h2,h3⟩⟩
def kE (P:Program) (id:Nat) (args:List AV) (H:List aa) (R:AV→List aa→Prop):Prop:=fX false P id args H R
def PH (P:Program) (id:Nat) (args:List AV) (H:List aa) (R:AV→List aa→Prop):Prop:=fX true P id args H R
def mY (P:Px) (id:Nat) (args:List AV) (H:List aa) (R:AV→List aa→Prop):Prop:=
 match P.lo with
 | none=>kE P.prog id args H R
 | some l=>kE P.prog id args H R∨(l≤H.length∧PH P.prog id args H R)
theorem mY.mono {P:Px} {id:Nat} {args:List AV} {H:List aa} {R R':AV→List aa→Prop} (h:mY P id args H R) (hr:∀ r H',R r H'→R' r H'):mY P id args H R':=by
 unfold mY at *;split at h
 ·exact fX.mono h hr
 ·rcases h with h | ⟨h1,h2⟩
  ·exact .inl (fX.mono h hr)
  ·exact .inr ⟨h1,fX.mono h2 hr⟩
def yX:List AV→List AV→Prop
 | [],[]=>True
 | x::xs,y::ys=>x.le y∧yX xs ys
 | _,_=>False
def aL (env:Env) (pass:Option Nat):Nat→List IX→List AV
 | _,[]=>[]
 | j,.t s::xs=>(if pass=some j then get env s else (get env s).ab)::aL env pass (j + 1) xs
 | j,.c v::xs=>v.ab::aL env pass (j + 1) xs
def bj (args:List IX) (pass:Option Nat):Option Nat:=
 match pass with
 | some j=>match args[j]? with
   | some (.t s)=>some s
   | _=>none
 | none=>none
def cW (env:Env) (s:Option Nat):Env:=match s with | some d=>(d,(get env d).ab)::env | none=>env
def qg (P:Px) (f:AV) (args:List IX) (pass:Option Nat) (env:Env) (H:List aa) (K:AV→Env→List aa→Prop):Prop:=
 match f with
 | .fn (.func g) first cap=>∃ bY,yX (first.map AV.ab++aL env pass 0 args++cap.map AV.ab) bY∧eC P g bY H (fun r H'=>K r (cW env (bj args pass)) H')
 | .oC id=>∃ bY,yX (aL env pass 0 args) bY∧mY P id bY H (fun r H'=>K r (cW env (bj args pass)) H')
 | _=>False
def aN (kd:Nat) (x:AV):Prop:=
 match kd,x with
 | 0,.str _=>True
 | 1,.ag=>True
 | 1,.ak _ _=>True
 | 1,.ba _ _ _ _=>True
 | 1,.pW=>True
 | 2,.jE=>True
 | 2,.map _=>True
 | _,_=>False
def iz (env:Env) (x:Option IX):Option AV:=x.map (ap env)
def bC (P:Px) (o:cq) (dst:Option Nat) (env:Env) (H:List aa) (K:Env→List aa→Prop):Prop:=
 match o with
 | .set x take=>match dst with | some d=>K (vx env d x take) H | none=>K env H
 | .pick c a b=>fC (ap env c) fun q=>(q=true→K (put dst (ap env a).ab env) H)∧(q=false→K (put dst (ap env b).ab env) H)
 | .bin op x y=>dk op (ap env x) (ap env y) fun z=>K (put dst z env) H
 | .shift op x y=>ey op (ap env x) (ap env y) fun z=>K (put dst z env) H
 | .iX neq x y=>dd neq (ap env x) (ap env y) fun z=>K (put dst z env) H
 | .jW kd neq x=>dw kd neq (ap env x) fun z=>K (put dst z env) H
 | .un op x=>Bh op (ap env x) fun z=>K (put dst z env) H
 | .box x=>(ap env x).val=true∧aj (H.length + 1) ((ap env x).cells.map AV.ab)=true∧K (put dst (.ptr H.length 0) env) (H++[.cells ((ap env x).cells.map AV.ab)])
 | .mR x=>(ap env x).val=true∧K (put dst (.ah (ap env x)) env) H
 | .s7 m x=>(ap env x).val=true∧(ap env x).cells.length=m∧(ap env x).cells.all AV.one=true∧K (put dst (.ah (ap env x)) env) H
 | .alloc z=>aj (H.length + 1) (z.cells.map AV.ab)=true∧K (put dst (.ptr H.length 0) env) (H++[.cells (z.cells.map AV.ab)])
 | .build z ps=>cE z.cells (ps.map fun q=>(q.1,q.2.1,ap env q.2.2)) fun v=>K (put dst v env) H
 | .buildSlice own esz z len ps=>bm (List.replicate len (aR z)) esz (ps.map fun q=>(q.1,ap env q.2)) fun xs=>K (put dst (.ak own xs) env) H
 | .load sz a=>aU sz (ap env a) H fun z=>K (put dst z env) H
 | .uw sz esz a=>aU sz (ap env a) H fun z=>ft esz z H fun y H'=>K (put dst y env) H'
 | .eU a=>match dst,ap env a with
   | some d,.ptr id off=>match H[id]? with
     | some (.cells es)=>off < es.length∧K ((d,es.getD off .any)::env) (H.set id (.cells (es.set off (es.getD off .any).ab)))
     | _=>False
   | _,_=>False
 | .store m a x=>iZ m (ap env a) (ap env x) H fun H'=>K env H'
 | .oE m a x=>match P.lo with | some l=>iv l m (ap env a) (ap env x) H fun H'=>K env H' | none=>False
 | .fS a s=>eB (ap env a) (get env s) H fun H'=>K ((s,(get env s).ab)::env) H'
 | .nilCheck x=>b9 (ap env x) fun z=>K (put dst z env) H
 | .fieldAddr off sz x=>al off sz (ap env x) fun z=>K (put dst z env) H
 | .field off sz x=>fD off sz (ap env x) fun z=>K (put dst z env) H
 | .indexAddr esz x i=>(∀ own xs,ap env x=.ak own xs→∀ z∈xs,z.cells.length=esz)∧aA esz (ap env x) (ap env i) fun z=>K (put dst z env) H
 | .dn x i=>bO (ap env x) (ap env i) fun z=>K (put dst z env) H
 | .eh n x i=>b8 n (ap env x) (ap env i) fun z=>K (put dst z env) H
 | .qB esz x lo hi mx=>(∀ own xs,ap env x=.ak own xs→∀ z∈xs,z.cells.length=esz)∧ff esz (ap env x) (iz env lo) (iz env hi) (iz env mx) fun z=>z=.ak esz []∧K (put dst .pW env) H
 | .slice esz x lo hi mx=>bo esz (ap env x) (iz env lo) (iz env hi) (iz env mx) fun z=>K (put dst z env) H
 | .copy esz d s=>kC esz (ap env d) (ap env s) H fun z H'=>K (put dst z env) H'
 | .ej x lo hi=>cu (ap env x) (iz env lo) (iz env hi) fun z=>K (put dst z env) H
 | .len kd x=>aN kd (ap env x)∧fT (ap env x) H fun z=>K (put dst z env) H
 | .append esz bytes s x=>bp esz bytes (ap env s) (ap env x) fun zs=>K (put dst (.ak esz zs) (cW env s.slot)) H
 | .ux esz bytes z n=>fG esz bytes z (ap env n) H fun v H'=>K (put dst v env) H'
 | .oF esz bytes n=>jJ esz bytes (ap env n) fun v=>K (put dst v env) H
 | .oG=>K (put dst (.map H.length) env) (H++[.map []])
 | .lookup kd z m k ok=>cB kd z (ap env m) (ap env k) ok H fun v=>K (put dst v env) H
 | .lG kd m k x=>fW kd (ap env m) (ap env k) (ap env x) H fun H'=>K env H'
 | .fn f first cap=>K (put dst (.fn f (first.map fun x=>(ap env x).ab) (cap.map fun x=>(ap env x).ab)) env) H
 | .extract x i=>bH (ap env x) i fun z=>K (put dst z env) H
 | .call f args pass=>qg P (ap env f) args pass env H fun r aI H'=>K (put dst r aI) H'
 | .fq k x=>cJ k (ap env x) fun z=>K (put dst z env) H
 | .iq x=>gv (ap env x) fun z=>K (put dst z env) H
 | .bytesOf x=>fH 1 (ap env x) fun z=>K (put dst z env) H
 | .strOf x=>kA (ap env x) fun z=>K (put dst z env) H
 | .mx big a b=>yM big (ap env a) (ap env b) fun z=>K (put dst z env) H
 | .Bf esz x=>ft esz (ap env x) H fun z H'=>K (put dst z env) H'
 | .Dc esz z len ps=>bm (List.replicate len (aR z)) esz (ps.map fun q=>(q.1,ap env q.2)) fun xs=>uF xs H fun v H'=>K (put dst v env) H'
 | .jZ esz bytes z s x=>ch esz bytes z (ap env s) (ap env x) H fun v H'=>K (put dst v env) H'
 | .oH esz z x=>jh esz z (ap env x) H fun H'=>K (put dst (.tuple []) env) H'
 | .never=>False
def df (P:Program) (e:TypeId):Option (Nat×AV):=
 match dU P e,gr P e with
 | some esz,some z=>if 0 < esz∧z.cells.length=esz∧z.val=true then some (esz,z) else none
 | _,_=>none
def Bw (P:Program) (e:TypeId):Option Nat:=(P.info? e).map (·.bytes)
def Ge (z:AV):Bool:=z.cells.all fun y=>match y with | .ak own _=>own == 0 | _=>true
def k9:Option Operand→Option (Option IX)
 | none=>some none
 | some x=>(aV x).map some
def LH (x y:Operand):Bool:=match x,y with | .tmp a,.tmp b=>a == b | .const (.int .i64 a),.const (.int .i64 b)=>a == b | _,_=>false
def cF (P:Program) (o:Oper) (fl:Nat):Option cq:=
 match o.op with
 | .move x | .assign x=>(aV x).map fun i=>.set i (fl == 1)
 | .pick c a b=>match aV c,aV a,aV b with
   | some c,some a,some b=>some (.pick c a b)
   | _,_,_=>none
 | .binOp op t x y _=>match aV x,aV y with
   | some i,some j=>match op with
     | .shl | .shr=>some (.shift op i j)
     | .eql | .neq=>match P.underlying t with
       | some .bool=>some (.iX (op matches .neq) i j)
       | some (.int _) | some .string=>some (.bin op i j)
       | some (.slice _)=>match y with | .const (.slice none 0 0)=>some (.jW 0 (op matches .neq) i) | _=>none
       | some (.pointer _)=>match y with | .const (.pointer none)=>some (.jW 1 (op matches .neq) i) | _=>none
       | some (.map _ _)=>match y with | .const (.map none)=>some (.jW 2 (op matches .neq) i) | _=>none
       | some (.func _ _ _)=>match y with | .const .nilFunc=>some (.jW 3 (op matches .neq) i) | _=>none
       | _=>none
     | _=>some (.bin op i j)
   | _,_=>none
 | .unOp op _ x=>(aV x).map fun i=>.un op i
 | .box _ x=>(aV x).map fun i=>if fl=1 then .mR i else .box i
 | .alloc e=>match gr P e with
   | some z=>if z.val=true then some (.alloc z) else none
   | none=>none
 | .build t ps=>match F0 P t with
   | some (z,places)=>match fV places ps.toList with
     | some qs=>if z.val=true then some (.build z qs) else none
     | none=>none
   | none=>none
 | .buildSlice t len ps=>match P.underlying t with
   | some (.slice e)=>match df P e,ky ps.toList with
     | some (esz,z),some qs=>if len * esz≤16777216 then some (if fl=2 then .Dc esz z len qs else .buildSlice (if fl=1 then esz else 0) esz z len qs) else none
     | _,_=>none
   | _=>none
 | .load t a=>match K6 P t,aV a with
   | some sz,some i=>if fl=1 then (if sz=none then some (.eU i) else none) else if 3000 < fl then some (.uw sz (fl - 3000) i) else some (.load sz i)
   | _,_=>none
 | .store t a x=>match dU P t,aV a,aV x with
   | some m,some i,some j=>if fl=1 then (match j with | .t s=>if m=1 then some (.fS i s) else none | _=>none) else if fl=2 then some (.oE m i j) else some (.store m i j)
   | _,_,_=>none
 | .nilCheck x=>(aV x).map .nilCheck
 | .fieldAddr s x f=>match s9 P s f,aV x with
   | some (off,sz),some i=>some (.fieldAddr off sz i)
   | _,_=>none
 | .field s x f=>match s9 P s f,aV x with
   | some (off,sz),some i=>some (.field off sz i)
   | _,_=>none
 | .indexAddr t x i=>match P.underlying t,aV x,aV i with
   | some (.slice e),some j,some k=>(dU P e).map fun esz=>.indexAddr esz j k
   | _,_,_=>none
 | .index t x i=>match P.underlying t,aV x,aV i with
   | some .string,some j,some k=>some (.dn j k)
   | some (.array n e),some j,some k=>if K6 P e=some none then some (.eh n j k) else none
   | _,_,_=>none
 | .slice t x lo hi mx=>match P.underlying t,aV x,k9 lo,k9 hi,k9 mx with
   | some (.slice e),some i,some l,some h,some m=>match dU P e with
     | some esz=>if 0 < esz then some (if fl=4 then .qB esz i l h m else .slice esz i l h m) else none
     | none=>none
   | some .string,some i,some l,some h,some none=>some (.ej i l h)
   | _,_,_,_,_=>none
 | .makeSlice t l c=>match P.underlying t,aV c with
   | some (.slice e),some k=>match df P e,Bw P e with
     | some (esz,z),some bytes=>if 0 < bytes∧Ge z=true then (match l with
        | .const (.int .i64 0)=>some (.oF esz bytes k)
        | _=>if LH l c=true then some (.ux esz bytes z k) else none) else none
     | _,_=>none
   | _,_=>none
 | .makeMap _ none=>some .oG
 | .lookup t m k ok=>match P.underlying t,aV m,aV k with
   | some (.map kt et),some i,some j=>match pw P kt,gr P et with
     | some kd,some z=>some (.lookup kd z i j ok)
     | _,_=>none
   | _,_,_=>none
 | .mapUpdate t m k x=>match P.underlying t,aV m,aV k,aV x with
   | some (.map kt _),some i,some j,some y=>(pw P kt).map fun kd=>.lG kd i j y
   | _,_,_,_=>none
 | .makeFunc f first cap=>match gk first.toList,gk cap.toList with
   | some i,some j=>some (.fn f i j)
   | _,_=>none
 | .extract x i=>(aV x).map fun j=>.extract j i
 | .convert src dst x=>match P.underlying src,P.underlying dst,aV x with
   | some (.int _),some (.int k),some i=>some (.fq k i)
   | some .string,some .string,some i=>some (.iq i)
   | some .string,some (.slice e),some i=>match P.underlying e with
     | some (.int .u8)=>some (.bytesOf i)
     | _=>none
   | some (.slice e),some .string,some i=>match P.underlying e with
     | some (.int .u8)=>some (.strOf i)
     | _=>none
   | _,_,_=>none
 | .call c=>match c.callee with
   | .value f=>match aV f,gk c.args.toList with
     | some i,some js=>some (.call i js (if fl=0 then none else some (fl - 1)))
     | _,_=>none
   | .builtin .len=>match c.args.toList,c.argTypes.toList with
     | [x],[t]=>match P.underlying t,aV x with
       | some .string,some i=>some (.len 0 i)
       | some (.slice _),some i=>some (.len 1 i)
       | some (.map _ _),some i=>some (.len 2 i)
       | _,_=>none
     | _,_=>none
   | .builtin .append=>match c.args.toList,c.argTypes.toList with
     | [s,x],[t,t']=>if t=t' then (match P.underlying t,aV s,aV x with
        | some (.slice e),some i,some j=>match df P e,Bw P e with
          | some (esz,z),some bytes=>if 0 < bytes then (if fl=2 then (if Ge z=true then some (.jZ esz bytes z i j) else none) else some (.append esz bytes i j)) else none
          | _,_=>none
        | _,_,_=>none) else none
     | _,_=>none
   | .builtin .max=>match c.args.toList with
     | [x,y]=>match aV x,aV y with
       | some i,some j=>some (.mx true i j)
       | _,_=>none
     | _=>none
   | .builtin .min=>match c.args.toList with
     | [x,y]=>match aV x,aV y with
       | some i,some j=>some (.mx false i j)
       | _,_=>none
     | _=>none
   | _=>none
 | _=>none
def rE (P:Program) (o:Oper):cq:=
 match o.op with
 | .call c=>match c.callee with
   | .builtin .copy=>match c.args.toList,c.argTypes.toList with
     | [s,x],[t,_]=>match P.underlying t,aV s,aV x with
        | some (.slice e),some i,some j=>match dU P e with
          | some esz=>.copy esz i j
          | none=>.never
        | _,_,_=>.never
     | _,_=>.never
   | .builtin .clear=>match c.args.toList,c.argTypes.toList with
     | [s],[t]=>match P.underlying t,aV s with
        | some (.slice e),some i=>match df P e with
          | some (esz,z)=>.oH esz z i
          | none=>.never
        | _,_=>.never
     | _,_=>.never
   | _=>.never
 | _=>.never
def oN (P:Program) (o:Oper):cq:=
 match o.op with
 | .move x | .assign x=>match aV x,P.underlying o.type with
   | some i,some (.slice e)=>match dU P e with
     | some esz=>.Bf esz i
     | none=>.never
   | _,_=>.never
 | _=>.never
def mc (esz:Nat) (o:Oper):cq:=
 match o.op with
 | .move x | .assign x=>match aV x with
   | some i=>.Bf esz i
   | none=>.never
 | _=>.never
def PI (o:Oper):Bool:=match o.op with | .load _ _=>false | _=>true
def Dx (P:Program) (o:Oper) (fl:Nat):cq:=if fl=3000 then oN P o else if 3000 < fl∧PI o=true then mc (fl - 3000) o else (cF P o fl).getD (rE P o)
end Go.aK
end
section
namespace Go.aK
open Go
section
variable {ro:Option Nat} {P:Program} {lo:Option Nat} {A:Perm} {n:Nat} {M:Mem} {L:List Nat} {w:World} {H:List aa} {env:Env} {O:Pos→Option Nat} {a:Act} {Q:Exit→Act→World→Prop} {K:Env→List aa→Prop}
theorem bS {o:Oper} (hf:Fr A n M L w H env O a) (hd:∀ d,o.dst=some d→d < n)
 (h:∃ r z,(execOp a.eval o).run P w=.ok (.value r) w∧aX M L r z∧K (put o.dst z env) H∧∀ own xs,z=.ak own xs→own=0):o.wpIn (wf ro) 0 P a w (oA A n M L w K) Q:=by
 obtain ⟨r,z,h1,h2,h3,h4⟩:=h
 exact wp_pure hf hd h1 h2 h4 h3
theorem a7 {s:Sem Value} {r:Value} {w':World} (h:s.run P w=.ok r w'):(do pure (Next.value (← s)):Sem Next).run P w=.ok (.value r) w':=by
 simp only [Sem.run_bind,h,Result.andThen_ok,Sem.run_pure]
theorem rF {s:Sem Unit} {w':World} (h:s.run P w=.ok () w'):(do s;pure Next.skip:Sem Next).run P w=.ok .skip w':=by
 simp only [Sem.run_bind,h,Result.andThen_ok,Sem.run_pure]
theorem py {o:Oper} (hf:Fr A n M L w H env O a) (hd:∀ d,o.dst=some d→d < n) {r:Value} {z:AV} {w':World} {M':Mem} {L':List Nat} {H':List aa} (bL:(execOp a.eval o).run P w=.ok (.value r) w')
 (hr:aX M' L' r z) (hz:∀ own xs,z=.ak own xs→own=0) (b7:St A M' L' w' H' (fun t=>a.tmps.getD t undef) (get env) O) (cK:Ext A M w M' w') (hL:L <+: L') (hK:K (put o.dst z env) H'):o.wpIn (wf ro) 0 P a w (oA A n M L w K) Q:=by
 obtain ⟨O',qF⟩:=(hf.mono b7 cK).pX hd hr hz
 exact dq bL ⟨M',L',H',_,O',hK,qF,cK,hL⟩
theorem wX {o:Oper} {aI:Env} {O':Pos→Option Nat} (hf:Fr A n M L w H env O a) (hd:∀ d,o.dst=some d→d < n) {r:Value} {z:AV} {w':World} {M':Mem} {ob:Option Nat} (bL:(execOp a.eval o).run P w=.ok (.value r) w')
 (hr:aX M' L r z) (OV:bi M' w' r z ob) (b7:St A M' L w' H (fun t=>a.tmps.getD t undef) (get aI) O') (cK:Ext A M w M' w') (h1:∀ q b,ob=some b→O' q≠some b) (h2:∀ b,ob=some b→b∉L∧b < w'.heap.size∧A b) (hK:K (put o.dst z aI) H):o.wpIn (wf ro) 0 P a w (oA A n M L w K) Q:=by
 have qF:Fr A n M' L w' H aI O' a:=⟨b7,hf.size,hf.defers.ext cK⟩
 refine dq bL ?_
 cases gQ:o.dst with
 | none=>rw [gQ] at hK;exact ⟨M',L,H,_,O',hK,qF,cK,aaL L⟩
 | some d=>
   rw [gQ] at hK
   exact ⟨M',L,H,_,_,hK,qF.FW (hd d gQ) hr ob OV (fun q b hb hq=>absurd hq (h1 q b hb)) h2,cK,aaL L⟩
theorem zU {o:Oper} {x:Operand} (ho:o.op=.move x∨o.op=.assign x) {i:IX} (hc:aV x=some i) {take:Bool} (hf:Fr A n M L w H env O a) (hd:∀ d,o.dst=some d→d < n)
 (h:bC ⟨P,lo⟩ (.set i take) o.dst env H K):o.wpIn (wf ro) 0 P a w (oA A n M L w K) Q:=by
 have bL:(execOp a.eval o).run P w=.ok (.value (a.eval x)) w:=by
  rcases ho with ho | ho <;> simp [execOp,ho]
 have hr:=hf.eval hc
 simp only [bC] at h
 cases gQ:o.dst with
 | none=>
   rw [gQ] at h
   refine dq bL ⟨M,L,H,env,O,h,?_,Ext.refl A M w,aaL L⟩
   rw [gQ];exact hf
 | some d=>
   rw [gQ] at h
   have Yj:=hd d gQ
   have h:K (vx env d i take) H:=h
   unfold vx at h
   split at h
   ·rename_i s _
    -- the list moves
    cases x with
    | tmp t=>
      have hts:t=s:=by simpa [aV] using hc
      subst hts
      have oL:=hf.st.pX t (v:=a.tmps.getD t undef) (x:=(get env t).ab) (hf.st.env t).ab (AV.bQ _)
      have X7:fZ (fun t=>a.tmps.getD t undef) t (a.tmps.getD t undef)=fun t=>a.tmps.getD t undef:=by funext t';simp only [fZ];split;rename_i e0;rw [e0];rfl
      rw [X7] at oL
      have HZ:Fr A n M L w H ((t,(get env t).ab)::env) (eM O (.t t) none) a:=⟨oL,hf.size,hf.defers⟩
      have uG:=HZ.FW Yj (v:=a.tmps.getD t undef) (x:=get env t) (hf.st.env t) (O (.t t)) (hf.st.iQ t) (fun p b hb hp=>by
       simp only [eM] at hp
       split at hp
       ·cases hp
       ·rename_i n';exact absurd (hf.st.ct _ _ b hp hb) n') (fun b hb=>⟨hf.st.cD _ b hb,hf.st.fQ _ b hb,hf.st.Oa _ b hb⟩)
      rw [← gQ] at uG
      exact dq bL ⟨M,L,H,_,_,h,uG,Ext.refl A M w,aaL L⟩
    | const v=>simp only [aV] at hc;obtain ⟨y,_,hy⟩:=zF.1 hc;cases hy
    | func f=>simp [aV] at hc
    | global g=>simp [aV] at hc
   ·have uG:=hf.FW Yj hr.ab none (bi.free (AV.bQ _)) (fun p b e=>by cases e) (fun b e=>by cases e)
    rw [← gQ] at uG
    exact dq bL ⟨M,L,H,_,_,h,uG,Ext.refl A M w,aaL L⟩
theorem wY {o:Oper} {t:TypeId} {x:Operand} (ho:o.op=.load t x) (ht:K6 P t=some none) {i:IX} (hc:aV x=some i) (hf:Fr A n M L w H env O a) (hd:∀ d,o.dst=some d→d < n)
 (h:bC ⟨P,lo⟩ (.eU i) o.dst env H K):o.wpIn (wf ro) 0 P a w (oA A n M L w K) Q:=by
 have hr:=hf.eval hc
 simp only [bC] at h
 split at h <;> try exact h.elim
 rename_i d id off gQ hx
 split at h <;> try exact h.elim
 rename_i es bu
 obtain ⟨pY,hK⟩:=h
 rw [hx] at hr
 generalize hu:a.eval x=u at hr
 cases hr with
 | ptr b _ _ hl=>
 obtain ⟨cs,e,h1,h2,h3⟩:=fU hf.st bu hl
 have hlen:=h2.length
 obtain ⟨r1,r2⟩:=eV (w:=w) (m:=0) ht
 have Bk:off < cs.toList.length:=by omega
 have hcell:=h3 off cs.toList[off] (by simp)
 have gl:=h2.getD off
 have e0:cs.toList.getD off undef=cs.toList[off]:=by rw [sT,aaf Bk];rfl
 rw [e0] at gl
 have bL:(execOp a.eval o).run P w=.ok (.value cs.toList[off]) w:=by
  simp only [execOp,ho,hu]
  exact a7 (by simp only [Instr.loadAt,Instr.sureAddr,loadVar,Sem.run_bind,Sem.run_pure,Result.andThen_ok,r1,acv,if_false,run_load,hcell])
 have b7:=hf.st.Jl bu hl pY
 have HZ:Fr A n M L w (H.set id (.cells (es.set off (es.getD off .any).ab))) env (eM O (.c id off) none) a:=⟨b7,hf.size,hf.defers⟩
 have OV:bi M w cs.toList[off] (es.getD off .any) (O (.c id off)):=by
  have h0:=hf.st.iL id off
  have e3:bR L w id off=cs.toList[off]:=by unfold bR;simp only [hl,hcell];rfl
  have e4:bB H id off=es.getD off .any:=by unfold bB;simp [bu]
  rwa [e3,e4] at h0
 have uG:=HZ.FW (hd d gQ) gl (O (.c id off)) OV (fun p b hb hp=>by
  simp only [eM] at hp
  split at hp
  ·cases hp
  ·rename_i n';exact absurd (hf.st.ct _ _ b hp hb) n') (fun b hb=>⟨hf.st.cD _ b hb,hf.st.fQ _ b hb,hf.st.Oa _ b hb⟩)
 rw [← gQ] at uG
 exact dq bL ⟨M,L,_,_,_,hK,uG,Ext.refl A M w,aaL L⟩
theorem yY {o:Oper} {t:TypeId} {x y:Operand} (ho:o.op=.store t x y) (ht:dU P t=some 1) {i:IX} {s:Nat} (hc:aV x=some i) (hy:aV y=some (.t s)) (hf:Fr A n M L w H env O a)
 (gQ:o.dst=none) (h:bC ⟨P,lo⟩ (.fS i s) o.dst env H K):o.wpIn (wf ro) 0 P a w (oA A n M L w K) Q:=by
 have hr:=hf.eval hc
 simp only [bC] at h
 have ru:y=.tmp s:=by
  cases y with
  | tmp t=>simp [aV] at hy;rw [hy]
  | const v=>simp only [aV] at hy;obtain ⟨z,_,hz⟩:=zF.1 hy;cases hz
  | func f=>simp [aV] at hy
  | global g=>simp [aV] at hy
 subst ru
 obtain ⟨w',H',O',h1,h2,h3,h4⟩:=Bl (P:=P) hf.st ht h hr s rfl rfl
 have bL:(execOp a.eval o).run P w=.ok .skip w':=by
  simp only [execOp,ho]
  exact rF h1
 have uG:Fr A n M L w' H' ((s,(get env s).ab)::env) O' (a.put o.dst undef):=by
  rw [gQ];exact ⟨h3,hf.size,hf.defers.ext h4⟩
 exact mS bL ⟨M,L,H',_,O',h2,uG,h4,aaL L⟩
theorem Bx {o:Oper} {t e:TypeId} {s x:Operand} (ho:o.op=.call { callee:=.builtin .append,args:=#[s,x],argTypes:=#[t,t] }) (ht:P.underlying t=some (.slice e)) {esz bytes:Nat} {z:AV} (hz:df P e=some (esz,z)) (hb:Bw P e=some bytes) (wR:0 < bytes)
 {i j:IX} (hi:aV s=some i) (hj:aV x=some j) (hf:Fr A n M L w H env O a) (hd:∀ d,o.dst=some d→d < n)
 (h:bC ⟨P,lo⟩ (.append esz bytes i j) o.dst env H K):o.wpIn (wf ro) 0 P a w (oA A n M L w K) Q:=by
 simp only [bC] at h
 have yZ:=hf.eval hi
 have hrx:=hf.eval hj
 unfold df at hz
 split at hz <;> try cases hz
 rename_i esz' z' SZ pZ
 split at hz <;> cases hz
 rename_i hcond
 obtain ⟨h0,jI,uA⟩:=hcond
 obtain ⟨inf,jG,dm⟩:=zF.1 SZ
 obtain ⟨inf',uH,zL⟩:=zF.1 hb
 rw [jG] at uH;cases uH
 unfold gr at pZ
 simp only [jG] at pZ
 split at pZ <;> try cases pZ
 rename_i zv wP
 have vN:zv.cells.size=esz:=by have:=((cT (M:=M) (L:=L) pZ).gO uA).length;rw [jI] at this;simpa using this
 have Pv:match i.slot with | some d=>(fun t=>a.tmps.getD t undef) d=a.eval s∧get env d=ap env i | none=>ap env i=.ag:=by
  cases s with
  | tmp t=>simp [aV] at hi;subst hi;exact ⟨rfl,rfl⟩
  | const v=>
    simp only [aV] at hi
    obtain ⟨y,hy,rfl⟩:=zF.1 hi
    simp only [IX.slot,ap]
    have h2:=h
    simp only [ap,bp] at h2
    split at h2 <;> try exact h2.elim
    rename_i eK _
    unfold nZ at eK
    split at eK
    ·rfl
    ·-- a constant is never an owned list
     exfalso
     unfold ofValue at hy
     split at hy
     ·obtain ⟨_,_,hq⟩:=zF.1 hy;cases hq
     ·unfold X5 at hy;split at hy <;> cases hy
    ·cases eK
  | func f=>
    simp [aV] at hi;subst hi
    simp only [ap,bp,nZ] at h
  | global g=>simp [aV] at hi
 obtain ⟨r,w',M',O',ob,zs,g1,g2,g3,g4,g5,g6,g7,g8⟩:=Dl (P:=P) (ty:=o.type) hf.st ht jG wP dm zL vN h0 wR h i.slot yZ Pv hrx
 have bL:(execOp a.eval o).run P w=.ok (.value r) w':=by
  simp only [execOp,ho,resolve,invoke,builtin,Sem.run_bind,Sem.run_pure,Result.andThen_ok,ads,List.map_cons,List.map_nil,g1]
 have FV:lI (get env) i.slot=get (cW env i.slot):=by
  cases i.slot with
  | none=>rfl
  | some d=>rfl
 rw [FV] at g5
 exact wX hf hd bL g3 g4 g5 g6 g7 g8 g2
theorem y0 {o:Oper} {t e:TypeId} {s x:Operand} (ho:o.op=.call { callee:=.builtin .append,args:=#[s,x],argTypes:=#[t,t] }) (ht:P.underlying t=some (.slice e)) {esz bytes:Nat} {z:AV} (hz:df P e=some (esz,z)) (hb:Bw P e=some bytes) (wR:0 < bytes) (LI:Ge z=true)
 {i j:IX} (hi:aV s=some i) (hj:aV x=some j) (hf:Fr A n M L w H env O a) (hd:∀ d,o.dst=some d→d < n)
 (h:bC ⟨P,lo⟩ (.jZ esz bytes z i j) o.dst env H K):o.wpIn (wf ro) 0 P a w (oA A n M L w K) Q:=by
 simp only [bC] at h
 have yZ:=hf.eval hi
 have hrx:=hf.eval hj
 unfold df at hz
 split at hz <;> try cases hz
 rename_i esz' z' SZ pZ
 split at hz <;> cases hz
 rename_i hcond
 obtain ⟨h0,jI,uA⟩:=hcond
 obtain ⟨inf,jG,dm⟩:=zF.1 SZ
 obtain ⟨inf',uH,zL⟩:=zF.1 hb
 rw [jG] at uH;cases uH
 unfold gr at pZ
 simp only [jG] at pZ
 split at pZ <;> try cases pZ
 rename_i zv wP
 have LA:∀ y∈z.cells,∀ own xs,y=.ak own xs→own=0:=by
  intro y hy own xs e
  have:=abo.1 LI y hy
  subst e
  simpa using this
 obtain ⟨r,y,L',w',H',O',g1,g2,g3,g4,g5,g6,g7⟩:=Bv (P:=P) (ty:=o.type) hf.st ht jG wP dm zL h0 wR pZ uA jI LA h yZ hrx
 have bL:(execOp a.eval o).run P w=.ok (.value r) w':=by
  simp only [execOp,ho,resolve,invoke,builtin,Sem.run_bind,Sem.run_pure,Result.andThen_ok,ads,List.map_cons,List.map_nil,g1]
 have HZ:Fr A n M L' w' H' env O' a:=⟨g5,hf.size,hf.defers.ext g6⟩
 obtain ⟨O'',qF⟩:=HZ.pX hd g2 g3
 exact dq bL ⟨M,L',H',_,O'',g4,qF,g6,g7⟩
theorem H5:∀ {xs ys:List AV},yX xs ys→xs.length=ys.length∧∀ t,(xs.getD t .any).le (ys.getD t .any)
 | [],[],_=>⟨rfl,fun t=>.inl rfl⟩
 | [],_::_,h=>h.elim
 | _::_,[],h=>h.elim
 | x::xs,y::ys,h=>by
   obtain ⟨h1,h2⟩:=h
   obtain ⟨i1,i2⟩:=H5 h2
   refine ⟨by simp [i1],fun t=>?_⟩
   cases t with
   | zero=>simpa using h1
   | succ t=>simpa using i2 t
theorem dO (env:Env) (pass:Option Nat):∀ (j:Nat) (xs:List IX),(aL env pass j xs).length=xs.length
 | _,[]=>rfl
 | j,.t s::xs=>by simp [aL,dO env pass (j + 1) xs]
 | j,.c v::xs=>by simp [aL,dO env pass (j + 1) xs]
theorem j4 (hf:Fr A n M L w H env O a) (pass:Option Nat):∀ {xs:List Operand} {is:List IX} (j:Nat),gk xs=some is→aM M L (xs.map a.eval) (aL env pass j is)
 | [],is,j,hc=>by simp [gk] at hc;subst hc;exact .nil
 | x::xs,is,j,hc=>by
   unfold gk at hc
   split at hc
   ·rename_i i is' h1 h2
    cases hc
    have hr:=hf.eval h1
    cases i with
    | t s=>
      refine .cons _ _ _ _ ?_ (j4 hf pass (j + 1) h2)
      split
      ·exact hr
      ·exact hr.ab
    | c v=>exact .cons _ _ _ _ hr.ab (j4 hf pass (j + 1) h2)
   ·cases hc
def dI (A:Perm) (loose:Bool) (H:List aa) (L:List Nat) (O:Pos→Option Nat) (w:World):Perm where
 wr:=fun b=>b∈L∨(∃ p,O p=some b)∨w.heap.size≤b
 top:=fun id=>if id < H.length then some (A.kh H.length id) else if loose=true then none else some (id + 1)
 ok:=by
  intro id n h
  split at h
  ·rename_i h1
   cases h
   have:=A.mP h1
   omega
  ·split at h
   ·cases h
   ·cases h;omega
theorem lM (A:Perm) (loose:Bool) (H:List aa) (L:List Nat) (O:Pos→Option Nat) (w:World):(dI A loose H L O w).entry loose H.length:=
 ⟨fun id h=>⟨A.kh H.length id,A.wI _ _,by simp only [dI,if_pos h]⟩,fun id h=>by simp only [dI];rw [if_neg (by omega)]⟩
theorem uI (A:Perm) (loose:Bool) (H:List aa) (L:List Nat) (O:Pos→Option Nat) (w:World) {id:Nat} (h:id < H.length) (len:Nat):(dI A loose H L O w).kh len id=min (A.kh H.length id) len:=by
 unfold Perm.kh
 simp only [dI,if_pos h]
 rfl
theorem St.narrow {ev:Nat→Value} {ea:Nat→AV} (loose:Bool) (h:St A M L w H ev ea O):St (dI A loose H L O w) M L w H ev ea O:=
 { len:=h.len,nodup:=h.nodup,env:=h.env,mem:=h.mem,obj:=h.obj,lt:=h.lt,iQ:=h.iQ,iL:=h.iL,ct:=h.ct,cD:=h.cD,fQ:=h.fQ,
   bG:=fun id o ho=>by
    rw [uI A loose H L O w (aO ho),Nat.min_eq_left (A.wI _ _)]
    exact h.bG id o ho
   La:=fun b hb=>.inl hb,Oa:=fun p b hp=>.inr (.inl ⟨p,hp⟩),fresh:=fun b hb=>.inr (.inr hb) }
theorem St.rG {ev:Nat→Value} {ea:Nat→AV} (h:St A M L w H ev ea O) (ev':Nat→Value) (ea':Nat→AV) (hr:∀ t,aX M L (ev' t) (ea' t)) (hx:∀ t own xs,ea' t=.ak own xs→own=0) :
 St A M L w H ev' ea' (fun p=>match p with | .t _=>none | .c id j=>O (.c id j)):=by
 have hO:∀ (p:Pos) (b:Nat),(match p with | .t _=>none | .c id j=>O (.c id j))=some b→O p=some b:=by
  intro p b hp
  cases p with
  | t t=>cases hp
  | c id j=>exact hp
 exact { len:=h.len,nodup:=h.nodup,env:=hr,mem:=h.mem,obj:=h.obj,bG:=h.bG,lt:=h.lt,iQ:=fun t=>bi.free (hx t),iL:=h.iL,ct:=fun p q b hp hq=>h.ct p q b (hO p b hp) (hO q b hq),
         cD:=fun p b hp=>h.cD p b (hO p b hp),fQ:=fun p b hp=>h.fQ p b (hO p b hp),La:=h.La,Oa:=fun p b hp=>h.Oa p b (hO p b hp),fresh:=h.fresh }
theorem St.Jt {ev:Nat→Value} {ea:Nat→AV} (h:St A M L w H ev ea O) {Oc:Pos→Option Nat} (pt:Option Nat) (loose:Bool) (wQ:loose=true→∀ id,H.length≤id→A.top id=none) (hOc:∀ b,(∃ p,Oc p=some b)→(∃ id j,O (.c id j)=some b)∨∃ s,pt=some s∧O (.t s)=some b)
 {M':Mem} {L':List Nat} {w':World} {H':List aa} {v:Value} {r:AV} {O':Pos→Option Nat}
 (h':St (dI A loose H L Oc w) M' L' w' H' (fZ (fun _=>undef) 0 v) (fZ (fun _=>.any) 0 r) O') (cK:Ext (dI A loose H L Oc w) M w M' w') (hL:L <+: L') :
 ∃ O'',St A M' L' w' H' ev (lI ea pt) O''∧Ext A M w M' w'∧aX M' L' v r∧bi M' w' v r (O' (.t 0))∧(∀ q b,O' (.t 0)=some b→O'' q≠some b)∧(∀ b,O' (.t 0)=some b→b∉L'∧b < w'.heap.size∧A b):=by
 have hlen:H.length≤H'.length:=by
  have:=hL.length_le
  rw [h.len,h'.len] at this
  exact this
 have hAc:∀ b,dI A loose H L Oc w b→A b:=by
  rintro b (hb | hb | hb)
  ·exact h.La b hb
  ·rcases hOc b hb with ⟨id,j,hq⟩ | ⟨s,_,hq⟩
   ·exact h.Oa _ b hq
   ·exact h.Oa _ b hq
  ·exact h.fresh b hb
 let O'':Pos→Option Nat:=fun p=>match p with
  | .t i=>if pt=some i then none else O (.t i)
  | .c id j=>O' (.c id j)
 -- what the caller keeps is not the callee's to write
 have lF:∀ i b,pt≠some i→O (.t i)=some b→¬ dI A loose H L Oc w b:=by
  rintro i b hi hb (hc | hc | hc)
  ·exact h.cD _ b hb hc
  ·rcases hOc b hc with ⟨id,j,hq⟩ | ⟨s,hs,hq⟩
   ·have:=h.ct _ _ b hb hq;cases this
   ·have:=h.ct _ _ b hb hq;cases this;exact hi hs
  ·have:=h.fQ _ b hb;omega
 have Ju:∀ i b,O'' (.t i)=some b→pt≠some i∧O (.t i)=some b:=by
  intro i b hb
  simp only [O''] at hb
  split at hb
  ·cases hb
  ·rename_i hi;exact ⟨hi,hb⟩
 have Ur:∀ i b p,O'' (.t i)=some b→O' p≠some b:=by
  intro i b p hb hp
  obtain ⟨h1,h2⟩:=Ju i b hb
  exact lF i b h1 h2 (h'.Oa p b hp)
 refine ⟨O'',{ len:=h'.len,nodup:=h'.nodup,env:=?_,mem:=h'.mem,obj:=h'.obj,bG:=?_,lt:=h'.lt,iQ:=?_,iL:=h'.iL,ct:=?_,cD:=?_,fQ:=?_,La:=fun b hb=>hAc b (h'.La b hb),Oa:=?_,fresh:=fun b hb=>h.fresh b (acN cK.size hb) },?_,?_,?_,?_,?_⟩
 ·intro t
  have:=(h.env t).mono cK.lZ hL
  cases pt with
  | none=>exact this
  | some d=>
    simp only [lI,fZ]
    split
    ·rename_i e0;subst e0;exact this.ab
    ·exact this
 ·intro id o ho
  have h1:=h'.bG id o ho
  have hl:=aO ho
  by_cases e:id < H.length
  ·rw [uI A loose H L Oc w e] at h1
   exact aa.cI (acN (afu _ _) (A.Da hlen id)) o h1
  ·by_cases hx:loose=true
   ·have e1:A.kh H'.length id=H'.length:=by unfold Perm.kh;rw [wQ hx id (by omega)]
    rw [e1]
    exact aa.cI (Perm.wI _ _ _) o h1
   ·have e1:(dI A loose H L Oc w).kh H'.length id=min (id + 1) H'.length:=by
     unfold Perm.kh
     simp only [dI,if_neg e,if_neg hx]
    rw [e1] at h1
    exact aa.cI (acN (afu _ _) (A.mP hl)) o h1
 ·intro t
  have h1:=h.iQ t
  cases pt with
  | none=>
    exact h1.mono fun b hb=>cK.lF b (h.fQ _ b hb) (lF t b (by simp) hb)
  | some d=>
    simp only [lI,fZ,O'']
    by_cases e0:t=d
    ·subst e0
     simp only [if_true]
     exact bi.free (AV.bQ _)
    ·have:¬ (some d=some t):=fun e=>e0 (by cases e;rfl)
     simp only [e0,this,if_false]
     exact h1.mono fun b hb=>cK.lF b (h.fQ _ b hb) (lF t b this hb)
 ·intro p q b hp hq
  cases p with
  | t i=>
    cases q with
    | t j=>exact h.ct _ _ b (Ju i b hp).2 (Ju j b hq).2
    | c id j=>exact absurd hq (Ur i b _ hp)
  | c id j=>
    cases q with
    | t i=>exact absurd hp (Ur i b _ hq)
    | c id' j'=>exact h'.ct _ _ b hp hq
 ·intro p b hp hm
  cases p with
  | t i=>exact lF i b (Ju i b hp).1 (Ju i b hp).2 (h'.La b hm)
  | c id j=>exact h'.cD _ b hp hm
 ·intro p b hp
  cases p with
  | t i=>exact ady (h.fQ _ b (Ju i b hp).2) cK.size
  | c id j=>exact h'.fQ _ b hp
 ·intro p b hp
  cases p with
  | t i=>exact h.Oa _ b (Ju i b hp).2
  | c id j=>exact hAc b (h'.Oa _ b hp)
 ·exact ⟨cK.lZ,cK.size,cK.os,cK.tape,cK.output,fun b hb hA=>cK.lF b hb (fun hc=>hA (hAc b hc)),cK.loops⟩
 ·simpa [fZ] using h'.env 0
 ·simpa [fZ] using h'.iQ 0
 ·intro q b hb hq
  cases q with
  | t i=>exact Ur i b _ hq hb
  | c id j=>have:=h'.ct _ _ b hb hq;cases this
 ·intro b hb
  exact ⟨h'.cD _ b hb,h'.fQ _ b hb,hAc b (h'.Oa _ b hb)⟩
theorem gB (env:Env):∀ (xs:List IX) (j t:Nat),(aL env none j xs).getD t .any=(match xs[t]? with | some x=>(ap env x).ab | none=>.any)
 | [],j,t=>by simp [aL]
 | .t s::xs,j,0=>by simp [aL,ap]
 | .c v::xs,j,0=>by simp [aL,ap]
 | .t s::xs,j,t + 1=>by
   simp only [aL,List.getD_cons_succ,List.getElem?_cons_succ]
   exact gB env xs (j + 1) t
 | .c v::xs,j,t + 1=>by
   simp only [aL,List.getD_cons_succ,List.getElem?_cons_succ]
   exact gB env xs (j + 1) t
theorem gC (env:Env) (k:Nat):∀ (xs:List IX) (j t:Nat),(aL env (some k) j xs).getD t .any=(match xs[t]? with | some (.t s)=>if k=j + t then get env s else (get env s).ab | some (.c v)=>v.ab | none=>.any)
 | [],j,t=>by simp [aL]
 | .t s::xs,j,0=>by simp [aL]
 | .c v::xs,j,0=>by simp [aL]
 | .t s::xs,j,t + 1=>by
   simp only [aL,List.getD_cons_succ,List.getElem?_cons_succ]
   rw [gC env k xs (j + 1) t,show j + 1 + t=j + (t + 1) by omega]
 | .c v::xs,j,t + 1=>by
   simp only [aL,List.getD_cons_succ,List.getElem?_cons_succ]
   rw [gC env k xs (j + 1) t,show j + 1 + t=j + (t + 1) by omega]
theorem rH (vs:List Value) (t:Nat):vs.toArray.getD t undef=vs.getD t undef:=by
 simp [sT]
theorem me (xs ys zs:List AV) (t:Nat):(xs++ys++zs).getD t .any=if t < xs.length then xs.getD t .any else if t < xs.length + ys.length then ys.getD (t - xs.length) .any else zs.getD (t - xs.length - ys.length) .any:=by
 simp only [sT,aeT,aaz]
 by_cases h1:t < xs.length
 ·rw [if_pos (by omega),if_pos h1,if_pos h1]
 ·by_cases h2:t < xs.length + ys.length
  ·rw [if_pos h2,if_neg h1,if_neg h1,if_pos h2]
  ·rw [if_neg h2,if_neg h1,if_neg h2,Nat.sub_sub]
theorem tn {o:Oper} {xs:List Operand} {js:List IX} (XG:gk xs=some js) {pass:Option Nat} {fs cs:List Value} {first cap:List AV} (By:aM M L fs first) (tg:aM M L cs cap) {bY:List AV}
 (hle:yX (first.map AV.ab++aL env pass 0 js++cap.map AV.ab) bY) (hf:Fr A n M L w H env O a) (hd:∀ d,o.dst=some d→d < n) {loose:Bool} (wQ:loose=true→∀ id,H.length≤id→A.top id=none) :
 ∃ Oc,(fs++xs.map a.eval++cs).length=bY.length∧St (dI A loose H L Oc w) M L w H (fun t=>(fs++xs.map a.eval++cs).toArray.getD t undef) (fun t=>bY.getD t .any) Oc∧
  ∀ (v:Value) (r:AV) (H':List aa) (M':Mem) (L':List Nat) (O':Pos→Option Nat) (w':World),K (put o.dst r (cW env (bj js pass))) H'→St (dI A loose H L Oc w) M' L' w' H' (fZ (fun _=>undef) 0 v) (fZ (fun _=>.any) 0 r) O'→Ext (dI A loose H L Oc w) M w M' w'→L <+: L'→
   oA A n M L w K (a.put o.dst v) w':=by
 have hrb:=j4 hf pass 0 XG
 have adu:=j4 hf none 0 XG
 obtain ⟨hlen,adv⟩:=H5 hle
 obtain ⟨vs,yR⟩:∃ vs:List Value,vs=fs++xs.map a.eval++cs:=⟨_,rfl⟩
 have hrv:aM M L vs (first.map AV.ab++aL env pass 0 js++cap.map AV.ab):=by rw [yR];exact (By.di.append hrb).append tg.di
 have adw:aM M L vs (first.map AV.ab++aL env none 0 js++cap.map AV.ab):=by rw [yR];exact (By.di.append adu).append tg.di
 have rq:vs.length=bY.length:=by rw [hrv.length];exact hlen
 -- the callee's state
 have adx:∃ Oc,St A M L w H (fun t=>vs.toArray.getD t undef) (fun t=>bY.getD t .any) Oc∧(∀ b,(∃ p,Oc p=some b)→(∃ id j,O (.c id j)=some b)∨∃ s,bj js pass=some s∧O (.t s)=some b):=by
  have hfree:∀ t own zs,(first.map AV.ab++aL env none 0 js++cap.map AV.ab).getD t .any=.ak own zs→own=0:=by
   intro t own zs he
   have hm:∀ (l:List AV) q,(l.map AV.ab).getD q .any=.ak own zs→own=0:=by
    intro l q hq
    rw [sT,acQ] at hq
    cases hx:l[q]? with
    | none=>simp [hx] at hq
    | some y=>simp [hx] at hq;exact AV.bQ y own zs hq
   rw [me] at he
   split at he
   ·exact hm _ _ he
   ·split at he
    ·rw [gB] at he
     split at he
     ·exact AV.bQ _ own zs he
     ·cases he
    ·exact hm _ _ he
  have h0:=hf.st.rG (fun t=>vs.toArray.getD t undef) (fun t=>(first.map AV.ab++aL env none 0 js++cap.map AV.ab).getD t .any) (fun t=>by rw [rH];exact adw.getD t) hfree
  -- then the one that is handed over
  have h1:∃ O1,St A M L w H (fun t=>vs.toArray.getD t undef) (fun t=>(first.map AV.ab++aL env pass 0 js++cap.map AV.ab).getD t .any) O1∧(∀ b,(∃ p,O1 p=some b)→(∃ id j,O (.c id j)=some b)∨∃ s,bj js pass=some s∧O (.t s)=some b):=by
   cases oO:bj js pass with
   | none=>
     refine ⟨_,h0.congr (fun _=>rfl) (fun t=>?_),?_⟩
     ·rw [me,me,dO,dO]
      split
      ·rfl
      ·split
       ·cases pass with
        | none=>rfl
        | some k=>
          rw [gB,gC]
          unfold bj at oO
          simp only at oO
          cases hx:js[t - (first.map AV.ab).length]? with
          | none=>rfl
          | some x=>
            cases x with
            | c v=>rfl
            | t s=>
              simp only
              rw [if_neg]
              ·rfl
              ·intro e
               rw [acC] at e
               rw [e,hx] at oO
               simp at oO
       ·rfl
     ·rintro b ⟨p,hp⟩
      cases p with
      | t t=>cases hp
      | c id j=>exact .inl ⟨id,j,hp⟩
   | some s=>
     -- where it stands
     obtain ⟨k,rfl,S0⟩:∃ k,pass=some k∧js[k]?=some (.t s):=by
      unfold bj at oO
      split at oO
      ·rename_i k
       split at oO
       ·rename_i s' Yk;cases oO;exact ⟨k,rfl,Yk⟩
       ·cases oO
      ·cases oO
     have Dy:k < js.length:=aO S0
     have hargs:∀ (xs:List Operand) (is:List IX),gk xs=some is→∀ (q s:Nat),is[q]?=some (IX.t s)→xs[q]?=some (Operand.tmp s):=by
      intro xs
      induction xs with
      | nil=>intro is hc q s hq;simp [gk] at hc;subst hc;simp at hq
      | cons x xs ih=>
        intro is hc q s hq
        unfold gk at hc
        split at hc
        ·rename_i i is' e1 e2
         cases hc
         cases q with
         | zero=>
           simp at hq;subst hq
           cases x with
           | tmp t=>simp [aV] at e1;simp [e1]
           | const v=>simp only [aV] at e1;obtain ⟨_,_,hz⟩:=zF.1 e1;cases hz
           | func f=>simp [aV] at e1
           | global g=>simp [aV] at e1
         | succ q=>simpa using ih is' e2 q s (by simpa using hq)
        ·cases hc
     have da:=hargs _ _ XG k s S0
     have oh:vs[first.length + k]?=some (a.tmps.getD s undef):=by
      have PE:fs.length=first.length:=By.length
      rw [yR]
      rw [abb,abu (by omega),PE,show first.length + k - first.length=k by omega,zA (by simpa using aO da),acQ,da]
      rfl
     have oL:=h0.put (first.length + k) (v:=a.tmps.getD s undef) (x:=get env s) (hf.st.env s) (O (.t s)) (hf.st.iQ s) (fun p b hb hp=>by
      cases p with
      | t t=>cases hp
      | c id j=>have:=hf.st.ct _ _ b hb hp;cases this) (fun b hb=>⟨hf.st.cD _ b hb,hf.st.fQ _ b hb,hf.st.Oa _ b hb⟩)
     refine ⟨_,oL.congr (fun t=>?_) (fun t=>?_),?_⟩
     ·simp only [fZ]
      split
      ·rename_i e;subst e
       rw [rH,sT,oh];rfl
      ·rfl
     ·simp only [fZ]
      rw [me,me,dO,dO]
      simp only [ac1]
      by_cases e:t=first.length + k
      ·subst e
       rw [if_pos rfl,if_neg (by omega),if_pos (by omega),show first.length + k - first.length=k by omega,gC,S0]
       simp
      ·rw [if_neg e]
       split
       ·rfl
       ·split
        ·rw [gB,gC]
         cases hx:js[t - first.length]? with
         | none=>rfl
         | some x=>
           cases x with
           | c v=>rfl
           | t s=>
             simp only
             rw [if_neg (by omega)]
             rfl
        ·rfl
     ·rintro b ⟨p,hp⟩
      simp only [eM] at hp
      split at hp
      ·exact .inr ⟨s,rfl,hp⟩
      ·cases p with
       | t t=>cases hp
       | c id j=>exact .inl ⟨id,j,hp⟩
  obtain ⟨O1,g1,g2⟩:=h1
  obtain ⟨O2,g3,g4⟩:=g1.HV (ea':=fun t=>bY.getD t .any) adv
  exact ⟨O2,g3,fun b ⟨p,hp⟩=>g2 b ⟨p,g4 p b hp⟩⟩
 obtain ⟨Oc,b7,hOc⟩:=adx
 refine ⟨Oc,by rw [← yR];exact rq,by rw [← yR];exact b7.narrow loose,?_⟩
 intro v r H' M' L' O' w' hK mW cK hL
 obtain ⟨O'',k1,k2,k3,k4,k5,k6⟩:=hf.st.Jt (bj js pass) loose wQ hOc mW cK hL
 have FV:lI (get env) (bj js pass)=get (cW env (bj js pass)):=by
  cases bj js pass <;> rfl
 rw [FV] at k1
 have qF:Fr A n M' L' w' H' (cW env (bj js pass)) O'' a:=⟨k1,hf.size,hf.defers.ext k2⟩
 show oA A n M L w K (a.put o.dst v) w'
 cases gQ:o.dst with
 | none=>rw [gQ] at hK;exact ⟨M',L',H',_,O'',hK,qF,k2,hL⟩
 | some d=>
   rw [gQ] at hK
   exact ⟨M',L',H',_,_,hK,qF.FW (hd d gQ) k3 (O' (.t 0)) k4 (fun q b hb hq=>absurd hq (k5 q b hb)) k6,k2,hL⟩
theorem Gf {o:Oper} {c:Call} (ho:o.op=.call c) {f:Operand} (ol:c.callee=.value f) {i:IX} {js:List IX} (H6:aV f=some i) (XG:gk c.args.toList=some js) {pass:Option Nat}
 (hp:∀ l,lo=some l→∀ id,l≤id→A.top id=none) (hf:Fr A n M L w H env O a) (hd:∀ d,o.dst=some d→d < n) (h:bC ⟨P,lo⟩ (.call i js pass) o.dst env H K):o.wpIn (wf ro) 0 P a w (oA A n M L w K) Q:=by
 simp only [bC] at h
 have OX:=hf.eval H6
 unfold qg at h
 split at h <;> try exact h.elim
 ·rename_i g first cap Yl
  obtain ⟨bY,hle,hcall⟩:=h
  rw [Yl] at OX
  generalize hu:a.eval f=u at OX
  cases OX with
  | fn _ fs cs _ _ By tg=>
  obtain ⟨loose,wQ,hcall⟩:∃ loose:Bool,(loose=true→∀ id,H.length≤id→A.top id=none)∧lL loose P g bY H fun r H'=>K (put o.dst r (cW env (bj js pass))) H':=by
   unfold eC at hcall
   split at hcall
   ·exact ⟨false,by simp,hcall⟩
   ·rename_i l hl
    rcases hcall with hcall | ⟨h1,hcall⟩
    ·exact ⟨false,by simp,hcall⟩
    ·exact ⟨true,fun _ id bu=>hp l hl id (by omega),hcall⟩
  obtain ⟨Oc,rq,b7,fin⟩:=tn (K:=K) (o:=o) XG By tg hle hf hd wQ
  obtain ⟨vs,yR⟩:∃ vs:List Value,vs=fs++c.args.toList.map a.eval++cs:=⟨_,rfl⟩
  rw [← yR] at rq b7
  have bL:(execOp a.eval o).run P w=(callFunc g vs.toArray).run P w:=by
   simp only [execOp,ho,resolve,ol,Deferred.ofValue,hu,invoke,Sem.run_bind,Sem.run_pure,Result.andThen_ok]
   have e1:(fs.toArray++c.args.map a.eval++cs.toArray)=vs.toArray:=by
    apply Array.ext';simp [yR]
   rw [e1]
  rcases hcall (dI A loose H L Oc w) M L w vs.toArray Oc (lM A loose H L Oc w) (by simpa using rq) b7 with ⟨h1,hc⟩ | ⟨v,w',r,H',M',L',O',h1,hK,mW,cK,hL⟩
  ·refine l7 (bL.trans h1) (by intro d e;cases e) ⟨(fun h=>by cases h),?_⟩
   have pZ:CallsIn (wf ro) (0 - 1) P g vs.toArray w _:=callsIn_wide.2 hc
   refine CallsIn.mono pZ fun e w' he=>?_
   obtain ⟨v,r,H',M',L',O',rfl,hK,mW,cK,hL⟩:=he
   exact fin v r H' M' L' O' w' hK mW cK hL
  ·exact dq (bL.trans h1) (fin v r H' M' L' O' w' hK mW cK hL)
 ·rename_i id Yl
  obtain ⟨bY,hle,hcall⟩:=h
  rw [Yl] at OX
  generalize hu:a.eval f=u at OX
  cases OX with
  | oC b _ hl=>
  obtain ⟨loose,wQ,hcall⟩:∃ loose:Bool,(loose=true→∀ id,H.length≤id→A.top id=none)∧fX loose P id bY H fun r H'=>K (put o.dst r (cW env (bj js pass))) H':=by
   unfold mY at hcall
   split at hcall
   ·exact ⟨false,by simp,hcall⟩
   ·rename_i l hl
    rcases hcall with hcall | ⟨h1,hcall⟩
    ·exact ⟨false,by simp,hcall⟩
    ·exact ⟨true,fun _ id bu=>hp l hl id (by omega),hcall⟩
  obtain ⟨Oc,rq,b7,fin⟩:=tn (K:=K) (o:=o) (fs:=[]) (cs:=[]) (first:=[]) (cap:=[]) XG .nil .nil (by simpa using hle) hf hd wQ
  simp only [List.nil_append,acA] at rq b7
  obtain ⟨fn,tmps,as,bd,h1,h2⟩:=hcall (dI A loose H L Oc w) M L w (c.args.toList.map a.eval).toArray Oc b (lM A loose H L Oc w) (by simpa using rq) hl b7
  have bL:(execOp a.eval o).run P w=.ok (.round b fn tmps as bd) w:=by
   simp only [execOp,ho,resolve,ol,Deferred.ofValue,hu,invoke,Sem.run_bind,Sem.run_pure,Result.andThen_ok]
   have e1:(#[]++c.args.map a.eval:Array Value)=(c.args.toList.map a.eval).toArray:=by
    apply Array.ext';simp
   rw [e1]
   exact h1
  refine l7 bL (by intro d e;cases e) ⟨(fun h=>by cases h),?_⟩
  have pZ:RoundIn (wf ro) (0 - 1) P b fn tmps as bd w _:=h2
  refine RoundIn.mono pZ fun e w' he=>?_
  obtain ⟨v,r,H',M',L',O',rfl,hK,mW,cK,hL⟩:=he
  exact fin v r H' M' L' O' w' hK mW cK hL
end
end Go.aK
end
section
namespace Go.aK
open Go
section
variable {ro:Option Nat} {P:Program} {lo:Option Nat} {A:Perm} {n:Nat} {M:Mem} {L:List Nat} {w:World} {H:List aa} {env:Env} {O:Pos→Option Nat} {a:Act} {Q:Exit→Act→World→Prop} {K:Env→List aa→Prop}
theorem pA {x:AV} {φ:Bool→Prop} (h:fC x φ):∃ b,x=.bool b∧φ b:=by
 unfold fC at h
 split at h
 ·exact ⟨_,rfl,h⟩
 ·exact h.elim
def iR (kd:Nat):Value:=match kd with | 0=>.slice none 0 0 | 1=>.pointer none | 2=>.map none | _=>.nilFunc
def rI (kd:Nat) (D:TypeDesc):Bool:=match kd,D with | 0,.slice _=>true | 1,.pointer _=>true | 2,.map _ _=>true | 3,.func _ _ _=>true | _,_=>false
theorem vE {d kd:Nat} {t:TypeId} {D:TypeDesc} (ht:P.underlying t=some D) (hD:rI kd D=true) {u:Value} {x:AV} {b:Bool} (hx:isNil kd x=some b) (hu:aX M L u x):(Op.equalIn (d + 1) t u (iR kd)).run P w=.ok b w:=by
 unfold isNil at hx
 split at hx <;> cases hx <;> cases D <;> simp [rI] at hD <;> cases hu <;> simp [Op.equalIn,run_underlying ht,iR]
theorem wZ {kd:Nat} {neq:Bool} {t:TypeId} {D:TypeDesc} (ht:P.underlying t=some D) (hD:rI kd D=true) {u:Value} {x:AV} {φ:AV→Prop} (h:dw kd neq x φ) (hu:aX M L u x) (X Y:Operand) :
 ∃ r z,(do eqGuard (if neq then .neq else .eql) t X Y u (iR kd);binOp (if neq then .neq else .eql) t u (iR kd):Sem Value).run P w=.ok r w∧aX M L r z∧φ z∧∀ own xs,z=.ak own xs→own=0:=by
 unfold dw at h
 split at h
 rotate_left
 ·split at h <;> try exact h.elim
  cases hu with
  | ak b off c own e cs xs he hx hn hle hc hr hm=>simp at hn
  | ig ad c own hc=>
    have hDs:∃ e,D=.slice e:=by
     cases D <;> simp [rI] at hD
     exact ⟨_,rfl⟩
    obtain ⟨e,rfl⟩:=hDs
    have he0:∀ d,(Op.equalIn (d + 1) t (.slice ad 0 c) (iR 0)).run P w=.ok (ad.isNone) w:=by
     intro d
     cases ad <;> simp [Op.equalIn,run_underlying ht,iR]
    have he:(Op.equal t (.slice ad 0 c) (iR 0)).run P w=.ok (ad.isNone) w:=he0 9999
    have hg:∀ op,(eqGuard op t X Y (.slice ad 0 c) (iR 0)).run P w=.ok () w:=by
     intro op
     unfold eqGuard;cases op <;> rfl
    have h1:binOp .eql t (.slice ad 0 c) (iR 0)=(Op.equal t (.slice ad 0 c) (iR 0) >>= fun q=>(pure (.bool q):Sem Value)):=rfl
    have h2:binOp .neq t (.slice ad 0 c) (iR 0)=(Op.equal t (.slice ad 0 c) (iR 0) >>= fun q=>(pure (.bool (!q)):Sem Value)):=rfl
    have hφ:∀ b,φ (.bool b):=fun b=>by cases b;exact h.2;exact h.1
    cases neq
    ·refine ⟨.bool ad.isNone,.bool ad.isNone,?_,.bool _,hφ _,by intro _ _ e;cases e⟩
     simp only [acv,if_false,Sem.run_bind,hg,Result.andThen_ok,h1,he,Sem.run_pure]
    ·refine ⟨.bool (!ad.isNone),.bool (!ad.isNone),?_,.bool _,hφ _,by intro _ _ e;cases e⟩
     simp only [if_true,Sem.run_bind,hg,Result.andThen_ok,h2,he,Sem.run_pure]
 rename_i b hb
 have he:(Op.equal t u (iR kd)).run P w=.ok b w:=vE (d:=9999) ht hD hb hu
 have hg:∀ op,(eqGuard op t X Y u (iR kd)).run P w=.ok () w:=by
  intro op
  unfold isNil at hb
  split at hb <;> cases hb <;> cases hu <;> (unfold eqGuard;cases op <;> rfl)
 have h1:binOp .eql t u (iR kd)=(Op.equal t u (iR kd) >>= fun q=>(pure (.bool q):Sem Value)):=by
  unfold isNil at hb
  split at hb <;> cases hb <;> cases hu <;> rfl
 have h2:binOp .neq t u (iR kd)=(Op.equal t u (iR kd) >>= fun q=>(pure (.bool (!q)):Sem Value)):=by
  unfold isNil at hb
  split at hb <;> cases hb <;> cases hu <;> rfl
 cases neq
 ·refine ⟨.bool b,.bool b,?_,.bool _,h,by intro _ _ e;cases e⟩
  simp only [acv,if_false,Sem.run_bind,hg,Result.andThen_ok,h1,he,Sem.run_pure]
 ·refine ⟨.bool (!b),.bool (!b),?_,.bool _,h,by intro _ _ e;cases e⟩
  simp only [if_true,Sem.run_bind,hg,Result.andThen_ok,h2,he,Sem.run_pure]
theorem w5 (hf:Fr A n M L w H env O a) {xs:List Operand} {is:List IX} (hc:gk xs=some is):aM M L (xs.map a.eval) (is.map fun x=>(ap env x).ab):=by
 have:=(hf.SX hc).di
 rwa [ada] at this
theorem cv (hf:Fr A n M L w H env O a) {x:Option Operand} {i:Option IX} (hc:k9 x=some i):jK M L (iz env i) (x.map a.eval):=by
 cases x with
 | none=>simp [k9] at hc;subst hc;trivial
 | some x=>
   simp only [k9] at hc
   obtain ⟨j,hj,rfl⟩:=zF.1 hc
   exact hf.eval hj
theorem H7 {e:TypeId} {esz:Nat} {z:AV} (h:df P e=some (esz,z)):dU P e=some esz∧gr P e=some z∧0 < esz∧z.cells.length=esz∧z.val=true:=by
 unfold df at h
 split at h <;> try cases h
 rename_i h1 h2
 split at h <;> cases h
 rename_i hc
 exact ⟨h1,h2,hc⟩
theorem Jv {x:AV} (h:aN 0 x):jH .string x=true:=by
 cases x <;> first | rfl | exact (show False from h).elim
theorem Dz {x:AV} (h:aN 1 x) (e:TypeId):jH (.slice e) x=true:=by
 cases x <;> first | rfl | exact (show False from h).elim
theorem Jw {x:AV} (h:aN 2 x) (k e:TypeId):jH (.map k e) x=true:=by
 cases x <;> first | rfl | exact (show False from h).elim
theorem LJ (o:Oper) {fl:Nat} {i:cq} (hc:cF P o fl=some i) (hp:∀ l,lo=some l→∀ id,l≤id→A.top id=none) (hf:Fr A n M L w H env O a) (hd:∀ d,o.dst=some d→d < n) (hnone:(match o.op with | .store .. | .mapUpdate ..=>o.dst=none | _=>True))
 (h:bC ⟨P,lo⟩ i o.dst env H K):o.wpIn (wf ro) 0 P a w (oA A n M L w K) Q:=by
 cases da:o.op with
 | move x=>
   simp only [cF,da] at hc
   obtain ⟨j,hj,rfl⟩:=zF.1 hc
   exact zU (.inl da) hj hf hd h
 | assign x=>
   simp only [cF,da] at hc
   obtain ⟨j,hj,rfl⟩:=zF.1 hc
   exact zU (.inr da) hj hf hd h
 | pick c x y=>
   simp only [cF,da] at hc
   split at hc <;> cases hc
   rename_i c' x' y' h1 h2 h3
   simp only [bC] at h
   obtain ⟨b,hb,h⟩:=pA h
   have hr:=hf.eval h1
   rw [hb] at hr
   generalize hu:a.eval c=u at hr
   cases hr
   cases b
   ·exact wp_pure hf hd (by simp [execOp,da,hu,asBool]) (hf.eval h3).ab (AV.bQ _) (h.2 rfl)
   ·exact wp_pure hf hd (by simp [execOp,da,hu,asBool]) (hf.eval h2).ab (AV.bQ _) (h.1 rfl)
 | alloc e=>
   simp only [cF,da] at hc
   split at hc <;> try cases hc
   rename_i z hz
   split at hc <;> cases hc
   rename_i hv
   simp only [bC] at h
   obtain ⟨r,L',w',h1,h2,h3,h4,h5⟩:=FZ (P:=P) hf.st hz hv h.1
   exact py hf hd (by simp only [execOp,da];exact a7 h1) h2 (by intro _ _ e;cases e) h3 h4 h5 h.2
 | box e x=>
   simp only [cF,da] at hc
   obtain ⟨j,hj,hc⟩:=zF.1 hc
   split at hc <;> subst hc <;> simp only [bC] at h
   ·obtain ⟨r,M',w',h1,h2,h3,h4⟩:=Jj (P:=P) hf.st e (hf.eval hj) h.1
    exact py hf hd (by simp only [execOp,da];exact a7 h1) h2 (by intro _ _ e;cases e) h3 h4 (aaL L) h.2
   ·obtain ⟨r,L',w',h1,h2,h3,h4,h5⟩:=Df (P:=P) hf.st e (hf.eval hj) h.1 h.2.1
    exact py hf hd (by simp only [execOp,da];exact a7 h1) h2 (by intro _ _ e;cases e) h3 h4 h5 h.2.2
 | build t ps=>
   simp only [cF,da] at hc
   split at hc <;> try cases hc
   rename_i z places ht
   split at hc <;> try cases hc
   rename_i qs hq
   split at hc <;> cases hc
   rename_i hv
   simp only [bC] at h
   obtain ⟨r,x,h1,h2,h3,h4⟩:=F3 (P:=P) hf ht hq h hv
   exact wp_pure hf hd (by simp only [execOp,da];exact a7 h1) h2 h4 h3
 | buildSlice t len ps=>
   simp only [cF,da] at hc
   split at hc <;> try cases hc
   rename_i e ht
   split at hc <;> try cases hc
   rename_i esz z qs hz hq
   split at hc <;> cases hc
   rename_i hlen
   obtain ⟨p1,p2,p3,p4,p5⟩:=H7 hz
   obtain ⟨q1,q2⟩:=nY hf _ _ hq
   by_cases Ym:fl=2
   ·rw [if_pos Ym] at h
    simp only [bC] at h
    obtain ⟨r,x,L',w',H',h1,h2,h3,h4,h5,h6,h7⟩:=Js (P:=P) hf.st ht p1 p3 p2 p4 p5 hlen (vs:=ps.map fun (i,x)=>(i,a.eval x)) (by
     intro j p hp
     obtain ⟨v,v1,v2⟩:=q1 j p hp
     exact ⟨v,by simpa using v1,v2⟩) (by simp [q2]) h
    exact py hf hd (by simp only [execOp,da];exact a7 h1) h2 h3 h5 h6 h7 h4
   rw [if_neg Ym] at h
   simp only [bC] at h
   obtain ⟨m,xs,M',w',ad,h1,h2,h3,h4,h5,h6⟩:=vz (P:=P) hf.st ht p1 p3 p2 p4 p5 (if fl=1 then esz else 0) hlen (vs:=ps.map fun (i,x)=>(i,a.eval x)) (by
    intro j p hp
    obtain ⟨v,v1,v2⟩:=q1 j p hp
    exact ⟨v,by simpa using v1,v2⟩) (by simp [q2]) h
   obtain ⟨O',qF⟩:=(hf.mono h5 h6).HX (dst:=o.dst) hd h2 (fun eS y hy=>by
    split at eS
    ·rename_i PE;rw [if_pos PE];exact h3 y hy
    ·exact absurd rfl eS)
   exact dq (by simp only [execOp,da];exact a7 h1) ⟨M',L,H,_,O',h4,qF,h6,aaL L⟩
 | load t x=>
   simp only [cF,da] at hc
   split at hc <;> try cases hc
   rename_i sz j ht hj
   split at hc
   ·split at hc <;> cases hc
    rename_i hs
    subst hs
    exact wY da ht hj hf hd h
   split at hc
   ·cases hc
    simp only [bC] at h
    obtain ⟨r,z,h1,h2,h3,h4⟩:=s8 (P:=P) ht hf.st h (hf.eval hj)
    obtain ⟨y,M',H',O',g1,g2,g3,g4,g5⟩:=th hf.st h3 h2
    obtain ⟨O'',qF⟩:=(hf.mono g3 g4).pX (dst:=o.dst) hd g1 g5
    exact dq (by simp only [execOp,da];exact a7 h1) ⟨M',L,H',_,O'',g2,qF,g4,aaL L⟩
   ·cases hc
    simp only [bC] at h
    obtain ⟨r,z,h1,h2,h3,h4⟩:=s8 (P:=P) ht hf.st h (hf.eval hj)
    exact bS hf hd ⟨r,z,by simp only [execOp,da];exact a7 h1,h2,h3,h4⟩
 | store t x y=>
   simp only [da] at hnone
   simp only [cF,da] at hc
   split at hc <;> try cases hc
   rename_i m j k ht hj hk
   split at hc
   ·split at hc <;> try cases hc
    rename_i s
    split at hc <;> cases hc
    rename_i hm
    subst hm
    exact yY da ht hj hk hf hnone h
   split at hc
   ·cases hc
    simp only [bC] at h
    obtain ⟨l,rfl⟩:∃ l,lo=some l:=by cases lo with | none=>exact h.elim | some l=>exact ⟨l,rfl⟩
    obtain ⟨w',H',O',h1,h2,h3,h4⟩:=Dj (P:=P) hf.st (hp l rfl) ht h (hf.eval hj) (hf.eval hk)
    refine mS (by simp only [execOp,da];exact rF h1) ⟨M,L,H',env,O',h2,?_,h4,aaL L⟩
    rw [hnone];exact ⟨h3,hf.size,hf.defers.ext h4⟩
   ·cases hc
    simp only [bC] at h
    obtain ⟨w',H',O',h1,h2,h3,h4⟩:=F4 (P:=P) hf.st ht h (hf.eval hj) (hf.eval hk)
    refine mS (by simp only [execOp,da];exact rF h1) ⟨M,L,H',env,O',h2,?_,h4,aaL L⟩
    rw [hnone];exact ⟨h3,hf.size,hf.defers.ext h4⟩
 | nilCheck x=>
   simp only [cF,da] at hc
   obtain ⟨j,hj,rfl⟩:=zF.1 hc
   simp only [bC] at h
   exact bS hf hd (yP da h (hf.eval hj))
 | binOp op t x y yt=>
   simp only [cF,da] at hc
   split at hc <;> try cases hc
   rename_i j k hj hk
   have hx:=hf.eval hj
   have hy:=hf.eval hk
   have plain:∀ {op},dk op (ap env j) (ap env k) (fun z=>K (put o.dst z env) H)→o.op=.binOp op t x y yt→o.wpIn (wf ro) 0 P a w (oA A n M L w K) Q:=by
    intro op h da
    obtain ⟨r,z,h1,h2,h3,h4⟩:=Lp (P:=P) (w:=w) (t:=t) h hx hy x y
    exact bS hf hd ⟨r,z,by simp only [execOp,da];exact a7 h1,h2,h3,h4⟩
   split at hc
   ·cases hc
    simp only [bC] at h
    obtain ⟨r,z,h1,h2,h3,h4⟩:=wL (P:=P) (w:=w) (t:=t) h hx hy x y
    exact bS hf hd ⟨r,z,by simp only [execOp,da];exact a7 h1,h2,h3,h4⟩
   ·cases hc
    simp only [bC] at h
    obtain ⟨r,z,h1,h2,h3,h4⟩:=wL (P:=P) (w:=w) (t:=t) h hx hy x y
    exact bS hf hd ⟨r,z,by simp only [execOp,da];exact a7 h1,h2,h3,h4⟩
   ·split at hc <;> try cases hc
    ·rename_i ht
     simp only [bC] at h
     obtain ⟨r,z,h1,h2,h3,h4⟩:=uy (P:=P) (w:=w) (neq:=false) ht h hx hy x y
     exact bS hf hd ⟨r,z,by simp only [execOp,da];exact a7 h1,h2,h3,h4⟩
    ·exact plain (op:=.eql) h da
    ·exact plain (op:=.eql) h da
    all_goals
     rename_i ht
     split at hc <;> cases hc
     simp only [bC] at h
     obtain ⟨r,z,h1,h2,h3,h4⟩:=wZ (P:=P) (w:=w) (neq:=false) ht rfl h hx x (.const .nilFunc)
     exact bS hf hd ⟨r,z,by simp only [execOp,da];exact a7 h1,h2,h3,h4⟩
   ·split at hc <;> try cases hc
    ·rename_i ht
     simp only [bC] at h
     obtain ⟨r,z,h1,h2,h3,h4⟩:=uy (P:=P) (w:=w) (neq:=true) ht h hx hy x y
     exact bS hf hd ⟨r,z,by simp only [execOp,da];exact a7 h1,h2,h3,h4⟩
    ·exact plain (op:=.neq) h da
    ·exact plain (op:=.neq) h da
    all_goals
     rename_i ht
     split at hc <;> cases hc
     simp only [bC] at h
     obtain ⟨r,z,h1,h2,h3,h4⟩:=wZ (P:=P) (w:=w) (neq:=true) ht rfl h hx x (.const .nilFunc)
     exact bS hf hd ⟨r,z,by simp only [execOp,da];exact a7 h1,h2,h3,h4⟩
   ·cases hc;exact plain h da
 | unOp op t x=>
   simp only [cF,da] at hc
   obtain ⟨j,hj,rfl⟩:=zF.1 hc
   simp only [bC] at h
   obtain ⟨r,z,h1,h2,h3,h4⟩:=Pp (P:=P) (w:=w) h (hf.eval hj)
   exact bS hf hd ⟨r,z,by simp only [execOp,da];exact a7 h1,h2,h3,h4⟩
 | convert src dst x=>
   simp only [cF,da] at hc
   split at hc <;> try cases hc
   ·rename_i k1 k2 j hs Us hj
    simp only [bC] at h
    obtain ⟨r,z,h1,h2,h3,h4⟩:=Bj (P:=P) (w:=w) hs Us h (hf.eval hj)
    exact bS hf hd ⟨r,z,by simp only [execOp,da];exact a7 h1,h2,h3,h4⟩
   ·rename_i j hs Us hj
    simp only [bC] at h
    obtain ⟨r,z,h1,h2,h3,h4⟩:=Bo (P:=P) (w:=w) hs Us h (hf.eval hj)
    exact bS hf hd ⟨r,z,by simp only [execOp,da];exact a7 h1,h2,h3,h4⟩
   ·rename_i e j hs Us hj
    split at hc <;> cases hc
    rename_i he
    simp only [bC] at h
    obtain ⟨r,z,w',M',ob,h1,h2,h3,h4,h5,h6,h7,h8⟩:=Bp (P:=P) hf.st hs Us he h (hf.eval hj)
    exact wX hf hd (by simp only [execOp,da];exact a7 h1) h2 h4 h5 h6 h7 h8 h3
   ·rename_i e j hs Us hj
    split at hc <;> cases hc
    rename_i he
    simp only [bC] at h
    obtain ⟨r,z,h1,h2,h3,h4⟩:=F8 (P:=P) hf.st hs he Us h (hf.eval hj)
    exact bS hf hd ⟨r,z,by simp only [execOp,da];exact a7 h1,h2,h3,h4⟩
 | makeFunc f first cap=>
   simp only [cF,da] at hc
   split at hc <;> cases hc
   rename_i i j hi hj
   simp only [bC] at h
   refine bS hf hd ⟨.func f (first.map a.eval) (cap.map a.eval),_,?_,?_,h,by intro _ _ e;cases e⟩
   ·simp only [execOp,da];rfl
   ·have:=aX.fn (M:=M) (L:=L) f (first.toList.map a.eval) (cap.toList.map a.eval) _ _ (w5 hf hi) (w5 hf hj)
    rw [show (first.toList.map a.eval).toArray=first.map a.eval by apply Array.ext';simp,show (cap.toList.map a.eval).toArray=cap.map a.eval by apply Array.ext';simp] at this
    exact this
 | makeMap t r=>
   cases r with
   | some r=>simp [cF,da] at hc
   | none=>
     simp only [cF,da] at hc
     cases hc
     simp only [bC] at h
     obtain ⟨r,L',w',h1,h2,h3,h4,h5⟩:=Gb (P:=P) hf.st t
     exact py hf hd (by simp only [execOp,da];exact a7 h1) h2 (by intro _ _ e;cases e) h3 h4 h5 h
 | makeSlice t l c=>
   simp only [cF,da] at hc
   split at hc <;> try cases hc
   rename_i e k ht hk
   split at hc <;> try cases hc
   rename_i esz z bytes hz hb
   split at hc <;> try cases hc
   rename_i hcond
   obtain ⟨wR,LI⟩:=hcond
   obtain ⟨p1,p2,p3,p4,p5⟩:=H7 hz
   obtain ⟨inf,jG,dm⟩:=zF.1 p1
   obtain ⟨inf',uH,zL⟩:=zF.1 hb
   rw [jG] at uH;cases uH
   unfold gr at p2
   simp only [jG] at p2
   split at p2 <;> try cases p2
   rename_i zv uA
   split at hc
   ·cases hc
    simp only [bC] at h
    have vN:zv.cells.size=esz:=by have:=((cT (M:=M) (L:=L) p2).gO p5).length;rw [p4] at this;simpa using this
    obtain ⟨r,w',M',b,h1,h2,h3,h4,h5,h6,h7,h8,h9,h10⟩:=F7 (P:=P) hf.st ht jG uA dm zL p3 wR vN h (hf.eval hk)
    exact wX hf hd (by simp only [execOp,da];exact a7 h1) h2 h4 h5 h6 (fun q b' dZ=>by cases dZ;exact h7 q) (fun b' dZ=>by cases dZ;exact ⟨h8,h9,h10⟩) h3
   ·split at hc <;> cases hc
    rename_i hsame
    simp only [bC] at h
    have Bk:a.eval l=a.eval c:=by
     unfold LH at hsame
     split at hsame
     ·simp at hsame;subst hsame;rfl
     ·simp at hsame;subst hsame;rfl
     ·cases hsame
    have LA:∀ y∈z.cells,∀ own xs,y=.ak own xs→own=0:=by
     intro y hy own xs e
     have:=abo.1 LI y hy
     subst e
     simpa using this
    obtain ⟨r,x,L',w',H',h1,h2,h3,h4,h5,h6,h7⟩:=F6 (P:=P) hf.st ht jG uA dm zL p3 wR p2 p5 p4 LA h (hf.eval hk)
    exact py hf hd (by simp only [execOp,da,Bk];exact a7 h1) h2 h3 h5 h6 h7 h4
 | slice t x lo hi mx=>
   simp only [cF,da] at hc
   split at hc <;> try cases hc
   ·rename_i e i l h' m ht mV hl hh hm
    split at hc <;> try cases hc
    rename_i esz he
    split at hc <;> cases hc
    rename_i h0
    by_cases PE:fl=4
    ·rw [if_pos PE] at h
     simp only [bC] at h
     obtain ⟨ad,k,c,own,ys,h1,h2,⟨h3,XH⟩,h4⟩:=wS (P:=P) hf.st ht he h0 h.2 (hf.eval mV) h.1 (cv hf hl) (cv hf hh) (cv hf hm)
     cases h3
     obtain ⟨rfl,_⟩:=h4 (by omega)
     have hk:k=0:=by
      cases h2 with
      | ig=>rfl
      | ak b off c own e cs xs he hx hn=>simp at hn
     subst hk
     exact bS hf hd ⟨_,_,by simp only [execOp,da];exact a7 h1,.pW ad,XH,by intro _ _ e;cases e⟩
    rw [if_neg PE] at h
    simp only [bC] at h
    unfold bo at h
    split at h
    ·rename_i e0 a0 b0 c0 d0 Lz
     rw [← Lz] at h
     split at h
     ·rename_i Dm
      have XE:mx=none:=by
       cases mx with
       | none=>rfl
       | some q=>simp only [k9] at hm;obtain ⟨_,_,rfl⟩:=zF.1 hm;cases Dm
      subst XE
      obtain ⟨r,z,h1,h2,h3,h4⟩:=Ds (P:=P) ht he h (hf.eval mV) (cv hf hl) (cv hf hh)
      exact bS hf hd ⟨r,z,by simp only [execOp,da];exact a7 h1,h2,h3,h4⟩
     ·rename_i m0 Dm
      have hm3:=cv (a:=a) hf hm
      rw [Dm] at hm3
      obtain ⟨r,z,h1,h2,h3,h4⟩:=Dt (P:=P) ht he h (hf.eval mV) (cv hf hl) (cv hf hh) hm3
      exact bS hf hd ⟨r,z,by simp only [execOp,da];exact a7 h1,h2,h3,h4⟩
    obtain ⟨ad,k,c,own,ys,h1,h2,h3,h4⟩:=wS (P:=P) hf.st ht he h0 h.2 (hf.eval mV) h.1 (cv hf hl) (cv hf hh) (cv hf hm)
    by_cases vB:own=0
    ·subst vB
     exact bS hf hd ⟨_,_,by simp only [execOp,da];exact a7 h1,h2,h3,by intro _ _ e;cases e;rfl⟩
    ·obtain ⟨rfl,h5⟩:=h4 vB
     obtain ⟨O',qF⟩:=hf.HX (dst:=o.dst) hd h2 (fun _=>h5)
     exact dq (by simp only [execOp,da];exact a7 h1) ⟨M,L,H,_,O',h3,qF,Ext.refl A M w,aaL L⟩
   ·rename_i i l h' ht mV hl hh hm
    simp only [bC] at h
    have XE:mx=none:=by
     cases mx with
     | none=>rfl
     | some q=>simp only [k9] at hm;obtain ⟨_,_,hz⟩:=zF.1 hm;cases hz
    subst XE
    obtain ⟨r,z,h1,h2,h3,h4⟩:=yU (P:=P) (w:=w) ht h (hf.eval mV) (cv hf hl) (cv hf hh)
    exact bS hf hd ⟨r,z,by simp only [execOp,da];exact a7 h1,h2,h3,h4⟩
 | fieldAddr s x f=>
   simp only [cF,da] at hc
   split at hc <;> cases hc
   rename_i off sz j ht hj
   simp only [bC] at h
   obtain ⟨r,z,h1,h2,h3,h4⟩:=wM (P:=P) (w:=w) ht h (hf.eval hj)
   exact bS hf hd ⟨r,z,by simp only [execOp,da];exact a7 h1,h2,h3,h4⟩
 | field s x f=>
   simp only [cF,da] at hc
   split at hc <;> cases hc
   rename_i off sz j ht hj
   simp only [bC] at h
   obtain ⟨r,z,h1,h2,h3,h4⟩:=FX (P:=P) (w:=w) ht h (hf.eval hj)
   exact bS hf hd ⟨r,z,by simp only [execOp,da];exact a7 h1,h2,h3,h4⟩
 | indexAddr t x i=>
   simp only [cF,da] at hc
   split at hc <;> try cases hc
   rename_i e j k ht hj hk
   obtain ⟨esz,he,rfl⟩:=zF.1 hc
   simp only [bC] at h
   obtain ⟨r,z,h1,h2,h3,h4⟩:=wN (P:=P) (w:=w) ht he h.2 h.1 (hf.eval hj) (hf.eval hk)
   exact bS hf hd ⟨r,z,by simp only [execOp,da];exact a7 h1,h2,h3,h4⟩
 | index t x i=>
   simp only [cF,da] at hc
   split at hc <;> try cases hc
   ·rename_i j k ht hj hk
    simp only [bC] at h
    obtain ⟨r,z,h1,h2,h3,h4⟩:=yO (P:=P) (w:=w) ht h (hf.eval hj) (hf.eval hk)
    exact bS hf hd ⟨r,z,by simp only [execOp,da];exact a7 h1,h2,h3,h4⟩
   ·rename_i m e j k ht hj hk
    split at hc <;> cases hc
    rename_i he
    simp only [bC] at h
    obtain ⟨r,z,h1,h2,h3,h4⟩:=yN (P:=P) (w:=w) ht he h (hf.eval hj) (hf.eval hk)
    exact bS hf hd ⟨r,z,by simp only [execOp,da];exact a7 h1,h2,h3,h4⟩
 | lookup t m k ok=>
   simp only [cF,da] at hc
   split at hc <;> try cases hc
   rename_i kt et i j ht hi hj
   split at hc <;> cases hc
   rename_i kd z hk hz
   simp only [bC] at h
   obtain ⟨r,z,h1,h2,h3,h4⟩:=Dq (P:=P) hf.st ht hk hz h (hf.eval hi) (hf.eval hj)
   exact bS hf hd ⟨r,z,by simp only [execOp,da];exact a7 h1,h2,h3,h4⟩
 | mapUpdate t m k x=>
   simp only [da] at hnone
   simp only [cF,da] at hc
   split at hc <;> try cases hc
   rename_i kt et i j y ht hi hj hy
   obtain ⟨kd,hk,rfl⟩:=zF.1 hc
   simp only [bC] at h
   obtain ⟨w',H',h1,h2,h3,h4⟩:=Dr (P:=P) hf.st ht hk h (hf.eval hi) (hf.eval hj) (hf.eval hy)
   refine mS (by simp only [execOp,da];exact rF h1) ⟨M,L,H',env,O,h2,?_,h4,aaL L⟩
   rw [hnone];exact ⟨h3,hf.size,hf.defers.ext h4⟩
 | extract x i=>
   simp only [cF,da] at hc
   obtain ⟨j,hj,rfl⟩:=zF.1 hc
   simp only [bC] at h
   obtain ⟨r,z,h1,h2,h3,h4⟩:=Bi (P:=P) (w:=w) h (hf.eval hj)
   exact bS hf hd ⟨r,z,by simp only [execOp,da];exact a7 h1,h2,h3,h4⟩
 | call c=>
   simp only [cF,da] at hc
   split at hc
   ·rename_i f ol
    split at hc <;> cases hc
    rename_i i js hi hj
    exact Gf da ol hi hj hp hf hd h
   ·rename_i ol
    split at hc <;> try cases hc
    rename_i x t hargs Bz
    have hcall:c={ callee:=.builtin .len,args:=#[x],argTypes:=#[t] }:=by
     obtain ⟨c1,c2,c3⟩:=c
     simp only at ol hargs Bz
     subst ol
     rw [show c2=#[x] from Array.ext' hargs,show c3=#[t] from Array.ext' Bz]
    subst hcall
    have fin:∀ {d:TypeDesc} {kd:Nat} {j:IX},P.underlying t=some d→aV x=some j→jH d (ap env j)=true→(fT (ap env j) H fun z=>K (put o.dst z env) H)→o.wpIn (wf ro) 0 P a w (oA A n M L w K) Q:=by
     intro d kd j ht hj hk h
     obtain ⟨r,z,h1,h2,h3,h4⟩:=Lt (P:=P) ht hf.st hk h (hf.eval hj) o.type
     refine bS hf hd ⟨r,z,?_,h2,h3,h4⟩
     simp only [execOp,da,resolve,invoke,builtin,Sem.run_bind,Sem.run_pure,Result.andThen_ok,ads,List.map_cons,List.map_nil,h1]
    split at hc <;> cases hc
    ·rename_i j ht hj;exact fin (kd:=0) ht hj (Jv h.1) h.2
    ·rename_i e j ht hj;exact fin (kd:=0) ht hj (Dz h.1 e) h.2
    ·rename_i k e j ht hj;exact fin (kd:=0) ht hj (Jw h.1 k e) h.2
   ·rename_i ol
    split at hc <;> try cases hc
    rename_i s x t t' hargs Bz
    split at hc <;> try cases hc
    rename_i K7
    subst K7
    split at hc <;> try cases hc
    rename_i e i j ht hi hj
    split at hc <;> try cases hc
    rename_i esz z bytes hz hb
    split at hc <;> try cases hc
    rename_i wR
    have hcall:c={ callee:=.builtin .append,args:=#[s,x],argTypes:=#[t,t] }:=by
     obtain ⟨c1,c2,c3⟩:=c
     simp only at ol hargs Bz
     subst ol
     rw [show c2=#[s,x] from Array.ext' hargs,show c3=#[t,t] from Array.ext' Bz]
    subst hcall
    split at hc
    ·split at hc <;> cases hc
     rename_i LI
     exact y0 da ht hz hb wR LI hi hj hf hd h
    cases hc
    exact Bx da ht hz hb wR hi hj hf hd h
   ·rename_i ol
    split at hc <;> try cases hc
    rename_i x y hargs
    split at hc <;> cases hc
    rename_i i j hi hj
    simp only [bC] at h
    obtain ⟨r,z,h1,h2,h3,h4⟩:=HY (P:=P) (w:=w) (big:=true) h (hf.eval hi) (hf.eval hj) c.argTypes o.type
    refine bS hf hd ⟨r,z,?_,h2,h3,h4⟩
    have hargs':c.args=#[x,y]:=Array.ext' hargs
    simp only [if_true] at h1
    simp only [execOp,da,resolve,ol,invoke,builtin,Sem.run_bind,Sem.run_pure,Result.andThen_ok,hargs',ads,List.map_cons,List.map_nil,h1]
   ·rename_i ol
    split at hc <;> try cases hc
    rename_i x y hargs
    split at hc <;> cases hc
    rename_i i j hi hj
    simp only [bC] at h
    obtain ⟨r,z,h1,h2,h3,h4⟩:=HY (P:=P) (w:=w) (big:=false) h (hf.eval hi) (hf.eval hj) c.argTypes o.type
    refine bS hf hd ⟨r,z,?_,h2,h3,h4⟩
    have hargs':c.args=#[x,y]:=Array.ext' hargs
    simp only [acv,if_false] at h1
    simp only [execOp,da,resolve,ol,invoke,builtin,Sem.run_bind,Sem.run_pure,Result.andThen_ok,hargs',ads,List.map_cons,List.map_nil,h1]
   ·cases hc
 | _=>simp [cF,da] at hc
theorem Gg (o:Oper) (hf:Fr A n M L w H env O a) (hd:∀ d,o.dst=some d→d < n) (h:bC ⟨P,lo⟩ (rE P o) o.dst env H K):o.wpIn (wf ro) 0 P a w (oA A n M L w K) Q:=by
 cases da:o.op with
 | call c=>
   simp only [rE,da] at h
   split at h <;> try exact h.elim
   rotate_left
   ·rename_i ol
    split at h <;> try exact h.elim
    rename_i s t hargs Bz
    split at h <;> try exact h.elim
    rename_i e i ht hi
    split at h <;> try exact h.elim
    rename_i esz z hz
    simp only [bC] at h
    unfold df at hz
    split at hz <;> try cases hz
    rename_i esz' z' SZ pZ
    split at hz <;> cases hz
    rename_i hcond
    obtain ⟨h0,jI,uA⟩:=hcond
    obtain ⟨inf,jG,dm⟩:=zF.1 SZ
    unfold gr at pZ
    simp only [jG] at pZ
    split at pZ <;> try cases pZ
    rename_i zv wP
    obtain ⟨w',H',O',h1,h2,h3,h4⟩:=Dw (P:=P) hf.st ht jG wP h0 pZ uA jI h (hf.eval hi) o.type
    obtain ⟨O'',qF⟩:=(hf.mono h3 h4).pX (dst:=o.dst) hd (.tuple [] [] .nil) (by intro _ _ e;cases e)
    have hargs':c.args=#[s]:=Array.ext' hargs
    have LK:c.argTypes=#[t]:=Array.ext' Bz
    refine dq (v:=.tuple #[]) ?_ ⟨M,L,H',_,O'',h2,qF,h4,aaL L⟩
    simp only [execOp,da,resolve,ol,invoke,builtin,Sem.run_bind,Sem.run_pure,Result.andThen_ok,hargs',LK,ads,List.map_cons,List.map_nil,h1]
   rename_i ol
   split at h <;> try exact h.elim
   rename_i s x t t' hargs Bz
   split at h <;> try exact h.elim
   rename_i e i j ht hi hj
   split at h <;> try exact h.elim
   rename_i esz he
   simp only [bC] at h
   obtain ⟨r,z,w',H',O',h1,h2,h3,h4,h5,h6⟩:=Jq (P:=P) hf.st ht he h (hf.eval hi) (hf.eval hj) t' o.type
   obtain ⟨O'',qF⟩:=(hf.mono h4 h5).pX (dst:=o.dst) hd h2 h6
   have hargs':c.args=#[s,x]:=Array.ext' hargs
   have LK:c.argTypes=#[t,t']:=Array.ext' Bz
   refine dq (v:=r) ?_ ⟨M,L,H',_,O'',h3,qF,h5,aaL L⟩
   simp only [execOp,da,resolve,ol,invoke,builtin,Sem.run_bind,Sem.run_pure,Result.andThen_ok,hargs',LK,ads,List.map_cons,List.map_nil,h1]
 | _=>simp only [rE,da] at h;exact h.elim
theorem Gh (o:Oper) (hf:Fr A n M L w H env O a) (hd:∀ d,o.dst=some d→d < n) (h:bC ⟨P,lo⟩ (oN P o) o.dst env H K):o.wpIn (wf ro) 0 P a w (oA A n M L w K) Q:=by
 have key:∀ {x:Operand},(o.op=.move x∨o.op=.assign x)→∀ {i:IX} {esz:Nat},aV x=some i→(ft esz (ap env i) H fun z H'=>K (put o.dst z env) H')→o.wpIn (wf ro) 0 P a w (oA A n M L w K) Q:=by
  intro x ho i esz hi h
  obtain ⟨z,M',H',O',h1,h2,h3,h4,h5⟩:=th hf.st h (hf.eval hi)
  have bL:(execOp a.eval o).run P w=.ok (.value (a.eval x)) w:=by
   rcases ho with ho | ho <;> simp [execOp,ho]
  obtain ⟨O'',qF⟩:=(hf.mono h3 h4).pX (dst:=o.dst) hd h1 h5
  exact dq bL ⟨M',L,H',_,O'',h2,qF,h4,aaL L⟩
 cases da:o.op with
 | move x=>
   simp only [oN,da] at h
   split at h <;> try exact h.elim
   rename_i hi ht
   split at h <;> try exact h.elim
   exact key (.inl da) hi h
 | assign x=>
   simp only [oN,da] at h
   split at h <;> try exact h.elim
   rename_i hi ht
   split at h <;> try exact h.elim
   exact key (.inr da) hi h
 | _=>simp only [oN,da] at h;exact h.elim
theorem DA (o:Oper) (esz:Nat) (hf:Fr A n M L w H env O a) (hd:∀ d,o.dst=some d→d < n) (h:bC ⟨P,lo⟩ (mc esz o) o.dst env H K):o.wpIn (wf ro) 0 P a w (oA A n M L w K) Q:=by
 have key:∀ {x:Operand},(o.op=.move x∨o.op=.assign x)→∀ {i:IX},aV x=some i→(ft esz (ap env i) H fun z H'=>K (put o.dst z env) H')→o.wpIn (wf ro) 0 P a w (oA A n M L w K) Q:=by
  intro x ho i hi h
  obtain ⟨z,M',H',O',h1,h2,h3,h4,h5⟩:=th hf.st h (hf.eval hi)
  have bL:(execOp a.eval o).run P w=.ok (.value (a.eval x)) w:=by
   rcases ho with ho | ho <;> simp [execOp,ho]
  obtain ⟨O'',qF⟩:=(hf.mono h3 h4).pX (dst:=o.dst) hd h1 h5
  exact dq bL ⟨M',L,H',_,O'',h2,qF,h4,aaL L⟩
 cases da:o.op with
 | move x=>
   simp only [mc,da] at h
   split at h <;> try exact h.elim
   rename_i hi
   exact key (.inl da) hi h
 | assign x=>
   simp only [mc,da] at h
   split at h <;> try exact h.elim
   rename_i hi
   exact key (.inr da) hi h
 | _=>simp only [mc,da] at h;exact h.elim
theorem uJ (o:Oper) {fl:Nat} (hp:∀ l,lo=some l→∀ id,l≤id→A.top id=none) (hf:Fr A n M L w H env O a) (hd:∀ d,o.dst=some d→d < n) (hnone:(match o.op with | .store .. | .mapUpdate ..=>o.dst=none | _=>True))
 (h:bC ⟨P,lo⟩ (Dx P o fl) o.dst env H K):o.wpIn (wf ro) 0 P a w (oA A n M L w K) Q:=by
 unfold Dx at h
 split at h
 ·exact Gh o hf hd h
 split at h
 ·exact DA o _ hf hd h
 cases hc:cF P o fl with
 | none=>rw [hc] at h;exact Gg o hf hd h
 | some i=>rw [hc] at h;exact LJ o hc hp hf hd hnone h
end
end Go.aK
end
section
namespace Go.aK
open Go
section
variable {M:Mem} {L:List Nat}
theorem rJ {n:Nat}:∀ {xs:List AV},(∀ x∈xs,x.cells.length≠0)→aj n (flat xs)=true→aj n xs=true
 | [],_,_=>rfl
 | x::xs,hx,h=>by
   rw [bc] at h ⊢
   intro y hy
   rcases OU.1 hy with rfl | hy
   ·cases y with
    | agg ys=>
      simp only [AV.aW]
      rw [bc]
      intro z hz
      exact h z (by simp [flat,AV.cells,hz])
    | _=>exact h _ (by simp [flat,AV.cells])
   ·have:=rJ (xs:=xs) (n:=n) (fun x yH=>hx x (aa6 _ yH)) (by
     rw [bc]
     intro z hz
     exact h z (by simp only [flat,List.flatMap_cons,ab7] at hz ⊢;exact .inr hz))
    rw [bc] at this
    exact this y hy
theorem Jx {n:Nat} {x:AV} (h:aj n x.cells=true):x.aW n=true:=by
 cases x <;> simp_all [AV.cells,AV.aW,aj]
theorem aX.PJ {v:Value} {x:AV} (h:aX M L v x):x.aW L.length=true:=by
 induction h using aX.rec (motive_2:=fun vs xs _=>aj L.length xs=true) with
 | ak b off c own e cs xs he hx hn hle hc hr hm ih=>exact rJ (fun x yH=>by rw [hx x yH];omega) ih
 | ba b off len cap id hl hc=>simp only [AV.aW,decide_eq_true_eq];exact aO hl
 | agg cs xs hr ih=>exact ih
 | tuple cs xs hr ih=>exact ih
 | ptr b off id hl=>simp only [AV.aW,decide_eq_true_eq];exact aO hl
 | ah b off cs x hr hm ih=>simp only [AV.aW];exact Jx ih
 | map b id hl=>simp only [AV.aW,decide_eq_true_eq];exact aO hl
 | oC b id hl=>simp only [AV.aW,decide_eq_true_eq];exact aO hl
 | fn f fs cs xs ys h1 h2 i1 i2=>simp only [AV.aW,zB];exact ⟨i1,i2⟩
 | iface t v x h ih=>exact ih
 | cons v x vs xs h t i1 i2=>simp only [aj,zB];exact ⟨i1,i2⟩
 | nil=>rfl
 | _=>rfl
theorem aM.PJ:∀ {vs:List Value} {xs:List AV},aM M L vs xs→aj L.length xs=true
 | _,_,.nil=>rfl
 | _,_,.cons _ _ _ _ h t=>by simp only [aj,zB];exact ⟨h.PJ,t.PJ⟩
end
section
variable {A:Perm} {M:Mem} {L:List Nat} {w:World} {H:List aa} {ev:Nat→Value} {ea:Nat→AV} {O:Pos→Option Nat}
theorem St.pB (h:St A M L w H ev ea O) {id b:Nat} {st st':XB} {lc:jm} {es:List AV} {r':Loop} (bu:H[id]?=some (.loop st lc es)) (hL:L[id]?=some b)
 (hr:∀ r,w.heap[b]?=some (.loop r)→r'.params=r.params∧r'.assign=r.assign∧r'.body=r.body∧r'.tmps=r.tmps∧r'.defers=r.defers∧st'.ok r') :
 St A M L (w.putObj b (.loop r')) (H.set id (.loop st' lc es)) ev ea O∧Ext A M w M (w.putObj b (.loop r')):=by
 have zG:b∈L:=abJ hL
 have Uh:=h.lt b zG
 obtain ⟨r0,hc,p1,p2,p3,p4,p5⟩:=h.obj id _ b bu hL
 obtain ⟨q1,q2,q3,q4,q5,q6⟩:=hr r0 hc
 have gN:∀ k,k≠b→(w.putObj b (.loop r')).heap[k]?=w.heap[k]?:=fun k hk=>World.putObj_heap_other hk
 have og:(w.putObj b (.loop r')).heap[b]?=some (.loop r'):=World.putObj_heap_same Uh
 have XC:∀ o,M b o=none:=by
  intro o
  cases hm:M b o with
  | none=>rfl
  | some v=>
    have:=h.mem b o v hm
    simp [World.cell?,hc] at this
 have rA:id < H.length:=aO bu
 refine ⟨{ len:=by simp [h.len],nodup:=h.nodup,env:=h.env,mem:=?_,obj:=?_,bG:=?_,lt:=?_,iQ:=?_,iL:=?_,ct:=h.ct,cD:=h.cD,fQ:=?_,La:=h.La,Oa:=h.Oa,fresh:=?_ },?_⟩
 ·intro k o v hv
  have hk:k≠b:=by rintro rfl;rw [XC o] at hv;cases hv
  have:=h.mem k o v hv
  simp only [World.cell?] at this ⊢
  rw [gN k hk];exact this
 ·intro id' o k ho hk
  by_cases e0:id'=id
  ·subst e0
   rw [hL] at hk;cases hk
   rw [zD rA] at ho
   cases ho
   exact ⟨r',og,q1.trans p1,q2.trans p2,q3.trans p3,by rw [q4];exact p4,q6⟩
  ·rw [zC (fun h'=>e0 h'.symm)] at ho
   have FG:k≠b:=by
    rintro rfl
    exact e0 ((adb (aO hk) h.nodup).1 (hk.trans hL.symm))
   exact (h.obj id' o k ho hk).mono (Mem.bX M) (aaL _) (gN k FG) (fun _=>rfl)
 ·intro id' o ho
  rw [acI]
  by_cases e0:id'=id
  ·subst e0
   rw [zD rA] at ho
   cases ho
   exact h.bG id' (.loop st lc es) bu
  ·rw [zC (fun h'=>e0 h'.symm)] at ho
   exact h.bG id' o ho
 ·intro k hk;simpa using h.lt k hk
 ·intro t
  exact (h.iQ t).mono fun k hk=>⟨gN k (fun e3=>h.cD _ k hk (e3 ▸ zG)),fun _=>rfl⟩
 ·intro id' j
  by_cases e0:id'=id
  ·subst e0
   have hn:O (.c id' j)=none:=by
    have:=h.iL id' j
    simp only [bB,bu] at this
    exact this
   have e2:bB (H.set id' (.loop st' lc es)) id' j=.any:=by
    unfold bB
    rw [zD rA]
   rw [e2,hn];rfl
  ·have e1:bR L (w.putObj b (.loop r')) id' j=bR L w id' j:=by
    unfold bR
    split
    ·rename_i k hk
     have FG:k≠b:=by
      rintro rfl
      exact e0 ((adb (aO hk) h.nodup).1 (hk.trans hL.symm))
     simp only [World.cell?]
     rw [gN k FG]
    ·rfl
   have e2:bB (H.set id (.loop st' lc es)) id' j=bB H id' j:=by
    unfold bB
    rw [zC (fun h'=>e0 h'.symm)]
   rw [e1,e2]
   exact (h.iL id' j).mono fun k hk=>⟨gN k (fun e3=>h.cD _ k hk (e3 ▸ zG)),fun _=>rfl⟩
 ·intro p k hp;simpa using h.fQ p k hp
 ·intro k hk;simp at hk;exact h.fresh k hk
 ·exact ⟨Mem.bX M,by simp,rfl,rfl,rfl,fun k hk hA=>⟨gN k (fun e0=>hA (e0 ▸ h.La b zG)),fun _=>rfl⟩,fun k r hk=>by
   by_cases e0:k=b
   ·subst e0
    rw [hc] at hk;cases hk
    exact ⟨r',og,q5⟩
   ·exact ⟨r,(gN k e0).trans hk,rfl⟩⟩
def Perm.Yn (A:Perm) (D:Nat):Perm:=⟨fun b=>A b∧b≠D,A.top,A.ok,A.base⟩
def Perm.Le (A' A:Perm):Prop:=A'.top=A.top∧(∀ b,A' b→A b)∧A'.base=A.base
theorem Perm.Le.refl (A:Perm):A.Le A:=⟨rfl,fun _ h=>h,rfl⟩
theorem Perm.Le.trans {A B C:Perm} (h:A.Le B) (k:B.Le C):A.Le C:=⟨h.1.trans k.1,fun b hb=>k.2.1 b (h.2.1 b hb),h.2.2.trans k.2.2⟩
theorem Perm.BA (A:Perm) (D:Nat):(A.Yn D).Le A:=⟨rfl,fun _ h=>h.1,rfl⟩
theorem Perm.Le.kh {A' A:Perm} (h:A'.Le A) (len id:Nat):A'.kh len id=A.kh len id:=by unfold Perm.kh;rw [h.1]
theorem Ext.le {A':Perm} {M':Mem} {w':World} (h:Ext A' M w M' w') (hl:A'.Le A):Ext A M w M' w':=
 ⟨h.lZ,h.size,h.os,h.tape,h.output,fun b hb hA=>h.lF b hb fun h'=>hA (hl.2.1 b h'),h.loops⟩
theorem St.le {A':Perm} (h:St A' M L w H ev ea O) (hl:A'.Le A):St A M L w H ev ea O:=
 { h with bG:=fun id o ho=>by rw [← hl.kh];exact h.bG id o ho,La:=fun b hb=>hl.2.1 b (h.La b hb),Oa:=fun p b hp=>hl.2.1 b (h.Oa p b hp),fresh:=fun b hb=>hl.2.1 b (h.fresh b hb) }
theorem St.Yn (h:St A M L w H ev ea O) {D:Nat} (h1:D∉L) (h2:∀ p,O p≠some D) (h3:D < w.heap.size):St (A.Yn D) M L w H ev ea O:=
 { h with
   bG:=fun id o ho=>by rw [(A.BA D).kh];exact h.bG id o ho
   La:=fun b hb=>⟨h.La b hb,fun e=>h1 (e ▸ hb)⟩
   Oa:=fun p b hp=>⟨h.Oa p b hp,fun e=>h2 p (e ▸ hp)⟩
   fresh:=fun b hb=>⟨h.fresh b hb,fun e=>by omega⟩ }
theorem SW.le {A':Perm} {ds:List Deferred} (h:SW A w ds) (hl:A'.Le A):SW A' w ds:=⟨by rw [hl.2.2];exact h.1,h.2.1,fun d hd=>by
 obtain ⟨D,h1,h2,h3,h4⟩:=h.2.2 d hd
 exact ⟨D,h1,h2,fun h'=>h3 (hl.2.1 D h'),by rw [hl.2.2];exact h4⟩⟩
end
end Go.aK
end
section
namespace Go.aK
open Go
structure bE where
 g:Option (Nat×Bool)
 dst:Option Nat
 op:cq
 deriving Inhabited
inductive DT where
 | done
 | take (st:Bool) (o:bE) (r:DT)
 | br (o:bE) (t rest:DT)
 | nil
 deriving Inhabited
def inst (il:List bE):yL→DT
 | .done=>.done
 | .take i st r=>.take st (il.getD i default) (inst il r)
 | .br i t rest=>.br (il.getD i default) (inst il t) (inst il rest)
 | .nil=>.nil
inductive IR where
 | skip
 | region (ops:List bE) (live:Option (List Nat))
 | draw (t:DT) (live:Option (List Nat))
 | seq (a b:IR)
 | cond (x:IX) (a b:IR)
 | block (id:Nat) (a:IR)
 | loop (a:IR)
 | exit (id:Nat)
 | ret
 | never
 | jL (f:IX) (lc:jm)
 deriving Inhabited
def eX (live:Option (List Nat)) (env:Env):Env:=
 match live with
 | none=>env
 | some l=>l.map fun t=>(t,get env t)
def ja (env:Env) (g:Nat) (want:Bool) (yes no:Env→Prop):Prop:=
 match get env g with
 | .bool b=>(b=want→yes ((g,.bool want)::env))∧(b=(!want)→no ((g,.bool (!want))::env))
 | .tuple []=>no env
 | _=>False
def tu (P:Px) (o:bE) (env:Env) (H:List aa) (K:Env→List aa→Prop):Prop:=
 match o.g with
 | none=>bC P o.op o.dst env H K
 | some (g,want)=>ja env g want (fun env=>bC P o.op o.dst env H K) (fun env=>K (put o.dst (.tuple []) env) H)
def kc (P:Px):List bE→Env→List aa→(Env→List aa→Prop)→Prop
 | [],env,H,K=>K env H
 | o::r,env,H,K=>tu P o env H fun env H=>kc P r env H K
def dh (P:Px) (o:cq) (ρ:IX→AV) (H:List aa) (x:AV):Prop:=
 match o with
 | .set i false=>(ρ i).ab=x
 | .pick c a b=>fC (ρ c) fun q=>(q=true→(ρ a).ab=x)∧(q=false→(ρ b).ab=x)
 | .bin op i j=>dk op (ρ i) (ρ j) fun z=>z=x
 | .shift op i j=>ey op (ρ i) (ρ j) fun z=>z=x
 | .iX neq i j=>dd neq (ρ i) (ρ j) fun z=>z=x
 | .jW kd neq i=>dw kd neq (ρ i) fun z=>z=x
 | .un op i=>Bh op (ρ i) fun z=>z=x
 | .mR i=>(ρ i).val=true∧.ah (ρ i)=x
 | .build z ps=>cE z.cells (ps.map fun q=>(q.1,q.2.1,ρ q.2.2)) fun v=>v=x
 | .buildSlice own esz z len ps=>bm (List.replicate len (aR z)) esz (ps.map fun q=>(q.1,ρ q.2)) fun xs=>.ak own xs=x
 | .load sz i=>aU sz (ρ i) H fun z=>z=x
 | .nilCheck i=>b9 (ρ i) fun z=>z=x
 | .fieldAddr off sz i=>al off sz (ρ i) fun z=>z=x
 | .field off sz i=>fD off sz (ρ i) fun z=>z=x
 | .indexAddr esz i j=>(∀ own xs,ρ i=.ak own xs→∀ z∈xs,z.cells.length=esz)∧aA esz (ρ i) (ρ j) fun z=>z=x
 | .dn i j=>bO (ρ i) (ρ j) fun z=>z=x
 | .eh n i j=>b8 n (ρ i) (ρ j) fun z=>z=x
 | .slice esz i lo hi mx=>bo esz (ρ i) (lo.map ρ) (hi.map ρ) (mx.map ρ) fun z=>z=x
 | .ej i lo hi=>cu (ρ i) (lo.map ρ) (hi.map ρ) fun z=>z=x
 | .len kd i=>aN kd (ρ i)∧fT (ρ i) H fun z=>z=x
 | .lookup kd z m k ok=>cB kd z (ρ m) (ρ k) ok H fun v=>v=x
 | .fn f first cap=>.fn f (first.map fun x=>(ρ x).ab) (cap.map fun x=>(ρ x).ab)=x
 | .extract i k=>bH (ρ i) k fun z=>z=x
 | .call f args none=>match ρ f with
   | .fn (.func g) first cap=>∃ bY,yX (first.map AV.ab++(args.map fun x=>(ρ x).ab)++cap.map AV.ab) bY∧aw P.prog g bY H (fun r H'=>r=x∧H'=H)
   | _=>False
 | .fq k i=>cJ k (ρ i) fun z=>z=x
 | .iq i=>gv (ρ i) fun z=>z=x
 | .bytesOf i=>fH 1 (ρ i) fun z=>z=x
 | .oF esz bytes i=>jJ esz bytes (ρ i) fun z=>z=x
 | .strOf i=>kA (ρ i) fun z=>z=x
 | .mx big i j=>yM big (ρ i) (ρ j) fun z=>z=x
 | _=>False
def dv (P:Px) (st:Bool) (o:cq) (ρ:IX→AV) (H:List aa) (x:AV):Prop:=
 match st with
 | true=>dh P o ρ H x
 | false=>∀ H',dh P o ρ H' x
def uK (P:Px) (st:Bool) (o:bE) (env:Env) (H:List aa) (K:Env→Prop):Prop:=
 match o.g with
 | none=>∃ x,dv P st o.op (ap env) H x∧K (put o.dst x env)
 | some (g,want)=>ja env g want (fun _=>∃ x,dv P st o.op (ap env) H x∧K (put o.dst x env)) (fun _=>K (put o.dst (.tuple []) env))
def vR (P:Px):DT→Env→List aa→(Env→List aa→Prop)→Prop
 | .done,env,H,K=>K env H
 | .take st o r,env,H,K=>uK P st o env H fun env=>vR P r env H K
 | .br o t rest,env,H,K=>tu P o env H (fun env H=>vR P t env H K)∧vR P rest env H K
 | .nil,_,_,_=>True
def sle (n0:Nat) (env:Env) (H:List aa) (aI:Env) (H':List aa):Prop:=
 (∀ t,(get env t).le (get aI t))∧(H'=H∨∃ m,n0≤m∧H'=H.take m∧∀ t,(get aI t).aW m=true)
def Jy (n0:Nat) (env:Env) (H:List aa) (aI:Env) (H':List aa):Prop:=
 (∀ t,(get env t).le (get aI t))∧(H'=H∨∃ m,n0≤m∧H'=H.take m∧(∀ id o,n0≤id→id < m→H[id]?=some o→o.aW m=true)∧∀ t,(get aI t).aW m=true)
def Jz (lo:Option Nat) (n0:Nat) (env:Env) (H:List aa) (aI:Env) (H':List aa):Prop:=
 match lo with
 | none=>sle n0 env H aI H'
 | some _=>Jy n0 env H aI H'
def lN (n:Nat) (env:Env):List AV:=(List.range n).map fun t=>(get env t).ab
def behind (id:Nat) (H':List aa) (K:Option Code→List aa→Prop):Prop:=
 match H'[id]? with
 | some (.loop .ready lc es)=>K none (H'.set id (.loop .fe lc es))
 | some (.loop (.jump c) lc es)=>K (some c) (H'.set id (.loop .fe lc es))
 | _=>False
def qG (j:Option Code) (Q:Exit→Env→List aa→Prop) (env:Env) (H:List aa):Prop:=
 match j with
 | none=>Q .normal env H
 | some .ret=>Q .ret env H
 | some (.exit id)=>Q (.exit id) env H
 | _=>False
def n7 (P:Px) (n0:Nat):IR→Env→List aa→(Exit→Env→List aa→Prop)→Prop
 | .skip,env,H,Q=>Q .normal env H
 | .region ops live,env,H,Q=>kc P ops env H fun aI H'=>Q .normal (eX live aI) H'
 | .draw t live,env,H,Q=>vR P t env H fun aI H'=>Q .normal (eX live aI) H'
 | .seq a b,env,H,Q=>n7 P n0 a env H fun e aI H'=>match e with
   | .normal=>n7 P n0 b aI H' Q
   | e=>Q e aI H'
 | .cond x a b,env,H,Q=>fC (ap env x) fun q=>(q=true→n7 P n0 a env H Q)∧(q=false→n7 P n0 b env H Q)
 | .block id a,env,H,Q=>n7 P n0 a env H fun e aI H'=>match e with
   | .exit id'=>if id'=id then Q .normal aI H' else Q (.exit id') aI H'
   | e=>Q e aI H'
 | .loop a,env,H,Q=>∃ (ι:Type) (I:ι→Prop) (se:ι→Env) (sh:ι→List aa) (μ:ι→Nat),(∃ i,I i∧Jz P.lo n0 env H (se i) (sh i))∧
    ∀ i,I i→n7 P n0 a (se i) (sh i) fun e aI H'=>match e with
     | .normal=>∃ j,I j∧μ j < μ i∧Jz P.lo n0 aI H' (se j) (sh j)
     | e=>Q e aI H'
 | .exit id,env,H,Q=>Q (.exit id) env H
 | .ret,env,H,Q=>Q .ret env H
 | .never,env,H,Q=>False
 | .jL f lc,env,H,Q=>match ap env f with
   | .fn (.func g) first cap=>(∀ (as:Array Value) (w:World),(callFunc g as).run P.prog w=.ok (.enter g as) w)∧
     ∃ bY,yX (first.map AV.ab++[.oC H.length]++cap.map AV.ab) bY∧eC P g bY (H++[.loop .ready lc (lN lc.n env)]) fun _ H'=>behind H.length H' fun j H''=>qG j Q env H''
   | _=>False
def C9.at_ (an:C9) (r i:Nat):Nat:=match an.find? fun x=>x.1 == r && x.2.1 == i with | some x=>x.2.2 | none=>0
def nW.at_ (lv:nW) (r:Nat):Option (List Nat):=(lv.find? fun x=>x.1 == r).map (·.2)
def H8 (n:Nat) (o:Oper):Bool:=(match o.dst with | some d=>d < n | none=>true) && (match o.op with | .store .. | .mapUpdate ..=>o.dst.isNone | _=>true)
def H9 (ops:Array Oper) (o:Oper):Option (Option (Nat×Bool)):=
 match o.guard with
 | none=>some none
 | some (j,want)=>match (ops[j]?).bind (·.dst) with
   | some g=>some (some (g,want))
   | none=>none
def Ia (i:IX) (d:Nat):Bool:=match i with | .t s=>decide (s≠d) | _=>true
def Ut (P:Program) (ops:Array Oper) (n:Nat) (fl:Nat) (o o':Oper):Option bE:=
 match fl,o.op,o.dst,o.guard,o'.op,o'.dst,o'.guard with
 | 2,.alloc e,some d,none,.store t (.tmp d') x,none,none=>
   if d=d'∧d < n∧t=e then (match aV x,dU P t,gr P e with
    | some i,some m,some z=>if Ia i d=true∧z.cells.length=m∧z.val=true∧m≠0 then some ⟨none,some d,.s7 m i⟩ else none
    | _,_,_=>none) else none
 | _,_,_,_,_,_,_=>none
def fw (P:Program) (ops:Array Oper) (an:C9) (n rid:Nat) (fu:Bool):Nat→Nat→List Oper→Option (List bE)
 | _,_,[]=>some []
 | 0,_,_=>none
 | fuel + 1,k,o::r=>
   if an.at_ rid k=1000∧fu=true then
    match r with
    | o'::r'=>match Ut P ops n 2 o o',fw P ops an n rid fu fuel (k + 2) r' with
      | some x,some xs=>some (x::xs)
      | _,_=>none
    | []=>none
   else
    match H9 ops o,fw P ops an n rid fu fuel (k + 1) r with
    | some g,some xs=>if H8 n o=true then some (⟨g,o.dst,Dx P o (an.at_ rid k)⟩::xs) else none
    | _,_=>none
def cq.all:cq→List IX
 | .set i _=>[i]
 | .pick c a b=>[c,a,b]
 | .bin _ i j | .shift _ i j | .iX _ i j | .indexAddr _ i j | .dn i j | .eh _ i j | .lookup _ _ i j _ | .mx _ i j | .store _ i j | .oE _ i j | .append _ _ i j | .jZ _ _ _ i j | .copy _ i j=>[i,j]
 | .oH _ _ i | .Bf _ i | .jW _ _ i | .un _ i | .box i | .mR i | .s7 _ i | .load _ i | .uw _ _ i | .eU i | .nilCheck i | .fieldAddr _ _ i | .field _ _ i | .len _ i | .ux _ _ _ i | .oF _ _ i | .extract i _ | .fq _ i | .iq i | .bytesOf i | .strOf i=>[i]
 | .fS i s=>[i,.t s]
 | .lG _ i j k=>[i,j,k]
 | .build _ ps=>ps.map fun q=>q.2.2
 | .buildSlice _ _ _ _ ps | .Dc _ _ _ ps=>ps.map fun q=>q.2
 | .slice _ i lo hi m | .qB _ i lo hi m=>i::(lo.toList++hi.toList++m.toList)
 | .ej i lo hi=>i::(lo.toList++hi.toList)
 | .fn _ first cap=>first++cap
 | .call f args _=>f::args
 | .alloc _ | .oG | .never=>[]
def IX.S1:List IX→List Nat:=fun l=>l.filterMap fun i=>match i with | .t s=>some s | .c _=>none
def cq.kill:cq→List Nat
 | .set (.t s) true=>[s]
 | .fS _ s=>[s]
 | .append _ _ (.t s) _=>[s]
 | .call _ args pass=>(match pass with | some j=>(match args[j]? with | some (.t s)=>[s] | _=>[]) | none=>[])
 | _=>[]
def cq.Uu:cq→Bool
 | .box _ | .alloc _ | .eU _ | .store .. | .oE .. | .uw .. | .fS .. | .ux .. | .oG | .lG .. | .call .. | .copy .. | .Bf .. | .Dc .. | .jZ .. | .oH .. | .never=>true
 | _=>false
def bE.lk (o:bE):List Nat:=IX.S1 o.op.all++(match o.g with | some (g,_)=>[g] | none=>[])
def cq.XI (o:cq) (pure:Bool):Bool:=
 match o with
 | .set _ take=>!take
 | .call _ _ none=>pure
 | .never | .call .. | .append ..=>false
 | .s7 ..=>false
 | o=>!o.Uu
def cq.zV:cq→Bool
 | .box _ | .alloc _ | .oG=>true
 | _=>false
def cq.stays:cq→Bool
 | .call ..=>false
 | _=>true
def tv (st:Bool) (oi oj:bE):Bool:=
 (match oi.dst with | some d=>!oj.lk.contains d && oj.dst != some d && !oj.op.kill.contains d | none=>true) &&
 (match oj.dst with | some d=>!oi.lk.contains d | none=>true) &&
 oj.op.kill.all (fun s=>!oi.lk.contains s) && (!st || !oj.op.Uu || (oj.op.zV && oi.op.stays))
def dD (ops:Array Oper):Nat→Nat→Nat→Bool
 | 0,_,_=>false
 | f + 1,j,i=>match ops[j]? with
   | some o=>o.after.any fun e=>Region.binds .any e && (e.on == i || dD ops f e.on i)
   | none=>false
def oP (ops:Array Oper) (il:List bE) (listed:Array Bool) (i:Nat) (st:Bool):Bool:=
 (List.range ops.size).all fun j=>j == i || listed.getD j true || dD ops ops.size j i || tv st (il.getD i default) (il.getD j default)
def vF (ops:Array Oper) (il:List bE):Nat→Array Bool→Option (List Nat)→yL→Bool
 | _,listed,none,.done=>(Region.ready .any ops listed).isEmpty
 | f + 1,listed,none,.take i st r=>(Region.ready .any ops listed).contains i && (il.getD i default).op.XI true && oP ops il listed i st && vF ops il f (listed.setIfInBounds i true) none r
 | f + 1,listed,none,.br i t rest=>(match Region.ready .any ops listed with | k::ks=>k == i && vF ops il f (listed.setIfInBounds i true) none t && vF ops il (f + 1) listed (some ks) rest | []=>false)
 | f + 1,listed,some (k::ks),.br i t rest=>k == i && vF ops il f (listed.setIfInBounds i true) none t && vF ops il (f + 1) listed (some ks) rest
 | _,_,some [],.nil=>true
 | _,_,_,_=>false
def kF:List Edge→Nat
 | []=>0
 | e::r=>if Region.binds .any e=true then (1 <<< e.on) ||| kF r else kF r
def iA (rs:List Nat):List Edge→Nat
 | []=>0
 | e::r=>if Region.binds .any e=true∧e.on < rs.length then ((1 <<< e.on) ||| rs.getD e.on 0) ||| iA rs r else iA rs r
def fI:List Oper→List Nat→List Nat
 | [],acc=>acc
 | o::r,acc=>fI r (acc++[iA acc o.after.toList])
def mZ (m:Nat):Nat→List Nat→List Nat
 | _,[]=>[]
 | i,a::r=>if m.testBit i=false∧a &&& m=a then i::mZ m (i + 1) r else mZ m (i + 1) r
def DB (m i:Nat) (st:Bool) (oi:bE):Nat→List Nat→List bE→Bool
 | j,r::rs,o::os=>(j == i || m.testBit j || r.testBit i || tv st oi o) && DB m i st oi (j + 1) rs os
 | _,_,[]=>true
 | _,[],_::_=>false
def mf (am rm:List Nat) (il:List bE):Nat→Nat→Option (List Nat)→yL→Bool
 | _,m,none,.done=>(mZ m 0 am).isEmpty
 | f + 1,m,none,.take i st r=>(mZ m 0 am).contains i && (il.getD i default).op.XI true && DB m i st (il.getD i default) 0 rm il && mf am rm il f (m ||| (1 <<< i)) none r
 | f + 1,m,none,.br i t rest=>(match mZ m 0 am with | k::ks=>k == i && mf am rm il f (m ||| (1 <<< i)) none t && mf am rm il (f + 1) m (some ks) rest | []=>false)
 | f + 1,m,some (k::ks),.br i t rest=>k == i && mf am rm il f (m ||| (1 <<< i)) none t && mf am rm il (f + 1) m (some ks) rest
 | _,_,some [],.nil=>true
 | _,_,_,_=>false
def nX.at_ (pl:nX) (r:Nat):yL:=match pl.find? fun x=>x.1 == r with | some x=>x.2 | none=>.done
def comp (P:Program) (an:C9) (lv:nW) (pl:nX) (n:Nat):Code→Option IR
 | .skip=>some .skip
 | .region id ops false=>(fw P ops an n id true (ops.size + 1) 0 ops.toList).map fun l=>.region l (lv.at_ id)
 | .region id ops true=>match fw P ops an n id false (ops.size + 1) 0 ops.toList with
   | some il=>if P.follows .mixedOrders=true∧mf (ops.toList.map fun o=>kF o.after.toList) (fI ops.toList []) il ops.size 0 none (pl.at_ id)=true then some (.draw (inst il (pl.at_ id)) (lv.at_ id)) else none
   | none=>none
 | .seq a b=>match comp P an lv pl n a,comp P an lv pl n b with
   | some x,some y=>some (.seq x y)
   | _,_=>none
 | .cond c a b=>match aV c,comp P an lv pl n a,comp P an lv pl n b with
   | some i,some x,some y=>some (.cond i x y)
   | _,_,_=>none
 | .block id a=>(comp P an lv pl n a).map (.block id)
 | .loop a=>(comp P an lv pl n a).map .loop
 | .exit id=>some (.exit id)
 | .ret=>some .ret
 | .rangeFunc f ps as bd=>(aV f).map fun i=>.jL i ⟨n,ps.toList,as,bd,an,lv,pl⟩
 | _=>some .never
theorem jM (n k:Nat):(1 <<< n).testBit k=decide (n=k):=by
 rw [Nat.shiftLeft_eq,Nat.one_mul,Nat.testBit_two_pow]
theorem Gi (m:Nat):∀ (es:List Edge),(kF es &&& m=kF es)↔∀ e∈es,Region.binds .any e=true→m.testBit e.on=true:=by
 have key:∀ a:Nat,(a &&& m=a)↔∀ i,a.testBit i=true→m.testBit i=true:=by
  intro a
  constructor
  ·intro h i hi
   rw [← h] at hi
   simp only [Nat.testBit_and,zB] at hi
   exact hi.2
  ·intro h
   apply Nat.eq_of_testBit_eq
   intro i
   rw [Nat.testBit_and]
   cases ha:a.testBit i with
   | false=>simp
   | true=>simp [h i ha]
 intro es
 rw [key]
 induction es with
 | nil=>simp [kF]
 | cons e r ih=>
   simp only [kF]
   split
   ·rename_i hb
    constructor
    ·intro h e' FK dZ
     rcases OU.1 FK with rfl | FK
     ·exact h _ (by simp [])
     ·exact ih.1 (fun i hi=>h i (by simp [hi])) e' FK dZ
    ·intro h i hi
     simp only [Nat.testBit_or,acY,jM,decide_eq_true_eq] at hi
     rcases hi with rfl | hi
     ·exact h e (by simp) hb
     ·exact ih.2 (fun e' FK dZ=>h e' (aa6 _ FK) dZ) i hi
   ·rename_i hb
    constructor
    ·intro h e' FK dZ
     rcases OU.1 FK with rfl | FK
     ·exact absurd dZ hb
     ·exact ih.1 h e' FK dZ
    ·intro h
     exact ih.2 (fun e' FK dZ=>h e' (aa6 _ FK) dZ)
theorem m8 {rs:List Nat} {i:Nat}:∀ {es:List Edge},(iA rs es).testBit i=true→∃ e∈es,Region.binds .any e=true∧e.on < rs.length∧(e.on=i∨(rs.getD e.on 0).testBit i=true)
 | [],h=>by simp [iA] at h
 | e::r,h=>by
   simp only [iA] at h
   split at h
   ·rename_i hb
    simp only [Nat.testBit_or,acY,jM,decide_eq_true_eq] at h
    rcases h with h | h
    ·exact ⟨e,by simp,hb.1,hb.2,h⟩
    ·obtain ⟨e',FK,h'⟩:=m8 h
     exact ⟨e',aa6 _ FK,h'⟩
   ·obtain ⟨e',FK,h'⟩:=m8 h
    exact ⟨e',aa6 _ FK,h'⟩
theorem w6:∀ (l:List Oper) (acc:List Nat),∃ r,fI l acc=acc++r∧r.length=l.length
 | [],acc=>⟨[],by simp [fI],rfl⟩
 | o::l,acc=>by
   obtain ⟨r,h1,h2⟩:=w6 l (acc++[iA acc o.after.toList])
   exact ⟨iA acc o.after.toList::r,by simp [fI,h1],by simp [h2]⟩
theorem w7:∀ (l:List Oper) (acc:List Nat) (j:Nat) (o:Oper),l[j]?=some o→(fI l acc)[acc.length + j]?=some (iA ((fI l acc).take (acc.length + j)) o.after.toList)
 | [],acc,j,o,h=>by simp at h
 | x::l,acc,0,o,h=>by
   simp at h
   subst h
   simp only [fI]
   obtain ⟨r,h1,h2⟩:=w6 l (acc++[iA acc x.after.toList])
   rw [h1]
   simp
 | x::l,acc,j + 1,o,h=>by
   have ih:=w7 l (acc++[iA acc x.after.toList]) j o (by simpa using h)
   simp only [fI]
   simp only [aaz,List.length_cons,List.length_nil] at ih
   rw [show acc.length + (j + 1)=acc.length + (0 + 1) + j by omega]
   exact ih
theorem Gj {ops:Array Oper} {i:Nat}:∀ (j f:Nat),j < f→j < ops.size→((fI ops.toList []).getD j 0).testBit i=true→dD ops f j i=true:=by
 intro j
 induction j using Nat.strongRecOn with
 | _ j ih=>
   intro f hf hj h
   have Uv:ops[j]?=some ops[j]:=by simp [hj]
   have hg:=w7 ops.toList [] j ops[j] (by simp [hj])
   simp only [List.length_nil,acC] at hg
   rw [sT,hg,Option.getD_some] at h
   obtain ⟨e,he,hb,aG,X9⟩:=m8 h
   have mg:e.on < j:=by simp at aG;omega
   cases f with
   | zero=>omega
   | succ f=>
     simp only [dD,Uv]
     rw [Array.any_eq_true']
     refine ⟨e,by simpa using he,?_⟩
     simp only [zB,acY,beq_iff_eq]
     refine ⟨hb,?_⟩
     rcases X9 with h1 | h1
     ·exact .inl h1
     ·refine .inr (ih e.on mg f (by omega) (by omega) ?_)
      have:((fI ops.toList []).take j).getD e.on 0=(fI ops.toList []).getD e.on 0:=by
       simp [sT,mg]
      rw [this] at h1
      exact h1
def bitsOf (n:Nat) (listed:Array Bool) (m:Nat):Prop:=listed.size=n∧∀ k,m.testBit k=listed.getD k false
theorem w8 {n:Nat} {listed:Array Bool} {m i:Nat} (h:bitsOf n listed m) (hi:i < n):bitsOf n (listed.setIfInBounds i true) (m ||| (1 <<< i)):=by
 obtain ⟨h1,h2⟩:=h
 refine ⟨by simp [h1],fun k=>?_⟩
 rw [Nat.testBit_or,h2 k,jM]
 simp only [acw,adn]
 by_cases hk:i=k
 ·subst hk
  simp [h1,hi]
 ·simp [hk]
theorem w9 {ops:Array Oper} {listed:Array Bool} {m:Nat} (hb:bitsOf ops.size listed m):∀ (l:List Oper) (i:Nat),(∀ j,l[j]?=ops[i + j]?)→
 mZ m i (l.map fun o=>kF o.after.toList)=(List.range' i l.length).filter fun i=>!listed.getD i true && ((ops[i]?).map (·.after.all fun e=>!Region.binds .any e || listed.getD e.on false)).getD false
 | [],i,_=>by simp [mZ]
 | o::l,i,h=>by
   have h0:ops[i]?=some o:=by simpa using (h 0).symm
   have hi:i < ops.size:=(acF.1 h0).1
   have ih:=w9 hb l (i + 1) (fun j=>by have:=h (j + 1);simpa [adf,afM 1 j] using this)
   simp only [List.map_cons,mZ,List.length_cons,List.range'_succ,List.filter_cons]
   have e1:(m.testBit i=false)↔(listed.getD i true=false):=by
    rw [hb.2 i]
    have:i < listed.size:=by rw [hb.1];exact hi
    simp [Array.getD,this]
   have e2:(kF o.after.toList &&& m=kF o.after.toList)↔(o.after.all fun e=>!Region.binds .any e || listed.getD e.on false)=true:=by
    rw [Gi,Array.all_eq_true']
    simp only [Array.mem_toList_iff,acY,abp,hb.2]
    constructor
    ·intro h e he
     cases hbe:Region.binds .any e with
     | false=>exact .inl rfl
     | true=>exact .inr (h e he hbe)
    ·intro h e he hbe
     rcases h e he with h | h
     ·rw [hbe] at h;cases h
     ·exact h
   by_cases hc:m.testBit i=false∧kF o.after.toList &&& m=kF o.after.toList
   ·rw [if_pos hc,if_pos (by rw [h0];simp only [Option.map_some,Option.getD_some,e1.1 hc.1,e2.1 hc.2,Bool.not_false,ac0]),ih]
   ·rw [if_neg hc,if_neg (by
     rw [h0]
     simp only [Option.map_some,Option.getD_some,zB,abp]
     intro h'
     exact hc ⟨e1.2 h'.1,e2.2 h'.2⟩),ih]
theorem tw {ops:Array Oper} {listed:Array Bool} {m:Nat} (hb:bitsOf ops.size listed m):mZ m 0 (ops.toList.map fun o=>kF o.after.toList)=Region.ready .any ops listed:=by
 rw [w9 hb ops.toList 0 (by simp)]
 unfold Region.ready
 simp [List.range_eq_range']
theorem xa {ops:Array Oper} {il:List bE} {listed:Array Bool} {m i:Nat} {st:Bool} {oi:bE} (hb:bitsOf ops.size listed m):∀ (rs:List Nat) (os:List bE) (j:Nat),(∀ k,os[k]?=il[j + k]?)→(∀ k,rs[k]?=(fI ops.toList [])[j + k]?)→DB m i st oi j rs os=true→
 ∀ k,j≤k→k < ops.size→k < il.length→(k == i || listed.getD k true || dD ops ops.size k i || tv st oi (il.getD k default))=true
 | rs,[],j,h1,_,_,k,S0,_,hk=>by
   have:=h1 (k - j)
   rw [show j + (k - j)=k by omega] at this
   simp at this
   omega
 | [],o::os,j,h1,h2,h,_,_,_,_=>by simp [DB] at h
 | r::rs,o::os,j,h1,h2,h,k,S0,Ga,Dy=>by
   simp only [DB,zB] at h
   by_cases hk:k=j
   ·subst hk
    have ho:il.getD k default=o:=by
     have:=h1 0
     simp at this
     rw [sT,← this];rfl
    have hr:(fI ops.toList []).getD k 0=r:=by
     have:=h2 0
     simp at this
     rw [sT,← this];rfl
    have h:=h.1
    simp only [acY] at h ⊢
    rcases h with ((h | h) | h) | h
    ·exact .inl (.inl (.inl h))
    ·refine .inl (.inl (.inr ?_))
     rw [hb.2 k] at h
     have:k < listed.size:=by rw [hb.1];exact Ga
     simpa [Array.getD,this] using h
    ·exact .inl (.inr (Gj k _ Ga Ga (by rw [hr];exact h)))
    ·rw [ho];exact .inr h
   ·exact xa hb rs os (j + 1) (fun q=>by have:=h1 (q + 1);simpa [adf,afM 1 q] using this) (fun q=>by have:=h2 (q + 1);simpa [adf,afM 1 q] using this) h.2 k (by omega) Ga Dy
theorem rK {ops:Array Oper} {listed:Array Bool} {i:Nat} (h:i∈Region.ready .any ops listed):i < ops.size:=by
 unfold Region.ready at h
 simp at h
 exact h.1
theorem LL {ops:Array Oper} {il:List bE} (dm:il.length=ops.size):∀ (p:yL) (f m:Nat) (listed:Array Bool) (rem:Option (List Nat)),bitsOf ops.size listed m→(∀ ks,rem=some ks→∀ k∈ks,k < ops.size)→
 mf (ops.toList.map fun o=>kF o.after.toList) (fI ops.toList []) il f m rem p=true→vF ops il f listed rem p=true:=by
 intro p
 induction p with
 | done=>
   intro f m listed rem hb _ h
   cases rem with
   | none=>cases f <;> (simp only [mf,tw hb] at h;simpa [vF] using h)
   | some ks=>cases ks <;> cases f <;> simp [mf] at h
 | nil=>
   intro f m listed rem hb _ h
   cases rem with
   | none=>cases f <;> simp [mf] at h
   | some ks=>cases ks <;> cases f <;> simp [mf] at h <;> simp [vF]
 | take i st r ih=>
   intro f m listed rem hb _ h
   cases rem with
   | some ks=>cases ks <;> cases f <;> simp [mf] at h
   | none=>
     cases f with
     | zero=>simp [mf] at h
     | succ f=>
       simp only [mf,tw hb,zB] at h
       obtain ⟨⟨⟨h1,h2⟩,h3⟩,h4⟩:=h
       have hi:i < ops.size:=rK (by simpa using h1)
       simp only [vF,zB]
       refine ⟨⟨⟨h1,h2⟩,?_⟩,ih _ _ _ _ (w8 hb hi) (by simp) h4⟩
       unfold oP
       refine abo.2 fun k hk=>?_
       have Uf:k < ops.size:=acz.1 hk
       exact xa hb (fI ops.toList []) il 0 (fun k=>by rw [acC]) (fun k=>by rw [acC]) h3 k (ac4 _) Uf (by omega)
 | br i t rest LM FL=>
   intro f m listed rem hb adA h
   cases f with
   | zero=>cases rem with
     | none=>simp [mf] at h
     | some ks=>cases ks <;> simp [mf] at h
   | succ f=>
     cases rem with
     | none=>
       simp only [mf,tw hb] at h
       simp only [vF]
       split at h
       ·rename_i k ks hr
        simp only [zB,beq_iff_eq] at h
        obtain ⟨⟨rfl,h1⟩,h2⟩:=h
        have hk:∀ q∈k::ks,q < ops.size:=fun q hq=>rK (by rw [hr];exact hq)
        simp only [zB,beq_iff_eq,true_and]
        exact ⟨LM _ _ _ _ (w8 hb (hk k (by simp))) (by simp) h1,FL _ _ _ _ hb (fun ks' e q hq=>by cases e;exact hk q (by simp [hq])) h2⟩
       ·cases h
     | some ks=>
       cases ks with
       | nil=>simp [mf] at h
       | cons k ks=>
         simp only [mf,zB,beq_iff_eq] at h
         obtain ⟨⟨rfl,h1⟩,h2⟩:=h
         have hk:=adA _ rfl
         simp only [vF,zB,beq_iff_eq,true_and]
         exact ⟨LM _ _ _ _ (w8 hb (hk k (by simp))) (by simp) h1,FL _ _ _ _ hb (fun ks' e q hq=>by cases e;exact hk q (by simp [hq])) h2⟩
theorem JA (n:Nat):bitsOf n (Array.replicate n false) 0:=⟨by simp,fun k=>by
 simp only [Nat.zero_testBit,acw,afZ]
 split <;> rfl⟩
section
variable {ro:Option Nat} {P:Program} {lo:Option Nat} {A:Perm} {n:Nat} {M:Mem} {L:List Nat} {w:World} {H:List aa} {env:Env} {O:Pos→Option Nat} {a:Act} {ev:Nat→Value} {ea:Nat→AV}
def Gk (A:Perm) (n:Nat) (M0:Mem) (L0:List Nat) (w0:World) (Q:Exit→Env→List aa→Prop) (e:Exit) (a:Act) (w:World):Prop:=
 ∃ A' M L H env O,A'.Le A∧Q e env H∧Fr A' n M L w H env O a∧Ext A M0 w0 M w∧L0 <+: L
theorem Fr.Gl (h:Fr A n M L w H env O a) {aI:Env} (he:get aI=get env):Fr A n M L w H aI O a:=⟨by rw [he];exact h.st,h.size,h.defers⟩
theorem Fr.weaken (h:Fr A n M L w H env O a) {aI:Env} (hl:∀ t,(get env t).le (get aI t)):∃ O',Fr A n M L w H aI O' a:=by
 obtain ⟨O',h'⟩:=h.st.weaken hl
 exact ⟨O',h',h.size,h.defers⟩
theorem le_refl (x:AV):x.le x:=.inl rfl
theorem Uw (x:AV):x.le .any:=.inr (.inl rfl)
theorem zW (live:Option (List Nat)) (env:Env) (t:Nat):(get env t).le (get (eX live env) t):=by
 cases live with
 | none=>exact le_refl _
 | some l=>
   simp only [eX]
   induction l with
   | nil=>exact Uw _
   | cons s l ih=>
     simp only [List.map_cons,get]
     split
     ·rename_i e;subst e;exact le_refl _
     ·exact ih
theorem get_mem {env:Env} {t:Nat} {x:AV} (h:get env t=x):x=.any∨(t,x)∈env:=by
 induction env with
 | nil=>left;exact h.symm
 | cons p r ih=>
   obtain ⟨k,v⟩:=p
   simp only [get] at h
   split at h
   ·rename_i e;subst e;subst h;right;simp
   ·rcases ih h with h' | h'
    ·exact .inl h'
    ·exact .inr (aa6 _ h')
theorem ax (n0:Nat) (env:Env) (H:List aa):sle n0 env H env H:=⟨fun t=>le_refl _,.inl rfl⟩
def gD (lo:Option Nat) (n0:Nat) (A:Perm):Prop:=(∀ id,id < n0→∃ m,m≤n0∧A.top id=some m)∧match lo with
 | none=>∀ id,n0≤id→A.top id=some (id + 1)
 | some l=>l=n0∧∀ id,n0≤id→A.top id=none
theorem gD.opens {n0:Nat} (h:gD lo n0 A):∀ l,lo=some l→∀ id,l≤id→A.top id=none:=by
 rintro l rfl id bu
 obtain ⟨_,rfl,h⟩:=h
 exact h id bu
theorem gD.low {n0 m:Nat} (h:gD lo n0 A) (hm:n0≤m) (hs:St A M L w H ev ea O):∀ id o,id < n0→H[id]?=some o→o.aW m=true:=by
 intro id o bu ho
 obtain ⟨k,hk,e⟩:=h.1 id bu
 have:=hs.bG id o ho
 refine aa.cI ?_ o this
 unfold Perm.kh
 rw [e]
 exact acN (afu _ _) (by omega)
theorem gD.closed {n0 m:Nat} (h:gD none n0 A) (hm:n0≤m) (hs:St A M L w H ev ea O):∀ id o,id < m→H[id]?=some o→o.aW m=true:=by
 intro id o bu ho
 by_cases e:id < n0
 ·exact h.low hm hs id o e ho
 ·have e1:=h.2 id (by omega)
  have:=hs.bG id o ho
  refine aa.cI ?_ o this
  unfold Perm.kh
  rw [e1]
  exact acN (afu _ _) (by omega)
theorem Fr.sle (h:Fr A n M L w H env O a) {aI:Env} {H':List aa} {L0:List Nat} (hA:gD lo L0.length A) (hL:L0 <+: L) (hl:Jz lo L0.length env H aI H'):∃ L' O',Fr A n M L' w H' aI O' a∧L0 <+: L':=by
 have xb:Jy L0.length env H aI H':=by
  unfold Jz at hl
  split at hl
  ·obtain ⟨h1,h2⟩:=hl
   refine ⟨h1,?_⟩
   rcases h2 with rfl | ⟨m,hm,rfl,hb⟩
   ·exact .inl rfl
   ·exact .inr ⟨m,hm,rfl,fun id o _ bu ho=>hA.closed hm h.st id o bu ho,hb⟩
  ·exact hl
 obtain ⟨h1,h2⟩:=xb
 obtain ⟨O',hf⟩:=h.weaken h1
 rcases h2 with rfl | ⟨m,hm,rfl,hc,hb⟩
 ·exact ⟨L,O',hf,hL⟩
 ·obtain ⟨O'',b7⟩:=hf.st.cut m (fun id o bu ho=>by
   by_cases e:id < L0.length
   ·exact hA.low hm hf.st id o e ho
   ·exact hc id o (by omega) bu ho) hb
  refine ⟨L.take m,O'',⟨b7,hf.size,hf.defers⟩,?_⟩
  obtain ⟨r,rfl⟩:=hL
  exact ⟨r.take (m - L0.length),by rw [aeU,Ue hm]⟩
theorem BB {ops:Array Oper} {j g:Nat} (hg:(ops[j]?).bind (·.dst)=some g) (hf:Fr A n M L w H env O a) {b:Bool} (hb:get env g=.bool b):yielded ops a.tmps j=some b:=by
 have hr:=hf.st.env g
 rw [hb] at hr
 generalize hv:a.tmps.getD g undef=v at hr
 cases hr
 have:a.tmps[g]?=some (.bool b):=by
  rw [acw] at hv
  cases h:a.tmps[g]? with
  | none=>rw [h] at hv;cases hv
  | some v=>rw [h] at hv;simp at hv;rw [hv]
 simp [yielded,hg,this]
theorem y7 {ops:Array Oper} {j g:Nat} (hg:(ops[j]?).bind (·.dst)=some g) (hf:Fr A n M L w H env O a) (hb:get env g=.tuple []):yielded ops a.tmps j=none:=by
 have hr:=hf.st.env g
 rw [hb] at hr
 generalize hv:a.tmps.getD g undef=v at hr
 cases hr with
 | tuple cs _ h=>
 rw [acw] at hv
 simp only [yielded,hg,Option.bind_some]
 cases h:a.tmps[g]? with
 | none=>rfl
 | some v=>rw [h] at hv;simp at hv;rw [hv]
theorem zX {ops:Array Oper} {o:Oper} {fl:Nat} {g:Option (Nat×Bool)} (hg:H9 ops o=some g) (gQ:H8 n o=true) (hp:∀ l,lo=some l→∀ id,l≤id→A.top id=none) (hf:Fr A n M L w H env O a) {K:Env→List aa→Prop} (h:tu ⟨P,lo⟩ ⟨g,o.dst,Dx P o fl⟩ env H K) (Q:Exit→Act→World→Prop) :
 if Region.wanted o (yielded ops a.tmps) then o.wpIn (wf ro) 0 P a w (oA A n M L w K) Q else oA A n M L w K (a.put o.dst undef) w:=by
 simp only [H8,zB] at gQ
 have hd:∀ d,o.dst=some d→d < n:=by
  intro d hd
  have:=gQ.1
  rw [hd] at this
  simpa using this
 have hn:(match o.op with | .store .. | .mapUpdate ..=>o.dst=none | _=>True):=by
  have:=gQ.2
  split at this <;> first | trivial | skip
  ·simpa using this
  ·simpa using this
 unfold H9 at hg
 split at hg
 ·rename_i OY
  cases hg
  rw [if_pos (by simp [Region.wanted,OY])]
  exact uJ o hp hf hd hn h
 ·rename_i j want OY
  split at hg <;> cases hg
  rename_i g hgj
  simp only [tu,ja] at h
  split at h
  rotate_left
  ·rename_i hb
   have hy:=y7 hgj hf hb
   rw [if_neg (by simp [Region.wanted,OY,hy])]
   obtain ⟨O',qF⟩:=hf.pX (dst:=o.dst) (v:=undef) (x:=.tuple []) hd (.tuple [] [] .nil) (by intro _ _ e;cases e)
   exact ⟨M,L,H,_,O',h,qF,Ext.refl A M w,aaL L⟩
  ·exact h.elim
  rename_i b hb
  have hy:=BB hgj hf hb
  have Yo:get ((g,AV.bool b)::env)=get env:=by
   rw [Lo];funext t;simp only [fZ];split
   ·rename_i e;rw [e,hb]
   ·rfl
  by_cases hw:b=want
  ·subst hw
   rw [if_pos (by simp [Region.wanted,OY,hy])]
   exact uJ o hp (hf.Gl Yo) hd hn (h.1 rfl)
  ·have Ib:b=!want:=by cases b <;> cases want <;> simp_all
   subst Ib
   rw [if_neg (by simp [Region.wanted,OY,hy])]
   obtain ⟨O',qF⟩:=(hf.Gl Yo).pX (dst:=o.dst) (v:=undef) (x:=.tuple []) hd (.tuple [] [] .nil) (by intro _ _ e;cases e)
   exact ⟨M,L,H,_,O',h.2 rfl,qF,Ext.refl A M w,aaL L⟩
theorem oA.trans {K K':Env→List aa→Prop} {M':Mem} {L':List Nat} {w':World} {a':Act} {w'':World} (cK:Ext A M w M' w') (hL:L <+: L') (h:oA A n M' L' w' K a' w''):oA A n M L w K a' w'':=by
 obtain ⟨M2,L2,H2,c9,O2,h1,h2,h3,h4⟩:=h
 exact ⟨M2,L2,H2,c9,O2,h1,h2,cK.trans h3,hL.trans h4⟩
theorem DC (w:World) (c c':Array Value) (e:TypeId):({ w with heap:=w.heap.push (.cells c e) }:World).setRow w.heap.size c'={ w with heap:=w.heap.push (.cells c' e) }:=by
 simp only [World.setRow]
 congr 1
 apply Array.ext
 ·simp
 ·intro i h1 h2
  rw [agu]
  by_cases hi:w.heap.size=i
  ·subst hi;simp
  ·simp only [hi,if_false]
   have:i < w.heap.size:=by simp at h2;omega
   rw [aez this,aez this]
theorem Gm {ops:Array Oper} {o o':Oper} {x:bE} (hx:Ut P ops n 2 o o'=some x) (hf:Fr A n M L w H env O a) {K:Env→List aa→Prop} (h:tu ⟨P,lo⟩ x env H K) (r:List Oper) (Q:Exit→Act→World→Prop)
 (hrest:∀ a' w',oA A n M L w K a' w'→wpListIn (wf ro) 0 P ops Q r a' w'):wpListIn (wf ro) 0 P ops Q (o::o'::r) a w:=by
 unfold Ut at hx
 split at hx <;> try cases hx
 rename_i e d t d' y _ da gQ OY adB Yp adC
 split at hx <;> try cases hx
 rename_i hcond
 obtain ⟨rfl,Yj,rfl⟩:=hcond
 split at hx <;> try cases hx
 rename_i i m z hi hm hz
 split at hx <;> cases hx
 rename_i hcond
 obtain ⟨eS,jI,uA,Dm⟩:=hcond
 simp only [tu,bC] at h
 obtain ⟨kX,jD,lH,hK⟩:=h
 have hr:=hf.eval hi
 have Pu:=hr.gO kX
 have rq:=Pu.length
 -- the zero value
 obtain ⟨inf,jG,dm⟩:=zF.1 hm
 unfold gr at hz
 simp only [jG] at hz
 split at hz <;> try cases hz
 rename_i zv wP
 have vN:zv.cells.size=m:=by have:=((cT (M:=M) (L:=L) hz).gO uA).length;rw [jI] at this;simpa using this
 have hrun1:(execOp a.eval o).run P w=.ok (.value (.pointer (some ⟨w.heap.size,0,none⟩))) { w with heap:=w.heap.push (.cells zv.cells t) }:=by
  simp only [execOp,da]
  exact a7 (by simp only [Instr.alloc,zeroValue,typeInfo,Sem.run_bind,run_program,Result.andThen_ok,jG,Sem.run_pure,wP];rfl)
 have hsize:d < a.tmps.size:=by rw [hf.size];exact Yj
 have Um:(a.put (some d) (.pointer (some ⟨w.heap.size,0,none⟩))).eval (.tmp d)=.pointer (some ⟨w.heap.size,0,none⟩):=by
  show (a.put (some d) _).tmps.getD d undef=_
  rw [wK a d _ hsize d];simp [fZ]
 have adD:(a.put (some d) (.pointer (some ⟨w.heap.size,0,none⟩))).eval y=a.eval y:=by
  cases y with
  | tmp s=>
    simp [aV] at hi;subst hi
    simp [Ia] at eS
    show (a.put (some d) _).tmps.getD s undef=a.tmps.getD s undef
    rw [wK a d _ hsize s];simp [fZ,eS]
  | _=>rfl
 have b7:=run_storeCells_at P w.heap.size 0 t (a.eval y).cells.toList 0 zv.cells { w with heap:=w.heap.push (.cells zv.cells t) } (dT w _) (by simp at rq ⊢;omega) (Pu.ij lH)
 have hwhole:(zv.cells.toList.take (0 + 0)++(a.eval y).cells.toList++zv.cells.toList.drop (0 + 0 + (a.eval y).cells.toList.length)).toArray=(a.eval y).cells:=by
  have:zv.cells.toList.drop (0 + 0 + (a.eval y).cells.toList.length)=[]:=af9 (by simp at rq ⊢;omega)
  rw [this];simp
 rw [hwhole,DC] at b7
 have hrun2:(execOp (a.put (some d) (.pointer (some ⟨w.heap.size,0,none⟩))).eval o').run P { w with heap:=w.heap.push (.cells zv.cells t) }=.ok .skip { w with heap:=w.heap.push (.cells (a.eval y).cells t) }:=by
  simp only [execOp,adB,Um,adD]
  refine rF ?_
  have hs:(sizeOf t).run P { w with heap:=w.heap.push (.cells zv.cells t) }=.ok m { w with heap:=w.heap.push (.cells zv.cells t) }:=by simp [sizeOf,typeInfo,jG,dm]
  simp only [Instr.storeAt,Instr.sureAddr,storeVar,Sem.run_bind,Sem.run_pure,Result.andThen_ok,hs,ne_eq]
  rw [if_neg (by simp at rq;omega)]
  exact b7
 obtain ⟨g1,g2,g3⟩:=hf.st.FU (a.eval y).cells t
 have gl:aX (M.add w.heap.size (a.eval y).cells.toList) L (.pointer (some ⟨w.heap.size,0,none⟩)) (.ah (ap env i)):=.ah _ _ _ _ (Pu.mono g2.lZ (aaL _)) g3
 obtain ⟨O',qF⟩:=(hf.mono g1 g2).pX (dst:=some d) (fun d' e=>by cases e;exact Yj) gl (by intro _ _ e;cases e)
 have mh:=hrest _ _ ⟨_,L,H,_,O',hK,qF,g2,aaL L⟩
 unfold wpListIn
 rw [if_pos (by simp [Region.wanted,OY])]
 refine l7 hrun1 (by intro d e;cases e) ?_
 rw [Oper.uponIn_value,gQ]
 unfold wpListIn
 rw [if_pos (by simp [Region.wanted,adC])]
 refine l7 hrun2 (by intro d e;cases e) ?_
 rw [Oper.uponIn_skip,Yp]
 exact mh
theorem qH {ops:Array Oper} {an:C9} {rid:Nat} {fu:Bool} (hp:∀ l,lo=some l→∀ id,l≤id→A.top id=none) (Q:Exit→Act→World→Prop):∀ (fuel k:Nat) (l:List Oper) (il:List bE),fw P ops an n rid fu fuel k l=some il→∀ {M:Mem} {L:List Nat} {w:World} {H:List aa} {env:Env} {O:Pos→Option Nat} {a:Act} (K:Env→List aa→Prop),
 Fr A n M L w H env O a→kc ⟨P,lo⟩ il env H K→(∀ a' w',oA A n M L w K a' w'→Q .normal a' w')→wpListIn (wf ro) 0 P ops Q l a w
 | _,_,[],il,hc,M,L,w,H,env,O,a,K,hf,h,hQ=>by
   unfold fw at hc
   cases hc
   exact hQ a w ⟨M,L,H,env,O,h,hf,Ext.refl A M w,aaL L⟩
 | 0,_,o::r,il,hc,_,_,_,_,_,_,_,_,_,_,_=>by simp [fw] at hc
 | fuel + 1,k,o::r,il,hc,M,L,w,H,env,O,a,K,hf,h,hQ=>by
   unfold fw at hc
   split at hc
   ·-- a new variable with its first value
    split at hc <;> try cases hc
    rename_i o' r'
    split at hc <;> cases hc
    rename_i x xs hx eK
    simp only [kc] at h
    refine Gm hx hf h r' Q ?_
    rintro a' w' ⟨M',L',H',aI,O',k1,k2,k3,k4⟩
    exact qH hp Q fuel (k + 2) r' xs eK K k2 k1 (fun a2 w2 h2=>hQ a2 w2 (oA.trans (K':=K) k3 k4 h2))
   ·split at hc <;> try cases hc
    rename_i g xs hg eK
    split at hc <;> cases hc
    rename_i gQ
    simp only [kc] at h
    have h1:=zX (ro:=ro) (ops:=ops) hg gQ hp hf h Q
    have hrest:∀ a' w',oA A n M L w (fun env H=>kc ⟨P,lo⟩ xs env H K) a' w'→wpListIn (wf ro) 0 P ops Q r a' w':=by
     rintro a' w' ⟨M',L',H',aI,O',k1,k2,k3,k4⟩
     exact qH hp Q fuel (k + 1) r xs eK K k2 k1 (fun a2 w2 h2=>hQ a2 w2 (oA.trans (K':=K) k3 k4 h2))
    unfold wpListIn
    split
    ·rename_i hw
     rw [if_pos hw] at h1
     exact Oper.wpIn_mono hrest h1
    ·rename_i hw
     rw [if_neg hw] at h1
     exact ⟨fun _ _=>trivial,hrest _ _ h1⟩
theorem Gk.trans {A':Perm} {M0 M1:Mem} {L0:List Nat} {w0 w1:World} {Q:Exit→Env→List aa→Prop} {e:Exit} {a:Act} {w:World} (hl:A'.Le A) (hx:Ext A M0 w0 M1 w1) (hp:Gk A' n M1 L0 w1 Q e a w):Gk A n M0 L0 w0 Q e a w:=by
 obtain ⟨A2,M,L,H,env,O,hA,h1,h2,h3,h4⟩:=hp
 exact ⟨A2,M,L,H,env,O,hA.trans hl,h1,h2,hx.trans (h3.le hl),h4⟩
theorem gD.le {n0:Nat} {A':Perm} (h:gD lo n0 A) (hl:A'.Le A):gD lo n0 A':=by
 unfold gD at *
 rw [hl.1]
 exact h
def Own (ro:Option Nat) (w:World):Prop:=∀ l,ro=some l→∃ r,w.heap[l]?=some (.loop r)
theorem Own.ext {M':Mem} {w':World} (h:Own ro w) (hx:Ext A M w M' w'):Own ro w':=fun l hl=>by
 obtain ⟨r,hr⟩:=h l hl
 obtain ⟨r',hr',_⟩:=hx.loops l r hr
 exact ⟨r',hr'⟩
theorem JB (p:Nat→Prop) (h:∃ k,p k):∃ k,p k∧∀ j,p j→k≤j:=by
 obtain ⟨k,hk⟩:=h
 induction k using Nat.strongRecOn with
 | _ k ih=>
   by_cases hl:∃ j,j < k∧p j
   ·obtain ⟨j,hj,hp⟩:=hl
    exact ih j hj hp
   ·exact ⟨k,hk,fun j hj=>by
     rcases afv j k with h' | h'
     ·exact absurd ⟨j,h',hj⟩ hl
     ·exact h'⟩
theorem BC {F:Fence} {k:Nat} {c:Code} {Q:Exit→Act→World→Prop} {w:World} {a:Act} {ι:Type} (I:ι→Act→World→Prop) (μ:ι→Nat)
 (round:∀ i a w,I i a w→c.wpIn F k P (Exit.then (fun a' w'=>∃ j,I j a' w'∧μ j < μ i) Q) a w) (i0:ι) (h0:I i0 a w):(Code.loop c).wpIn F k P Q a w:=by
 let p:Act→World→Nat→Prop:=fun a w k=>∃ i,I i a w∧μ i=k
 let ν:Act→World→Nat:=fun a w=>Classical.epsilon fun k=>p a w k∧∀ j,p a w j→k≤j
 have hν:∀ a w,(∃ i,I i a w)→p a w (ν a w)∧∀ j,p a w j→ν a w≤j:=by
  rintro a w ⟨i,hi⟩
  exact Classical.epsilon_spec (JB (p a w) ⟨μ i,i,hi,rfl⟩)
 refine wpIn_loop (fun a w=>∃ i,I i a w) ν ⟨i0,h0⟩ ?_
 intro a w hI
 obtain ⟨⟨i,hi,hμ⟩,_⟩:=hν a w hI
 refine Go.wpIn_mono (round i a w hi) ?_
 intro e a' w' h
 cases e with
 | normal=>
   obtain ⟨j,hj,aG⟩:=h
   refine ⟨⟨j,hj⟩,?_⟩
   have:=(hν a' w' ⟨j,hj⟩).2 (μ j) ⟨j,hj,rfl⟩
   omega
 | _=>exact h
def zY (P:Program) (ro lo:Option Nat) (A:Perm) (n:Nat) (L0:List Nat):Prop:=
 ∀ {id:Nat} {ops:Array Oper} {il:List bE} {p:yL} {live:Option (List Nat)} {an:C9} {M:Mem} {L:List Nat} {w:World} {H:List aa} {env:Env} {O:Pos→Option Nat} {a:Act} {M0:Mem} {w0:World} {Q:Exit→Env→List aa→Prop},
  P.follows .mixedOrders=true→mf (ops.toList.map fun o=>kF o.after.toList) (fI ops.toList []) il ops.size 0 none p=true→fw P ops an n id false (ops.size + 1) 0 ops.toList=some il→n7 ⟨P,lo⟩ L0.length (.draw (inst il p) live) env H Q→Fr A n M L w H env O a→Ext A M0 w0 M w→L0 <+: L→(Code.region id ops true).wpIn (wf ro) 0 P (Gk A n M0 L0 w0 Q) a w
theorem DD {L0:List Nat} (hA:gD lo L0.length A) {f:Operand} {ps:Array Tmp} {as bd:Code} {an:C9} {lv:nW} {pl:nX} {i:IX} (hi:aV f=some i) {Q:Exit→Env→List aa→Prop}
 (yI:Own ro w) (h:n7 ⟨P,lo⟩ L0.length (.jL i ⟨n,ps.toList,as,bd,an,lv,pl⟩) env H Q) (hf:Fr A n M L w H env O a) (hL:L0 <+: L):(Code.rangeFunc f ps as bd).wpIn (wf ro) 0 P (Gk A n M L0 w Q) a w:=by
 have OX:=hf.eval hi
 simp only [n7] at h
 split at h <;> try exact h.elim
 rename_i g first cap Yl
 obtain ⟨hcf,bY,hle,hcall⟩:=h
 rw [Yl] at OX
 generalize hu:a.eval f=u at OX
 cases OX with
 | fn _ fs cs _ _ By tg=>
 refine wpIn_rangeFunc fun fn _=>?_
 -- the record
 have enter:∃ (l:Nat) (mark:List Deferred) (w1:World) (A1:Perm),(Instr.enterLoop fn a.tmps ps as bd ro).run P w=.ok (l,mark) w1∧A1.Le A∧
  Fr A1 n M (L++[l]) w1 (H++[.loop .ready ⟨n,ps.toList,as,bd,an,lv,pl⟩ (lN n env)]) env O { a with defers:=mark++a.defers }∧Ext A M w M w1:=by
  have Br:aM M L a.tmps.toList (lN n env):=by
   refine aM.Bc (by simp [lN,hf.size]) fun j x hx=>?_
   simp only [lN,acQ] at hx
   obtain ⟨t,ht,rfl⟩:=zF.1 hx
   obtain ⟨rp,rfl⟩:=aaH.1 ht
   simp only [List.length_range] at rp
   simp only [List.getElem_range]
   have:=(hf.st.env j).ab
   refine ⟨a.tmps.getD j undef,?_,this⟩
   rw [acw,adz,afq (by rw [hf.size];exact rp)]
   rfl
  have pv:(aa.loop .ready ⟨n,ps.toList,as,bd,an,lv,pl⟩ (lN n env)).aW (H.length + 1)=true:=by
   simp only [aa.aW]
   have:=Br.PJ
   rw [hf.st.len] at this
   exact bK (by omega) _ this
  cases ro with
  | none=>
    have hg:=hf.st.grow (w':={ w with heap:=w.heap.push (.deferred (some [])) }) (Mem.bX M) (fun b o v hv=>by
     have h1:=hf.st.mem b o v hv
     simp only [World.cell?] at h1 ⊢
     cases hb:w.heap[b]? with
     | none=>rw [hb] at h1;simp at h1
     | some ob=>rw [eN w _ (acF.1 hb).1];exact h1) (by simp) (fun b hb=>eN w _ hb) (fun _ _ _=>rfl)
    have uL:Ext A M w M { w with heap:=w.heap.push (.deferred (some [])) }:=Ext.grow (Mem.bX M) (by simp) rfl rfl rfl (fun b hb=>eN w _ hb) (fun _ _ _=>rfl)
    have hb:=hg.Yn (D:=w.heap.size) (fun hm=>by have:=hf.st.lt _ hm;omega) (fun p hp=>by have:=hf.st.fQ _ _ hp;omega) (by simp)
    obtain ⟨g1,g2⟩:=hb.s6 (.loop { state:=.ready,pending:=none,fn,tmps:=a.tmps,params:=ps,assign:=as,body:=bd,defers:=w.heap.size }) (.loop .ready ⟨n,ps.toList,as,bd,an,lv,pl⟩ (lN n env))
     (fun w' Ly _=>⟨_,Ly,(agt).symm,rfl,rfl,Br.mono (Mem.bX M) ⟨_,rfl⟩,rfl,rfl⟩) pv (fun j=>rfl)
    refine ⟨w.heap.size + 1,_,_,A.Yn w.heap.size,run_enterLoop_outer _ _ _ _ _,A.BA _,⟨?_,hf.size,?_⟩,?_⟩
    ·have e1:({ w with heap:=w.heap.push (.deferred (some [])) }:World).heap.size=w.heap.size + 1:=by simp
     rw [e1] at g1
     exact g1
    ·have old:=((hf.defers.ext uL).le (A.BA w.heap.size)).ext g2
     refine ⟨old.1,?_,fun d hd=>?_⟩
     ·show (_::a.defers).Nodup
      rw [List.nodup_cons]
      refine ⟨fun hm=>?_,old.2.1⟩
      obtain ⟨D,e,hD,_⟩:=hf.defers.2.2 _ hm
      cases e
      have:=(acF.1 hD).1
      omega
     rcases ab7.1 hd with hd | hd
     ·rw [aa4] at hd
      subst hd
      refine ⟨w.heap.size,rfl,?_,(fun h=>h.2 rfl),(show A.base≤w.heap.size from hf.defers.1)⟩
      show ((w.heap.push _).push _)[w.heap.size]?=_
      rw [Array.getElem?_push_lt (by simp)]
      simp
     ·exact old.2.2 d hd
    ·exact uL.trans (g2.le (A.BA _))
  | some l0=>
    obtain ⟨r0,hr0⟩:=yI l0 rfl
    obtain ⟨g1,g2⟩:=hf.st.s6 (.loop { state:=.ready,pending:=none,fn,tmps:=a.tmps,params:=ps,assign:=as,body:=bd,defers:=r0.defers }) (.loop .ready ⟨n,ps.toList,as,bd,an,lv,pl⟩ (lN n env))
     (fun w' Ly _=>⟨_,Ly,(agt).symm,rfl,rfl,Br.mono (Mem.bX M) ⟨_,rfl⟩,rfl,rfl⟩) pv (fun j=>rfl)
    exact ⟨w.heap.size,[],_,A,run_enterLoop_inner hr0 _ _ _ _ _,Perm.Le.refl A,⟨g1,hf.size,by simpa using hf.defers.ext g2⟩,g2⟩
 obtain ⟨l,mark,w1,A1,he,Gn,HZ,uL⟩:=enter
 have K8:L.length=H.length:=hf.st.len
 have vG:(L++[l])[H.length]?=some l:=by rw [← K8];simp
 have Ux:gD lo L0.length A1:=hA.le Gn
 obtain ⟨loose,wQ,hcall⟩:∃ loose:Bool,(loose=true→∀ id,(H++[aa.loop .ready ⟨n,ps.toList,as,bd,an,lv,pl⟩ (lN n env)]).length≤id→A1.top id=none)∧
  lL loose P g bY (H++[.loop .ready ⟨n,ps.toList,as,bd,an,lv,pl⟩ (lN n env)]) fun _ H'=>behind H.length H' fun j H''=>qG j Q env H'':=by
  unfold eC at hcall
  split at hcall
  ·exact ⟨false,by simp,hcall⟩
  ·rename_i l' xb
   rcases hcall with hcall | ⟨h1,hcall⟩
   ·exact ⟨false,by simp,hcall⟩
   ·exact ⟨true,fun _ id bu=>Ux.opens l' xb id (by omega),hcall⟩
 have hry:aM M (L++[l]) (fs++[.func (.yield l) #[] #[]]) (first++[.oC H.length]):=
  (By.mono (Mem.bX M) ⟨_,rfl⟩).append (.one (.oC l _ vG))
 obtain ⟨Oc,rq,b7,fin⟩:=tn (o:=(⟨none,.move f,0, "",#[],none⟩:Oper)) (K:=fun aI H'=>aI=env∧behind H.length H' fun j H''=>qG j Q env H'') (xs:=[]) (js:=[]) rfl (pass:=none) hry (tg.mono (Mem.bX M) ⟨[l],rfl⟩)
  (by simpa [aL,AV.ab] using hle) HZ (fun d e=>by cases e) wQ
 obtain ⟨vs,yR⟩:∃ vs:List Value,vs=fs++[.func (.yield l) #[] #[]]++cs:=⟨_,rfl⟩
 simp only [List.map_nil,acA] at rq b7
 rw [← yR] at rq b7
 refine ⟨l,mark,w1,{ target:=.fn (.func g) cs.toArray,args:=fs.toArray++#[.func (.yield l) #[] #[]] },w1,g,vs.toArray,w1,he,?_,fun _ _=>trivial,?_,(fun h=>by cases h),?_⟩
 ·have ec:a.eval (.const (.func (.yield l) #[] #[]))=.func (.yield l) #[] #[]:=rfl
  simp [resolve,hu,Deferred.ofValue,ec]
 ·have e1:(fs.toArray++#[.func (.yield l) #[] #[]]++cs.toArray:Array Value)=vs.toArray:=by
   apply Array.ext';simp [yR]
  simp only [invoke]
  rw [e1]
  exact hcf _ _
 ·rcases hcall (dI A1 loose (H++[aa.loop .ready ⟨n,ps.toList,as,bd,an,lv,pl⟩ (lN n env)]) (L++[l]) Oc w1) M (L++[l]) w1 vs.toArray Oc (lM A1 loose _ _ Oc w1) (by simpa using rq) b7 with ⟨_,hc⟩ | ⟨v,w',r,H',M',L',O',h1,_⟩
  ·have pZ:CallsIn (wf ro) (0 - 1) P g vs.toArray w1 _:=callsIn_wide.2 hc
   refine CallsIn.mono pZ fun e w' he=>?_
   obtain ⟨v,r,H',M',L',O',rfl,hK,mW,cK,Yq⟩:=he
   obtain ⟨M2,L2,H2,c9,O2,⟨rfl,hb⟩,uG,S2,Uy⟩:=fin v r H' M' L' O' w' ⟨rfl,hK⟩ mW cK Yq
   have lY:L2[H.length]?=some l:=gM Uy vG
   have mQ:L0 <+: L2:=hL.trans ((List.prefix_append L [l]).trans Uy)
   unfold behind at hb
   split at hb
   ·rename_i lc es Gp
    obtain ⟨r,q1,q2,q3,q4,q5,q6⟩:=uG.st.obj _ _ l Gp lY
    obtain ⟨k1,k2⟩:=uG.st.pB (st':=.fe) (r':={ r with state:=.exhausted }) Gp lY (fun r2 tg=>by rw [q1] at tg;cases tg;exact ⟨rfl,rfl,rfl,rfl,rfl,trivial⟩)
    exact ⟨none,_,(run_endLoop q1 (by rw [q6.1];simp)).trans (congrArg (fun p=>Result.ok p _) q6.2),A1,M2,L2,_,c9,O2,Gn,hb,⟨k1,uG.size,uG.defers.ext k2⟩,uL.trans ((S2.trans k2).le Gn),mQ⟩
   ·rename_i c lc es Gp
    obtain ⟨r,q1,q2,q3,q4,q5,q6⟩:=uG.st.obj _ _ l Gp lY
    obtain ⟨k1,k2⟩:=uG.st.pB (st':=.fe) (r':={ r with state:=.exhausted }) Gp lY (fun r2 tg=>by rw [q1] at tg;cases tg;exact ⟨rfl,rfl,rfl,rfl,rfl,trivial⟩)
    refine ⟨some c,_,(run_endLoop q1 (by rw [q6.1];simp)).trans (congrArg (fun p=>Result.ok p _) q6.2),?_⟩
    unfold qG at hb
    split at hb
    ·rename_i e;cases e
    ·rename_i e;cases e
     exact wpIn_ret ⟨A1,M2,L2,_,c9,O2,Gn,hb,⟨k1,uG.size,uG.defers.ext k2⟩,uL.trans ((S2.trans k2).le Gn),mQ⟩
    ·rename_i e;cases e
     exact wpIn_exit ⟨A1,M2,L2,_,c9,O2,Gn,hb,⟨k1,uG.size,uG.defers.ext k2⟩,uL.trans ((S2.trans k2).le Gn),mQ⟩
    ·exact hb.elim
   ·exact hb.elim
  ·rw [hcf] at h1;cases h1
theorem sound {L0:List Nat} (hdraw:∀ A,gD lo L0.length A→zY P ro lo A n L0) {an:C9} {lv:nW} {pl:nX}:∀ (c:Code) (ir:IR),comp P an lv pl n c=some ir→∀ {A:Perm} {M:Mem} {L:List Nat} {w:World} {H:List aa} {env:Env} {O:Pos→Option Nat} {a:Act} {Q:Exit→Env→List aa→Prop},
 gD lo L0.length A→Own ro w→n7 ⟨P,lo⟩ L0.length ir env H Q→Fr A n M L w H env O a→L0 <+: L→c.wpIn (wf ro) 0 P (Gk A n M L0 w Q) a w:=by
 intro c
 induction c with
 | skip=>
   intro ir hc A M L w H env O a Q hA yI h hf hL
   simp only [comp] at hc;cases hc
   exact wpIn_skip ⟨A,M,L,H,env,O,.refl A,h,hf,Ext.refl A M w,hL⟩
 | exit id=>
   intro ir hc A M L w H env O a Q hA yI h hf hL
   simp only [comp] at hc;cases hc
   exact wpIn_exit ⟨A,M,L,H,env,O,.refl A,h,hf,Ext.refl A M w,hL⟩
 | ret=>
   intro ir hc A M L w H env O a Q hA yI h hf hL
   simp only [comp] at hc;cases hc
   exact wpIn_ret ⟨A,M,L,H,env,O,.refl A,h,hf,Ext.refl A M w,hL⟩
 | region id ops draw=>
   intro ir hc A M L w H env O a Q hA yI h hf hL
   cases draw with
   | true=>
     simp only [comp] at hc
     split at hc <;> try cases hc
     rename_i il C3
     split at hc <;> cases hc
     rename_i hm
     exact hdraw A hA hm.1 hm.2 C3 h hf (Ext.refl A M w) hL
   | false=>
     simp only [comp] at hc
     obtain ⟨il,C3,rfl⟩:=zF.1 hc
     simp only [n7] at h
     refine wpIn_region_list (qH hA.opens _ _ _ _ _ C3 _ hf h ?_)
     rintro a' w' ⟨M',L',H',aI,O',h1,h2,h3,h4⟩
     obtain ⟨O'',h5⟩:=h2.weaken (zW (lv.at_ id) aI)
     exact ⟨A,M',L',H',_,O'',.refl A,h1,h5,h3,hL.trans h4⟩
 | seq x y ihx ihy=>
   intro ir hc A M L w H env O a Q hA yI h hf hL
   simp only [comp] at hc
   split at hc <;> cases hc
   rename_i x' y' hx hy
   simp only [n7] at h
   refine wpIn_seq (Go.wpIn_mono (ihx _ hx hA yI h hf hL) ?_)
   rintro e a' w' ⟨A',M',L',H',aI,O',hl,h1,h2,h3,h4⟩
   cases e with
   | normal=>exact Go.wpIn_mono (ihy _ hy (hA.le hl) (yI.ext h3) h1 h2 h4) fun e a w hp=>hp.trans hl h3
   | _=>exact ⟨A',M',L',H',aI,O',hl,h1,h2,h3,h4⟩
 | cond x c d ihc ihd=>
   intro ir hc A M L w H env O a Q hA yI h hf hL
   simp only [comp] at hc
   split at hc <;> cases hc
   rename_i i c' d' hi JC hd'
   simp only [n7] at h
   obtain ⟨q,hq,h⟩:=pA h
   have hr:=hf.eval hi
   rw [hq] at hr
   generalize hu:a.eval x=u at hr
   cases hr
   refine wpIn_cond_split hu (fun e=>ihc _ JC hA yI (h.1 e) hf hL) (fun e=>ihd _ hd' hA yI (h.2 e) hf hL)
 | block id c ih=>
   intro ir hc A M L w H env O a Q hA yI h hf hL
   simp only [comp] at hc
   obtain ⟨c',JC,rfl⟩:=zF.1 hc
   simp only [n7] at h
   refine wpIn_block (Go.wpIn_mono (ih _ JC hA yI h hf hL) ?_)
   rintro e a' w' ⟨A',M',L',H',aI,O',hl,h1,h2,h3,h4⟩
   cases e with
   | exit id'=>
     simp only [Exit.inBlock]
     simp only at h1
     split at h1
     ·rename_i e;rw [if_pos e];exact ⟨A',M',L',H',aI,O',hl,h1,h2,h3,h4⟩
     ·rename_i e;rw [if_neg e];exact ⟨A',M',L',H',aI,O',hl,h1,h2,h3,h4⟩
   | _=>exact ⟨A',M',L',H',aI,O',hl,h1,h2,h3,h4⟩
 | loop c ih=>
   intro ir hc A M L w H env O a Q hA yI h hf hL
   simp only [comp] at hc
   obtain ⟨c',JC,rfl⟩:=zF.1 hc
   simp only [n7] at h
   obtain ⟨ι,I,se,sh,μ,⟨i0,vP,XJ⟩,hround⟩:=h
   obtain ⟨L',O',qF,Yq⟩:=hf.sle hA hL XJ
   refine BC (fun i a' w'=>I i∧∃ A' M' L' O',A'.Le A∧Fr A' n M' L' w' (sh i) (se i) O' a'∧Ext A M w M' w'∧L0 <+: L') μ ?_ i0 ⟨vP,A,M,L',O',.refl A,qF,Ext.refl A M w,Yq⟩
   rintro i a1 w1 ⟨hi,A1,M1,L1,O1,vG,HZ,uL,hL1⟩
   refine Go.wpIn_mono (ih _ JC (hA.le vG) (yI.ext uL) (hround i hi) HZ hL1) ?_
   rintro e a' w' ⟨A',M',L',H',aI,O',hl,h1,h2,h3,h4⟩
   cases e with
   | normal=>
     obtain ⟨j,hj,aG,hs⟩:=h1
     obtain ⟨L2,O2,uG,Uy⟩:=h2.sle ((hA.le vG).le hl) h4 hs
     exact ⟨j,⟨hj,A',M',L2,O2,hl.trans vG,uG,uL.trans (h3.le vG),Uy⟩,aG⟩
   | _=>exact ⟨A',M',L',H',aI,O',hl.trans vG,h1,h2,uL.trans (h3.le vG),h4⟩
 | rangeFunc f ps as bd=>
   intro ir hc A M L w H env O a Q hA yI h hf hL
   simp only [comp] at hc
   obtain ⟨i,hi,rfl⟩:=zF.1 hc
   exact DD hA hi yI h hf hL
 | _=>
   intro ir hc A M L w H env O a Q hA yI h
   simp only [comp] at hc
   cases hc
   exact h.elim
end
end Go.aK
end
section
namespace Go.aK
open Go
section
variable {φ ψ:AV→Prop} (hm:∀ z,φ z→ψ z)
include hm
theorem tx {op:BinOp} {x y:AV} (h:dk op x y φ):dk op x y ψ:=by
 unfold dk at *
 split at h <;> (try exact h.elim)
 ·obtain ⟨h0,h⟩:=h
  refine ⟨h0,?_⟩
  split at h <;> first | exact hm _ h | exact ⟨h.1,hm _ h.2⟩ | exact h.elim
 ·split at h <;> first | exact hm _ h | exact ⟨h.1,hm _ h.2⟩ | exact h.elim
theorem oQ {op:BinOp} {x y:AV} (h:ey op x y φ):ey op x y ψ:=by
 unfold ey at *
 split at h <;> (try exact h.elim)
 obtain ⟨h0,h⟩:=h
 refine ⟨h0,?_⟩
 split at h <;> first | exact hm _ h | exact h.elim
theorem m9 {neq:Bool} {x y:AV} (h:dd neq x y φ):dd neq x y ψ:=by
 unfold dd at *
 split at h <;> first | exact hm _ h | exact h.elim
theorem uM {kd:Nat} {neq:Bool} {x:AV} (h:dw kd neq x φ):dw kd neq x ψ:=by
 unfold dw at *
 split at h
 ·exact hm _ h
 ·split at h
  ·exact ⟨hm _ h.1,hm _ h.2⟩
  ·exact h.elim
theorem xc {op:UnOp} {x:AV} (h:Bh op x φ):Bh op x ψ:=by
 unfold Bh at *
 split at h <;> first | exact hm _ h | exact h.elim
theorem kG {sz:Option Nat} {x:AV} {H:List aa} (h:aU sz x H φ):aU sz x H ψ:=by
 unfold aU at *
 split at h <;> (try exact h.elim) <;> (split at h <;> (try exact h.elim)) <;> first | exact ⟨h.1,hm _ h.2⟩ | (split at h <;> exact ⟨h.1,hm _ h.2⟩)
theorem oR {off:Nat} {sz:Option Nat} {x:AV} (h:fD off sz x φ):fD off sz x ψ:=by
 unfold fD apart at *
 split at h <;> (try exact h.elim)
 split at h <;> first | exact ⟨h.1,hm _ h.2⟩ | exact ⟨h.1,h.2.1,hm _ h.2.2⟩
theorem jN {off:Nat} {sz:Option Nat} {x:AV} (h:al off sz x φ):al off sz x ψ:=by
 unfold al apart at *
 split at h <;> (try exact h.elim)
 ·exact hm _ h
 ·split at h <;> first | exact ⟨h.1,hm _ h.2⟩ | exact ⟨h.1,h.2.1,hm _ h.2.2⟩
theorem jO {esz:Nat} {x i:AV} (h:aA esz x i φ):aA esz x i ψ:=by
 unfold aA at *
 split at h <;> first | exact ⟨h.1,h.2.1,hm _ h.2.2⟩ | exact h.elim
theorem kH {x i:AV} (h:bO x i φ):bO x i ψ:=by
 unfold bO at *
 split at h <;> first | exact ⟨h.1,h.2.1,hm _ h.2.2⟩ | exact h.elim
theorem kI {n:Nat} {x i:AV} (h:b8 n x i φ):b8 n x i ψ:=by
 unfold b8 at *
 split at h <;> first | exact ⟨h.1,h.2.1,h.2.2.1,hm _ h.2.2.2⟩ | exact h.elim
theorem tA {x:AV} {H:List aa} (h:fT x H φ):fT x H ψ:=by
 unfold fT at *
 split at h <;> (try exact h.elim) <;> (try exact hm _ h)
 ·exact fun hl=>hm _ (h hl)
 ·split at h <;> first | exact hm _ h | exact h.elim
theorem lO {x:AV} {i:Nat} (h:bH x i φ):bH x i ψ:=by
 unfold bH at *
 split at h <;> first | exact ⟨h.1,hm _ h.2⟩ | exact h.elim
theorem kJ {x:AV} (h:b9 x φ):b9 x ψ:=by
 unfold b9 at *
 split at h <;> first | exact hm _ h | exact h.elim
theorem lP {k:IntKind} {x:AV} (h:cJ k x φ):cJ k x ψ:=by
 unfold cJ at *
 split at h <;> first | exact hm _ h | exact h.elim
theorem xd {big:Bool} {x y:AV} (h:yM big x y φ):yM big x y ψ:=by
 unfold yM at *
 split at h <;> first | exact hm _ h | exact h.elim
theorem qh {x:AV} (h:gv x φ):gv x ψ:=by
 unfold gv at *
 split at h <;> first | exact hm _ h | exact h.elim
theorem qi {own:Nat} {x:AV} (h:fH own x φ):fH own x ψ:=by
 unfold fH at *
 split at h <;> first | exact ⟨h.1,hm _ h.2⟩ | exact h.elim
theorem uN {x:AV} (h:kA x φ):kA x ψ:=by
 unfold kA at *
 split at h <;> first | exact hm _ h | exact ⟨_,h.choose_spec.1,hm _ h.choose_spec.2⟩ | (obtain ⟨l,h1,h2⟩:=h;exact ⟨l,h1,hm _ h2⟩) | exact ⟨h.1,hm _ h.2⟩ | exact h.elim
theorem uO {esz bytes:Nat} {n:AV} (h:jJ esz bytes n φ):jJ esz bytes n ψ:=by
 unfold jJ at *
 split at h <;> first | exact ⟨h.1,h.2.1,hm _ h.2.2⟩ | exact h.elim
theorem nc {kd:Nat} {z m k:AV} {ok:Bool} {H:List aa} (h:cB kd z m k ok H φ):cB kd z m k ok H ψ:=by
 unfold cB at *
 split at h <;> (try exact h.elim) <;> first | exact hm _ h | exact ⟨h.1,hm _ h.2⟩ | (split at h <;> (try exact h.elim) <;> first | exact hm _ h | exact ⟨h.1,hm _ h.2⟩ | (split at h <;> (try exact h.elim) <;> first | exact hm _ h | exact ⟨h.1,hm _ h.2⟩))
end
theorem fa {x:Option AV} {d:Nat} {φ ψ:Nat→Prop} (hm:∀ k,φ k→ψ k) (h:dV x d φ):dV x d ψ:=by
 unfold dV at *
 split at h <;> first | exact hm _ h | exact ⟨h.1,hm _ h.2⟩ | exact h.elim
theorem uP {esz:Nat} {x:AV} {lo hi mx:Option AV} {φ ψ:AV→Prop} (hm:∀ z,φ z→ψ z) (h:ff esz x lo hi mx φ):ff esz x lo hi mx ψ:=by
 unfold ff at *
 split at h <;> (try exact h.elim)
 refine fa (fun k h=>fa (fun l h=>⟨h.1,h.2.1,?_⟩) h) h
 obtain ⟨_,_,h⟩:=h
 split at h
 ·exact hm _ h
 ·exact ⟨h.1,fa (fun m h=>⟨h.1,h.2.1,hm _ h.2.2⟩) h.2⟩
theorem nh {esz:Nat} {x:AV} {lo hi mx:Option AV} {φ ψ:AV→Prop} (hm:∀ z,φ z→ψ z) (h:bo esz x lo hi mx φ):bo esz x lo hi mx ψ:=by
 unfold bo iw px at *
 split at h
 ·split at h
  ·exact fa (fun k h=>fa (fun l h=>⟨h.1,h.2.1,hm _ h.2.2⟩) h) h
  ·exact ⟨h.1,fa (fun m h=>fa (fun k h=>fa (fun l h=>⟨h.1,h.2.1,h.2.2.1,hm _ h.2.2.2⟩) h) h) h.2⟩
 ·exact ⟨h.1,uP hm h.2⟩
theorem kK {x:AV} {lo hi:Option AV} {φ ψ:AV→Prop} (hm:∀ z,φ z→ψ z) (h:cu x lo hi φ):cu x lo hi ψ:=by
 unfold cu at *
 split at h <;> (try exact h.elim)
 exact fa (fun k h=>fa (fun l h=>⟨h.1,h.2.1,hm _ h.2.2⟩) h) h
theorem ni {φ ψ:List AV→Prop} (hm:∀ z,φ z→ψ z):∀ {ps:List (Nat×Nat×AV)} {zs:List AV},iu zs ps φ→iu zs ps ψ
 | [],zs,h=>hm _ h
 | (off,sz,x)::r,zs,h=>⟨h.1,h.2.1,h.2.2.1,ni hm h.2.2.2⟩
theorem iB {esz:Nat} {φ ψ:List AV→Prop} (hm:∀ z,φ z→ψ z):∀ {ps:List (Nat×AV)} {zs:List AV},bm zs esz ps φ→bm zs esz ps ψ
 | [],zs,h=>hm _ h
 | (i,x)::r,zs,h=>⟨h.1,h.2.1,h.2.2.1,iB hm h.2.2.2⟩
def Uz (τ:Nat→AV) (dst:Option Nat) (x:AV):Nat→AV:=match dst with | some d=>fZ τ d x | none=>τ
theorem lf (env:Env) (dst:Option Nat) (x:AV):get (put dst x env)=Uz (get env) dst x:=by cases dst <;> rfl
theorem oS {lo:Option IX} {env:Env} {ρ:IX→AV} (h:∀ i∈lo.toList,ap env i=ρ i):lo.map ρ=iz env lo:=by
 cases lo with
 | none=>rfl
 | some i=>simp [iz,h i (by simp)]
theorem oU {is:List IX} {env:Env} {ρ:IX→AV} (h:∀ i∈is,ap env i=ρ i) (g:AV→AV):(is.map fun x=>g (ap env x))=is.map fun x=>g (ρ x):=by
 apply acT
 intro i hi
 rw [h i hi]
theorem oV (env:Env):∀ (is:List IX) (j:Nat),aL env none j is=is.map fun x=>(ap env x).ab
 | [],_=>rfl
 | .t s::r,j=>by simp [aL,oV env r,ap]
 | .c v::r,j=>by simp [aL,oV env r,ap]
theorem DE {P:Px} {o:cq} {dst:Option Nat} {ρ:IX→AV} {env:Env} {H:List aa} {x:AV} (h:dh P o ρ H x) (hρ:∀ i∈o.all,ap env i=ρ i) :
 bC P o dst env H fun e h=>h=H∧get e=get (put dst x env):=by
 have key:∀ z,z=x→(H=H∧get (put dst z env)=get (put dst x env)):=fun z e=>⟨rfl,e ▸ rfl⟩
 cases o with
 | set i take=>
   cases take with
   | true=>exact h.elim
   | false=>
     simp only [dh,cq.all,aa4,forall_eq] at h hρ
     rw [← hρ] at h
     unfold bC
     cases dst with
     | none=>exact ⟨rfl,rfl⟩
     | some d=>
       subst h
       refine ⟨rfl,?_⟩
       cases i <;> rfl
 | pick c a b=>
   simp only [dh,cq.all,OU,abO,or_false,forall_eq_or_imp,forall_eq] at h hρ
   obtain ⟨h1,h2,h3⟩:=hρ
   rw [← h1,← h2,← h3] at h
   obtain ⟨q,hq,h⟩:=pA h
   show fC (ap env c) _
   rw [hq]
   exact ⟨fun e=>key _ (h.1 e),fun e=>key _ (h.2 e)⟩
 | bin op i j=>
   simp only [dh,cq.all,OU,abO,or_false,forall_eq_or_imp,forall_eq] at h hρ
   obtain ⟨h1,h2⟩:=hρ
   rw [← h1,← h2] at h
   exact tx key h
 | shift op i j=>
   simp only [dh,cq.all,OU,abO,or_false,forall_eq_or_imp,forall_eq] at h hρ
   obtain ⟨h1,h2⟩:=hρ
   rw [← h1,← h2] at h
   exact oQ key h
 | iX neq i j=>
   simp only [dh,cq.all,OU,abO,or_false,forall_eq_or_imp,forall_eq] at h hρ
   obtain ⟨h1,h2⟩:=hρ
   rw [← h1,← h2] at h
   exact m9 key h
 | mx big i j=>
   simp only [dh,cq.all,OU,abO,or_false,forall_eq_or_imp,forall_eq] at h hρ
   obtain ⟨h1,h2⟩:=hρ
   rw [← h1,← h2] at h
   exact xd key h
 | indexAddr esz i j=>
   simp only [dh,cq.all,OU,abO,or_false,forall_eq_or_imp,forall_eq] at h hρ
   obtain ⟨h1,h2⟩:=hρ
   rw [← h1,← h2] at h
   exact ⟨h.1,jO key h.2⟩
 | dn i j=>
   simp only [dh,cq.all,OU,abO,or_false,forall_eq_or_imp,forall_eq] at h hρ
   obtain ⟨h1,h2⟩:=hρ
   rw [← h1,← h2] at h
   exact kH key h
 | eh n i j=>
   simp only [dh,cq.all,OU,abO,or_false,forall_eq_or_imp,forall_eq] at h hρ
   obtain ⟨h1,h2⟩:=hρ
   rw [← h1,← h2] at h
   exact kI key h
 | lookup kd z i j ok=>
   simp only [dh,cq.all,OU,abO,or_false,forall_eq_or_imp,forall_eq] at h hρ
   obtain ⟨h1,h2⟩:=hρ
   rw [← h1,← h2] at h
   exact nc key h
 | jW kd neq i=>
   simp only [dh,cq.all,aa4,forall_eq] at h hρ
   rw [← hρ] at h
   exact uM key h
 | un op i=>
   simp only [dh,cq.all,aa4,forall_eq] at h hρ
   rw [← hρ] at h
   exact xc key h
 | mR i=>
   simp only [dh,cq.all,aa4,forall_eq] at h hρ
   rw [← hρ] at h
   exact ⟨h.1,key _ h.2⟩
 | load sz i=>
   simp only [dh,cq.all,aa4,forall_eq] at h hρ
   rw [← hρ] at h
   exact kG key h
 | nilCheck i=>
   simp only [dh,cq.all,aa4,forall_eq] at h hρ
   rw [← hρ] at h
   exact kJ key h
 | fieldAddr off sz i=>
   simp only [dh,cq.all,aa4,forall_eq] at h hρ
   rw [← hρ] at h
   exact jN key h
 | field off sz i=>
   simp only [dh,cq.all,aa4,forall_eq] at h hρ
   rw [← hρ] at h
   exact oR key h
 | len kd i=>
   simp only [dh,cq.all,aa4,forall_eq] at h hρ
   rw [← hρ] at h
   exact ⟨h.1,tA key h.2⟩
 | extract i k=>
   simp only [dh,cq.all,aa4,forall_eq] at h hρ
   rw [← hρ] at h
   exact lO key h
 | fq k i=>
   simp only [dh,cq.all,aa4,forall_eq] at h hρ
   rw [← hρ] at h
   exact lP key h
 | iq i=>
   simp only [dh,cq.all,aa4,forall_eq] at h hρ
   rw [← hρ] at h
   exact qh key h
 | bytesOf i=>
   simp only [dh,cq.all,aa4,forall_eq] at h hρ
   rw [← hρ] at h
   exact qi key h
 | oF esz bytes i=>
   simp only [dh,cq.all,aa4,forall_eq] at h hρ
   rw [← hρ] at h
   exact uO key h
 | strOf i=>
   simp only [dh,cq.all,aa4,forall_eq] at h hρ
   rw [← hρ] at h
   exact uN key h
 | build z ps=>
   simp only [dh,cq.all] at h hρ
   have:(ps.map fun q=>(q.1,q.2.1,ap env q.2.2))=ps.map fun q=>(q.1,q.2.1,ρ q.2.2):=
    acT fun q hq=>by rw [hρ _ (aaR.2 ⟨q,hq,rfl⟩)]
   show cE z.cells (ps.map fun q=>(q.1,q.2.1,ap env q.2.2)) (fun v=>H=H∧get (put dst v env)=get (put dst x env))
   rw [this]
   exact ni (fun v h=>key _ h) h
 | buildSlice own esz z len ps=>
   simp only [dh,cq.all] at h hρ
   have:(ps.map fun q=>(q.1,ap env q.2))=ps.map fun q=>(q.1,ρ q.2):=
    acT fun q hq=>by rw [hρ _ (aaR.2 ⟨q,hq,rfl⟩)]
   show bm _ _ (ps.map fun q=>(q.1,ap env q.2)) _
   rw [this]
   exact iB (fun v h=>key (.ak own v) h) h
 | slice esz i lo hi mx=>
   simp only [dh,cq.all,OU,ab7,forall_eq_or_imp] at h hρ
   obtain ⟨h1,h2⟩:=hρ
   rw [← h1,oS (fun i hi=>h2 i (.inl (.inl hi))),oS (fun i hi=>h2 i (.inl (.inr hi))),oS (fun i hi=>h2 i (.inr hi))] at h
   exact nh key h
 | ej i lo hi=>
   simp only [dh,cq.all,OU,ab7,forall_eq_or_imp] at h hρ
   obtain ⟨h1,h2⟩:=hρ
   rw [← h1,oS (fun i hi=>h2 i (.inl hi)),oS (fun i hi=>h2 i (.inr hi))] at h
   exact kK key h
 | fn f first cap=>
   simp only [dh,cq.all,ab7] at h hρ
   refine key _ ?_
   rw [oU (fun i hi=>hρ i (.inl hi)) AV.ab,oU (fun i hi=>hρ i (.inr hi)) AV.ab]
   exact h
 | call f args pass=>
   cases pass with
   | some _=>exact h.elim
   | none=>
     simp only [dh,cq.all,OU,forall_eq_or_imp] at h hρ
     obtain ⟨h1,h2⟩:=hρ
     rw [← h1] at h
     split at h <;> try exact h.elim
     rename_i g first cap hg
     show qg P (ap env f) args none env H (fun r aI H'=>H'=H∧get (put dst r aI)=get (put dst x env))
     rw [hg]
     obtain ⟨bY,hl,hcall⟩:=h
     refine ⟨bY,?_,eC.of <| hcall.mono ?_⟩
     ·rw [oV,oU h2 AV.ab];exact hl
     ·rintro r H' ⟨hr,rfl⟩
      exact key r hr
 | _=>exact h.elim
end Go.aK
end
section
namespace Go.aK
open Go
theorem DF {m:Nat} {p x:AV} {H:List aa} {K K':List aa→Prop} (hm:∀ H',K H'→K' H') (h:iZ m p x H K):iZ m p x H K':=by
 unfold iZ at *
 split at h <;> (try exact h.elim)
 split at h <;> (try exact h.elim)
 exact ⟨h.1,h.2.1,h.2.2.1,h.2.2.2.1,h.2.2.2.2.1,hm _ h.2.2.2.2.2⟩
theorem y8 {p x:AV} {H:List aa} {K K':List aa→Prop} (hm:∀ H',K H'→K' H') (h:eB p x H K):eB p x H K':=by
 unfold eB at *
 split at h <;> (try exact h.elim)
 split at h <;> (try exact h.elim)
 exact ⟨h.1,h.2.1,h.2.2.1,hm _ h.2.2.2⟩
theorem BD {esz bytes:Nat} {s x:AV} {φ ψ:List AV→Prop} (hm:∀ z,φ z→ψ z) (h:bp esz bytes s x φ):bp esz bytes s x ψ:=by
 unfold bp at *
 split at h <;> (try exact h.elim)
 exact ⟨h.1,h.2.1,hm _ h.2.2⟩
theorem y9 {esz bytes:Nat} {z s x:AV} {H:List aa} {K K':AV→List aa→Prop} (hm:∀ v H',K v H'→K' v H') (h:ch esz bytes z s x H K):ch esz bytes z s x H K':=by
 unfold ch at *
 cases hr:dG x with
 | none=>
   rw [hr] at h
   simp only at h ⊢
   split at h <;> try exact h.elim
   rename_i id off len cap n ys yW
   cases hi:H[id]? with
   | none=>rw [hi] at h;exact h.elim
   | some ob=>
     rw [hi] at h
     cases ob with
     | cells es=>
       obtain ⟨a,b,c,d,e,f⟩:=h
       exact ⟨a,b,c,d,e,hm _ _ f⟩
     | _=>exact h.elim
 | some ys=>
   rw [hr] at h
   obtain ⟨h1,h⟩:=h
   refine ⟨h1,?_⟩
   cases s with
   | ag=>
     obtain ⟨a,b,c⟩:=h
     exact ⟨a,fun e=>hm _ _ (b e),fun e cap h1 h2=>⟨(c e cap h1 h2).1,hm _ _ (c e cap h1 h2).2⟩⟩
   | pW=>
     obtain ⟨a,b,c⟩:=h
     exact ⟨a,fun e=>hm _ _ (b e),fun e cap h1 h2=>⟨(c e cap h1 h2).1,hm _ _ (c e cap h1 h2).2⟩⟩
   | ba id off len cap=>
     simp only at h ⊢
     cases hi:H[id]? with
     | none=>rw [hi] at h;exact h.elim
     | some ob=>
       rw [hi] at h
       cases ob with
       | cells es=>
         obtain ⟨a,b,c,d,f⟩:=h
         exact ⟨a,b,c,fun e=>⟨(d e).1,hm _ _ (d e).2⟩,fun e gA h1 h2=>⟨(f e gA h1 h2).1,hm _ _ (f e gA h1 h2).2⟩⟩
       | _=>exact h.elim
   | _=>exact h.elim
theorem BE {esz:Nat} {z x:AV} {H:List aa} {K K':List aa→Prop} (hm:∀ H',K H'→K' H') (h:jh esz z x H K):jh esz z x H K':=by
 unfold jh at *
 split at h <;> (try exact h.elim)
 split at h <;> (try exact h.elim)
 exact ⟨h.1,h.2.1,h.2.2.1,hm _ h.2.2.2⟩
theorem DG {esz bytes:Nat} {z n:AV} {H:List aa} {K K':AV→List aa→Prop} (hm:∀ v H',K v H'→K' v H') (h:fG esz bytes z n H K):fG esz bytes z n H K':=by
 unfold fG at *
 split at h <;> (try exact h.elim)
 exact ⟨h.1,h.2.1,h.2.2.1,hm _ _ h.2.2.2⟩
theorem BF {kd:Nat} {m k x:AV} {H:List aa} {K K':List aa→Prop} (hm:∀ H',K H'→K' H') (h:fW kd m k x H K):fW kd m k x H K':=by
 unfold fW at *
 split at h <;> (try exact h.elim)
 split at h <;> (try exact h.elim)
 refine ⟨h.1,h.2.1,h.2.2.1,?_⟩
 obtain ⟨_,_,_,h⟩:=h
 split at h
 ·exact hm _ h
 ·exact ⟨h.1,hm _ h.2⟩
 ·exact h.elim
theorem Gq {esz:Nat} {d s:AV} {H:List aa} {K K':AV→List aa→Prop} (hm:∀ v H',K v H'→K' v H') (h:kC esz d s H K):kC esz d s H K':=by
 unfold kC at *
 split at h <;> (try exact h.elim)
 split at h <;> (try exact h.elim)
 exact ⟨h.1,h.2.1,h.2.2.1,hm _ _ h.2.2.2⟩
theorem lg {esz:Nat} {x:AV} {H:List aa} {K K':AV→List aa→Prop} (hm:∀ v H',K v H'→K' v H') (h:dx esz x H K):dx esz x H K':=by
 unfold dx at *
 split at h
 ·split at h <;> (try exact h.elim)
  exact ⟨h.1,h.2.1,h.2.2.1,h.2.2.2.1,hm _ _ h.2.2.2.2⟩
 ·exact h.elim
 ·exact hm _ _ h
 ·exact hm _ _ h
theorem uQ {esz:Nat}:∀ {xs:List AV} {H:List aa} {K K':List AV→List aa→Prop} (hm:∀ v H',K v H'→K' v H') (h:kD esz xs H K),kD esz xs H K'
 | [],H,K,K',hm,h=>hm _ _ h
 | x::r,H,K,K',hm,h=>lg (fun v H' hk=>uQ (fun vs H'' h2=>hm _ _ h2) hk) h
theorem JD {e id c:Nat} {H:List aa} {K K':List aa→Prop} (hm:∀ H',K H'→K' H') (h:Bu e id c H K):Bu e id c H K':=by
 unfold Bu at *
 split at h <;> (try exact h.elim)
 split at h <;> (try exact h.elim)
 ·exact lg (fun v H' hk=>⟨hk.1,hk.2.1,hm _ hk.2.2⟩) h
 ·exact hm _ h
theorem xe {esz:Nat} {x:AV} {H:List aa} {K K':AV→List aa→Prop} (hm:∀ v H',K v H'→K' v H') (h:ft esz x H K):ft esz x H K':=by
 unfold ft at *
 split at h
 ·exact uQ (fun v H' hk=>hm _ _ hk) h
 ·split at h
  ·rename_i hc;rw [if_pos hc];exact JD (hm _) h
  ·rename_i hc;rw [if_neg hc];exact lg hm h
 ·exact lg hm h
theorem BG {l m:Nat} {p x:AV} {H:List aa} {K K':List aa→Prop} (hm:∀ H',K H'→K' H') (h:iv l m p x H K):iv l m p x H K':=by
 unfold iv at *
 split at h <;> (try exact h.elim)
 split at h <;> (try exact h.elim)
 exact ⟨h.1,h.2.1,h.2.2.1,h.2.2.2.1,h.2.2.2.2.1,h.2.2.2.2.2.1,hm _ h.2.2.2.2.2.2⟩
theorem oW {env1 c9:Env} {pass:Option Nat}:∀ {is:List IX} {j:Nat},(∀ i∈is,ap c9 i=ap env1 i)→aL c9 pass j is=aL env1 pass j is
 | [],_,_=>rfl
 | .t s::r,j,h=>by
   have h1:get c9 s=get env1 s:=h (.t s) (by simp)
   simp only [aL,h1,oW (fun i hi=>h i (aa6 _ hi))]
 | .c v::r,j,h=>by
   simp only [aL,oW (fun i hi=>h i (aa6 _ hi))]
theorem gX {lo:Option IX} {env1 c9:Env} (h:∀ i∈lo.toList,ap c9 i=ap env1 i):iz c9 lo=iz env1 lo:=by
 cases lo with
 | none=>rfl
 | some i=>simp [iz,h i (by simp)]
theorem pC {P:Px} {o:cq} {dst:Option Nat} {env1 c9:Env} {H:List aa} {K1 K2:Env→List aa→Prop} (hl:∀ i∈o.all,ap c9 i=ap env1 i) (h:bC P o dst env1 H K1)
 (hK:∀ (mods:List (Nat×AV)) H',(∀ p∈mods,dst=some p.1∨p.1∈o.kill)→(o.Uu=false→H'=H)→(o.zV=true→∃ e,H'=H++e)→K1 (mods++env1) H'→K2 (mods++c9) H'):bC P o dst c9 H K2:=by
 have kput:∀ z H',(o.Uu=false→H'=H)→(o.zV=true→∃ e,H'=H++e)→K1 (put dst z env1) H'→K2 (put dst z c9) H':=by
  intro z H' hc hg
  cases hd:dst with
  | none=>exact hK [] H' (by simp) hc hg
  | some d=>exact hK [(d,z)] H' (by simp [hd]) hc hg
 have kput0:∀ z,K1 (put dst z env1) H→K2 (put dst z c9) H:=fun z=>kput z H (fun _=>rfl) (fun _=>⟨[],by simp⟩)
 have kenv:∀ H',(o.Uu=false→H'=H)→(o.zV=true→∃ e,H'=H++e)→K1 env1 H'→K2 c9 H':=fun H' hc hg=>hK [] H' (by simp) hc hg
 cases o with
 | set i take=>
   simp only [cq.all,aa4,forall_eq] at hl
   simp only [bC] at h ⊢
   cases dst with
   | none=>exact kenv H (fun _=>rfl) (fun _=>⟨[],by simp⟩) h
   | some d=>
     simp only at h ⊢
     cases i with
     | c v=>cases take <;> exact kput0 _ h
     | t s=>
       have hs:get c9 s=get env1 s:=hl
       cases take with
       | false=>
         have e1:vx env1 d (.t s) false=put (some d) (get env1 s).ab env1:=rfl
         have e2:vx c9 d (.t s) false=put (some d) (get env1 s).ab c9:=by simp only [vx,put,ap,hs]
         rw [e2];rw [e1] at h
         exact kput0 _ h
       | true=>
         have e1:vx env1 d (.t s) true=[(d,get env1 s),(s,(get env1 s).ab)]++env1:=rfl
         have e2:vx c9 d (.t s) true=[(d,get env1 s),(s,(get env1 s).ab)]++c9:=by simp only [vx,hs];rfl
         rw [e2];rw [e1] at h
         exact hK _ H (by simp [cq.kill]) (fun _=>rfl) (fun _=>⟨[],by simp⟩) h
 | pick c a b=>
   simp only [cq.all,OU,abO,or_false,forall_eq_or_imp,forall_eq] at hl
   obtain ⟨h1,h2,h3⟩:=hl
   simp only [bC] at h ⊢
   rw [h1,h2,h3]
   obtain ⟨q,hq,h⟩:=pA h
   rw [hq]
   exact ⟨fun e=>kput0 _ (h.1 e),fun e=>kput0 _ (h.2 e)⟩
 | bin op i j=>
   simp only [cq.all,OU,abO,or_false,forall_eq_or_imp,forall_eq] at hl
   simp only [bC] at h ⊢
   rw [hl.1,hl.2]
   exact tx kput0 h
 | shift op i j=>
   simp only [cq.all,OU,abO,or_false,forall_eq_or_imp,forall_eq] at hl
   simp only [bC] at h ⊢
   rw [hl.1,hl.2]
   exact oQ kput0 h
 | iX neq i j=>
   simp only [cq.all,OU,abO,or_false,forall_eq_or_imp,forall_eq] at hl
   simp only [bC] at h ⊢
   rw [hl.1,hl.2]
   exact m9 kput0 h
 | indexAddr esz i j=>
   simp only [cq.all,OU,abO,or_false,forall_eq_or_imp,forall_eq] at hl
   simp only [bC] at h ⊢
   rw [hl.1,hl.2]
   exact ⟨h.1,jO kput0 h.2⟩
 | dn i j=>
   simp only [cq.all,OU,abO,or_false,forall_eq_or_imp,forall_eq] at hl
   simp only [bC] at h ⊢
   rw [hl.1,hl.2]
   exact kH kput0 h
 | eh n i j=>
   simp only [cq.all,OU,abO,or_false,forall_eq_or_imp,forall_eq] at hl
   simp only [bC] at h ⊢
   rw [hl.1,hl.2]
   exact kI kput0 h
 | lookup kd z i j ok=>
   simp only [cq.all,OU,abO,or_false,forall_eq_or_imp,forall_eq] at hl
   simp only [bC] at h ⊢
   rw [hl.1,hl.2]
   exact nc kput0 h
 | mx big i j=>
   simp only [cq.all,OU,abO,or_false,forall_eq_or_imp,forall_eq] at hl
   simp only [bC] at h ⊢
   rw [hl.1,hl.2]
   exact xd kput0 h
 | store m i j=>
   simp only [cq.all,OU,abO,or_false,forall_eq_or_imp,forall_eq] at hl
   simp only [bC] at h ⊢
   rw [hl.1,hl.2]
   exact DF (fun H' hk=>kenv H' (fun e=>by cases e) (fun e=>by cases e) hk) h
 | oE m i j=>
   simp only [cq.all,OU,abO,or_false,forall_eq_or_imp,forall_eq] at hl
   simp only [bC] at h ⊢
   rw [hl.1,hl.2]
   split at h <;> (try exact h.elim)
   exact BG (fun H' hk=>kenv H' (fun e=>by cases e) (fun e=>by cases e) hk) h
 | append esz bytes i j=>
   simp only [cq.all,OU,abO,or_false,forall_eq_or_imp,forall_eq] at hl
   simp only [bC] at h ⊢
   rw [hl.1,hl.2]
   refine BD (fun zs hk=>?_) h
   cases i with
   | c v=>exact kput0 _ hk
   | t s=>
     have hs:get c9 s=get env1 s:=hl.1
     have e:∀ env:Env,get env s=get env1 s→put dst (.ak esz zs) (cW env (IX.t s).slot)=(put dst (.ak esz zs) [(s,(get env1 s).ab)])++env:=by
      intro env he
      cases dst <;> simp [put,cW,IX.slot,he]
     rw [e env1 rfl] at hk
     rw [e c9 hs]
     refine hK _ H ?_ (fun _=>rfl) (fun _=>⟨[],by simp⟩) hk
     intro p hp
     cases dst with
     | none=>simp [put] at hp;subst hp;right;simp [cq.kill]
     | some d=>
       simp [put] at hp
       rcases hp with rfl | rfl
       ·left;rfl
       ·right;simp [cq.kill]
 | copy esz i j=>
   simp only [cq.all,OU,abO,or_false,forall_eq_or_imp,forall_eq] at hl
   simp only [bC] at h ⊢
   rw [hl.1,hl.2]
   exact Gq (fun v H' hk=>kput v H' (fun e=>by cases e) (fun e=>by cases e) hk) h
 | lG kd i j k=>
   simp only [cq.all,OU,abO,or_false,forall_eq_or_imp,forall_eq] at hl
   simp only [bC] at h ⊢
   rw [hl.1,hl.2.1,hl.2.2]
   exact BF (fun H' hk=>kenv H' (fun e=>by cases e) (fun e=>by cases e) hk) h
 | fS i s=>
   simp only [cq.all,OU,abO,or_false,forall_eq_or_imp,forall_eq] at hl
   simp only [bC] at h ⊢
   have hs:get c9 s=get env1 s:=hl.2
   rw [hl.1,hs]
   exact y8 (fun H' hk=>hK [(s,(get env1 s).ab)] H' (by simp [cq.kill]) (fun e=>by cases e) (fun e=>by cases e) hk) h
 | jW kd neq i=>
   simp only [cq.all,aa4,forall_eq] at hl
   simp only [bC] at h ⊢
   rw [hl]
   exact uM kput0 h
 | un op i=>
   simp only [cq.all,aa4,forall_eq] at hl
   simp only [bC] at h ⊢
   rw [hl]
   exact xc kput0 h
 | box i=>
   simp only [cq.all,aa4,forall_eq] at hl
   simp only [bC] at h ⊢
   rw [hl]
   exact ⟨h.1,h.2.1,kput _ _ (fun e=>by cases e) (fun _=>⟨_,rfl⟩) h.2.2⟩
 | mR i=>
   simp only [cq.all,aa4,forall_eq] at hl
   simp only [bC] at h ⊢
   rw [hl]
   exact ⟨h.1,kput0 _ h.2⟩
 | s7 m i=>
   simp only [cq.all,aa4,forall_eq] at hl
   simp only [bC] at h ⊢
   rw [hl]
   exact ⟨h.1,h.2.1,h.2.2.1,kput0 _ h.2.2.2⟩
 | alloc z=>
   simp only [bC] at h ⊢
   exact ⟨h.1,kput _ _ (fun e=>by cases e) (fun _=>⟨_,rfl⟩) h.2⟩
 | oG=>
   simp only [bC] at h ⊢
   exact kput _ _ (fun e=>by cases e) (fun _=>⟨_,rfl⟩) h
 | load sz i=>
   simp only [cq.all,aa4,forall_eq] at hl
   simp only [bC] at h ⊢
   rw [hl]
   exact kG kput0 h
 | uw sz esz i=>
   simp only [cq.all,aa4,forall_eq] at hl
   simp only [bC] at h ⊢
   rw [hl]
   exact kG (fun z hz=>xe (fun v H' hk=>kput v H' (fun e=>by cases e) (fun e=>by cases e) hk) hz) h
 | eU i=>
   simp only [cq.all,aa4,forall_eq] at hl
   simp only [bC] at h ⊢
   rw [hl]
   cases dst with
   | none=>exact h.elim
   | some d=>
     cases hv:ap env1 i with
     | ptr id off=>
       rw [hv] at h
       simp only at h ⊢
       cases bu:H[id]? with
       | none=>rw [bu] at h;exact h.elim
       | some ob=>
         rw [bu] at h
         cases ob with
         | cells es=>exact ⟨h.1,hK [(d,es.getD off .any)] _ (by simp) (fun e=>by cases e) (fun e=>by cases e) h.2⟩
         | _=>exact h.elim
     | _=>rw [hv] at h;exact h.elim
 | Bf esz i=>
   simp only [cq.all,aa4,forall_eq] at hl
   simp only [bC] at h ⊢
   rw [hl]
   exact xe (fun v H' hk=>kput v H' (fun e=>by cases e) (fun e=>by cases e) hk) h
 | nilCheck i=>
   simp only [cq.all,aa4,forall_eq] at hl
   simp only [bC] at h ⊢
   rw [hl]
   exact kJ kput0 h
 | fieldAddr off sz i=>
   simp only [cq.all,aa4,forall_eq] at hl
   simp only [bC] at h ⊢
   rw [hl]
   exact jN kput0 h
 | field off sz i=>
   simp only [cq.all,aa4,forall_eq] at hl
   simp only [bC] at h ⊢
   rw [hl]
   exact oR kput0 h
 | len kd i=>
   simp only [cq.all,aa4,forall_eq] at hl
   simp only [bC] at h ⊢
   rw [hl]
   exact ⟨h.1,tA kput0 h.2⟩
 | ux esz bytes z i=>
   simp only [cq.all,aa4,forall_eq] at hl
   simp only [bC] at h ⊢
   rw [hl]
   exact DG (fun v H' hk=>kput v H' (fun e=>by cases e) (fun e=>by cases e) hk) h
 | oF esz bytes i=>
   simp only [cq.all,aa4,forall_eq] at hl
   simp only [bC] at h ⊢
   rw [hl]
   exact uO kput0 h
 | extract i k=>
   simp only [cq.all,aa4,forall_eq] at hl
   simp only [bC] at h ⊢
   rw [hl]
   exact lO kput0 h
 | fq k i=>
   simp only [cq.all,aa4,forall_eq] at hl
   simp only [bC] at h ⊢
   rw [hl]
   exact lP kput0 h
 | iq i=>
   simp only [cq.all,aa4,forall_eq] at hl
   simp only [bC] at h ⊢
   rw [hl]
   exact qh kput0 h
 | bytesOf i=>
   simp only [cq.all,aa4,forall_eq] at hl
   simp only [bC] at h ⊢
   rw [hl]
   exact qi kput0 h
 | strOf i=>
   simp only [cq.all,aa4,forall_eq] at hl
   simp only [bC] at h ⊢
   rw [hl]
   exact uN kput0 h
 | build z ps=>
   simp only [cq.all] at hl
   simp only [bC] at h ⊢
   have:(ps.map fun q=>(q.1,q.2.1,ap c9 q.2.2))=ps.map fun q=>(q.1,q.2.1,ap env1 q.2.2):=
    acT fun q hq=>by rw [hl _ (aaR.2 ⟨q,hq,rfl⟩)]
   rw [this]
   exact ni (fun v hk=>kput0 _ hk) h
 | Dc esz z len ps=>
   simp only [cq.all] at hl
   simp only [bC] at h ⊢
   have:(ps.map fun q=>(q.1,ap c9 q.2))=ps.map fun q=>(q.1,ap env1 q.2):=
    acT fun q hq=>by rw [hl _ (aaR.2 ⟨q,hq,rfl⟩)]
   rw [this]
   exact iB (fun v hk=>⟨hk.1,kput _ _ (fun e=>by cases e) (fun e=>by cases e) hk.2⟩) h
 | jZ esz bytes z i j=>
   simp only [cq.all,OU,abO,or_false,forall_eq_or_imp,forall_eq] at hl
   simp only [bC] at h ⊢
   rw [hl.1,hl.2]
   exact y9 (fun v H' hk=>kput v H' (fun e=>by cases e) (fun e=>by cases e) hk) h
 | oH esz z i=>
   simp only [cq.all,aa4,forall_eq] at hl
   simp only [bC] at h ⊢
   rw [hl]
   exact BE (fun H' hk=>kput _ H' (fun e=>by cases e) (fun e=>by cases e) hk) h
 | buildSlice own esz z len ps=>
   simp only [cq.all] at hl
   simp only [bC] at h ⊢
   have:(ps.map fun q=>(q.1,ap c9 q.2))=ps.map fun q=>(q.1,ap env1 q.2):=
    acT fun q hq=>by rw [hl _ (aaR.2 ⟨q,hq,rfl⟩)]
   rw [this]
   exact iB (fun v hk=>kput0 _ hk) h
 | slice esz i lo hi m=>
   simp only [cq.all,OU,ab7,forall_eq_or_imp] at hl
   obtain ⟨h1,h2⟩:=hl
   simp only [bC] at h ⊢
   rw [h1,gX (fun i hi=>h2 i (.inl (.inl hi))),gX (fun i hi=>h2 i (.inl (.inr hi))),gX (fun i hi=>h2 i (.inr hi))]
   exact nh kput0 h
 | qB esz i lo hi m=>
   simp only [cq.all,OU,ab7,forall_eq_or_imp] at hl
   obtain ⟨h1,h2⟩:=hl
   simp only [bC] at h ⊢
   rw [h1,gX (fun i hi=>h2 i (.inl (.inl hi))),gX (fun i hi=>h2 i (.inl (.inr hi))),gX (fun i hi=>h2 i (.inr hi))]
   exact ⟨h.1,uP (fun z hz=>⟨hz.1,kput0 _ hz.2⟩) h.2⟩
 | ej i lo hi=>
   simp only [cq.all,OU,ab7,forall_eq_or_imp] at hl
   obtain ⟨h1,h2⟩:=hl
   simp only [bC] at h ⊢
   rw [h1,gX (fun i hi=>h2 i (.inl hi)),gX (fun i hi=>h2 i (.inr hi))]
   exact kK kput0 h
 | fn f first cap=>
   simp only [cq.all,ab7] at hl
   simp only [bC] at h ⊢
   rw [oU (fun i hi=>hl i (.inl hi)) AV.ab,oU (fun i hi=>hl i (.inr hi)) AV.ab]
   exact kput0 _ h
 | call f args pass=>
   simp only [cq.all,OU,forall_eq_or_imp] at hl
   obtain ⟨h1,h2⟩:=hl
   simp only [bC,qg] at h ⊢
   rw [h1]
   split at h <;> try exact h.elim
   all_goals
   obtain ⟨bY,hle,hcall⟩:=h
   refine ⟨bY,?_,hcall.mono fun r H' hk=>?_⟩
   ·rw [oW h2];exact hle
   ·cases hp:bj args pass with
    | none=>
      rw [hp] at hk
      exact kput r H' (fun e=>by cases e) (fun e=>by cases e) hk
    | some s=>
      rw [hp] at hk
      have jF:IX.t s∈args∧s∈(cq.call f args pass).kill:=by
       unfold bj at hp
       simp only [cq.kill]
       split at hp
       ·rename_i j
        split at hp <;> cases hp
        rename_i hj
        try simp only [hj]
        exact ⟨abJ hj,by simp⟩
       ·cases hp
      have hs:get c9 s=get env1 s:=h2 _ jF.1
      have e:∀ env:Env,get env s=get env1 s→put dst r (cW env (some s))=(put dst r [(s,(get env1 s).ab)])++env:=by
       intro env he
       cases dst <;> simp [put,cW,he]
      rw [e env1 rfl] at hk
      rw [e c9 hs]
      refine hK _ H' ?_ (fun e=>by cases e) (fun e=>by cases e) hk
      intro p XK
      cases dst with
      | none=>simp [put] at XK;subst XK;exact .inr jF.2
      | some d=>
        simp [put] at XK
        rcases XK with rfl | rfl
        ·left;rfl
        ·exact .inr jF.2
 | never=>exact h.elim
end Go.aK
end
section
namespace Go.aK
open Go
theorem db {env1 c9:Env} (h:get env1=get c9):∀ mods:List (Nat×AV),get (mods++env1)=get (mods++c9)
 | []=>h
 | (k,v)::r=>by
   funext t
   simp only [List.cons_append,get]
   split
   ·rfl
   ·rw [db h r]
theorem qj {env1 c9:Env} {t:Nat} (h:get env1 t=get c9 t):∀ mods:List (Nat×AV),get (mods++env1) t=get (mods++c9) t
 | []=>h
 | (k,v)::r=>by
   simp only [List.cons_append,get]
   split
   ·rfl
   ·rw [qj h r]
theorem lQ {env:Env} {t:Nat}:∀ {mods:List (Nat×AV)},(∀ p∈mods,p.1≠t)→get (mods++env) t=get env t
 | [],_=>rfl
 | (k,v)::r,h=>by
   simp only [List.cons_append,get]
   rw [if_neg (fun e=>h (k,v) (by simp) e.symm),lQ (fun p hp=>h p (by simp [hp]))]
theorem JE {l:List IX} {s:Nat} (h:IX.t s∈l):s∈IX.S1 l:=List.mem_filterMap.2 ⟨_,h,rfl⟩
theorem Gs {o:bE} {env1 c9:Env} (hl:∀ s∈o.lk,get c9 s=get env1 s):∀ i∈o.op.all,ap c9 i=ap env1 i:=by
 intro i hi
 cases i with
 | c v=>rfl
 | t s=>exact hl s (agw _ (JE hi))
theorem get_guard {env:Env} {g:Nat} {b:Bool} (h:get env g=.bool b):get ((g,AV.bool b)::env)=get env:=by
 funext t
 simp only [get]
 split
 ·rename_i e;rw [e,h]
 ·rfl
theorem pD {P:Px} {o:bE} {env1 c9:Env} {H:List aa} {K1 K2:Env→List aa→Prop} (hl:∀ s∈o.lk,get c9 s=get env1 s) (h:tu P o env1 H K1)
 (hK:∀ e1 e2 H',(∃ mods:List (Nat×AV),(∀ p∈mods,o.dst=some p.1∨p.1∈o.op.kill)∧get e1=get (mods++env1)∧get e2=get (mods++c9))→(o.op.Uu=false→H'=H)→(o.op.zV=true→∃ e,H'=H++e)→K1 e1 H'→K2 e2 H'):tu P o c9 H K2:=by
 unfold tu at *
 cases hg:o.g with
 | none=>
   simp only [hg] at h ⊢
   exact pC (Gs hl) h fun mods H' hm hc hg hk=>hK _ _ H' ⟨mods,hm,rfl,rfl⟩ hc hg hk
 | some p=>
   obtain ⟨g,want⟩:=p
   simp only [hg] at h ⊢
   unfold ja at *
   have vS:get c9 g=get env1 g:=hl g (by simp [bE.lk,hg])
   rw [vS]
   split at h
   rotate_left
   ·rename_i hb
    refine hK _ _ H ⟨(match o.dst with | some d=>[(d,.tuple [])] | none=>[]),?_,?_,?_⟩ (fun _=>rfl) (fun _=>⟨[],by simp⟩) h
    ·cases hd:o.dst <;> simp
    ·cases hd:o.dst <;> rfl
    ·cases hd:o.dst <;> rfl
   ·exact h.elim
   rename_i b hb
   have rv:get c9 g=.bool b:=by rw [vS,hb]
   refine ⟨fun e=>?_,fun e=>?_⟩
   ·subst e
    refine pC (env1:=(g,.bool b)::env1) (Gs (o:=o) fun s hs=>?_) (h.1 rfl) fun mods H' hm hc hg hk=>hK _ _ H' ⟨mods,hm,db (get_guard hb) mods,db (get_guard rv) mods⟩ hc hg hk
    rw [get_guard hb,get_guard rv]
    exact hl s hs
   ·have h2:=h.2 e
    subst e
    refine hK _ _ H ⟨(match o.dst with | some d=>[(d,.tuple [])] | none=>[]),?_,?_,?_⟩ (fun _=>rfl) (fun _=>⟨[],by simp⟩) h2
    ·cases hd:o.dst <;> simp
    ·cases hd:o.dst with
     | none=>exact get_guard hb
     | some d=>exact db (get_guard hb) [(d,.tuple [])]
    ·cases hd:o.dst with
     | none=>exact get_guard rv
     | some d=>exact db (get_guard rv) [(d,.tuple [])]
theorem rL {P:Px} {o:bE} {env:Env} {H:List aa} {K1 K2:Env→List aa→Prop} (h:tu P o env H K1)
 (hK:∀ e1 e2 H',get e1=get e2→K1 e1 H'→K2 e2 H'):tu P o env H K2:=
 pD (fun _ _=>rfl) h fun e1 e2 H' ⟨mods,_,h1,h2⟩ _ _ hk=>hK e1 e2 H' (h1.trans h2.symm) hk
section
variable {P:Px} {ops:Array Oper} {il:List bE} {K:Env→List aa→Prop}
def qA (P:Px) (il:List bE) (i:Nat) (env:Env) (H:List aa) (K:Env→List aa→Prop):Prop:=
 match il[i]? with
 | none=>K env H
 | some o=>tu P o env H K
def xf (P:Px) (ops:Array Oper) (il:List bE) (K:Env→List aa→Prop):Nat→Array Bool→Env→List aa→Prop
 | 0,listed,env,H=>Region.ready .any ops listed=[]∧K env H
 | f + 1,listed,env,H=>(Region.ready .any ops listed=[]→K env H)∧∀ i∈Region.ready .any ops listed,qA P il i env H (xf P ops il K f (listed.setIfInBounds i true))
def Inv (K:Env→List aa→Prop):Prop:=∀ e1 e2 H,get e1=get e2→K e1 H→K e2 H
theorem jb (hK:Inv K):∀ (f:Nat) (listed:Array Bool) {e1 e2:Env} {H:List aa},get e1=get e2→xf P ops il K f listed e1 H→xf P ops il K f listed e2 H
 | 0,_,_,_,_,he,h=>⟨h.1,hK _ _ _ he h.2⟩
 | f + 1,listed,e1,e2,H,he,h=>by
   refine ⟨fun h0=>hK _ _ _ he (h.1 h0),fun i hi=>?_⟩
   have hq:=h.2 i hi
   unfold qA at *
   split
   ·rename_i hn;simp only [hn] at hq;exact jb hK f _ he hq
   ·rename_i o ho
    simp only [ho] at hq
    exact pD (fun s _=>by rw [he]) hq fun a b H' ⟨mods,_,h1,h2⟩ _ _ hk=>jb hK f _ (by rw [h1,h2,db he]) hk
def Yr (P:Px) (st:Bool) (o:bE) (env:Env) (H:List aa) (x:AV):Prop:=
 ∃ ρ:IX→AV,(∀ i∈o.op.all,ap env i=ρ i)∧match o.g with
  | none=>dv P st o.op ρ H x
  | some (g,want)=>(∃ b,get env g=.bool b∧(b=want→dv P st o.op ρ H x)∧(b≠want→x=.tuple []))∨(get env g=.tuple []∧x=.tuple [])
theorem Ic {st:Bool} {o:cq} {ρ:IX→AV} {H:List aa} {x:AV} (h:dv P st o ρ H x):dh P o ρ H x:=by
 cases st
 ·exact h H
 ·exact h
theorem xg {H e:List aa} {id:Nat} {o:aa} (h:H[id]?=some o):(H++e)[id]?=some o:=by
 rw [zA (aaH.1 h).1,h]
theorem Gu {sz:Option Nat} {x:AV} {H e:List aa} {φ:AV→Prop} (h:aU sz x H φ):aU sz x (H++e) φ:=by
 unfold aU at *
 split at h
 ·split at h
  ·rename_i bu;rw [xg bu];exact h
  ·exact h.elim
 ·exact h
 ·exact h.elim
theorem JF {x:AV} {H e:List aa} {φ:AV→Prop} (h:fT x H φ):fT x (H++e) φ:=by
 unfold fT at *
 split at h <;> (try exact h)
 split at h
 ·rename_i bu;rw [xg bu];exact h
 ·exact h.elim
theorem BH {kd:Nat} {z m k:AV} {ok:Bool} {H e:List aa} {φ:AV→Prop} (h:cB kd z m k ok H φ):cB kd z m k ok (H++e) φ:=by
 unfold cB at *
 split at h <;> (try exact h)
 split at h
 ·rename_i bu;rw [xg bu];exact h
 ·exact h.elim
theorem zZ {o:cq} {ρ:IX→AV} {H e:List aa} {x:AV} (hs:o.stays=true) (h:dh P o ρ H x):dh P o ρ (H++e) x:=by
 cases o with
 | call f args pass=>cases hs
 | load sz i=>
   unfold dh at h ⊢
   exact Gu h
 | len kd i=>
   unfold dh at h ⊢
   exact ⟨h.1,JF h.2⟩
 | lookup kd z m k ok=>
   unfold dh at h ⊢
   exact BH h
 | set i t=>cases t <;> exact h
 | _=>exact h
theorem DH {st:Bool} {o:cq} {ρ:IX→AV} {H H':List aa} {x:AV} (hH:st=true→H'=H∨(o.stays=true∧∃ e,H'=H++e)) (h:dv P st o ρ H x):dv P st o ρ H' x:=by
 cases st
 ·exact h
 ·rcases hH rfl with e | ⟨h1,e,he⟩
  ·rw [e];exact h
  ·rw [he];exact zZ h1 h
theorem JG {st:Bool} {o:bE} {env1 c9:Env} {H1 H2:List aa} {x:AV} (hl:∀ s∈o.lk,get c9 s=get env1 s) (hH:st=true→H2=H1∨(o.op.stays=true∧∃ e,H2=H1++e)) (h:Yr P st o env1 H1 x):Yr P st o c9 H2 x:=by
 obtain ⟨ρ,h1,h2⟩:=h
 refine ⟨ρ,fun i hi=>(Gs hl i hi).trans (h1 i hi),?_⟩
 cases hg:o.g with
 | none=>simp only [hg] at h2 ⊢;exact DH hH h2
 | some p=>
   obtain ⟨g,want⟩:=p
   simp only [hg] at h2 ⊢
   rcases h2 with ⟨b,k1,k2,k3⟩ | ⟨k1,k2⟩
   ·exact .inl ⟨b,(hl g (by simp [bE.lk,hg])).trans k1,fun e=>DH hH (k2 e),k3⟩
   ·exact .inr ⟨(hl g (by simp [bE.lk,hg])).trans k1,k2⟩
theorem Ie {st:Bool} {o:bE} {env:Env} {H:List aa} {x:AV} (h:Yr P st o env H x):tu P o env H fun e H'=>H'=H∧get e=get (put o.dst x env):=by
 obtain ⟨ρ,h1,h2⟩:=h
 unfold tu
 cases hg:o.g with
 | none=>simp only [hg] at h2 ⊢;exact DE (Ic h2) h1
 | some p=>
   obtain ⟨g,want⟩:=p
   simp only [hg] at h2 ⊢
   rcases h2 with ⟨b,k1,k2,k3⟩ | ⟨k1,k2⟩
   rotate_left
   ·unfold ja
    rw [k1]
    subst k2
    exact ⟨by simp,rfl⟩
   unfold ja
   rw [k1]
   refine ⟨fun e=>?_,fun e=>?_⟩
   ·subst e
    have OY:=get_guard k1
    have:=DE (dst:=o.dst) (env:=(g,.bool b)::env) (Ic (k2 rfl)) (fun i hi=>by
     rw [← h1 i hi]
     cases i with
     | c v=>rfl
     | t s=>show get _ s=get _ s;rw [OY])
    refine pC (fun _ _=>rfl) this ?_
    intro mods H' _ _ _ hk
    refine ⟨hk.1,hk.2.trans ?_⟩
    rw [lf,lf,OY]
   ·have eS:b≠want:=by intro e2;subst e2;cases b <;> cases e
    have hx:=k3 eS
    subst hx
    subst e
    exact ⟨by simp,by rw [lf,lf,get_guard k1]⟩
def closed (ops:Array Oper) (listed:Array Bool):Prop:=∀ k o,ops[k]?=some o→listed.getD k false=true→∀ e∈o.after,Region.binds .any e=true→listed.getD e.on false=true
theorem mi {listed:Array Bool} (hc:closed ops listed) {i:Nat}:∀ (f j:Nat) (oj:Oper),ops[j]?=some oj→(∀ e∈oj.after,Region.binds .any e=true→listed.getD e.on false=true)→dD ops f j i=true→listed.getD i false=true
 | 0,_,_,_,_,h=>by simp [dD] at h
 | f + 1,j,oj,hj,jn,h=>by
   simp only [dD,hj] at h
   obtain ⟨k,hk,he⟩:=Array.any_eq_true.1 h
   simp only [zB,acY,beq_iff_eq] at he
   have jF:oj.after[k]∈oj.after:=Array.getElem_mem hk
   have hl:=jn _ jF he.1
   rcases he.2 with e | e
   ·rw [← e];exact hl
   ·have hso:∃ o',ops[(oj.after[k]).on]?=some o':=by
     cases f with
     | zero=>simp [dD] at e
     | succ f=>
       cases ho:ops[(oj.after[k]).on]? with
       | none=>simp [dD,ho] at e
       | some o'=>exact ⟨o',rfl⟩
    obtain ⟨o',K9⟩:=hso
    exact mi hc f _ o' K9 (hc _ _ K9 hl) e
theorem qI {listed:Array Bool} {i:Nat} (h:listed.getD i true=false):listed.getD i false=false:=by
 simp only [acw] at *
 cases hx:listed[i]? with
 | none=>rfl
 | some b=>rw [hx] at h;simpa using h
theorem qJ {listed:Array Bool} (hc:closed ops listed) {j:Nat} (hj:j∈Region.ready .any ops listed):closed ops (listed.setIfInBounds j true):=by
 obtain ⟨_,oj,Uv,jn⟩:=mem_ready.1 hj
 intro k o ho hk e he hb
 refine getD_set_true ?_
 by_cases hkj:k=j
 ·subst hkj
  rw [Uv] at ho
  cases ho
  exact jn e he hb
 ·rw [getD_set_ne false (Ne.symm hkj)] at hk
  exact hc k o ho hk e he hb
theorem DI {listed:Array Bool} {i j:Nat} {st:Bool} (h:oP ops il listed i st=true) (hj:j < ops.size) (Ig:j≠i) (hun:listed.getD j true=false) (kB:dD ops ops.size j i=false):tv st (il.getD i default) (il.getD j default)=true:=by
 unfold oP at h
 have:=abo.1 h j (acz.2 hj)
 simp only [acY,beq_iff_eq,hun,kB,acv,or_false] at this
 rcases this with e | e
 ·exact absurd e Ig
 ·exact e
theorem DJ {listed:Array Bool} {i j:Nat} {st:Bool} (h:oP ops il listed i st=true):oP ops il (listed.setIfInBounds j true) i st=true:=by
 unfold oP at *
 refine abo.2 fun k hk=>?_
 have:=abo.1 h k hk
 simp only [acY] at this ⊢
 rcases this with ((e | e) | e) | e
 ·exact .inl (.inl (.inl e))
 ·refine .inl (.inl (.inr ?_))
  by_cases S0:j=k
  ·subst S0
   simp only [acw,adn]
   split
   ·split <;> simp
   ·rename_i eS;exact absurd trivial eS
  ·rw [getD_set_ne true S0];exact e
 ·exact .inl (.inr e)
 ·exact .inr e
theorem DK {st:Bool} {oi oj:bE} (h:tv st oi oj=true) :
 (∀ d,oi.dst=some d→d∉oj.lk∧oj.dst≠some d∧d∉oj.op.kill)∧(∀ d,oj.dst=some d→d∉oi.lk)∧(∀ s∈oj.op.kill,s∉oi.lk)∧(st=true→oj.op.Uu=false∨(oj.op.zV=true∧oi.op.stays=true)):=by
 unfold tv at h
 simp only [zB,acY,abp] at h
 obtain ⟨⟨⟨h1,h2⟩,h3⟩,h4⟩:=h
 refine ⟨fun d hd=>?_,fun d hd=>?_,fun s hs=>?_,fun e=>?_⟩
 ·rw [hd] at h1
  simpa [and_assoc] using h1
 ·rw [hd] at h2
  simpa using h2
 ·have:=abo.1 h3 s hs
  simpa using this
 ·rcases h4 with (e2 | e2) | e2
  ·rw [e] at e2;cases e2
  ·exact .inl e2
  ·exact .inr e2
theorem rM {l:List bE} {i:Nat} {o:bE} (h:l[i]?=some o):l.getD i default=o:=by
 rw [sT,h];rfl
theorem JH (hK:Inv K) (dm:il.length=ops.size) {i:Nat} {oi:bE} {x:AV} {st:Bool} (hi:il[i]?=some oi):∀ (f:Nat) (listed:Array Bool) {env:Env} {H:List aa},closed ops listed→oP ops il listed i st=true→i∈Region.ready .any ops listed→
 Yr P st oi env H x→xf P ops il K f (listed.setIfInBounds i true) (put oi.dst x env) H→xf P ops il K (f + 1) listed env H:=by
 intro f
 induction f with
 | zero=>
   intro listed env H jD FI hr ht hD
   refine ⟨fun h=>(by rw [h] at hr;cases hr),fun j hj=>?_⟩
   by_cases Ig:j=i
   ·subst Ig
    unfold qA
    simp only [hi]
    exact rL (Ie ht) fun e1 e2 H' he ⟨h1,h2⟩=>by
     subst h1
     exact jb hK 0 _ (h2.symm.trans he) hD
   ·have:=ready_mono hj Ig
    rw [hD.1] at this
    cases this
 | succ f ih=>
   intro listed env H jD FI hr ht hD
   refine ⟨fun h=>(by rw [h] at hr;cases hr),fun j hj=>?_⟩
   by_cases Ig:j=i
   ·subst Ig
    unfold qA
    simp only [hi]
    exact rL (Ie ht) fun e1 e2 H' he ⟨h1,h2⟩=>by
     subst h1
     exact jb hK (f + 1) _ (h2.symm.trans he) hD
   ·have h1:=hD.2 j (ready_mono hj Ig)
    obtain ⟨adH,oj',Ys,jn⟩:=mem_ready.1 hj
    have hjs:j < ops.size:=(acF.1 Ys).1
    have kB:dD ops ops.size j i=false:=by
     cases hma:dD ops ops.size j i with
     | false=>rfl
     | true=>
       have:=mi jD _ j oj' Ys jn hma
       rw [qI (mem_ready.1 hr).1] at this
       cases this
    have Yt:=DI FI hjs Ig adH kB
    rw [rM hi] at Yt
    unfold qA at *
    cases Uv:il[j]? with
    | none=>
      rw [List.getElem?_eq_none_iff] at Uv
      omega
    | some oj=>
      rw [rM Uv] at Yt
      obtain ⟨a1,a2,a3,a4⟩:=DK Yt
      simp only [Uv] at h1 ⊢
      refine pD (env1:=put oi.dst x env) (fun s hs=>?_) h1 fun e1 e2 H' ⟨mods,hm,g1,g2⟩ hch hgr hk=>?_
      ·rw [lf]
       cases hd:oi.dst with
       | none=>rfl
       | some d=>
         simp only [Uz,fZ]
         rw [if_neg]
         intro e
         exact (a1 d hd).1 (e ▸ hs)
      ·have Lb:∀ s∈oi.lk,∀ p∈mods,p.1≠s:=by
        intro s hs p hp e
        rcases hm p hp with h | h
        ·exact a2 _ h (e ▸ hs)
        ·exact a3 _ h (e ▸ hs)
       have hmd:∀ d,oi.dst=some d→∀ p∈mods,p.1≠d:=by
        intro d hd p hp e
        rcases hm p hp with h | h
        ·exact (a1 d hd).2.1 (e ▸ h)
        ·exact (a1 d hd).2.2 (e ▸ h)
       refine ih (listed.setIfInBounds j true) (qJ jD hj) (DJ FI) (ready_mono hr (Ne.symm Ig)) ?_ ?_
       ·refine JG (fun s hs=>?_) (fun e=>(a4 e).imp hch fun ⟨q1,q2⟩=>⟨q2,hgr q1⟩) ht
        rw [g2]
        exact lQ (Lb s hs)
       ·rw [Array.setIfInBounds_comm _ _ Ig]
        refine jb hK f _ ?_ hk
        rw [g1,lf,g2]
        cases hd:oi.dst with
        | none=>rfl
        | some d=>
          funext t
          simp only [Uz,fZ,put]
          by_cases htd:t=d
          ·subst htd
           rw [if_pos rfl,lQ (hmd t hd)]
           simp [get]
          ·rw [if_neg htd]
           refine qj ?_ mods
           simp [get,htd]
theorem PK (hK:Inv K) (dm:il.length=ops.size):∀ (p:yL) (f:Nat) (listed:Array Bool) {env:Env} {H:List aa},closed ops listed→
 (vF ops il f listed none p=true→vR P (inst il p) env H K→xf P ops il K f listed env H)∧
 (∀ ks,(∀ i∈ks,i∈Region.ready .any ops listed)→vF ops il (f + 1) listed (some ks) p=true→vR P (inst il p) env H K→∀ i∈ks,qA P il i env H (xf P ops il K f (listed.setIfInBounds i true))):=by
 intro p
 induction p with
 | done=>
   intro f listed env H jD
   refine ⟨fun h hd=>?_,fun ks _ h _ i hi=>?_⟩
   ·have:Region.ready .any ops listed=[]:=by
     cases f <;> simpa [vF,List.isEmpty_iff] using h
    simp only [inst,vR] at hd
    cases f with
    | zero=>exact ⟨this,hd⟩
    | succ f=>exact ⟨fun _=>hd,fun i hi=>by rw [this] at hi;cases hi⟩
   ·cases ks with
    | nil=>cases hi
    | cons k ks=>simp [vF] at h
 | nil=>
   intro f listed env H jD
   refine ⟨fun h _=>by cases f <;> simp [vF] at h,fun ks _ h _ i hi=>?_⟩
   cases ks with
   | nil=>cases hi
   | cons k ks=>simp [vF] at h
 | take k st r ih=>
   intro f listed env H jD
   refine ⟨fun h hd=>?_,fun ks _ h _ i hi=>?_⟩
   ·cases f with
    | zero=>simp [vF] at h
    | succ f=>
      simp only [vF,zB,List.contains_iff_mem] at h
      obtain ⟨⟨⟨hr,aiP⟩,FI⟩,hp⟩:=h
      obtain ⟨_,ok,jo,_⟩:=mem_ready.1 hr
      have Ga:k < il.length:=by rw [dm];exact (acF.1 jo).1
      have Ps:il[k]?=some (il.getD k default):=by rw [sT,aaf Ga];rfl
      simp only [inst,vR,uK] at hd
      have fin:∀ x,Yr P st (il.getD k default) env H x→vR P (inst il r) (put (il.getD k default).dst x env) H K→xf P ops il K (f + 1) listed env H:=by
       intro x hx hrest
       exact JH hK dm Ps f listed jD FI hr hx ((ih f _ (qJ jD hr)).1 hp hrest)
      cases hg:(il.getD k default).g with
      | none=>
        simp only [hg] at hd
        obtain ⟨x,hx,hrest⟩:=hd
        exact fin x ⟨ap env,fun _ _=>rfl,by simp only [hg];exact hx⟩ hrest
      | some gw=>
        obtain ⟨g,want⟩:=gw
        simp only [hg,ja] at hd
        split at hd
        rotate_left
        ·rename_i hb
         exact fin (.tuple []) ⟨ap env,fun _ _=>rfl,by simp only [hg];exact .inr ⟨hb,by trivial⟩⟩ hd
        ·exact hd.elim
        rename_i b hb
        by_cases Ib:b=want
        ·obtain ⟨x,hx,hrest⟩:=hd.1 Ib
         exact fin x ⟨ap env,fun _ _=>rfl,by simp only [hg];exact .inl ⟨b,hb,fun _=>hx,fun e=>absurd Ib e⟩⟩ hrest
        ·have hrest:=hd.2 (by cases b <;> cases want <;> first | rfl | exact absurd rfl Ib)
         exact fin (.tuple []) ⟨ap env,fun _ _=>rfl,by simp only [hg];exact .inl ⟨b,hb,fun e=>absurd e Ib,fun _=>by trivial⟩⟩ hrest
   ·cases ks with
    | nil=>cases hi
    | cons k ks=>simp [vF] at h
 | br k t rest LM FL=>
   intro f listed env H jD
   have key:∀ (f:Nat) (ks:List Nat),(∀ i∈k::ks,i∈Region.ready .any ops listed)→vF ops il f (listed.setIfInBounds k true) none t=true→vF ops il (f + 1) listed (some ks) rest=true→vR P (inst il (.br k t rest)) env H K→
    ∀ i∈k::ks,qA P il i env H (xf P ops il K f (listed.setIfInBounds i true)):=by
    intro f ks Ga h1 h2 hd i hi
    simp only [inst,vR] at hd
    rcases OU.1 hi with rfl | hi
    ·have hr:=Ga i (by simp)
     obtain ⟨_,ok,jo,_⟩:=mem_ready.1 hr
     have aG:i < il.length:=by rw [dm];exact (acF.1 jo).1
     have Ps:il[i]?=some (il.getD i default):=by rw [sT,aaf aG];rfl
     unfold qA
     rw [Ps]
     exact rL hd.1 fun e1 e2 H' he hk=>jb hK f _ he ((LM f _ (qJ jD hr)).1 h1 hk)
    ·exact (FL f listed jD).2 ks (fun j hj=>Ga j (by simp [hj])) h2 hd.2 i hi
   refine ⟨fun h hd=>?_,fun ks Ga h hd i hi=>?_⟩
   ·cases f with
    | zero=>simp [vF] at h
    | succ f=>
      simp only [vF] at h
      split at h
      ·rename_i k' ks hrd
       simp only [zB,beq_iff_eq] at h
       obtain ⟨⟨rfl,h1⟩,h2⟩:=h
       have:=key f ks (fun i hi=>by rw [hrd];exact hi) h1 h2 hd
       exact ⟨(fun e=>by rw [e] at hrd;cases hrd),fun i hi=>this i (by rw [hrd] at hi;exact hi)⟩
      ·cases h
   ·cases ks with
    | nil=>cases hi
    | cons k' ks=>
      simp only [vF,zB,beq_iff_eq] at h
      obtain ⟨⟨rfl,h1⟩,h2⟩:=h
      exact key f ks Ga h1 h2 hd i hi
end
end Go.aK
end
section
namespace Go.aK
open Go
section
variable {ro:Option Nat} {P:Program} {lo:Option Nat} {A:Perm} {n:Nat}
theorem oX {ops:Array Oper} {an:C9} {rid:Nat}:∀ (fuel k:Nat) (l:List Oper) (il:List bE),fw P ops an n rid false fuel k l=some il→
 il.length=l.length∧∀ (j:Nat) (o:Oper),l[j]?=some o→∃ g,H9 ops o=some g∧H8 n o=true∧il[j]?=some ⟨g,o.dst,Dx P o (an.at_ rid (k + j))⟩
 | _,_,[],il,hc=>by
   unfold fw at hc
   cases hc
   exact ⟨rfl,fun j o h=>by simp at h⟩
 | 0,_,o::r,il,hc=>by simp [fw] at hc
 | fuel + 1,k,o::r,il,hc=>by
   unfold fw at hc
   simp only [acv,and_false,if_false] at hc
   split at hc <;> try cases hc
   rename_i g xs hg eK
   split at hc <;> cases hc
   rename_i gQ
   obtain ⟨h1,h2⟩:=oX fuel (k + 1) r xs eK
   refine ⟨by simp [h1],fun j o' hj=>?_⟩
   cases j with
   | zero=>
     simp at hj
     subst hj
     exact ⟨g,hg,gQ,by simp⟩
   | succ j=>
     simp at hj
     obtain ⟨g',e1,e2,e3⟩:=h2 j o' hj
     exact ⟨g',e1,e2,by simp [e3,adf,afM 1 j]⟩
theorem uR {ops:Array Oper} {il:List bE} {an:C9} {rid:Nat} {L0:List Nat} {M0:Mem} {w0:World} {K:Env→List aa→Prop} {Q:Exit→Act→World→Prop}
 (hp:∀ l,lo=some l→∀ id,l≤id→A.top id=none) (hc:fw P ops an n rid false (ops.size + 1) 0 ops.toList=some il)
 (hF:∀ (M:Mem) (L:List Nat) (w:World) (H:List aa) (env:Env) (O:Pos→Option Nat) (a:Act),K env H→Fr A n M L w H env O a→Ext A M0 w0 M w→L0 <+: L→Q .normal a w) :
 ∀ (f:Nat) (listed:Array Bool) {M:Mem} {L:List Nat} {w:World} {H:List aa} {env:Env} {O:Pos→Option Nat} {a:Act},Fr A n M L w H env O a→Ext A M0 w0 M w→L0 <+: L→xf ⟨P,lo⟩ ops il K f listed env H→wpAnyIn (wf ro) 0 P .any ops Q f listed a w
 | 0,_,_,_,_,_,_,_,_,hf,cK,hL,h=>⟨h.1,hF _ _ _ _ _ _ _ h.2 hf cK hL⟩
 | f + 1,listed,M,L,w,H,env,O,a,hf,cK,hL,h=>by
   refine ⟨fun h0=>hF _ _ _ _ _ _ _ (h.1 h0) hf cK hL,fun i hi=>?_⟩
   have hq:=h.2 i hi
   unfold wpOpIn
   cases ho:ops[i]? with
   | none=>
     obtain ⟨_,o,K9,_⟩:=mem_ready.1 hi
     rw [ho] at K9;cases K9
   | some o=>
     obtain ⟨g,hg,gQ,C3⟩:=(oX _ _ _ _ hc).2 i o (by simpa using ho)
     unfold qA at hq
     rw [C3] at hq
     have hs:=zX (ro:=ro) (ops:=ops) hg gQ hp hf hq Q
     have hrest:∀ a' w',oA A n M L w (xf ⟨P,lo⟩ ops il K f (listed.setIfInBounds i true)) a' w'→wpAnyIn (wf ro) 0 P .any ops Q f (listed.setIfInBounds i true) a' w':=by
      rintro a' w' ⟨M',L',H',aI,O',k1,k2,k3,k4⟩
      exact uR hp hc hF f _ k2 (cK.trans k3) (hL.trans k4) k1
     simp only
     split
     ·rename_i hw
      rw [if_pos hw] at hs
      exact Oper.wpIn_mono hrest hs
     ·rename_i hw
      rw [if_neg hw] at hs
      exact ⟨fun _ _=>trivial,hrest _ _ hs⟩
theorem JI (L0:List Nat) (hp:∀ l,lo=some l→∀ id,l≤id→A.top id=none):zY P ro lo A n L0:=by
 intro id ops il p live an M L w H env O a M0 w0 Q hm hB hc h hf cK hL
 simp only [n7] at h
 have hK:Inv (fun (aI:Env) (H':List aa)=>∃ e,get e=get aI∧Q .normal (eX live e) H'):=fun e1 e2 H he ⟨e,h1,h2⟩=>⟨e,h1.trans he,h2⟩
 have dm:il.length=ops.size:=by simpa using (oX _ _ _ _ hc).1
 have hB:=LL dm p _ _ _ _ (JA _) (by simp) hB
 have jD:closed ops (Array.replicate ops.size false):=by
  intro k o _ hk
  simp only [acw,afZ] at hk
  split at hk <;> cases hk
 have hd:vR ⟨P,lo⟩ (inst il p) env H (fun (aI:Env) (H':List aa)=>∃ e,get e=get aI∧Q .normal (eX live e) H'):=by
  have mono:∀ (t:DT) (env:Env) (H:List aa) (K1 K2:Env→List aa→Prop),(∀ e H,K1 e H→K2 e H)→Inv K2→vR ⟨P,lo⟩ t env H K1→vR ⟨P,lo⟩ t env H K2:=by
   intro t
   induction t with
   | done=>intro env H K1 K2 hk _ h;exact hk _ _ h
   | nil=>intro _ _ _ _ _ _ _;trivial
   | take st o r ih=>
     intro env H K1 K2 hk hi h
     simp only [vR,uK] at h ⊢
     cases hg:o.g with
     | none=>
       simp only [hg] at h ⊢
       obtain ⟨x,hx,h⟩:=h
       exact ⟨x,hx,ih _ _ _ _ hk hi h⟩
     | some gw=>
       obtain ⟨g,want⟩:=gw
       simp only [hg,ja] at h ⊢
       split at h
       rotate_left
       ·exact ih _ _ _ _ hk hi h
       ·exact h.elim
       exact ⟨fun e=>let ⟨x,hx,h⟩:=h.1 e;⟨x,hx,ih _ _ _ _ hk hi h⟩,fun e=>ih _ _ _ _ hk hi (h.2 e)⟩
   | br o t rest LM FL=>
     intro env H K1 K2 hk hi h
     have hinv:∀ K:Env→List aa→Prop,Inv K→∀ t,Inv fun env H=>vR ⟨P,lo⟩ t env H K:=by
      intro K hK t
      induction t with
      | done=>exact hK
      | nil=>intro _ _ _ _ _;trivial
      | take st o r ih=>
        intro e1 e2 H he h
        simp only [vR,uK] at h ⊢
        have hav:ap e2=ap e1:=by
         funext i
         cases i with
         | c v=>rfl
         | t s=>show get e2 s=get e1 s;rw [he]
        have oL:∀ x,get (put o.dst x e1)=get (put o.dst x e2):=fun x=>by rw [lf,lf,he]
        cases hg:o.g with
        | none=>
          simp only [hg] at h ⊢
          obtain ⟨x,hx,h⟩:=h
          exact ⟨x,by rw [hav];exact hx,ih _ _ _ (oL x) h⟩
        | some gw=>
          obtain ⟨g,want⟩:=gw
          simp only [hg,ja] at h ⊢
          rw [← he]
          split at h
          rotate_left
          ·exact ih _ _ _ (oL _) h
          ·exact h.elim
          exact ⟨fun e=>let ⟨x,hx,h⟩:=h.1 e;⟨x,by rw [hav];exact hx,ih _ _ _ (oL x) h⟩,fun e=>ih _ _ _ (oL _) (h.2 e)⟩
      | br o t rest LM FL=>
        intro e1 e2 H he h
        exact ⟨pD (fun s _=>by rw [he]) h.1 fun a b H' ⟨mods,_,g1,g2⟩ _ _ hk=>LM _ _ _ (by rw [g1,g2,db he]) hk,FL _ _ _ he h.2⟩
     exact ⟨rL h.1 fun e1 e2 H' he Gv=>hinv K2 hi t _ _ _ he (LM _ _ _ _ hk hi Gv),FL _ _ _ _ hk hi h.2⟩
  exact mono _ _ _ _ _ (fun e H hq=>⟨e,rfl,hq⟩) hK h
 have hA:=(PK (P:=⟨P,lo⟩) hK dm p ops.size (Array.replicate ops.size false) (env:=env) (H:=H) jD).1 hB hd
 refine wpIn_region_any hm (uR (M0:=M0) (w0:=w0) (L0:=L0) hp hc ?_ ops.size _ (M:=M) (L:=L) (H:=H) (env:=env) (O:=O) ⟨hf.st.drew,hf.size,hf.defers.ext (Ext.drew (M:=M))⟩ (cK.trans Ext.drew) hL hA)
 rintro M' L' w' H' aI O' a' ⟨e,he,hq⟩ h2 h3 h4
 obtain ⟨O'',h5⟩:=(h2.Gl he).weaken (zW live e)
 exact ⟨A,M',L',H',_,O'',.refl A,hq,h5,h3,h4⟩
theorem Gw {L0:List Nat} {an:C9} {lv:nW} {pl:nX} (c:Code) (ir:IR) (hc:comp P an lv pl n c=some ir) {M:Mem} {L:List Nat} {w:World} {H:List aa} {env:Env} {O:Pos→Option Nat} {a:Act} {Q:Exit→Env→List aa→Prop}
 (hA:gD lo L0.length A) (yI:Own ro w) (h:n7 ⟨P,lo⟩ L0.length ir env H Q) (hf:Fr A n M L w H env O a) (hL:L0 <+: L):c.wpIn (wf ro) 0 P (Gk A n M L0 w Q) a w:=
 sound (fun A hA=>JI L0 hA.opens) c ir hc hA yI h hf hL
end
end Go.aK
end
section
namespace Go.aK
open Go
inductive RX where
 | t (s:Nat)
 | c (s:Nat) (sz:Option Nat)
 deriving Inhabited
def LN (P:Program):ResultVar→Option RX
 | .tmp t=>some (.t t)
 | .cell a t=>(K6 P t).map (.c a)
def jc (P:Program):List ResultVar→Option (List RX)
 | []=>some []
 | r::rs=>match LN P r,jc P rs with
   | some x,some xs=>some (x::xs)
   | _,_=>none
def tB:List RX→Env→List aa→(List AV→Prop)→Prop
 | [],_,_,φ=>φ []
 | .t s::r,env,H,φ=>tB r env H fun xs=>φ (get env s::xs)
 | .c s sz::r,env,H,φ=>aU sz (get env s) H fun x=>tB r env H fun xs=>φ (x::xs)
def bT (n0:Nat) (rs:List RX) (env:Env) (H:List aa) (R:AV→List aa→Prop):Prop:=
 tB rs env H fun xs=>∃ m,n0≤m∧match xs with
  | [x]=>∃ r,x.le r∧r.aW m=true∧R r (H.take m)
  | xs=>∃ ys,yX (xs.map AV.ab) ys∧aj m ys=true∧R (.tuple ys) (H.take m)
def mj (C:List aa→Nat→List aa→Prop) (n0:Nat) (rs:List RX) (env:Env) (H:List aa) (R:AV→List aa→Prop):Prop:=
 tB rs env H fun xs=>∃ m H',n0≤m∧C H m H'∧match xs with
  | [x]=>∃ r,x.le r∧r.aW m=true∧R r H'
  | xs=>∃ ys,yX (xs.map AV.ab) ys∧aj m ys=true∧R (.tuple ys) H'
theorem tC:∀ {rs:List RX} {env:Env} {H:List aa} {φ ψ:List AV→Prop},(∀ xs,φ xs→ψ xs)→tB rs env H φ→tB rs env H ψ
 | [],env,H,φ,ψ,hm,h=>hm _ h
 | .t s::r,env,H,φ,ψ,hm,h=>tC (rs:=r) (fun xs hx=>hm _ hx) h
 | .c s sz::r,env,H,φ,ψ,hm,h=>kG (fun x hx=>tC (rs:=r) (fun xs hx=>hm _ hx) hx) h
theorem UA {n0:Nat} {rs:List RX} {env:Env} {H:List aa} {R:AV→List aa→Prop} (h:bT n0 rs env H R):mj (fun H m H'=>H'=H.take m) n0 rs env H R:=
 tC (fun xs ⟨m,h1,h2⟩=>⟨m,H.take m,h1,rfl,h2⟩) h
def cj:Nat→List AV→Env
 | _,[]=>[]
 | k,x::xs=>(k,x)::cj (k + 1) xs
theorem nj:∀ (xs:List AV) (k t:Nat),get (cj k xs) t=if k≤t then xs.getD (t - k) .any else .any
 | [],k,t=>by simp [cj,get]
 | x::xs,k,t=>by
   simp only [cj,get]
   split
   ·rename_i e;subst e;simp
   ·rename_i e
    rw [nj xs (k + 1) t]
    by_cases h:k + 1≤t
    ·have:t - k=(t - (k + 1)) + 1:=by omega
     rw [if_pos h,if_pos (by omega),this];simp
    ·rw [if_neg h,if_neg (by omega)]
section
variable {P:Program} {A:Perm} {n:Nat} {M:Mem} {L:List Nat} {w:World} {H:List aa} {env:Env} {O:Pos→Option Nat} {a:Act}
def BI (tmps:Array Value):ResultVar→Sem Value:=fun
 | .tmp t=>pure (tmps.getD t undef)
 | .cell a t=>do loadVar t (← asAddr (tmps.getD a undef))
theorem DL {fn:Func} {tmps:Array Value} {vs:List Value} (h:(fn.results.toList.mapM (BI tmps)).run P w=.ok vs w) :
 (results fn tmps).run P w=.ok (if h:vs.toArray.size=1 then vs.toArray[0] else .tuple vs.toArray) w:=by
 have e:(results fn tmps)=(do
  let vs ← fn.results.mapM (BI tmps)
  pure (if h:vs.size=1 then vs[0] else .tuple vs)):=rfl
 rw [e,Array.mapM_eq_mapM_toList]
 simp only [Sem.run_bind,Sem.run_map,h]
 rfl
theorem BJ (hf:Fr A n M L w H env O a):∀ (rs:List ResultVar) (is:List RX),jc P rs=some is→∀ {φ:List AV→Prop},tB is env H φ→
 ∃ vs xs,(rs.mapM (BI a.tmps)).run P w=.ok vs w∧φ xs∧aM M L vs xs∧(∀ s,is=[.t s]→xs=[get env s]∧vs=[a.tmps.getD s undef])∧(∀ s sz,is=[.c s sz]→∀ x,xs=[x]→∀ own ys,x=.ak own ys→own=0)
 | [],is,hc,φ,h=>by
   simp only [jc] at hc;cases hc
   exact ⟨[],[],by simp,h,.nil,(by intro s e;cases e),(by intro s sz e;cases e)⟩
 | r::rs,is,hc,φ,h=>by
   unfold jc at hc
   split at hc <;> cases hc
   rename_i x xs hx eK
   cases r with
   | tmp t=>
     simp only [LN] at hx;cases hx
     simp only [tB] at h
     obtain ⟨vs,ys,h1,h2,h3,_⟩:=BJ hf rs xs eK h
     refine ⟨a.tmps.getD t undef::vs,get env t::ys,?_,h2,.cons _ _ _ _ (hf.st.env t) h3,?_,?_⟩
     ·simp only [List.mapM_cons,Sem.run_bind,BI,Sem.run_pure,Result.andThen_ok,h1]
     ·intro s e
      cases e
      cases rs with
      | nil=>
        cases h3 with
        | nil=>exact ⟨rfl,rfl⟩
        | cons v x vs xs hh tt=>
          simp at h1
      | cons r rs=>
        unfold jc at eK
        split at eK <;> cases eK
     ·intro s sz e;cases e
   | cell p t=>
     simp only [LN,zF] at hx
     obtain ⟨sz,dm,rfl⟩:=hx
     simp only [tB] at h
     obtain ⟨r,z,k1,k2,k3,k4⟩:=s8 (P:=P) dm hf.st h (hf.st.env p)
     obtain ⟨vs,ys,h1,h2,h3,_⟩:=BJ hf rs xs eK k3
     refine ⟨r::vs,z::ys,?_,h2,.cons _ _ _ _ k2 h3,?_,?_⟩
     ·have hl:(do loadVar t (← asAddr (a.tmps.getD p undef)):Sem Value).run P w=.ok r w:=by
       have gl:=hf.st.env p
       revert k1 gl
       generalize a.tmps.getD p undef=u
       intro k1 gl
       unfold aU at h
       split at h
       ·rename_i id off e
        rw [e] at gl
        cases gl
        exact k1
       ·rename_i y e
        rw [e] at gl
        cases gl
        exact k1
       ·exact h.elim
      have h1':(List.mapM (BI a.tmps) rs).run P w=.ok vs w:=h1
      simp only [List.mapM_cons,Sem.run_bind,BI] at hl ⊢
      rw [hl]
      simp only [Result.andThen_ok,h1']
      rfl
     ·intro s e;cases e
     ·intro s sz e x hx
      cases hx
      exact k4
theorem St.aS {ev:Nat→Value} {ea:Nat→AV} (h:St A M L w H ev ea O) {v:Value} {x:AV} (hr:aX M L v x) (ob:Option Nat) (hs:bi M w v x ob)
 (h1:∀ id j b,ob=some b→O (.c id j)≠some b) (h2:∀ b,ob=some b→b∉L∧b < w.heap.size∧A b) :
 ∃ O',St A M L w H (fZ (fun _=>undef) 0 v) (fZ (fun _=>.any) 0 x) O':=by
 have k1:=h.rG (fun _=>undef) (fun _=>.any) (fun _=>.any _) (fun _ _ _ e=>by cases e)
 exact ⟨_,k1.put 0 hr ob hs (fun p b hob hp=>by
  cases p with
  | t t=>cases hp
  | c id j=>exact absurd hp (h1 id j b hob)) h2⟩
theorem Ih {x:AV} {m:Nat} (hb:x.aW m=true) (t:Nat):(fZ (fun _=>AV.any) 0 x t).aW m=true:=by
 simp only [fZ]
 split
 ·exact hb
 ·rfl
theorem St.UB {ev:Nat→Value} {ea:Nat→AV} (h:St A M L w H ev ea O) (A2:Perm) (hwr:A2.wr=A.wr) (n:Nat) {H':List aa} (hlen:H'.length=min n H.length)
 (hc:∀ (id:Nat) (o:aa),H'[id]?=some o→o=.dead∨(H[id]?=some o∧o.aW (A2.kh H'.length id)=true)) (hb:∀ t,(ea t).aW n=true):∃ O',St A2 M (L.take n) w H' ev ea O':=by
 let O':Pos→Option Nat:=fun p=>match p with | .t t=>O (.t t) | .c id j=>match H'[id]? with | some .dead=>none | some _=>O (.c id j) | none=>none
 have hO:∀ p b,O' p=some b→O p=some b:=by
  intro p b hp
  cases p with
  | t t=>exact hp
  | c id j=>
    simp only [O'] at hp
    split at hp <;> first | exact hp | cases hp
 have kw:∀ {α:Type} {l:List α} {i:Nat} {a:α},(l.take n)[i]?=some a→i < n∧l[i]?=some a:=by
  intro α l i a hi
  rw [aa7] at hi
  split at hi
  ·exact ⟨by assumption,hi⟩
  ·cases hi
 have jF:∀ b,b∈L.take n→b∈L:=fun b hb=>ac2 hb
 refine ⟨O',{ len:=by simp [h.len,hlen],nodup:=(List.take_sublist n L).nodup h.nodup,env:=fun t=>(h.env t).gW (hb t),mem:=h.mem,obj:=?_,bG:=?_,lt:=fun b hb=>h.lt b (jF b hb),iQ:=h.iQ,iL:=?_,ct:=fun p q b hp hq=>h.ct p q b (hO p b hp) (hO q b hq),cD:=fun p b hp hm=>h.cD p b (hO p b hp) (jF b hm),fQ:=fun p b hp=>h.fQ p b (hO p b hp),La:=fun b hb=>by rw [hwr];exact h.La b (jF b hb),Oa:=fun p b hp=>by rw [hwr];exact h.Oa p b (hO p b hp),fresh:=fun b hb=>by rw [hwr];exact h.fresh b hb }⟩
 ·intro id o b ho dZ
  obtain ⟨hn,dZ⟩:=kw dZ
  rcases hc id o ho with rfl | ⟨h1,h2⟩
  ·trivial
  ·refine (h.obj id o b h1 dZ).gW (aa.cI ?_ o h2)
   have:=A2.wI H'.length id
   omega
 ·intro id o ho
  rcases hc id o ho with rfl | ⟨h1,h2⟩
  ·rfl
  ·exact h2
 ·intro id j
  have dead:∀ x:Option aa,H'[id]?=x→(x=none∨x=some .dead)→bi M w (bR (L.take n) w id j) (bB H' id j) (O' (.c id j)):=by
   intro x hx S2
   have e2:bB H' id j=.any:=by
    unfold bB
    rw [hx]
    rcases S2 with rfl | rfl <;> rfl
   have e3:O' (.c id j)=none:=by
    simp only [O',hx]
    rcases S2 with rfl | rfl <;> rfl
   rw [e2,e3]
   rfl
  cases hx:H'[id]? with
  | none=>exact dead none hx (.inl rfl)
  | some o=>
    by_cases ed:o=.dead
    ·subst ed;exact dead _ hx (.inr rfl)
    ·rcases hc id o hx with h' | ⟨h1,h2⟩
     ·exact absurd h' ed
     have hl:=aO hx
     have e1:bR (L.take n) w id j=bR L w id j:=by
      unfold bR
      rw [aa7,if_pos (by omega)]
     have e2:bB H' id j=bB H id j:=by
      unfold bB
      rw [hx,h1]
     have e3:O' (.c id j)=O (.c id j):=by
      simp only [O',hx]
     rw [e1,e2,e3]
     exact h.iL id j
theorem Ii:∀ {vs:List Value} {xs ys:List AV},aM M L vs xs→yX (xs.map AV.ab) ys→aM M L vs ys
 | _,_,[],.nil,h=>.nil
 | _,_,y::ys,.nil,h=>by simp [yX] at h
 | _,_,[],.cons _ _ _ _ _ _,h=>by simp [yX] at h
 | _,_,y::ys,.cons _ _ _ _ h1 h2,h=>by
   simp only [List.map_cons,yX] at h
   exact .cons _ _ _ _ (h1.ab.le h.1) (Ii h2 h.2)
def Marks (A:Perm) (w w2:World):Prop:=w2.heap.size=w.heap.size∧w2.os=w.os∧w2.tape=w.tape∧w2.output=w.output∧
 ∀ b,w2.heap[b]?=w.heap[b]?∨(A.base≤b∧¬ A b∧(∃ x,w.heap[b]?=some (.deferred x))∧∃ x,w2.heap[b]?=some (.deferred x))
theorem Marks.refl (A:Perm) (w:World):Marks A w w:=⟨rfl,rfl,rfl,rfl,fun b=>.inl rfl⟩
theorem Marks.trans {A:Perm} {w w1 w2:World} (h:Marks A w w1) (k:Marks A w1 w2):Marks A w w2:=by
 refine ⟨k.1.trans h.1,k.2.1.trans h.2.1,k.2.2.1.trans h.2.2.1,k.2.2.2.1.trans h.2.2.2.1,fun b=>?_⟩
 rcases h.2.2.2.2 b with h1 | ⟨h1,h2,h3,x,h4⟩ <;> rcases k.2.2.2.2 b with k1 | ⟨k1,k2,⟨y,k3⟩,k4⟩
 ·exact .inl (k1.trans h1)
 ·exact .inr ⟨k1,k2,⟨y,by rw [← h1];exact k3⟩,k4⟩
 ·exact .inr ⟨h1,h2,h3,x,by rw [k1];exact h4⟩
 ·exact .inr ⟨h1,h2,h3,k4⟩
theorem rN {A:Perm} {F:Fence} {m:Nat} {fn:Func} {tmps:Array Value} {R:Ending→World→Prop}:∀ (ds:List Deferred) {w:World},SW A w ds→(∀ w2,Marks A w w2→LeavesIn F m P fn tmps R [] .returning w2)→LeavesInM F m P fn tmps R ds .returning w
 | [],w,_,h=>h w (.refl A w)
 | d::ds,w,hd,h=>by
   obtain ⟨D,rfl,h2,h3,h4⟩:=hd.2.2 _ abn
   have hm:Marks A w (w.putObj D (.deferred none)):=⟨World.putObj_size,rfl,rfl,rfl,fun b=>by
    by_cases e:b=D
    ·subst e
     exact .inr ⟨h4,h3,⟨_,h2⟩,_,World.putObj_heap_same (acF.1 h2).1⟩
    ·exact .inl (World.putObj_heap_other e)⟩
   refine ⟨by simp,.inl ⟨D,_,rfl,run_takeDeferred h2,rN ds ⟨by rw [World.putObj_size];exact hd.1,(List.nodup_cons.1 hd.2.1).2,fun d' hd'=>?_⟩ fun w2 hm2=>h w2 (hm.trans hm2)⟩⟩
   obtain ⟨D',e',k2,k3⟩:=hd.2.2 d' (aa6 _ hd')
   refine ⟨D',e',?_,k3⟩
   rw [World.putObj_heap_other]
   ·exact k2
   ·rintro rfl
    exact (List.nodup_cons.1 hd.2.1).1 (e' ▸ hd')
theorem St.marks {ev:Nat→Value} {ea:Nat→AV} (h:St A M L w H ev ea O) {w2:World} (hm:Marks A w w2):St A M L w2 H ev ea O:=by
 obtain ⟨h1,_,_,_,h5⟩:=hm
 have same:∀ b,A b→w2.heap[b]?=w.heap[b]?:=fun b hb=>by
  rcases h5 b with h | ⟨_,h,_⟩
  ·exact h
  ·exact absurd hb h
 exact { len:=h.len,nodup:=h.nodup,env:=h.env,bG:=h.bG,ct:=h.ct,cD:=h.cD,La:=h.La,Oa:=h.Oa
         mem:=fun b o v hv=>by
          have hc:=h.mem b o v hv
          rcases h5 b with e | ⟨_,_,⟨x,e⟩,_⟩
          ·simp only [World.cell?] at hc ⊢;rw [e];exact hc
          ·simp [World.cell?,e] at hc
         obj:=fun id o b ho hb=>(h.obj id o b ho hb).mono (Mem.bX M) (aaL L) (same b (h.La b (abJ hb))) (fun _=>rfl)
         lt:=fun b hb=>by rw [h1];exact h.lt b hb
         iQ:=fun t=>(h.iQ t).mono fun b hb=>⟨same b (h.Oa _ b hb),fun _=>rfl⟩
         iL:=fun id j=>by
          have e:bR L w2 id j=bR L w id j:=by
           unfold bR
           split
           ·rename_i b hb
            simp only [World.cell?]
            rw [same b (h.La b (abJ hb))]
           ·rfl
          rw [e]
          exact (h.iL id j).mono fun b hb=>⟨same b (h.Oa _ b hb),fun _=>rfl⟩
         fQ:=fun p b hp=>by rw [h1];exact h.fQ p b hp
         fresh:=fun b hb=>h.fresh b (by rw [← h1];exact hb) }
theorem Ext.marks {A A':Perm} {M M':Mem} {w w' w2:World} (h:Ext A M w M' w') (hm:Marks A' w' w2) (hb:w.heap.size≤A'.base):Ext A M w M' w2:=by
 obtain ⟨h1,h2,h3,h4,h5⟩:=hm
 refine ⟨h.lZ,by rw [h1];exact h.size,h2.trans h.os,h3.trans h.tape,h4.trans h.output,fun b aG hA=>?_,fun b r hr=>?_⟩
 ·obtain ⟨k1,k2⟩:=h.lF b aG hA
  refine ⟨?_,k2⟩
  rcases h5 b with e | ⟨e,_⟩
  ·exact e.trans k1
  ·omega
 ·obtain ⟨r',k1,k2⟩:=h.loops b r hr
  rcases h5 b with e | ⟨_,_,⟨x,e⟩,_⟩
  ·exact ⟨r',e.trans k1,k2⟩
  ·rw [k1] at e;cases e
theorem xh {lo:Option Nat} {b:Bool} (A1:Perm→Perm) (C:List aa→Nat→List aa→Prop) {f:FuncId} {fn:Func} {c:Code} {an:C9} {lv:nW} {pl:nX} {ir:IR} {rs:List RX} {args:List AV} {R:AV→List aa→Prop}
 (hf:P.funcs[f]?=some fn) (hcall:∀ (as:Array Value) (w:World),(callFunc f as).run P w=.ok (.enter f as) w) (hb:fn.body=some c) (hc:comp P an lv pl fn.ntmps c=some ir) (yZ:jc P fn.results.toList=some rs)
 (h1:∀ A:Perm,A.entry b H.length→gD lo H.length (A1 A)) (h2:∀ A:Perm,(A1 A).wr=A.wr) (h3:∀ (A:Perm) {M:Mem} {L:List Nat} {w:World} {ev:Nat→Value} {ea:Nat→AV} {O:Pos→Option Nat},A.entry b H.length→St A M L w H ev ea O→St (A1 A) M L w H ev ea O)
 (h4:∀ (A:Perm) {M:Mem} {L:List Nat} {w:World} {H':List aa} {ev:Nat→Value} {ea:Nat→AV} {O:Pos→Option Nat} {m:Nat} {H'':List aa},A.entry b H.length→H.length≤m→H.length≤H'.length→C H' m H''→St (A1 A) M L w H' ev ea O→(∀ t,(ea t).aW m=true)→∃ O',St A M (L.take m) w H'' ev ea O')
 (hn:args.length≤fn.ntmps) (Rt:Env→List aa→Prop) (hRt:∀ env H',Rt env H'→mj C H.length rs env H' R) (h:n7 ⟨P,lo⟩ H.length ir (cj 0 args) H fun e env H'=>(e=.normal∨e=.ret)∧Rt env H'):lL b P f args H R:=by
 refine fun A M L w vs O hA hs Yu=>.inl ⟨hcall _ _,callsIn_wide.1 (callsIn_of_wp_marks (F:=Fence.wide) (n:=0) hf hb trivial ?_ rfl)⟩
 obtain ⟨A2,Gx⟩:∃ A2:Perm,A2={ A1 A with base:=w.heap.size }:=⟨_,rfl⟩
 have a2w:A2.wr=A.wr:=by rw [Gx];exact h2 A
 have st12:∀ {M:Mem} {L:List Nat} {w:World} {H:List aa} {ev:Nat→Value} {ea:Nat→AV} {O:Pos→Option Nat},St (A1 A) M L w H ev ea O→St A2 M L w H ev ea O:=by
  intro M L w H ev ea O h;subst Gx
  exact { len:=h.len,nodup:=h.nodup,env:=h.env,mem:=h.mem,obj:=h.obj,bG:=h.bG,lt:=h.lt,iQ:=h.iQ,iL:=h.iL,ct:=h.ct,cD:=h.cD,fQ:=h.fQ,La:=h.La,Oa:=h.Oa,fresh:=h.fresh }
 have st21:∀ {M:Mem} {L:List Nat} {w:World} {H:List aa} {ev:Nat→Value} {ea:Nat→AV} {O:Pos→Option Nat},St A2 M L w H ev ea O→St (A1 A) M L w H ev ea O:=by
  intro M L w H ev ea O h;subst Gx
  exact { len:=h.len,nodup:=h.nodup,env:=h.env,mem:=h.mem,obj:=h.obj,bG:=h.bG,lt:=h.lt,iQ:=h.iQ,iL:=h.iL,ct:=h.ct,cD:=h.cD,fQ:=h.fQ,La:=h.La,Oa:=h.Oa,fresh:=h.fresh }
 have b7:=st12 (h3 A hA Yu)
 have hfits:gD lo H.length A2:=by rw [Gx];exact h1 A hA
 have K8:L.length=H.length:=Yu.len
 have FI:Fr A2 fn.ntmps M L w H (cj 0 args) O { tmps:=vs++Array.replicate (fn.ntmps - vs.size) undef,defers:=[] }:=by
  refine ⟨b7.congr ?_ ?_,by simp;omega,⟨by rw [Gx];exact sU _,List.nodup_nil,fun d h=>by cases h⟩⟩
  ·intro t
   simp only [acw]
   by_cases ht:t < vs.size
   ·rw [Array.getElem?_append_left ht]
   ·rw [Array.getElem?_append_right (by omega),Array.getElem?_eq_none (xs:=vs) (by omega),afZ]
    split <;> rfl
  ·intro t
   rw [nj];simp
 rw [← b7.len] at h hfits
 refine Go.wpIn_mono (Gw (ro:=none) (L0:=L) c ir hc hfits (fun l e=>by cases e) h FI (aaL L)) ?_
 rintro e a w1 ⟨A',M',L',H',env,O',hle,⟨he,JJ⟩,PL,hext1,hL⟩
 have base:A'.base=w.heap.size:=by rw [hle.2.2,Gx]
 have done:(∀ w',Marks A' w1 w'→LeavesIn Fence.wide 0 P fn a.tmps (fun e w'=>∃ v r H' M' L' O',e=.returned v∧R r H'∧St A M' L' w' H' (fZ (fun _=>undef) 0 v) (fZ (fun _=>.any) 0 r) O'∧Ext A M w M' w'∧L <+: L') [] .returning w')→
  bodyPostM Fence.wide 0 P fn (fun e w'=>∃ v r H' M' L' O',e=.returned v∧R r H'∧St A M' L' w' H' (fZ (fun _=>undef) 0 v) (fZ (fun _=>.any) 0 r) O'∧Ext A M w M' w'∧L <+: L') e a w1:=by
  intro hd
  rcases he with rfl | rfl <;> exact rN _ PL.defers hd
 refine done fun w' hm=>?_
 have BK:Fr A2 fn.ntmps M' L' w' H' env O' { a with defers:=[] }:=
  ⟨(PL.st.marks hm).le hle,PL.size,⟨by rw [hm.1,← hle.2.2];exact PL.defers.1,List.nodup_nil,fun d h=>by cases h⟩⟩
 have cK:Ext A M w M' w':=by
  have:=hext1.marks hm (Nat.le_of_eq base.symm)
  exact ⟨this.lZ,this.size,this.os,this.tape,this.output,fun b hb hA=>this.lF b hb (by rw [a2w];exact hA),this.loops⟩
 have hlen2:H.length≤H'.length:=by have:=hL.length_le;rw [K8,BK.st.len] at this;exact this
 have goal:∃ v,(results fn a.tmps).run P w'=.ok v w'∧∃ v' r H'' M'' L'' O'',Ending.returned v=.returned v'∧R r H''∧St A M'' L'' w' H'' (fZ (fun _=>undef) 0 v') (fZ (fun _=>.any) 0 r) O''∧Ext A M w M'' w'∧L <+: L'':=by
  replace JJ:=hRt _ _ JJ
  unfold mj at JJ
  obtain ⟨us,xs,k1,⟨m,H2,hm,hC,k2⟩,k3,k4,k5⟩:=BJ (P:=P) BK _ _ yZ JJ
  have mQ:L <+: L'.take m:=by
   obtain ⟨r,rfl⟩:=hL
   exact ⟨r.take (m - L.length),by rw [aeU,Ue (show L.length≤m by omega)]⟩
  have bL:=DL k1
  split at k2
  ·rename_i x
   obtain ⟨r,hle,hb,hR⟩:=k2
   cases k3 with
   | cons v _ _ _ hv ht=>
   cases ht
   refine ⟨v,by simpa using bL,v,r,H2,M',L'.take m,?_⟩
   have vB:∃ ob,bi M' w' v x ob∧(∀ id j b,ob=some b→O' (.c id j)≠some b)∧(∀ b,ob=some b→b∉L'∧b < w'.heap.size∧A2 b):=by
    match rs,yZ,k4,k5 with
    | [],yZ,_,_=>
      unfold jc at yZ
      split at yZ
      ·rename_i e
       rw [e] at k1
       simp at k1
      ·split at yZ <;> cases yZ
    | [.t s],_,k4,_=>
      obtain ⟨e1,e2⟩:=k4 s rfl
      cases e1;cases e2
      refine ⟨O' (.t s),BK.st.iQ s,fun id j b hb hc=>?_,fun b hb=>⟨BK.st.cD _ b hb,BK.st.fQ _ b hb,BK.st.Oa _ b hb⟩⟩
      exact absurd (BK.st.ct _ _ b hb hc) (by intro e;cases e)
    | [.c s sz],_,_,k5=>
      exact ⟨none,bi.free (k5 s sz rfl x rfl),(fun _ _ _ e=>by cases e),(fun _ e=>by cases e)⟩
    | r1::r2::rs,yZ,_,_=>
      unfold jc at yZ
      split at yZ
      ·cases yZ
      ·split at yZ <;> cases yZ
       rename_i h1 h2
       unfold jc at h2
       split at h2
       ·cases h2
       ·rename_i e
        rw [e] at k1
        simp only [List.mapM_cons,Sem.run_bind] at k1
        revert k1
        generalize Lc:(BI a.tmps _).run P w'=g1
        cases g1 <;> simp
        generalize hg2:(BI a.tmps _).run P _=g2
        cases g2 <;> simp
        generalize hg3:(List.mapM (BI a.tmps) _).run P _=g3
        cases g3 <;> simp
   obtain ⟨ob,o1,o2,o3⟩:=vB
   obtain ⟨ob',p1,p2⟩:=o1.le hv hle
   obtain ⟨O'',mW⟩:=BK.st.aS (hv.le hle) ob' p1 (fun id j b hb=>by
    rcases p2 with rfl | rfl
    ·cases hb
    ·exact o2 id j b hb) (fun b hb=>by
    rcases p2 with rfl | rfl
    ·cases hb
    ·exact o3 b hb)
   obtain ⟨O3,LO⟩:=h4 A hA (by omega) hlen2 hC (st21 mW) (Ih hb)
   exact ⟨O3,rfl,hR,LO,cK,mQ⟩
  ·rename_i eS
   obtain ⟨ys,hle,hb,hR⟩:=k2
   have hlen:us.toArray.size≠1:=by
    have:=k3.length
    intro e
    simp at e
    rw [e] at this
    match xs,this with
    | [x],_=>exact eS x rfl
   rw [dif_neg hlen] at bL
   refine ⟨.tuple us.toArray,bL,.tuple us.toArray,.tuple ys,H2,M',L'.take m,?_⟩
   obtain ⟨O'',mW⟩:=BK.st.aS (.tuple _ _ (Ii k3 hle)) none (bi.free (by intro _ _ e;cases e)) (fun _ _ _ e=>by cases e) (fun _ e=>by cases e)
   obtain ⟨O3,LO⟩:=h4 A hA (by omega) hlen2 hC (st21 mW) (Ih (x:=.tuple ys) hb)
   exact ⟨O3,rfl,hR,LO,cK,mQ⟩
 exact goal
theorem qK {A:Perm} {k:Nat} (h:A.entry false k):gD none k A:=⟨h.1,fun id bu=>by rw [h.2 id bu];rfl⟩
theorem JK {f:FuncId} {fn:Func} {c:Code} {an:C9} {lv:nW} {pl:nX} {ir:IR} {rs:List RX} {args:List AV} {R:AV→List aa→Prop}
 (hf:P.funcs[f]?=some fn) (hcall:∀ (as:Array Value) (w:World),(callFunc f as).run P w=.ok (.enter f as) w) (hb:fn.body=some c) (hc:comp P an lv pl fn.ntmps c=some ir) (yZ:jc P fn.results.toList=some rs)
 (hn:args.length≤fn.ntmps) (h:n7 P H.length ir (cj 0 args) H fun e env H'=>(e=.normal∨e=.ret)∧bT H.length rs env H' R):aw P f args H R:=by
 refine xh (lo:=none) (b:=false) (fun A=>A) (fun H m H'=>H'=H.take m) hf hcall hb hc yZ (fun A=>qK) (fun A=>rfl) (fun A _ _ _ _ _ _ _ h=>h) ?_ hn (fun env H'=>bT H.length rs env H' R) (fun env H'=>UA) h
 intro A M L w H' ev ea O m H'' hA hm hl e b7 Po
 subst e
 exact b7.cut m (fun id o=>(qK hA).closed hm b7 id o) Po
def oY (k:Nat) (A:Perm):Perm where
 wr:=A.wr
 top:=fun id=>if id < k then A.top id else none
 ok:=fun id n h=>by
  split at h
  ·exact A.ok id n h
  ·cases h
theorem DM {A:Perm} {k:Nat} {b:Bool} (h:A.entry b k):gD (some k) k (oY k A):=
 ⟨fun id bu=>by obtain ⟨m,h1,h2⟩:=h.1 id bu;exact ⟨m,h1,by simp only [oY,if_pos bu];exact h2⟩,rfl,fun id bu=>by simp only [oY];rw [if_neg (by omega)]⟩
def lh (n0:Nat) (H:List aa) (m:Nat) (H':List aa):Prop:=
 H'.length=min m H.length∧∀ (id:Nat) (o:aa),H'[id]?=some o→o=.dead∨(H[id]?=some o∧(n0≤id→o.aW (id + 1)=true))
theorem Gy {f:FuncId} {fn:Func} {c:Code} {an:C9} {lv:nW} {pl:nX} {ir:IR} {rs:List RX} {args:List AV} {R:AV→List aa→Prop}
 (hf:P.funcs[f]?=some fn) (hcall:∀ (as:Array Value) (w:World),(callFunc f as).run P w=.ok (.enter f as) w) (hb:fn.body=some c) (hc:comp P an lv pl fn.ntmps c=some ir) (yZ:jc P fn.results.toList=some rs)
 (hn:args.length≤fn.ntmps) (h:n7 ⟨P,some H.length⟩ H.length ir (cj 0 args) H fun e env H'=>(e=.normal∨e=.ret)∧mj (lh H.length) H.length rs env H' R):aw P f args H R:=by
 refine xh (lo:=some H.length) (b:=false) (oY H.length) (lh H.length) hf hcall hb hc yZ (fun A hA=>DM hA) (fun A=>rfl) (fun A M L w ev ea O hA b7=>?_) ?_ hn (fun env H'=>mj (lh H.length) H.length rs env H' R) (fun env H' h=>h) h
 ·exact { len:=b7.len,nodup:=b7.nodup,env:=b7.env,mem:=b7.mem,obj:=b7.obj,lt:=b7.lt,iQ:=b7.iQ,iL:=b7.iL,ct:=b7.ct,cD:=b7.cD,fQ:=b7.fQ,La:=b7.La,Oa:=b7.Oa,fresh:=b7.fresh
          bG:=fun id o ho=>by
           have:=b7.bG id o ho
           have e:(oY H.length A).kh H.length id=A.kh H.length id:=by unfold Perm.kh;simp only [oY,if_pos (aO ho)]
           rw [e];exact this }
 ·intro A M L w H' ev ea O m H'' hA hm hl hC b7 Po
  obtain ⟨hlen,hC⟩:=hC
  refine b7.UB A rfl m hlen (fun id o ho=>?_) Po
  rcases hC id o ho with h' | ⟨h1,h2⟩
  ·exact .inl h'
  ·refine .inr ⟨h1,?_⟩
   by_cases bu:id < H.length
   ·obtain ⟨k,hk,ek⟩:=hA.1 id bu
    have:=b7.bG id o h1
    have e1:(oY H.length A).kh H'.length id=min k H'.length:=by unfold Perm.kh;simp only [oY,if_pos bu,ek]
    have e2:A.kh H''.length id=min k H''.length:=by unfold Perm.kh;simp only [ek]
    rw [e1] at this
    rw [e2]
    exact aa.cI (by omega) o this
   ·have e2:A.kh H''.length id=min (id + 1) H''.length:=by unfold Perm.kh;rw [hA.2 id (by omega)];rfl
    have:=aO ho
    rw [e2]
    exact aa.cI (by omega) o (h2 (by omega))
end
end Go.aK
end
