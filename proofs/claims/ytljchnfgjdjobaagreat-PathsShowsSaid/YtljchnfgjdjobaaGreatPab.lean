/- Part 2 of 18 of the proof. -/
import Derived.Test.YtljchnfgjdjobaaGreatPaa
import Derived.RangeFuncNested
set_option linter.unusedVariables false
set_option linter.unusedSimpArgs false
set_option linter.defProp false
set_option linter.unusedSectionVars false
section
namespace Go.Abs
open Go
def Perm.entry (A : Perm) (loose : Bool) (n : Nat) : Prop := (∀ id, id < n → ∃ m, m ≤ n ∧ A.top id = some m) ∧ ∀ id, n ≤ id → A.top id = if loose = true then none else some (id + 1)
def CallsX (loose : Bool) (P : Program) (f : FuncId) (args : List AV) (H : List AObj) (R : AV → List AObj → Prop) : Prop :=
 ∀ A M L w (vs : Array Value) O, A.entry loose H.length → vs.size = args.length → St A M L w H (fun t => vs.getD t undef) (fun t => args.getD t .any) O →
  ((callFunc f vs).run P w = .ok (.enter f vs) w ∧ Calls P f vs w fun e w' => ∃ v r H' M' L' O', e = .returned v ∧ R r H' ∧ St A M' L' w' H' (upd (fun _ => undef) 0 v) (upd (fun _ => .any) 0 r) O' ∧ Ext A M w M' w' ∧ L <+: L') ∨
  (∃ v w' r H' M' L' O', (callFunc f vs).run P w = .ok (.value v) w' ∧ R r H' ∧ St A M' L' w' H' (upd (fun _ => undef) 0 v) (upd (fun _ => .any) 0 r) O' ∧ Ext A M w M' w' ∧ L <+: L')
def ACalls (P : Program) (f : FuncId) (args : List AV) (H : List AObj) (R : AV → List AObj → Prop) : Prop := CallsX false P f args H R
def ACallsL (P : Program) (f : FuncId) (args : List AV) (H : List AObj) (R : AV → List AObj → Prop) : Prop := CallsX true P f args H R
theorem CallsX.mono {b : Bool} {P : Program} {f : FuncId} {args : List AV} {H : List AObj} {R R' : AV → List AObj → Prop} (h : CallsX b P f args H R) (hr : ∀ r H', R r H' → R' r H') : CallsX b P f args H R' := by
 intro A M L w vs O hA hs hst
 rcases h A M L w vs O hA hs hst with ⟨h1, h2⟩ | ⟨v, w', r, H', M', L', O', h1, h2, h3⟩
 ·exact .inl ⟨h1, h2.mono fun e w' ⟨v, r, H', M', L', O', h1, h2, h3⟩ => ⟨v, r, H', M', L', O', h1, hr _ _ h2, h3⟩⟩
 ·exact .inr ⟨v, w', r, H', M', L', O', h1, hr _ _ h2, h3⟩
theorem ACalls.mono {P : Program} {f : FuncId} {args : List AV} {H : List AObj} {R R' : AV → List AObj → Prop} (h : ACalls P f args H R) (hr : ∀ r H', R r H' → R' r H') : ACalls P f args H R' := CallsX.mono h hr
theorem ACallsL.mono {P : Program} {f : FuncId} {args : List AV} {H : List AObj} {R R' : AV → List AObj → Prop} (h : ACallsL P f args H R) (hr : ∀ r H', R r H' → R' r H') : ACallsL P f args H R' := CallsX.mono h hr
theorem ACalls.body {P : Program} {f : FuncId} {args : List AV} {H : List AObj} {R : AV → List AObj → Prop} (h : ACalls P f args H R) (he : ∀ (as : Array Value) (w : World), (callFunc f as).run P w = .ok (.enter f as) w)
 {A : Perm} {M : Mem} {L : List Nat} {w : World} {vs : Array Value} {O : Pos → Option Nat} (hA : A.entry false H.length) (hs : vs.size = args.length) (hst : St A M L w H (fun t => vs.getD t undef) (fun t => args.getD t .any) O) :
 Calls P f vs w fun e w' => ∃ v r H' M' L' O', e = .returned v ∧ R r H' ∧ St A M' L' w' H' (upd (fun _ => undef) 0 v) (upd (fun _ => .any) 0 r) O' ∧ Ext A M w M' w' ∧ L <+: L' := by
 rcases h A M L w vs O hA hs hst with ⟨h1, h2⟩ | ⟨v, w', r, H', M', L', O', h1, h2, h3⟩
 ·exact h2
 ·rw [he] at h1; cases h1
structure Px where
 prog : Program
 lo : Option Nat
instance : Coe Program Px := ⟨fun P => ⟨P, none⟩⟩
def XCalls (P : Px) (f : FuncId) (args : List AV) (H : List AObj) (R : AV → List AObj → Prop) : Prop :=
 match P.lo with
 | none => ACalls P.prog f args H R
 | some l => ACalls P.prog f args H R ∨ (l ≤ H.length ∧ ACallsL P.prog f args H R)
theorem XCalls.of {P : Px} {f : FuncId} {args : List AV} {H : List AObj} {R : AV → List AObj → Prop} (h : ACalls P.prog f args H R) : XCalls P f args H R := by
 unfold XCalls; split
 ·exact h
 ·exact .inl h
theorem XCalls.mono {P : Px} {f : FuncId} {args : List AV} {H : List AObj} {R R' : AV → List AObj → Prop} (h : XCalls P f args H R) (hr : ∀ r H', R r H' → R' r H') : XCalls P f args H R' := by
 unfold XCalls at *; split at h
 ·exact h.mono hr
 ·rcases h with h | ⟨h1, h2⟩
  ·exact .inl (h.mono hr)
  ·exact .inr ⟨h1, h2.mono hr⟩
def YCallsX (loose : Bool) (P : Program) (id : Nat) (args : List AV) (H : List AObj) (R : AV → List AObj → Prop) : Prop :=
 ∀ A M L w (vs : Array Value) O b, A.entry loose H.length → vs.size = args.length → L[id]? = some b → St A M L w H (fun t => vs.getD t undef) (fun t => args.getD t .any) O →
  ∃ fn tmps as bd, (Instr.yield b vs).run P w = .ok (.round b fn tmps as bd) w ∧ RoundIn Fence.wide 0 P b fn tmps as bd w fun e w' =>
   ∃ v r H' M' L' O', e = .returned v ∧ R r H' ∧ St A M' L' w' H' (upd (fun _ => undef) 0 v) (upd (fun _ => .any) 0 r) O' ∧ Ext A M w M' w' ∧ L <+: L'
theorem YCallsX.mono {b : Bool} {P : Program} {id : Nat} {args : List AV} {H : List AObj} {R R' : AV → List AObj → Prop} (h : YCallsX b P id args H R) (hr : ∀ r H', R r H' → R' r H') : YCallsX b P id args H R' := by
 intro A M L w vs O c hA hs hc hst
 obtain ⟨fn, tmps, as, bd, h1, h2⟩ := h A M L w vs O c hA hs hc hst
 exact ⟨fn, tmps, as, bd, h1, h2.mono fun e w' ⟨v, r, H', M', L', O', h1, h2, h3⟩ => ⟨v, r, H', M', L', O', h1, hr _ _ h2, h3⟩⟩
def YCalls (P : Program) (id : Nat) (args : List AV) (H : List AObj) (R : AV → List AObj → Prop) : Prop := YCallsX false P id args H R
def YCallsL (P : Program) (id : Nat) (args : List AV) (H : List AObj) (R : AV → List AObj → Prop) : Prop := YCallsX true P id args H R
def XYCalls (P : Px) (id : Nat) (args : List AV) (H : List AObj) (R : AV → List AObj → Prop) : Prop :=
 match P.lo with
 | none => YCalls P.prog id args H R
 | some l => YCalls P.prog id args H R ∨ (l ≤ H.length ∧ YCallsL P.prog id args H R)
theorem XYCalls.mono {P : Px} {id : Nat} {args : List AV} {H : List AObj} {R R' : AV → List AObj → Prop} (h : XYCalls P id args H R) (hr : ∀ r H', R r H' → R' r H') : XYCalls P id args H R' := by
 unfold XYCalls at *; split at h
 ·exact YCallsX.mono h hr
 ·rcases h with h | ⟨h1, h2⟩
  ·exact .inl (YCallsX.mono h hr)
  ·exact .inr ⟨h1, YCallsX.mono h2 hr⟩
def LeL : List AV → List AV → Prop
 | [], [] => True
 | x :: xs, y :: ys => x.le y ∧ LeL xs ys
 | _, _ => False
def baseArgs (env : Env) (pass : Option Nat) : Nat → List IX → List AV
 | _, [] => []
 | j, .t s :: xs => (if pass = some j then get env s else (get env s).unown) :: baseArgs env pass (j + 1) xs
 | j, .c v :: xs => v.unown :: baseArgs env pass (j + 1) xs
def passSlot (args : List IX) (pass : Option Nat) : Option Nat :=
 match pass with
 | some j => match args[j]? with
   | some (.t s) => some s
   | _ => none
 | none => none
def unslotE (env : Env) (s : Option Nat) : Env := match s with | some d => (d, (get env d).unown) :: env | none => env
def acall (P : Px) (f : AV) (args : List IX) (pass : Option Nat) (env : Env) (H : List AObj) (K : AV → Env → List AObj → Prop) : Prop :=
 match f with
 | .fn (.func g) first cap => ∃ args', LeL (first.map AV.unown ++ baseArgs env pass 0 args ++ cap.map AV.unown) args' ∧ XCalls P g args' H (fun r H' => K r (unslotE env (passSlot args pass)) H')
 | .yld id => ∃ args', LeL (baseArgs env pass 0 args) args' ∧ XYCalls P id args' H (fun r H' => K r (unslotE env (passSlot args pass)) H')
 | _ => False
def lenOk (kd : Nat) (x : AV) : Prop :=
 match kd, x with
 | 0, .str _ => True
 | 1, .nils => True
 | 1, .lst _ _ => True
 | 1, .arr _ _ _ _ => True
 | 1, .emp => True
 | 2, .nilm => True
 | 2, .map _ => True
 | _, _ => False
def optX (env : Env) (x : Option IX) : Option AV := x.map (aval env)
def aop (P : Px) (o : IOp) (dst : Option Nat) (env : Env) (H : List AObj) (K : Env → List AObj → Prop) : Prop :=
 match o with
 | .set x take => match dst with | some d => K (setE env d x take) H | none => K env H
 | .pick c a b => boolP (aval env c) fun q => (q = true → K (put dst (aval env a).unown env) H) ∧ (q = false → K (put dst (aval env b).unown env) H)
 | .bin op x y => abin op (aval env x) (aval env y) fun z => K (put dst z env) H
 | .shift op x y => ashift op (aval env x) (aval env y) fun z => K (put dst z env) H
 | .eqBool neq x y => aeqBool neq (aval env x) (aval env y) fun z => K (put dst z env) H
 | .eqNil kd neq x => aeqNil kd neq (aval env x) fun z => K (put dst z env) H
 | .un op x => aun op (aval env x) fun z => K (put dst z env) H
 | .box x => (aval env x).val = true ∧ belowL (H.length + 1) ((aval env x).cells.map AV.unown) = true ∧ K (put dst (.ptr H.length 0) env) (H ++ [.cells ((aval env x).cells.map AV.unown)])
 | .boxi x => (aval env x).val = true ∧ K (put dst (.iptr (aval env x)) env) H
 | .boxs m x => (aval env x).val = true ∧ (aval env x).cells.length = m ∧ (aval env x).cells.all AV.one = true ∧ K (put dst (.iptr (aval env x)) env) H
 | .alloc z => belowL (H.length + 1) (z.cells.map AV.unown) = true ∧ K (put dst (.ptr H.length 0) env) (H ++ [.cells (z.cells.map AV.unown)])
 | .build z ps => abuild z.cells (ps.map fun q => (q.1, q.2.1, aval env q.2.2)) fun v => K (put dst v env) H
 | .buildSlice own esz z len ps => abslice (List.replicate len (canon z)) esz (ps.map fun q => (q.1, aval env q.2)) fun xs => K (put dst (.lst own xs) env) H
 | .load sz a => aload sz (aval env a) H fun z => K (put dst z env) H
 | .loadf sz esz a => aload sz (aval env a) H fun z => asetf esz z H fun y H' => K (put dst y env) H'
 | .takeCell a => match dst, aval env a with
   | some d, .ptr id off => match H[id]? with
     | some (.cells es) => off < es.length ∧ K ((d, es.getD off .any) :: env) (H.set id (.cells (es.set off (es.getD off .any).unown)))
     | _ => False
   | _, _ => False
 | .store m a x => astore m (aval env a) (aval env x) H fun H' => K env H'
 | .storeW m a x => match P.lo with | some l => astoreW l m (aval env a) (aval env x) H fun H' => K env H' | none => False
 | .putCell a s => aputCell (aval env a) (get env s) H fun H' => K ((s, (get env s).unown) :: env) H'
 | .nilCheck x => anilCheck (aval env x) fun z => K (put dst z env) H
 | .fieldAddr off sz x => afieldAddr off sz (aval env x) fun z => K (put dst z env) H
 | .field off sz x => afield off sz (aval env x) fun z => K (put dst z env) H
 | .indexAddr esz x i => (∀ own xs, aval env x = .lst own xs → ∀ z ∈ xs, z.cells.length = esz) ∧ aindexAddr esz (aval env x) (aval env i) fun z => K (put dst z env) H
 | .indexStr x i => aindexStr (aval env x) (aval env i) fun z => K (put dst z env) H
 | .indexArr n x i => aindexArr n (aval env x) (aval env i) fun z => K (put dst z env) H
 | .sliceZ esz x lo hi mx => (∀ own xs, aval env x = .lst own xs → ∀ z ∈ xs, z.cells.length = esz) ∧ aslice esz (aval env x) (optX env lo) (optX env hi) (optX env mx) fun z => z = .lst esz [] ∧ K (put dst .emp env) H
 | .slice esz x lo hi mx => asliceX esz (aval env x) (optX env lo) (optX env hi) (optX env mx) fun z => K (put dst z env) H
 | .copy esz d s => acopy esz (aval env d) (aval env s) H fun z H' => K (put dst z env) H'
 | .sliceStr x lo hi => asliceStr (aval env x) (optX env lo) (optX env hi) fun z => K (put dst z env) H
 | .len kd x => lenOk kd (aval env x) ∧ alen (aval env x) H fun z => K (put dst z env) H
 | .append esz bytes s x => aappend esz bytes (aval env s) (aval env x) fun zs => K (put dst (.lst esz zs) (unslotE env s.slot)) H
 | .mkarr esz bytes z n => amkarr esz bytes z (aval env n) H fun v H' => K (put dst v env) H'
 | .mkbuf esz bytes n => amkbuf esz bytes (aval env n) fun v => K (put dst v env) H
 | .mkmap => K (put dst (.map H.length) env) (H ++ [.map []])
 | .lookup kd z m k ok => alookup kd z (aval env m) (aval env k) ok H fun v => K (put dst v env) H
 | .mapset kd m k x => amapset kd (aval env m) (aval env k) (aval env x) H fun H' => K env H'
 | .fn f first cap => K (put dst (.fn f (first.map fun x => (aval env x).unown) (cap.map fun x => (aval env x).unown)) env) H
 | .extract x i => aextract (aval env x) i fun z => K (put dst z env) H
 | .call f args pass => acall P (aval env f) args pass env H fun r env' H' => K (put dst r env') H'
 | .convInt k x => aconvInt k (aval env x) fun z => K (put dst z env) H
 | .convStr x => aconvStr (aval env x) fun z => K (put dst z env) H
 | .bytesOf x => abytesOf 1 (aval env x) fun z => K (put dst z env) H
 | .strOf x => astrOf (aval env x) fun z => K (put dst z env) H
 | .mx big a b => amx big (aval env a) (aval env b) fun z => K (put dst z env) H
 | .setf esz x => asetf esz (aval env x) H fun z H' => K (put dst z env) H'
 | .litA esz z len ps => abslice (List.replicate len (canon z)) esz (ps.map fun q => (q.1, aval env q.2)) fun xs => alitA xs H fun v H' => K (put dst v env) H'
 | .appendA esz bytes z s x => aappendA esz bytes z (aval env s) (aval env x) H fun v H' => K (put dst v env) H'
 | .clearA esz z x => aclearA esz z (aval env x) H fun H' => K (put dst (.tuple []) env) H'
 | .never => False
def compPartsOk (P : Program) (e : TypeId) : Option (Nat × AV) :=
 match tcells P e, tzero P e with
 | some esz, some z => if 0 < esz ∧ z.cells.length = esz ∧ z.val = true then some (esz, z) else none
 | _, _ => none
def tbytes (P : Program) (e : TypeId) : Option Nat := (P.info? e).map (·.bytes)
def okZero (z : AV) : Bool := z.cells.all fun y => match y with | .lst own _ => own == 0 | _ => true
def compOpt : Option Operand → Option (Option IX)
 | none => some none
 | some x => (compX x).map some
def sameOp (x y : Operand) : Bool := match x, y with | .tmp a, .tmp b => a == b | .const (.int .i64 a), .const (.int .i64 b) => a == b | _, _ => false
def compOp (P : Program) (o : Oper) (fl : Nat) : Option IOp :=
 match o.op with
 | .move x | .assign x => (compX x).map fun i => .set i (fl == 1)
 | .pick c a b => match compX c, compX a, compX b with
   | some c, some a, some b => some (.pick c a b)
   | _, _, _ => none
 | .binOp op t x y _ => match compX x, compX y with
   | some i, some j => match op with
     | .shl | .shr => some (.shift op i j)
     | .eql | .neq => match P.underlying t with
       | some .bool => some (.eqBool (op matches .neq) i j)
       | some (.int _) | some .string => some (.bin op i j)
       | some (.slice _) => match y with | .const (.slice none 0 0) => some (.eqNil 0 (op matches .neq) i) | _ => none
       | some (.pointer _) => match y with | .const (.pointer none) => some (.eqNil 1 (op matches .neq) i) | _ => none
       | some (.map _ _) => match y with | .const (.map none) => some (.eqNil 2 (op matches .neq) i) | _ => none
       | some (.func _ _ _) => match y with | .const .nilFunc => some (.eqNil 3 (op matches .neq) i) | _ => none
       | _ => none
     | _ => some (.bin op i j)
   | _, _ => none
 | .unOp op _ x => (compX x).map fun i => .un op i
 | .box _ x => (compX x).map fun i => if fl = 1 then .boxi i else .box i
 | .alloc e => match tzero P e with
   | some z => if z.val = true then some (.alloc z) else none
   | none => none
 | .build t ps => match tbuild P t with
   | some (z, places) => match compParts places ps.toList with
     | some qs => if z.val = true then some (.build z qs) else none
     | none => none
   | none => none
 | .buildSlice t len ps => match P.underlying t with
   | some (.slice e) => match compPartsOk P e, compParts1 ps.toList with
     | some (esz, z), some qs => if len * esz ≤ 16777216 then some (if fl = 2 then .litA esz z len qs else .buildSlice (if fl = 1 then esz else 0) esz z len qs) else none
     | _, _ => none
   | _ => none
 | .load t a => match tsz P t, compX a with
   | some sz, some i => if fl = 1 then (if sz = none then some (.takeCell i) else none) else if 3000 < fl then some (.loadf sz (fl - 3000) i) else some (.load sz i)
   | _, _ => none
 | .store t a x => match tcells P t, compX a, compX x with
   | some m, some i, some j => if fl = 1 then (match j with | .t s => if m = 1 then some (.putCell i s) else none | _ => none) else if fl = 2 then some (.storeW m i j) else some (.store m i j)
   | _, _, _ => none
 | .nilCheck x => (compX x).map .nilCheck
 | .fieldAddr s x f => match tfield P s f, compX x with
   | some (off, sz), some i => some (.fieldAddr off sz i)
   | _, _ => none
 | .field s x f => match tfield P s f, compX x with
   | some (off, sz), some i => some (.field off sz i)
   | _, _ => none
 | .indexAddr t x i => match P.underlying t, compX x, compX i with
   | some (.slice e), some j, some k => (tcells P e).map fun esz => .indexAddr esz j k
   | _, _, _ => none
 | .index t x i => match P.underlying t, compX x, compX i with
   | some .string, some j, some k => some (.indexStr j k)
   | some (.array n e), some j, some k => if tsz P e = some none then some (.indexArr n j k) else none
   | _, _, _ => none
 | .slice t x lo hi mx => match P.underlying t, compX x, compOpt lo, compOpt hi, compOpt mx with
   | some (.slice e), some i, some l, some h, some m => match tcells P e with
     | some esz => if 0 < esz then some (if fl = 4 then .sliceZ esz i l h m else .slice esz i l h m) else none
     | none => none
   | some .string, some i, some l, some h, some none => some (.sliceStr i l h)
   | _, _, _, _, _ => none
 | .makeSlice t l c => match P.underlying t, compX c with
   | some (.slice e), some k => match compPartsOk P e, tbytes P e with
     | some (esz, z), some bytes => if 0 < bytes ∧ okZero z = true then (match l with
        | .const (.int .i64 0) => some (.mkbuf esz bytes k)
        | _ => if sameOp l c = true then some (.mkarr esz bytes z k) else none) else none
     | _, _ => none
   | _, _ => none
 | .makeMap _ none => some .mkmap
 | .lookup t m k ok => match P.underlying t, compX m, compX k with
   | some (.map kt et), some i, some j => match keyKind P kt, tzero P et with
     | some kd, some z => some (.lookup kd z i j ok)
     | _, _ => none
   | _, _, _ => none
 | .mapUpdate t m k x => match P.underlying t, compX m, compX k, compX x with
   | some (.map kt _), some i, some j, some y => (keyKind P kt).map fun kd => .mapset kd i j y
   | _, _, _, _ => none
 | .makeFunc f first cap => match compXs first.toList, compXs cap.toList with
   | some i, some j => some (.fn f i j)
   | _, _ => none
 | .extract x i => (compX x).map fun j => .extract j i
 | .convert src dst x => match P.underlying src, P.underlying dst, compX x with
   | some (.int _), some (.int k), some i => some (.convInt k i)
   | some .string, some .string, some i => some (.convStr i)
   | some .string, some (.slice e), some i => match P.underlying e with
     | some (.int .u8) => some (.bytesOf i)
     | _ => none
   | some (.slice e), some .string, some i => match P.underlying e with
     | some (.int .u8) => some (.strOf i)
     | _ => none
   | _, _, _ => none
 | .call c => match c.callee with
   | .value f => match compX f, compXs c.args.toList with
     | some i, some js => some (.call i js (if fl = 0 then none else some (fl - 1)))
     | _, _ => none
   | .builtin .len => match c.args.toList, c.argTypes.toList with
     | [x], [t] => match P.underlying t, compX x with
       | some .string, some i => some (.len 0 i)
       | some (.slice _), some i => some (.len 1 i)
       | some (.map _ _), some i => some (.len 2 i)
       | _, _ => none
     | _, _ => none
   | .builtin .append => match c.args.toList, c.argTypes.toList with
     | [s, x], [t, t'] => if t = t' then (match P.underlying t, compX s, compX x with
        | some (.slice e), some i, some j => match compPartsOk P e, tbytes P e with
          | some (esz, z), some bytes => if 0 < bytes then (if fl = 2 then (if okZero z = true then some (.appendA esz bytes z i j) else none) else some (.append esz bytes i j)) else none
          | _, _ => none
        | _, _, _ => none) else none
     | _, _ => none
   | .builtin .max => match c.args.toList with
     | [x, y] => match compX x, compX y with
       | some i, some j => some (.mx true i j)
       | _, _ => none
     | _ => none
   | .builtin .min => match c.args.toList with
     | [x, y] => match compX x, compX y with
       | some i, some j => some (.mx false i j)
       | _, _ => none
     | _ => none
   | _ => none
 | _ => none
def compMore (P : Program) (o : Oper) : IOp :=
 match o.op with
 | .call c => match c.callee with
   | .builtin .copy => match c.args.toList, c.argTypes.toList with
     | [s, x], [t, _] => match P.underlying t, compX s, compX x with
        | some (.slice e), some i, some j => match tcells P e with
          | some esz => .copy esz i j
          | none => .never
        | _, _, _ => .never
     | _, _ => .never
   | .builtin .clear => match c.args.toList, c.argTypes.toList with
     | [s], [t] => match P.underlying t, compX s with
        | some (.slice e), some i => match compPartsOk P e with
          | some (esz, z) => .clearA esz z i
          | none => .never
        | _, _ => .never
     | _, _ => .never
   | _ => .never
 | _ => .never
def compSetf (P : Program) (o : Oper) : IOp :=
 match o.op with
 | .move x | .assign x => match compX x, P.underlying o.type with
   | some i, some (.slice e) => match tcells P e with
     | some esz => .setf esz i
     | none => .never
   | _, _ => .never
 | _ => .never
def compSetfa (esz : Nat) (o : Oper) : IOp :=
 match o.op with
 | .move x | .assign x => match compX x with
   | some i => .setf esz i
   | none => .never
 | _ => .never
def notLoad (o : Oper) : Bool := match o.op with | .load _ _ => false | _ => true
def comp1 (P : Program) (o : Oper) (fl : Nat) : IOp := if fl = 3000 then compSetf P o else if 3000 < fl ∧ notLoad o = true then compSetfa (fl - 3000) o else (compOp P o fl).getD (compMore P o)
end Go.Abs
end
section
namespace Go.Abs
open Go
section
variable {ro : Option Nat} {P : Program} {lo : Option Nat} {A : Perm} {n : Nat} {M : Mem} {L : List Nat} {w : World} {H : List AObj} {env : Env} {O : Pos → Option Nat} {a : Act} {Q : Exit → Act → World → Prop} {K : Env → List AObj → Prop}
theorem wp_read {o : Oper} (hf : Fr A n M L w H env O a) (hd : ∀ d, o.dst = some d → d < n)
 (h : ∃ r z, (execOp a.eval o).run P w = .ok (.value r) w ∧ Rep M L r z ∧ K (put o.dst z env) H ∧ ∀ own xs, z = .lst own xs → own = 0) : o.wpIn (wf ro) 0 P a w (Aft A n M L w K) Q := by
 obtain ⟨r, z, h1, h2, h3, h4⟩ := h
 exact wp_pure hf hd h1 h2 h4 h3
theorem value_of {s : Sem Value} {r : Value} {w' : World} (h : s.run P w = .ok r w') : (do pure (Next.value (← s)) : Sem Next).run P w = .ok (.value r) w' := by
 simp only [Sem.run_bind, h, Result.andThen_ok, Sem.run_pure]
theorem skip_of {s : Sem Unit} {w' : World} (h : s.run P w = .ok () w') : (do s; pure Next.skip : Sem Next).run P w = .ok .skip w' := by
 simp only [Sem.run_bind, h, Result.andThen_ok, Sem.run_pure]
theorem wp_made {o : Oper} (hf : Fr A n M L w H env O a) (hd : ∀ d, o.dst = some d → d < n) {r : Value} {z : AV} {w' : World} {M' : Mem} {L' : List Nat} {H' : List AObj} (hrun : (execOp a.eval o).run P w = .ok (.value r) w')
 (hr : Rep M' L' r z) (hz : ∀ own xs, z = .lst own xs → own = 0) (hst : St A M' L' w' H' (fun t => a.tmps.getD t undef) (get env) O) (hext : Ext A M w M' w') (hL : L <+: L') (hK : K (put o.dst z env) H') : o.wpIn (wf ro) 0 P a w (Aft A n M L w K) Q := by
 obtain ⟨O', hf'⟩ := (hf.mono hst hext).put0 hd hr hz
 exact wp_value hrun ⟨M', L', H', _, O', hK, hf', hext, hL⟩
theorem wp_owned {o : Oper} {env' : Env} {O' : Pos → Option Nat} (hf : Fr A n M L w H env O a) (hd : ∀ d, o.dst = some d → d < n) {r : Value} {z : AV} {w' : World} {M' : Mem} {ob : Option Nat} (hrun : (execOp a.eval o).run P w = .ok (.value r) w')
 (hr : Rep M' L r z) (hsp : Spare M' w' r z ob) (hst : St A M' L w' H (fun t => a.tmps.getD t undef) (get env') O') (hext : Ext A M w M' w') (h1 : ∀ q b, ob = some b → O' q ≠ some b) (h2 : ∀ b, ob = some b → b ∉ L ∧ b < w'.heap.size ∧ A b) (hK : K (put o.dst z env') H) : o.wpIn (wf ro) 0 P a w (Aft A n M L w K) Q := by
 have hf' : Fr A n M' L w' H env' O' a := ⟨hst, hf.size, hf.defers.ext hext⟩
 refine wp_value hrun ?_
 cases hdst : o.dst with
 | none => rw [hdst] at hK; exact ⟨M', L, H, _, O', hK, hf', hext, List.prefix_refl L⟩
 | some d =>
   rw [hdst] at hK
   exact ⟨M', L, H, _, _, hK, hf'.putO (hd d hdst) hr ob hsp (fun q b hb hq => absurd hq (h1 q b hb)) h2, hext, List.prefix_refl L⟩
theorem set_sound {o : Oper} {x : Operand} (ho : o.op = .move x ∨ o.op = .assign x) {i : IX} (hc : compX x = some i) {take : Bool} (hf : Fr A n M L w H env O a) (hd : ∀ d, o.dst = some d → d < n)
 (h : aop ⟨P, lo⟩ (.set i take) o.dst env H K) : o.wpIn (wf ro) 0 P a w (Aft A n M L w K) Q := by
 have hrun : (execOp a.eval o).run P w = .ok (.value (a.eval x)) w := by
  rcases ho with ho | ho <;> simp [execOp, ho]
 have hr := hf.eval hc
 simp only [aop] at h
 cases hdst : o.dst with
 | none =>
   rw [hdst] at h
   refine wp_value hrun ⟨M, L, H, env, O, h, ?_, Ext.refl A M w, List.prefix_refl L⟩
   rw [hdst]; exact hf
 | some d =>
   rw [hdst] at h
   have hdn := hd d hdst
   have h : K (setE env d i take) H := h
   unfold setE at h
   split at h
   ·rename_i s _
    -- the list moves
    cases x with
    | tmp t =>
      have hts : t = s := by simpa [compX] using hc
      subst hts
      have hput := hf.st.put0 t (v := a.tmps.getD t undef) (x := (get env t).unown) (hf.st.env t).unown (AV.unown_free _)
      have hev : upd (fun t => a.tmps.getD t undef) t (a.tmps.getD t undef) = fun t => a.tmps.getD t undef := by funext t'; simp only [upd]; split; rename_i e0; rw [e0]; rfl
      rw [hev] at hput
      have hf1 : Fr A n M L w H ((t, (get env t).unown) :: env) (updP O (.t t) none) a := ⟨hput, hf.size, hf.defers⟩
      have hf2 := hf1.putO hdn (v := a.tmps.getD t undef) (x := get env t) (hf.st.env t) (O (.t t)) (hf.st.spt t) (fun p b hb hp => by
       simp only [updP] at hp
       split at hp
       ·cases hp
       ·rename_i n'; exact absurd (hf.st.oinj _ _ b hp hb) n') (fun b hb => ⟨hf.st.osep _ b hb, hf.st.olt _ b hb, hf.st.Oa _ b hb⟩)
      rw [← hdst] at hf2
      exact wp_value hrun ⟨M, L, H, _, _, h, hf2, Ext.refl A M w, List.prefix_refl L⟩
    | const v => simp only [compX] at hc; obtain ⟨y, _, hy⟩ := Option.map_eq_some_iff.1 hc; cases hy
    | func f => simp [compX] at hc
    | global g => simp [compX] at hc
   ·have hf2 := hf.putO hdn hr.unown none (Spare.free (AV.unown_free _)) (fun p b e => by cases e) (fun b e => by cases e)
    rw [← hdst] at hf2
    exact wp_value hrun ⟨M, L, H, _, _, h, hf2, Ext.refl A M w, List.prefix_refl L⟩
theorem takeCell_sound {o : Oper} {t : TypeId} {x : Operand} (ho : o.op = .load t x) (ht : tsz P t = some none) {i : IX} (hc : compX x = some i) (hf : Fr A n M L w H env O a) (hd : ∀ d, o.dst = some d → d < n)
 (h : aop ⟨P, lo⟩ (.takeCell i) o.dst env H K) : o.wpIn (wf ro) 0 P a w (Aft A n M L w K) Q := by
 have hr := hf.eval hc
 simp only [aop] at h
 split at h <;> try exact h.elim
 rename_i d id off hdst hx
 split at h <;> try exact h.elim
 rename_i es hid
 obtain ⟨hoff, hK⟩ := h
 rw [hx] at hr
 generalize hu : a.eval x = u at hr
 cases hr with
 | ptr b _ _ hl =>
 obtain ⟨cs, e, h1, h2, h3⟩ := cells_of_obj hf.st hid hl
 have hlen := h2.length
 obtain ⟨r1, r2⟩ := run_isAgg_false (w := w) (m := 0) ht
 have hlc : off < cs.toList.length := by omega
 have hcell := h3 off cs.toList[off] (by simp)
 have hrep := h2.getD off
 have e0 : cs.toList.getD off undef = cs.toList[off] := by rw [List.getD_eq_getElem?_getD, List.getElem?_eq_getElem hlc]; rfl
 rw [e0] at hrep
 have hrun : (execOp a.eval o).run P w = .ok (.value cs.toList[off]) w := by
  simp only [execOp, ho, hu]
  exact value_of (by simp only [Instr.loadAt, Instr.sureAddr, loadVar, Sem.run_bind, Sem.run_pure, Result.andThen_ok, r1, Bool.false_eq_true, if_false, run_load, hcell])
 have hst := hf.st.unownCell hid hl hoff
 have hf1 : Fr A n M L w (H.set id (.cells (es.set off (es.getD off .any).unown))) env (updP O (.c id off) none) a := ⟨hst, hf.size, hf.defers⟩
 have hsp : Spare M w cs.toList[off] (es.getD off .any) (O (.c id off)) := by
  have h0 := hf.st.spc id off
  have e3 : cellV L w id off = cs.toList[off] := by unfold cellV; simp only [hl, hcell]; rfl
  have e4 : cellA H id off = es.getD off .any := by unfold cellA; simp [hid]
  rwa [e3, e4] at h0
 have hf2 := hf1.putO (hd d hdst) hrep (O (.c id off)) hsp (fun p b hb hp => by
  simp only [updP] at hp
  split at hp
  ·cases hp
  ·rename_i n'; exact absurd (hf.st.oinj _ _ b hp hb) n') (fun b hb => ⟨hf.st.osep _ b hb, hf.st.olt _ b hb, hf.st.Oa _ b hb⟩)
 rw [← hdst] at hf2
 exact wp_value hrun ⟨M, L, _, _, _, hK, hf2, Ext.refl A M w, List.prefix_refl L⟩
theorem putCell_sound {o : Oper} {t : TypeId} {x y : Operand} (ho : o.op = .store t x y) (ht : tcells P t = some 1) {i : IX} {s : Nat} (hc : compX x = some i) (hy : compX y = some (.t s)) (hf : Fr A n M L w H env O a)
 (hdst : o.dst = none) (h : aop ⟨P, lo⟩ (.putCell i s) o.dst env H K) : o.wpIn (wf ro) 0 P a w (Aft A n M L w K) Q := by
 have hr := hf.eval hc
 simp only [aop] at h
 have hys : y = .tmp s := by
  cases y with
  | tmp t => simp [compX] at hy; rw [hy]
  | const v => simp only [compX] at hy; obtain ⟨z, _, hz⟩ := Option.map_eq_some_iff.1 hy; cases hz
  | func f => simp [compX] at hy
  | global g => simp [compX] at hy
 subst hys
 obtain ⟨w', H', O', h1, h2, h3, h4⟩ := aputCell_run (P := P) hf.st ht h hr s rfl rfl
 have hrun : (execOp a.eval o).run P w = .ok .skip w' := by
  simp only [execOp, ho]
  exact skip_of h1
 have hf2 : Fr A n M L w' H' ((s, (get env s).unown) :: env) O' (a.put o.dst undef) := by
  rw [hdst]; exact ⟨h3, hf.size, hf.defers.ext h4⟩
 exact wp_skipped hrun ⟨M, L, H', _, O', h2, hf2, h4, List.prefix_refl L⟩
theorem append_sound {o : Oper} {t e : TypeId} {s x : Operand} (ho : o.op = .call { callee := .builtin .append, args := #[s, x], argTypes := #[t, t] }) (ht : P.underlying t = some (.slice e)) {esz bytes : Nat} {z : AV} (hz : compPartsOk P e = some (esz, z)) (hb : tbytes P e = some bytes) (hb0 : 0 < bytes)
 {i j : IX} (hi : compX s = some i) (hj : compX x = some j) (hf : Fr A n M L w H env O a) (hd : ∀ d, o.dst = some d → d < n)
 (h : aop ⟨P, lo⟩ (.append esz bytes i j) o.dst env H K) : o.wpIn (wf ro) 0 P a w (Aft A n M L w K) Q := by
 simp only [aop] at h
 have hrs := hf.eval hi
 have hrx := hf.eval hj
 unfold compPartsOk at hz
 split at hz <;> try cases hz
 rename_i esz' z' hc1 hc2
 split at hz <;> cases hz
 rename_i hcond
 obtain ⟨h0, hzl, hzv⟩ := hcond
 obtain ⟨inf, hinf, hsz⟩ := Option.map_eq_some_iff.1 hc1
 obtain ⟨inf', hinf', hby⟩ := Option.map_eq_some_iff.1 hb
 rw [hinf] at hinf'; cases hinf'
 unfold tzero at hc2
 simp only [hinf] at hc2
 split at hc2 <;> try cases hc2
 rename_i zv hzv'
 have hzs : zv.cells.size = esz := by have := ((ofValue_rep (M := M) (L := L) hc2).vcells hzv).length; rw [hzl] at this; simpa using this
 have hsl : match i.slot with | some d => (fun t => a.tmps.getD t undef) d = a.eval s ∧ get env d = aval env i | none => aval env i = .nils := by
  cases s with
  | tmp t => simp [compX] at hi; subst hi; exact ⟨rfl, rfl⟩
  | const v =>
    simp only [compX] at hi
    obtain ⟨y, hy, rfl⟩ := Option.map_eq_some_iff.1 hi
    simp only [IX.slot, aval]
    have h2 := h
    simp only [aval, aappend] at h2
    split at h2 <;> try exact h2.elim
    rename_i hxs _
    unfold alist at hxs
    split at hxs
    ·rfl
    ·-- a constant is never an owned list
     exfalso
     unfold ofValue at hy
     split at hy
     ·obtain ⟨_, _, hq⟩ := Option.map_eq_some_iff.1 hy; cases hq
     ·unfold ofV at hy; split at hy <;> cases hy
    ·cases hxs
  | func f =>
    simp [compX] at hi; subst hi
    simp only [aval, aappend, alist] at h
  | global g => simp [compX] at hi
 obtain ⟨r, w', M', O', ob, zs, g1, g2, g3, g4, g5, g6, g7, g8⟩ := aappend_run (P := P) (ty := o.type) hf.st ht hinf hzv' hsz hby hzs h0 hb0 h i.slot hrs hsl hrx
 have hrun : (execOp a.eval o).run P w = .ok (.value r) w' := by
  simp only [execOp, ho, resolve, invoke, builtin, Sem.run_bind, Sem.run_pure, Result.andThen_ok, List.map_toArray, List.map_cons, List.map_nil, g1]
 have henv : unslot (get env) i.slot = get (unslotE env i.slot) := by
  cases i.slot with
  | none => rfl
  | some d => rfl
 rw [henv] at g5
 exact wp_owned hf hd hrun g3 g4 g5 g6 g7 g8 g2
theorem appendA_sound {o : Oper} {t e : TypeId} {s x : Operand} (ho : o.op = .call { callee := .builtin .append, args := #[s, x], argTypes := #[t, t] }) (ht : P.underlying t = some (.slice e)) {esz bytes : Nat} {z : AV} (hz : compPartsOk P e = some (esz, z)) (hb : tbytes P e = some bytes) (hb0 : 0 < bytes) (hokz : okZero z = true)
 {i j : IX} (hi : compX s = some i) (hj : compX x = some j) (hf : Fr A n M L w H env O a) (hd : ∀ d, o.dst = some d → d < n)
 (h : aop ⟨P, lo⟩ (.appendA esz bytes z i j) o.dst env H K) : o.wpIn (wf ro) 0 P a w (Aft A n M L w K) Q := by
 simp only [aop] at h
 have hrs := hf.eval hi
 have hrx := hf.eval hj
 unfold compPartsOk at hz
 split at hz <;> try cases hz
 rename_i esz' z' hc1 hc2
 split at hz <;> cases hz
 rename_i hcond
 obtain ⟨h0, hzl, hzv⟩ := hcond
 obtain ⟨inf, hinf, hsz⟩ := Option.map_eq_some_iff.1 hc1
 obtain ⟨inf', hinf', hby⟩ := Option.map_eq_some_iff.1 hb
 rw [hinf] at hinf'; cases hinf'
 unfold tzero at hc2
 simp only [hinf] at hc2
 split at hc2 <;> try cases hc2
 rename_i zv hzv'
 have hzf : ∀ y ∈ z.cells, ∀ own xs, y = .lst own xs → own = 0 := by
  intro y hy own xs e
  have := List.all_eq_true.1 hokz y hy
  subst e
  simpa using this
 obtain ⟨r, y, L', w', H', O', g1, g2, g3, g4, g5, g6, g7⟩ := aappendA_run (P := P) (ty := o.type) hf.st ht hinf hzv' hsz hby h0 hb0 hc2 hzv hzl hzf h hrs hrx
 have hrun : (execOp a.eval o).run P w = .ok (.value r) w' := by
  simp only [execOp, ho, resolve, invoke, builtin, Sem.run_bind, Sem.run_pure, Result.andThen_ok, List.map_toArray, List.map_cons, List.map_nil, g1]
 have hf1 : Fr A n M L' w' H' env O' a := ⟨g5, hf.size, hf.defers.ext g6⟩
 obtain ⟨O'', hf'⟩ := hf1.put0 hd g2 g3
 exact wp_value hrun ⟨M, L', H', _, O'', g4, hf', g6, g7⟩
theorem LeL_get : ∀ {xs ys : List AV}, LeL xs ys → xs.length = ys.length ∧ ∀ t, (xs.getD t .any).le (ys.getD t .any)
 | [], [], _ => ⟨rfl, fun t => .inl rfl⟩
 | [], _ :: _, h => h.elim
 | _ :: _, [], h => h.elim
 | x :: xs, y :: ys, h => by
   obtain ⟨h1, h2⟩ := h
   obtain ⟨i1, i2⟩ := LeL_get h2
   refine ⟨by simp [i1], fun t => ?_⟩
   cases t with
   | zero => simpa using h1
   | succ t => simpa using i2 t
theorem baseArgs_length (env : Env) (pass : Option Nat) : ∀ (j : Nat) (xs : List IX), (baseArgs env pass j xs).length = xs.length
 | _, [] => rfl
 | j, .t s :: xs => by simp [baseArgs, baseArgs_length env pass (j + 1) xs]
 | j, .c v :: xs => by simp [baseArgs, baseArgs_length env pass (j + 1) xs]
theorem baseArgs_rep (hf : Fr A n M L w H env O a) (pass : Option Nat) : ∀ {xs : List Operand} {is : List IX} (j : Nat), compXs xs = some is → RepL M L (xs.map a.eval) (baseArgs env pass j is)
 | [], is, j, hc => by simp [compXs] at hc; subst hc; exact .nil
 | x :: xs, is, j, hc => by
   unfold compXs at hc
   split at hc
   ·rename_i i is' h1 h2
    cases hc
    have hr := hf.eval h1
    cases i with
    | t s =>
      refine .cons _ _ _ _ ?_ (baseArgs_rep hf pass (j + 1) h2)
      split
      ·exact hr
      ·exact hr.unown
    | c v => exact .cons _ _ _ _ hr.unown (baseArgs_rep hf pass (j + 1) h2)
   ·cases hc
def calleeA (A : Perm) (loose : Bool) (H : List AObj) (L : List Nat) (O : Pos → Option Nat) (w : World) : Perm where
 wr := fun b => b ∈ L ∨ (∃ p, O p = some b) ∨ w.heap.size ≤ b
 top := fun id => if id < H.length then some (A.lim H.length id) else if loose = true then none else some (id + 1)
 ok := by
  intro id n h
  split at h
  ·rename_i h1
   cases h
   have := A.le_lim h1
   omega
  ·split at h
   ·cases h
   ·cases h; omega
theorem calleeA_entry (A : Perm) (loose : Bool) (H : List AObj) (L : List Nat) (O : Pos → Option Nat) (w : World) : (calleeA A loose H L O w).entry loose H.length :=
 ⟨fun id h => ⟨A.lim H.length id, A.lim_le _ _, by simp only [calleeA, if_pos h]⟩, fun id h => by simp only [calleeA]; rw [if_neg (by omega)]⟩
theorem calleeA_lim (A : Perm) (loose : Bool) (H : List AObj) (L : List Nat) (O : Pos → Option Nat) (w : World) {id : Nat} (h : id < H.length) (len : Nat) : (calleeA A loose H L O w).lim len id = min (A.lim H.length id) len := by
 unfold Perm.lim
 simp only [calleeA, if_pos h]
 rfl
theorem St.narrow {ev : Nat → Value} {ea : Nat → AV} (loose : Bool) (h : St A M L w H ev ea O) : St (calleeA A loose H L O w) M L w H ev ea O :=
 { len := h.len, nodup := h.nodup, env := h.env, mem := h.mem, obj := h.obj, lt := h.lt, spt := h.spt, spc := h.spc, oinj := h.oinj, osep := h.osep, olt := h.olt,
   strat := fun id o ho => by
    rw [calleeA_lim A loose H L O w (get_lt ho), Nat.min_eq_left (A.lim_le _ _)]
    exact h.strat id o ho
   La := fun b hb => .inl hb, Oa := fun p b hp => .inr (.inl ⟨p, hp⟩), fresh := fun b hb => .inr (.inr hb) }
theorem St.forArgs {ev : Nat → Value} {ea : Nat → AV} (h : St A M L w H ev ea O) (ev' : Nat → Value) (ea' : Nat → AV) (hr : ∀ t, Rep M L (ev' t) (ea' t)) (hx : ∀ t own xs, ea' t = .lst own xs → own = 0) :
 St A M L w H ev' ea' (fun p => match p with | .t _ => none | .c id j => O (.c id j)) := by
 have hO : ∀ (p : Pos) (b : Nat), (match p with | .t _ => none | .c id j => O (.c id j)) = some b → O p = some b := by
  intro p b hp
  cases p with
  | t t => cases hp
  | c id j => exact hp
 exact { len := h.len, nodup := h.nodup, env := hr, mem := h.mem, obj := h.obj, strat := h.strat, lt := h.lt, spt := fun t => Spare.free (hx t), spc := h.spc, oinj := fun p q b hp hq => h.oinj p q b (hO p b hp) (hO q b hq),
         osep := fun p b hp => h.osep p b (hO p b hp), olt := fun p b hp => h.olt p b (hO p b hp), La := h.La, Oa := fun p b hp => h.Oa p b (hO p b hp), fresh := h.fresh }
theorem St.afterCall {ev : Nat → Value} {ea : Nat → AV} (h : St A M L w H ev ea O) {Oc : Pos → Option Nat} (pt : Option Nat) (loose : Bool) (hlo : loose = true → ∀ id, H.length ≤ id → A.top id = none) (hOc : ∀ b, (∃ p, Oc p = some b) → (∃ id j, O (.c id j) = some b) ∨ ∃ s, pt = some s ∧ O (.t s) = some b)
 {M' : Mem} {L' : List Nat} {w' : World} {H' : List AObj} {v : Value} {r : AV} {O' : Pos → Option Nat}
 (h' : St (calleeA A loose H L Oc w) M' L' w' H' (upd (fun _ => undef) 0 v) (upd (fun _ => .any) 0 r) O') (hext : Ext (calleeA A loose H L Oc w) M w M' w') (hL : L <+: L') :
 ∃ O'', St A M' L' w' H' ev (unslot ea pt) O'' ∧ Ext A M w M' w' ∧ Rep M' L' v r ∧ Spare M' w' v r (O' (.t 0)) ∧ (∀ q b, O' (.t 0) = some b → O'' q ≠ some b) ∧ (∀ b, O' (.t 0) = some b → b ∉ L' ∧ b < w'.heap.size ∧ A b) := by
 have hlen : H.length ≤ H'.length := by
  have := hL.length_le
  rw [h.len, h'.len] at this
  exact this
 have hAc : ∀ b, calleeA A loose H L Oc w b → A b := by
  rintro b (hb | hb | hb)
  ·exact h.La b hb
  ·rcases hOc b hb with ⟨id, j, hq⟩ | ⟨s, _, hq⟩
   ·exact h.Oa _ b hq
   ·exact h.Oa _ b hq
  ·exact h.fresh b hb
 let O'' : Pos → Option Nat := fun p => match p with
  | .t i => if pt = some i then none else O (.t i)
  | .c id j => O' (.c id j)
 -- what the caller keeps is not the callee's to write
 have keep : ∀ i b, pt ≠ some i → O (.t i) = some b → ¬ calleeA A loose H L Oc w b := by
  rintro i b hi hb (hc | hc | hc)
  ·exact h.osep _ b hb hc
  ·rcases hOc b hc with ⟨id, j, hq⟩ | ⟨s, hs, hq⟩
   ·have := h.oinj _ _ b hb hq; cases this
   ·have := h.oinj _ _ b hb hq; cases this; exact hi hs
  ·have := h.olt _ b hb; omega
 have hkt : ∀ i b, O'' (.t i) = some b → pt ≠ some i ∧ O (.t i) = some b := by
  intro i b hb
  simp only [O''] at hb
  split at hb
  ·cases hb
  ·rename_i hi; exact ⟨hi, hb⟩
 have hdis : ∀ i b p, O'' (.t i) = some b → O' p ≠ some b := by
  intro i b p hb hp
  obtain ⟨h1, h2⟩ := hkt i b hb
  exact keep i b h1 h2 (h'.Oa p b hp)
 refine ⟨O'', { len := h'.len, nodup := h'.nodup, env := ?_, mem := h'.mem, obj := h'.obj, strat := ?_, lt := h'.lt, spt := ?_, spc := h'.spc, oinj := ?_, osep := ?_, olt := ?_, La := fun b hb => hAc b (h'.La b hb), Oa := ?_, fresh := fun b hb => h.fresh b (Nat.le_trans hext.size hb) }, ?_, ?_, ?_, ?_, ?_⟩
 ·intro t
  have := (h.env t).mono hext.msub hL
  cases pt with
  | none => exact this
  | some d =>
    simp only [unslot, upd]
    split
    ·rename_i e0; subst e0; exact this.unown
    ·exact this
 ·intro id o ho
  have h1 := h'.strat id o ho
  have hl := get_lt ho
  by_cases e : id < H.length
  ·rw [calleeA_lim A loose H L Oc w e] at h1
   exact AObj.blw_mono (Nat.le_trans (Nat.min_le_left _ _) (A.lim_mono hlen id)) o h1
  ·by_cases hx : loose = true
   ·have e1 : A.lim H'.length id = H'.length := by unfold Perm.lim; rw [hlo hx id (by omega)]
    rw [e1]
    exact AObj.blw_mono (Perm.lim_le _ _ _) o h1
   ·have e1 : (calleeA A loose H L Oc w).lim H'.length id = min (id + 1) H'.length := by
     unfold Perm.lim
     simp only [calleeA, if_neg e, if_neg hx]
    rw [e1] at h1
    exact AObj.blw_mono (Nat.le_trans (Nat.min_le_left _ _) (A.le_lim hl)) o h1
 ·intro t
  have h1 := h.spt t
  cases pt with
  | none =>
    exact h1.mono fun b hb => hext.keep b (h.olt _ b hb) (keep t b (by simp) hb)
  | some d =>
    simp only [unslot, upd, O'']
    by_cases e0 : t = d
    ·subst e0
     simp only [if_true]
     exact Spare.free (AV.unown_free _)
    ·have : ¬ (some d = some t) := fun e => e0 (by cases e; rfl)
     simp only [e0, this, if_false]
     exact h1.mono fun b hb => hext.keep b (h.olt _ b hb) (keep t b this hb)
 ·intro p q b hp hq
  cases p with
  | t i =>
    cases q with
    | t j => exact h.oinj _ _ b (hkt i b hp).2 (hkt j b hq).2
    | c id j => exact absurd hq (hdis i b _ hp)
  | c id j =>
    cases q with
    | t i => exact absurd hp (hdis i b _ hq)
    | c id' j' => exact h'.oinj _ _ b hp hq
 ·intro p b hp hm
  cases p with
  | t i => exact keep i b (hkt i b hp).1 (hkt i b hp).2 (h'.La b hm)
  | c id j => exact h'.osep _ b hp hm
 ·intro p b hp
  cases p with
  | t i => exact Nat.lt_of_lt_of_le (h.olt _ b (hkt i b hp).2) hext.size
  | c id j => exact h'.olt _ b hp
 ·intro p b hp
  cases p with
  | t i => exact h.Oa _ b (hkt i b hp).2
  | c id j => exact hAc b (h'.Oa _ b hp)
 ·exact ⟨hext.msub, hext.size, hext.os, hext.tape, hext.output, fun b hb hA => hext.keep b hb (fun hc => hA (hAc b hc)), hext.loops⟩
 ·simpa [upd] using h'.env 0
 ·simpa [upd] using h'.spt 0
 ·intro q b hb hq
  cases q with
  | t i => exact hdis i b _ hq hb
  | c id j => have := h'.oinj _ _ b hb hq; cases this
 ·intro b hb
  exact ⟨h'.osep _ b hb, h'.olt _ b hb, hAc b (h'.Oa _ b hb)⟩
theorem baseArgs_none (env : Env) : ∀ (xs : List IX) (j t : Nat), (baseArgs env none j xs).getD t .any = (match xs[t]? with | some x => (aval env x).unown | none => .any)
 | [], j, t => by simp [baseArgs]
 | .t s :: xs, j, 0 => by simp [baseArgs, aval]
 | .c v :: xs, j, 0 => by simp [baseArgs, aval]
 | .t s :: xs, j, t + 1 => by
   simp only [baseArgs, List.getD_cons_succ, List.getElem?_cons_succ]
   exact baseArgs_none env xs (j + 1) t
 | .c v :: xs, j, t + 1 => by
   simp only [baseArgs, List.getD_cons_succ, List.getElem?_cons_succ]
   exact baseArgs_none env xs (j + 1) t
theorem baseArgs_some (env : Env) (k : Nat) : ∀ (xs : List IX) (j t : Nat), (baseArgs env (some k) j xs).getD t .any = (match xs[t]? with | some (.t s) => if k = j + t then get env s else (get env s).unown | some (.c v) => v.unown | none => .any)
 | [], j, t => by simp [baseArgs]
 | .t s :: xs, j, 0 => by simp [baseArgs]
 | .c v :: xs, j, 0 => by simp [baseArgs]
 | .t s :: xs, j, t + 1 => by
   simp only [baseArgs, List.getD_cons_succ, List.getElem?_cons_succ]
   rw [baseArgs_some env k xs (j + 1) t, show j + 1 + t = j + (t + 1) by omega]
 | .c v :: xs, j, t + 1 => by
   simp only [baseArgs, List.getD_cons_succ, List.getElem?_cons_succ]
   rw [baseArgs_some env k xs (j + 1) t, show j + 1 + t = j + (t + 1) by omega]
theorem getD_toArray (vs : List Value) (t : Nat) : vs.toArray.getD t undef = vs.getD t undef := by
 simp [List.getD_eq_getElem?_getD]
theorem getD_app3 (xs ys zs : List AV) (t : Nat) : (xs ++ ys ++ zs).getD t .any = if t < xs.length then xs.getD t .any else if t < xs.length + ys.length then ys.getD (t - xs.length) .any else zs.getD (t - xs.length - ys.length) .any := by
 simp only [List.getD_eq_getElem?_getD, List.getElem?_append, List.length_append]
 by_cases h1 : t < xs.length
 ·rw [if_pos (by omega), if_pos h1, if_pos h1]
 ·by_cases h2 : t < xs.length + ys.length
  ·rw [if_pos h2, if_neg h1, if_neg h1, if_pos h2]
  ·rw [if_neg h2, if_neg h1, if_neg h2, Nat.sub_sub]
theorem call_prep {o : Oper} {xs : List Operand} {js : List IX} (hcj : compXs xs = some js) {pass : Option Nat} {fs cs : List Value} {first cap : List AV} (hr1 : RepL M L fs first) (hr2 : RepL M L cs cap) {args' : List AV}
 (hle : LeL (first.map AV.unown ++ baseArgs env pass 0 js ++ cap.map AV.unown) args') (hf : Fr A n M L w H env O a) (hd : ∀ d, o.dst = some d → d < n) {loose : Bool} (hlo : loose = true → ∀ id, H.length ≤ id → A.top id = none) :
 ∃ Oc, (fs ++ xs.map a.eval ++ cs).length = args'.length ∧ St (calleeA A loose H L Oc w) M L w H (fun t => (fs ++ xs.map a.eval ++ cs).toArray.getD t undef) (fun t => args'.getD t .any) Oc ∧
  ∀ (v : Value) (r : AV) (H' : List AObj) (M' : Mem) (L' : List Nat) (O' : Pos → Option Nat) (w' : World), K (put o.dst r (unslotE env (passSlot js pass))) H' → St (calleeA A loose H L Oc w) M' L' w' H' (upd (fun _ => undef) 0 v) (upd (fun _ => .any) 0 r) O' → Ext (calleeA A loose H L Oc w) M w M' w' → L <+: L' →
   Aft A n M L w K (a.put o.dst v) w' := by
 have hrb := baseArgs_rep hf pass 0 hcj
 have hrb0 := baseArgs_rep hf none 0 hcj
 obtain ⟨hlen, hleg⟩ := LeL_get hle
 obtain ⟨vs, hvs⟩ : ∃ vs : List Value, vs = fs ++ xs.map a.eval ++ cs := ⟨_, rfl⟩
 have hrv : RepL M L vs (first.map AV.unown ++ baseArgs env pass 0 js ++ cap.map AV.unown) := by rw [hvs]; exact (hr1.map_unown.append hrb).append hr2.map_unown
 have hrv0 : RepL M L vs (first.map AV.unown ++ baseArgs env none 0 js ++ cap.map AV.unown) := by rw [hvs]; exact (hr1.map_unown.append hrb0).append hr2.map_unown
 have hvl : vs.length = args'.length := by rw [hrv.length]; exact hlen
 -- the callee's state
 have hstc : ∃ Oc, St A M L w H (fun t => vs.toArray.getD t undef) (fun t => args'.getD t .any) Oc ∧ (∀ b, (∃ p, Oc p = some b) → (∃ id j, O (.c id j) = some b) ∨ ∃ s, passSlot js pass = some s ∧ O (.t s) = some b) := by
  have hfree : ∀ t own zs, (first.map AV.unown ++ baseArgs env none 0 js ++ cap.map AV.unown).getD t .any = .lst own zs → own = 0 := by
   intro t own zs he
   have hm : ∀ (l : List AV) q, (l.map AV.unown).getD q .any = .lst own zs → own = 0 := by
    intro l q hq
    rw [List.getD_eq_getElem?_getD, List.getElem?_map] at hq
    cases hx : l[q]? with
    | none => simp [hx] at hq
    | some y => simp [hx] at hq; exact AV.unown_free y own zs hq
   rw [getD_app3] at he
   split at he
   ·exact hm _ _ he
   ·split at he
    ·rw [baseArgs_none] at he
     split at he
     ·exact AV.unown_free _ own zs he
     ·cases he
    ·exact hm _ _ he
  have h0 := hf.st.forArgs (fun t => vs.toArray.getD t undef) (fun t => (first.map AV.unown ++ baseArgs env none 0 js ++ cap.map AV.unown).getD t .any) (fun t => by rw [getD_toArray]; exact hrv0.getD t) hfree
  -- then the one that is handed over
  have h1 : ∃ O1, St A M L w H (fun t => vs.toArray.getD t undef) (fun t => (first.map AV.unown ++ baseArgs env pass 0 js ++ cap.map AV.unown).getD t .any) O1 ∧ (∀ b, (∃ p, O1 p = some b) → (∃ id j, O (.c id j) = some b) ∨ ∃ s, passSlot js pass = some s ∧ O (.t s) = some b) := by
   cases hps : passSlot js pass with
   | none =>
     refine ⟨_, h0.congr (fun _ => rfl) (fun t => ?_), ?_⟩
     ·rw [getD_app3, getD_app3, baseArgs_length, baseArgs_length]
      split
      ·rfl
      ·split
       ·cases pass with
        | none => rfl
        | some k =>
          rw [baseArgs_none, baseArgs_some]
          unfold passSlot at hps
          simp only at hps
          cases hx : js[t - (first.map AV.unown).length]? with
          | none => rfl
          | some x =>
            cases x with
            | c v => rfl
            | t s =>
              simp only
              rw [if_neg]
              ·rfl
              ·intro e
               rw [Nat.zero_add] at e
               rw [e, hx] at hps
               simp at hps
       ·rfl
     ·rintro b ⟨p, hp⟩
      cases p with
      | t t => cases hp
      | c id j => exact .inl ⟨id, j, hp⟩
   | some s =>
     -- where it stands
     obtain ⟨k, rfl, hjk⟩ : ∃ k, pass = some k ∧ js[k]? = some (.t s) := by
      unfold passSlot at hps
      split at hps
      ·rename_i k
       split at hps
       ·rename_i s' hs'; cases hps; exact ⟨k, rfl, hs'⟩
       ·cases hps
      ·cases hps
     have hkl : k < js.length := get_lt hjk
     have hargs : ∀ (xs : List Operand) (is : List IX), compXs xs = some is → ∀ (q s : Nat), is[q]? = some (IX.t s) → xs[q]? = some (Operand.tmp s) := by
      intro xs
      induction xs with
      | nil => intro is hc q s hq; simp [compXs] at hc; subst hc; simp at hq
      | cons x xs ih =>
        intro is hc q s hq
        unfold compXs at hc
        split at hc
        ·rename_i i is' e1 e2
         cases hc
         cases q with
         | zero =>
           simp at hq; subst hq
           cases x with
           | tmp t => simp [compX] at e1; simp [e1]
           | const v => simp only [compX] at e1; obtain ⟨_, _, hz⟩ := Option.map_eq_some_iff.1 e1; cases hz
           | func f => simp [compX] at e1
           | global g => simp [compX] at e1
         | succ q => simpa using ih is' e2 q s (by simpa using hq)
        ·cases hc
     have hop := hargs _ _ hcj k s hjk
     have hpos : vs[first.length + k]? = some (a.tmps.getD s undef) := by
      have hfl : fs.length = first.length := hr1.length
      rw [hvs]
      rw [List.append_assoc, List.getElem?_append_right (by omega), hfl, show first.length + k - first.length = k by omega, List.getElem?_append_left (by simpa using get_lt hop), List.getElem?_map, hop]
      rfl
     have hput := h0.put (first.length + k) (v := a.tmps.getD s undef) (x := get env s) (hf.st.env s) (O (.t s)) (hf.st.spt s) (fun p b hb hp => by
      cases p with
      | t t => cases hp
      | c id j => have := hf.st.oinj _ _ b hb hp; cases this) (fun b hb => ⟨hf.st.osep _ b hb, hf.st.olt _ b hb, hf.st.Oa _ b hb⟩)
     refine ⟨_, hput.congr (fun t => ?_) (fun t => ?_), ?_⟩
     ·simp only [upd]
      split
      ·rename_i e; subst e
       rw [getD_toArray, List.getD_eq_getElem?_getD, hpos]; rfl
      ·rfl
     ·simp only [upd]
      rw [getD_app3, getD_app3, baseArgs_length, baseArgs_length]
      simp only [List.length_map]
      by_cases e : t = first.length + k
      ·subst e
       rw [if_pos rfl, if_neg (by omega), if_pos (by omega), show first.length + k - first.length = k by omega, baseArgs_some, hjk]
       simp
      ·rw [if_neg e]
       split
       ·rfl
       ·split
        ·rw [baseArgs_none, baseArgs_some]
         cases hx : js[t - first.length]? with
         | none => rfl
         | some x =>
           cases x with
           | c v => rfl
           | t s =>
             simp only
             rw [if_neg (by omega)]
             rfl
        ·rfl
     ·rintro b ⟨p, hp⟩
      simp only [updP] at hp
      split at hp
      ·exact .inr ⟨s, rfl, hp⟩
      ·cases p with
       | t t => cases hp
       | c id j => exact .inl ⟨id, j, hp⟩
  obtain ⟨O1, g1, g2⟩ := h1
  obtain ⟨O2, g3, g4⟩ := g1.weaken' (ea' := fun t => args'.getD t .any) hleg
  exact ⟨O2, g3, fun b ⟨p, hp⟩ => g2 b ⟨p, g4 p b hp⟩⟩
 obtain ⟨Oc, hst, hOc⟩ := hstc
 refine ⟨Oc, by rw [← hvs]; exact hvl, by rw [← hvs]; exact hst.narrow loose, ?_⟩
 intro v r H' M' L' O' w' hK hst' hext hL
 obtain ⟨O'', k1, k2, k3, k4, k5, k6⟩ := hf.st.afterCall (passSlot js pass) loose hlo hOc hst' hext hL
 have henv : unslot (get env) (passSlot js pass) = get (unslotE env (passSlot js pass)) := by
  cases passSlot js pass <;> rfl
 rw [henv] at k1
 have hf' : Fr A n M' L' w' H' (unslotE env (passSlot js pass)) O'' a := ⟨k1, hf.size, hf.defers.ext k2⟩
 show Aft A n M L w K (a.put o.dst v) w'
 cases hdst : o.dst with
 | none => rw [hdst] at hK; exact ⟨M', L', H', _, O'', hK, hf', k2, hL⟩
 | some d =>
   rw [hdst] at hK
   exact ⟨M', L', H', _, _, hK, hf'.putO (hd d hdst) k3 (O' (.t 0)) k4 (fun q b hb hq => absurd hq (k5 q b hb)) k6, k2, hL⟩
theorem call_sound {o : Oper} {c : Call} (ho : o.op = .call c) {f : Operand} (hcal : c.callee = .value f) {i : IX} {js : List IX} (hci : compX f = some i) (hcj : compXs c.args.toList = some js) {pass : Option Nat}
 (hp : ∀ l, lo = some l → ∀ id, l ≤ id → A.top id = none) (hf : Fr A n M L w H env O a) (hd : ∀ d, o.dst = some d → d < n) (h : aop ⟨P, lo⟩ (.call i js pass) o.dst env H K) : o.wpIn (wf ro) 0 P a w (Aft A n M L w K) Q := by
 simp only [aop] at h
 have hrf := hf.eval hci
 unfold acall at h
 split at h <;> try exact h.elim
 ·rename_i g first cap hfx
  obtain ⟨args', hle, hcall⟩ := h
  rw [hfx] at hrf
  generalize hu : a.eval f = u at hrf
  cases hrf with
  | fn _ fs cs _ _ hr1 hr2 =>
  obtain ⟨loose, hlo, hcall⟩ : ∃ loose : Bool, (loose = true → ∀ id, H.length ≤ id → A.top id = none) ∧ CallsX loose P g args' H fun r H' => K (put o.dst r (unslotE env (passSlot js pass))) H' := by
   unfold XCalls at hcall
   split at hcall
   ·exact ⟨false, by simp, hcall⟩
   ·rename_i l hl
    rcases hcall with hcall | ⟨h1, hcall⟩
    ·exact ⟨false, by simp, hcall⟩
    ·exact ⟨true, fun _ id hid => hp l hl id (by omega), hcall⟩
  obtain ⟨Oc, hvl, hst, fin⟩ := call_prep (K := K) (o := o) hcj hr1 hr2 hle hf hd hlo
  obtain ⟨vs, hvs⟩ : ∃ vs : List Value, vs = fs ++ c.args.toList.map a.eval ++ cs := ⟨_, rfl⟩
  rw [← hvs] at hvl hst
  have hrun : (execOp a.eval o).run P w = (callFunc g vs.toArray).run P w := by
   simp only [execOp, ho, resolve, hcal, Deferred.ofValue, hu, invoke, Sem.run_bind, Sem.run_pure, Result.andThen_ok]
   have e1 : (fs.toArray ++ c.args.map a.eval ++ cs.toArray) = vs.toArray := by
    apply Array.ext'; simp [hvs]
   rw [e1]
  rcases hcall (calleeA A loose H L Oc w) M L w vs.toArray Oc (calleeA_entry A loose H L Oc w) (by simpa using hvl) hst with ⟨h1, hc⟩ | ⟨v, w', r, H', M', L', O', h1, hK, hst', hext, hL⟩
  ·refine wpIn_run (hrun.trans h1) (by intro d e; cases e) ⟨(fun h => by cases h), ?_⟩
   have hc2 : CallsIn (wf ro) (0 - 1) P g vs.toArray w _ := callsIn_wide.2 hc
   refine CallsIn.mono hc2 fun e w' he => ?_
   obtain ⟨v, r, H', M', L', O', rfl, hK, hst', hext, hL⟩ := he
   exact fin v r H' M' L' O' w' hK hst' hext hL
  ·exact wp_value (hrun.trans h1) (fin v r H' M' L' O' w' hK hst' hext hL)
 ·rename_i id hfx
  obtain ⟨args', hle, hcall⟩ := h
  rw [hfx] at hrf
  generalize hu : a.eval f = u at hrf
  cases hrf with
  | yld b _ hl =>
  obtain ⟨loose, hlo, hcall⟩ : ∃ loose : Bool, (loose = true → ∀ id, H.length ≤ id → A.top id = none) ∧ YCallsX loose P id args' H fun r H' => K (put o.dst r (unslotE env (passSlot js pass))) H' := by
   unfold XYCalls at hcall
   split at hcall
   ·exact ⟨false, by simp, hcall⟩
   ·rename_i l hl
    rcases hcall with hcall | ⟨h1, hcall⟩
    ·exact ⟨false, by simp, hcall⟩
    ·exact ⟨true, fun _ id hid => hp l hl id (by omega), hcall⟩
  obtain ⟨Oc, hvl, hst, fin⟩ := call_prep (K := K) (o := o) (fs := []) (cs := []) (first := []) (cap := []) hcj .nil .nil (by simpa using hle) hf hd hlo
  simp only [List.nil_append, List.append_nil] at hvl hst
  obtain ⟨fn, tmps, as, bd, h1, h2⟩ := hcall (calleeA A loose H L Oc w) M L w (c.args.toList.map a.eval).toArray Oc b (calleeA_entry A loose H L Oc w) (by simpa using hvl) hl hst
  have hrun : (execOp a.eval o).run P w = .ok (.round b fn tmps as bd) w := by
   simp only [execOp, ho, resolve, hcal, Deferred.ofValue, hu, invoke, Sem.run_bind, Sem.run_pure, Result.andThen_ok]
   have e1 : (#[] ++ c.args.map a.eval : Array Value) = (c.args.toList.map a.eval).toArray := by
    apply Array.ext'; simp
   rw [e1]
   exact h1
  refine wpIn_run hrun (by intro d e; cases e) ⟨(fun h => by cases h), ?_⟩
  have hc2 : RoundIn (wf ro) (0 - 1) P b fn tmps as bd w _ := h2
  refine RoundIn.mono hc2 fun e w' he => ?_
  obtain ⟨v, r, H', M', L', O', rfl, hK, hst', hext, hL⟩ := he
  exact fin v r H' M' L' O' w' hK hst' hext hL
end
end Go.Abs
end
section
namespace Go.Abs
open Go
section
variable {ro : Option Nat} {P : Program} {lo : Option Nat} {A : Perm} {n : Nat} {M : Mem} {L : List Nat} {w : World} {H : List AObj} {env : Env} {O : Pos → Option Nat} {a : Act} {Q : Exit → Act → World → Prop} {K : Env → List AObj → Prop}
theorem boolP_inv {x : AV} {φ : Bool → Prop} (h : boolP x φ) : ∃ b, x = .bool b ∧ φ b := by
 unfold boolP at h
 split at h
 ·exact ⟨_, rfl, h⟩
 ·exact h.elim
def nilOf (kd : Nat) : Value := match kd with | 0 => .slice none 0 0 | 1 => .pointer none | 2 => .map none | _ => .nilFunc
def descFits (kd : Nat) (D : TypeDesc) : Bool := match kd, D with | 0, .slice _ => true | 1, .pointer _ => true | 2, .map _ _ => true | 3, .func _ _ _ => true | _, _ => false
theorem run_equalIn_nil {d kd : Nat} {t : TypeId} {D : TypeDesc} (ht : P.underlying t = some D) (hD : descFits kd D = true) {u : Value} {x : AV} {b : Bool} (hx : isNil kd x = some b) (hu : Rep M L u x) : (Op.equalIn (d + 1) t u (nilOf kd)).run P w = .ok b w := by
 unfold isNil at hx
 split at hx <;> cases hx <;> cases D <;> simp [descFits] at hD <;> cases hu <;> simp [Op.equalIn, run_underlying ht, nilOf]
theorem aeqNil_run {kd : Nat} {neq : Bool} {t : TypeId} {D : TypeDesc} (ht : P.underlying t = some D) (hD : descFits kd D = true) {u : Value} {x : AV} {φ : AV → Prop} (h : aeqNil kd neq x φ) (hu : Rep M L u x) (X Y : Operand) :
 ∃ r z, (do eqGuard (if neq then .neq else .eql) t X Y u (nilOf kd); binOp (if neq then .neq else .eql) t u (nilOf kd) : Sem Value).run P w = .ok r w ∧ Rep M L r z ∧ φ z ∧ ∀ own xs, z = .lst own xs → own = 0 := by
 unfold aeqNil at h
 split at h
 rotate_left
 ·split at h <;> try exact h.elim
  cases hu with
  | lst b off c own e cs xs he hx hn hle hc hr hm => simp at hn
  | lst0 ad c own hc =>
    have hDs : ∃ e, D = .slice e := by
     cases D <;> simp [descFits] at hD
     exact ⟨_, rfl⟩
    obtain ⟨e, rfl⟩ := hDs
    have he0 : ∀ d, (Op.equalIn (d + 1) t (.slice ad 0 c) (nilOf 0)).run P w = .ok (ad.isNone) w := by
     intro d
     cases ad <;> simp [Op.equalIn, run_underlying ht, nilOf]
    have he : (Op.equal t (.slice ad 0 c) (nilOf 0)).run P w = .ok (ad.isNone) w := he0 9999
    have hg : ∀ op, (eqGuard op t X Y (.slice ad 0 c) (nilOf 0)).run P w = .ok () w := by
     intro op
     unfold eqGuard; cases op <;> rfl
    have h1 : binOp .eql t (.slice ad 0 c) (nilOf 0) = (Op.equal t (.slice ad 0 c) (nilOf 0) >>= fun q => (pure (.bool q) : Sem Value)) := rfl
    have h2 : binOp .neq t (.slice ad 0 c) (nilOf 0) = (Op.equal t (.slice ad 0 c) (nilOf 0) >>= fun q => (pure (.bool (!q)) : Sem Value)) := rfl
    have hφ : ∀ b, φ (.bool b) := fun b => by cases b; exact h.2; exact h.1
    cases neq
    ·refine ⟨.bool ad.isNone, .bool ad.isNone, ?_, .bool _, hφ _, by intro _ _ e; cases e⟩
     simp only [Bool.false_eq_true, if_false, Sem.run_bind, hg, Result.andThen_ok, h1, he, Sem.run_pure]
    ·refine ⟨.bool (!ad.isNone), .bool (!ad.isNone), ?_, .bool _, hφ _, by intro _ _ e; cases e⟩
     simp only [if_true, Sem.run_bind, hg, Result.andThen_ok, h2, he, Sem.run_pure]
 rename_i b hb
 have he : (Op.equal t u (nilOf kd)).run P w = .ok b w := run_equalIn_nil (d := 9999) ht hD hb hu
 have hg : ∀ op, (eqGuard op t X Y u (nilOf kd)).run P w = .ok () w := by
  intro op
  unfold isNil at hb
  split at hb <;> cases hb <;> cases hu <;> (unfold eqGuard; cases op <;> rfl)
 have h1 : binOp .eql t u (nilOf kd) = (Op.equal t u (nilOf kd) >>= fun q => (pure (.bool q) : Sem Value)) := by
  unfold isNil at hb
  split at hb <;> cases hb <;> cases hu <;> rfl
 have h2 : binOp .neq t u (nilOf kd) = (Op.equal t u (nilOf kd) >>= fun q => (pure (.bool (!q)) : Sem Value)) := by
  unfold isNil at hb
  split at hb <;> cases hb <;> cases hu <;> rfl
 cases neq
 ·refine ⟨.bool b, .bool b, ?_, .bool _, h, by intro _ _ e; cases e⟩
  simp only [Bool.false_eq_true, if_false, Sem.run_bind, hg, Result.andThen_ok, h1, he, Sem.run_pure]
 ·refine ⟨.bool (!b), .bool (!b), ?_, .bool _, h, by intro _ _ e; cases e⟩
  simp only [if_true, Sem.run_bind, hg, Result.andThen_ok, h2, he, Sem.run_pure]
theorem compXs_rep (hf : Fr A n M L w H env O a) {xs : List Operand} {is : List IX} (hc : compXs xs = some is) : RepL M L (xs.map a.eval) (is.map fun x => (aval env x).unown) := by
 have := (hf.evals hc).map_unown
 rwa [List.map_map] at this
theorem compOpt_rep (hf : Fr A n M L w H env O a) {x : Option Operand} {i : Option IX} (hc : compOpt x = some i) : optRep M L (optX env i) (x.map a.eval) := by
 cases x with
 | none => simp [compOpt] at hc; subst hc; trivial
 | some x =>
   simp only [compOpt] at hc
   obtain ⟨j, hj, rfl⟩ := Option.map_eq_some_iff.1 hc
   exact hf.eval hj
theorem partsOk {e : TypeId} {esz : Nat} {z : AV} (h : compPartsOk P e = some (esz, z)) : tcells P e = some esz ∧ tzero P e = some z ∧ 0 < esz ∧ z.cells.length = esz ∧ z.val = true := by
 unfold compPartsOk at h
 split at h <;> try cases h
 rename_i h1 h2
 split at h <;> cases h
 rename_i hc
 exact ⟨h1, h2, hc⟩
theorem lenOk_str {x : AV} (h : lenOk 0 x) : lenFit .string x = true := by
 cases x <;> first | rfl | exact (show False from h).elim
theorem lenOk_slice {x : AV} (h : lenOk 1 x) (e : TypeId) : lenFit (.slice e) x = true := by
 cases x <;> first | rfl | exact (show False from h).elim
theorem lenOk_map {x : AV} (h : lenOk 2 x) (k e : TypeId) : lenFit (.map k e) x = true := by
 cases x <;> first | rfl | exact (show False from h).elim
theorem op_sound (o : Oper) {fl : Nat} {i : IOp} (hc : compOp P o fl = some i) (hp : ∀ l, lo = some l → ∀ id, l ≤ id → A.top id = none) (hf : Fr A n M L w H env O a) (hd : ∀ d, o.dst = some d → d < n) (hnone : (match o.op with | .store .. | .mapUpdate .. => o.dst = none | _ => True))
 (h : aop ⟨P, lo⟩ i o.dst env H K) : o.wpIn (wf ro) 0 P a w (Aft A n M L w K) Q := by
 cases hop : o.op with
 | move x =>
   simp only [compOp, hop] at hc
   obtain ⟨j, hj, rfl⟩ := Option.map_eq_some_iff.1 hc
   exact set_sound (.inl hop) hj hf hd h
 | assign x =>
   simp only [compOp, hop] at hc
   obtain ⟨j, hj, rfl⟩ := Option.map_eq_some_iff.1 hc
   exact set_sound (.inr hop) hj hf hd h
 | pick c x y =>
   simp only [compOp, hop] at hc
   split at hc <;> cases hc
   rename_i c' x' y' h1 h2 h3
   simp only [aop] at h
   obtain ⟨b, hb, h⟩ := boolP_inv h
   have hr := hf.eval h1
   rw [hb] at hr
   generalize hu : a.eval c = u at hr
   cases hr
   cases b
   ·exact wp_pure hf hd (by simp [execOp, hop, hu, asBool]) (hf.eval h3).unown (AV.unown_free _) (h.2 rfl)
   ·exact wp_pure hf hd (by simp [execOp, hop, hu, asBool]) (hf.eval h2).unown (AV.unown_free _) (h.1 rfl)
 | alloc e =>
   simp only [compOp, hop] at hc
   split at hc <;> try cases hc
   rename_i z hz
   split at hc <;> cases hc
   rename_i hv
   simp only [aop] at h
   obtain ⟨r, L', w', h1, h2, h3, h4, h5⟩ := aalloc_run (P := P) hf.st hz hv h.1
   exact wp_made hf hd (by simp only [execOp, hop]; exact value_of h1) h2 (by intro _ _ e; cases e) h3 h4 h5 h.2
 | box e x =>
   simp only [compOp, hop] at hc
   obtain ⟨j, hj, hc⟩ := Option.map_eq_some_iff.1 hc
   split at hc <;> subst hc <;> simp only [aop] at h
   ·obtain ⟨r, M', w', h1, h2, h3, h4⟩ := aboxi_run (P := P) hf.st e (hf.eval hj) h.1
    exact wp_made hf hd (by simp only [execOp, hop]; exact value_of h1) h2 (by intro _ _ e; cases e) h3 h4 (List.prefix_refl L) h.2
   ·obtain ⟨r, L', w', h1, h2, h3, h4, h5⟩ := abox_run (P := P) hf.st e (hf.eval hj) h.1 h.2.1
    exact wp_made hf hd (by simp only [execOp, hop]; exact value_of h1) h2 (by intro _ _ e; cases e) h3 h4 h5 h.2.2
 | build t ps =>
   simp only [compOp, hop] at hc
   split at hc <;> try cases hc
   rename_i z places ht
   split at hc <;> try cases hc
   rename_i qs hq
   split at hc <;> cases hc
   rename_i hv
   simp only [aop] at h
   obtain ⟨r, x, h1, h2, h3, h4⟩ := abuild_run (P := P) hf ht hq h hv
   exact wp_pure hf hd (by simp only [execOp, hop]; exact value_of h1) h2 h4 h3
 | buildSlice t len ps =>
   simp only [compOp, hop] at hc
   split at hc <;> try cases hc
   rename_i e ht
   split at hc <;> try cases hc
   rename_i esz z qs hz hq
   split at hc <;> cases hc
   rename_i hlen
   obtain ⟨p1, p2, p3, p4, p5⟩ := partsOk hz
   obtain ⟨q1, q2⟩ := compParts1_spec hf _ _ hq
   by_cases hfl2 : fl = 2
   ·rw [if_pos hfl2] at h
    simp only [aop] at h
    obtain ⟨r, x, L', w', H', h1, h2, h3, h4, h5, h6, h7⟩ := alitA_run (P := P) hf.st ht p1 p3 p2 p4 p5 hlen (vs := ps.map fun (i, x) => (i, a.eval x)) (by
     intro j p hp
     obtain ⟨v, v1, v2⟩ := q1 j p hp
     exact ⟨v, by simpa using v1, v2⟩) (by simp [q2]) h
    exact wp_made hf hd (by simp only [execOp, hop]; exact value_of h1) h2 h3 h5 h6 h7 h4
   rw [if_neg hfl2] at h
   simp only [aop] at h
   obtain ⟨m, xs, M', w', ad, h1, h2, h3, h4, h5, h6⟩ := abuildSlice_run (P := P) hf.st ht p1 p3 p2 p4 p5 (if fl = 1 then esz else 0) hlen (vs := ps.map fun (i, x) => (i, a.eval x)) (by
    intro j p hp
    obtain ⟨v, v1, v2⟩ := q1 j p hp
    exact ⟨v, by simpa using v1, v2⟩) (by simp [q2]) h
   obtain ⟨O', hf'⟩ := (hf.mono h5 h6).putFull (dst := o.dst) hd h2 (fun hne y hy => by
    split at hne
    ·rename_i hfl; rw [if_pos hfl]; exact h3 y hy
    ·exact absurd rfl hne)
   exact wp_value (by simp only [execOp, hop]; exact value_of h1) ⟨M', L, H, _, O', h4, hf', h6, List.prefix_refl L⟩
 | load t x =>
   simp only [compOp, hop] at hc
   split at hc <;> try cases hc
   rename_i sz j ht hj
   split at hc
   ·split at hc <;> cases hc
    rename_i hs
    subst hs
    exact takeCell_sound hop ht hj hf hd h
   split at hc
   ·cases hc
    simp only [aop] at h
    obtain ⟨r, z, h1, h2, h3, h4⟩ := aload_run (P := P) ht hf.st h (hf.eval hj)
    obtain ⟨y, M', H', O', g1, g2, g3, g4, g5⟩ := asetf_run hf.st h3 h2
    obtain ⟨O'', hf'⟩ := (hf.mono g3 g4).put0 (dst := o.dst) hd g1 g5
    exact wp_value (by simp only [execOp, hop]; exact value_of h1) ⟨M', L, H', _, O'', g2, hf', g4, List.prefix_refl L⟩
   ·cases hc
    simp only [aop] at h
    obtain ⟨r, z, h1, h2, h3, h4⟩ := aload_run (P := P) ht hf.st h (hf.eval hj)
    exact wp_read hf hd ⟨r, z, by simp only [execOp, hop]; exact value_of h1, h2, h3, h4⟩
 | store t x y =>
   simp only [hop] at hnone
   simp only [compOp, hop] at hc
   split at hc <;> try cases hc
   rename_i m j k ht hj hk
   split at hc
   ·split at hc <;> try cases hc
    rename_i s
    split at hc <;> cases hc
    rename_i hm
    subst hm
    exact putCell_sound hop ht hj hk hf hnone h
   split at hc
   ·cases hc
    simp only [aop] at h
    obtain ⟨l, rfl⟩ : ∃ l, lo = some l := by cases lo with | none => exact h.elim | some l => exact ⟨l, rfl⟩
    obtain ⟨w', H', O', h1, h2, h3, h4⟩ := astoreW_run (P := P) hf.st (hp l rfl) ht h (hf.eval hj) (hf.eval hk)
    refine wp_skipped (by simp only [execOp, hop]; exact skip_of h1) ⟨M, L, H', env, O', h2, ?_, h4, List.prefix_refl L⟩
    rw [hnone]; exact ⟨h3, hf.size, hf.defers.ext h4⟩
   ·cases hc
    simp only [aop] at h
    obtain ⟨w', H', O', h1, h2, h3, h4⟩ := astore_run (P := P) hf.st ht h (hf.eval hj) (hf.eval hk)
    refine wp_skipped (by simp only [execOp, hop]; exact skip_of h1) ⟨M, L, H', env, O', h2, ?_, h4, List.prefix_refl L⟩
    rw [hnone]; exact ⟨h3, hf.size, hf.defers.ext h4⟩
 | nilCheck x =>
   simp only [compOp, hop] at hc
   obtain ⟨j, hj, rfl⟩ := Option.map_eq_some_iff.1 hc
   simp only [aop] at h
   exact wp_read hf hd (anilCheck_run hop h (hf.eval hj))
 | binOp op t x y yt =>
   simp only [compOp, hop] at hc
   split at hc <;> try cases hc
   rename_i j k hj hk
   have hx := hf.eval hj
   have hy := hf.eval hk
   have plain : ∀ {op}, abin op (aval env j) (aval env k) (fun z => K (put o.dst z env) H) → o.op = .binOp op t x y yt → o.wpIn (wf ro) 0 P a w (Aft A n M L w K) Q := by
    intro op h hop
    obtain ⟨r, z, h1, h2, h3, h4⟩ := abin_run (P := P) (w := w) (t := t) h hx hy x y
    exact wp_read hf hd ⟨r, z, by simp only [execOp, hop]; exact value_of h1, h2, h3, h4⟩
   split at hc
   ·cases hc
    simp only [aop] at h
    obtain ⟨r, z, h1, h2, h3, h4⟩ := ashift_run (P := P) (w := w) (t := t) h hx hy x y
    exact wp_read hf hd ⟨r, z, by simp only [execOp, hop]; exact value_of h1, h2, h3, h4⟩
   ·cases hc
    simp only [aop] at h
    obtain ⟨r, z, h1, h2, h3, h4⟩ := ashift_run (P := P) (w := w) (t := t) h hx hy x y
    exact wp_read hf hd ⟨r, z, by simp only [execOp, hop]; exact value_of h1, h2, h3, h4⟩
   ·split at hc <;> try cases hc
    ·rename_i ht
     simp only [aop] at h
     obtain ⟨r, z, h1, h2, h3, h4⟩ := aeqBool_run (P := P) (w := w) (neq := false) ht h hx hy x y
     exact wp_read hf hd ⟨r, z, by simp only [execOp, hop]; exact value_of h1, h2, h3, h4⟩
    ·exact plain (op := .eql) h hop
    ·exact plain (op := .eql) h hop
    all_goals
     rename_i ht
     split at hc <;> cases hc
     simp only [aop] at h
     obtain ⟨r, z, h1, h2, h3, h4⟩ := aeqNil_run (P := P) (w := w) (neq := false) ht rfl h hx x (.const .nilFunc)
     exact wp_read hf hd ⟨r, z, by simp only [execOp, hop]; exact value_of h1, h2, h3, h4⟩
   ·split at hc <;> try cases hc
    ·rename_i ht
     simp only [aop] at h
     obtain ⟨r, z, h1, h2, h3, h4⟩ := aeqBool_run (P := P) (w := w) (neq := true) ht h hx hy x y
     exact wp_read hf hd ⟨r, z, by simp only [execOp, hop]; exact value_of h1, h2, h3, h4⟩
    ·exact plain (op := .neq) h hop
    ·exact plain (op := .neq) h hop
    all_goals
     rename_i ht
     split at hc <;> cases hc
     simp only [aop] at h
     obtain ⟨r, z, h1, h2, h3, h4⟩ := aeqNil_run (P := P) (w := w) (neq := true) ht rfl h hx x (.const .nilFunc)
     exact wp_read hf hd ⟨r, z, by simp only [execOp, hop]; exact value_of h1, h2, h3, h4⟩
   ·cases hc; exact plain h hop
 | unOp op t x =>
   simp only [compOp, hop] at hc
   obtain ⟨j, hj, rfl⟩ := Option.map_eq_some_iff.1 hc
   simp only [aop] at h
   obtain ⟨r, z, h1, h2, h3, h4⟩ := aun_run (P := P) (w := w) h (hf.eval hj)
   exact wp_read hf hd ⟨r, z, by simp only [execOp, hop]; exact value_of h1, h2, h3, h4⟩
 | convert src dst x =>
   simp only [compOp, hop] at hc
   split at hc <;> try cases hc
   ·rename_i k1 k2 j hs hdd hj
    simp only [aop] at h
    obtain ⟨r, z, h1, h2, h3, h4⟩ := aconvInt_run (P := P) (w := w) hs hdd h (hf.eval hj)
    exact wp_read hf hd ⟨r, z, by simp only [execOp, hop]; exact value_of h1, h2, h3, h4⟩
   ·rename_i j hs hdd hj
    simp only [aop] at h
    obtain ⟨r, z, h1, h2, h3, h4⟩ := aconvStr_run (P := P) (w := w) hs hdd h (hf.eval hj)
    exact wp_read hf hd ⟨r, z, by simp only [execOp, hop]; exact value_of h1, h2, h3, h4⟩
   ·rename_i e j hs hdd hj
    split at hc <;> cases hc
    rename_i he
    simp only [aop] at h
    obtain ⟨r, z, w', M', ob, h1, h2, h3, h4, h5, h6, h7, h8⟩ := abytesOf_run (P := P) hf.st hs hdd he h (hf.eval hj)
    exact wp_owned hf hd (by simp only [execOp, hop]; exact value_of h1) h2 h4 h5 h6 h7 h8 h3
   ·rename_i e j hs hdd hj
    split at hc <;> cases hc
    rename_i he
    simp only [aop] at h
    obtain ⟨r, z, h1, h2, h3, h4⟩ := astrOf_run (P := P) hf.st hs he hdd h (hf.eval hj)
    exact wp_read hf hd ⟨r, z, by simp only [execOp, hop]; exact value_of h1, h2, h3, h4⟩
 | makeFunc f first cap =>
   simp only [compOp, hop] at hc
   split at hc <;> cases hc
   rename_i i j hi hj
   simp only [aop] at h
   refine wp_read hf hd ⟨.func f (first.map a.eval) (cap.map a.eval), _, ?_, ?_, h, by intro _ _ e; cases e⟩
   ·simp only [execOp, hop]; rfl
   ·have := Rep.fn (M := M) (L := L) f (first.toList.map a.eval) (cap.toList.map a.eval) _ _ (compXs_rep hf hi) (compXs_rep hf hj)
    rw [show (first.toList.map a.eval).toArray = first.map a.eval by apply Array.ext'; simp, show (cap.toList.map a.eval).toArray = cap.map a.eval by apply Array.ext'; simp] at this
    exact this
 | makeMap t r =>
   cases r with
   | some r => simp [compOp, hop] at hc
   | none =>
     simp only [compOp, hop] at hc
     cases hc
     simp only [aop] at h
     obtain ⟨r, L', w', h1, h2, h3, h4, h5⟩ := amkmap_run (P := P) hf.st t
     exact wp_made hf hd (by simp only [execOp, hop]; exact value_of h1) h2 (by intro _ _ e; cases e) h3 h4 h5 h
 | makeSlice t l c =>
   simp only [compOp, hop] at hc
   split at hc <;> try cases hc
   rename_i e k ht hk
   split at hc <;> try cases hc
   rename_i esz z bytes hz hb
   split at hc <;> try cases hc
   rename_i hcond
   obtain ⟨hb0, hokz⟩ := hcond
   obtain ⟨p1, p2, p3, p4, p5⟩ := partsOk hz
   obtain ⟨inf, hinf, hsz⟩ := Option.map_eq_some_iff.1 p1
   obtain ⟨inf', hinf', hby⟩ := Option.map_eq_some_iff.1 hb
   rw [hinf] at hinf'; cases hinf'
   unfold tzero at p2
   simp only [hinf] at p2
   split at p2 <;> try cases p2
   rename_i zv hzv
   split at hc
   ·cases hc
    simp only [aop] at h
    have hzs : zv.cells.size = esz := by have := ((ofValue_rep (M := M) (L := L) p2).vcells p5).length; rw [p4] at this; simpa using this
    obtain ⟨r, w', M', b, h1, h2, h3, h4, h5, h6, h7, h8, h9, h10⟩ := amkbuf_run (P := P) hf.st ht hinf hzv hsz hby p3 hb0 hzs h (hf.eval hk)
    exact wp_owned hf hd (by simp only [execOp, hop]; exact value_of h1) h2 h4 h5 h6 (fun q b' hb' => by cases hb'; exact h7 q) (fun b' hb' => by cases hb'; exact ⟨h8, h9, h10⟩) h3
   ·split at hc <;> cases hc
    rename_i hsame
    simp only [aop] at h
    have hlc : a.eval l = a.eval c := by
     unfold sameOp at hsame
     split at hsame
     ·simp at hsame; subst hsame; rfl
     ·simp at hsame; subst hsame; rfl
     ·cases hsame
    have hzf : ∀ y ∈ z.cells, ∀ own xs, y = .lst own xs → own = 0 := by
     intro y hy own xs e
     have := List.all_eq_true.1 hokz y hy
     subst e
     simpa using this
    obtain ⟨r, x, L', w', H', h1, h2, h3, h4, h5, h6, h7⟩ := amkarr_run (P := P) hf.st ht hinf hzv hsz hby p3 hb0 p2 p5 p4 hzf h (hf.eval hk)
    exact wp_made hf hd (by simp only [execOp, hop, hlc]; exact value_of h1) h2 h3 h5 h6 h7 h4
 | slice t x lo hi mx =>
   simp only [compOp, hop] at hc
   split at hc <;> try cases hc
   ·rename_i e i l h' m ht hi' hl hh hm
    split at hc <;> try cases hc
    rename_i esz he
    split at hc <;> cases hc
    rename_i h0
    by_cases hfl : fl = 4
    ·rw [if_pos hfl] at h
     simp only [aop] at h
     obtain ⟨ad, k, c, own, ys, h1, h2, ⟨h3, h3'⟩, h4⟩ := aslice_run (P := P) hf.st ht he h0 h.2 (hf.eval hi') h.1 (compOpt_rep hf hl) (compOpt_rep hf hh) (compOpt_rep hf hm)
     cases h3
     obtain ⟨rfl, _⟩ := h4 (by omega)
     have hk : k = 0 := by
      cases h2 with
      | lst0 => rfl
      | lst b off c own e cs xs he hx hn => simp at hn
     subst hk
     exact wp_read hf hd ⟨_, _, by simp only [execOp, hop]; exact value_of h1, .emp ad, h3', by intro _ _ e; cases e⟩
    rw [if_neg hfl] at h
    simp only [aop] at h
    unfold asliceX at h
    split at h
    ·rename_i e0 a0 b0 c0 d0 hx0
     rw [← hx0] at h
     split at h
     ·rename_i hm0
      have hmx : mx = none := by
       cases mx with
       | none => rfl
       | some q => simp only [compOpt] at hm; obtain ⟨_, _, rfl⟩ := Option.map_eq_some_iff.1 hm; cases hm0
      subst hmx
      obtain ⟨r, z, h1, h2, h3, h4⟩ := aslicea_run (P := P) ht he h (hf.eval hi') (compOpt_rep hf hl) (compOpt_rep hf hh)
      exact wp_read hf hd ⟨r, z, by simp only [execOp, hop]; exact value_of h1, h2, h3, h4⟩
     ·rename_i m0 hm0
      have hm3 := compOpt_rep (a := a) hf hm
      rw [hm0] at hm3
      obtain ⟨r, z, h1, h2, h3, h4⟩ := aslicem_run (P := P) ht he h (hf.eval hi') (compOpt_rep hf hl) (compOpt_rep hf hh) hm3
      exact wp_read hf hd ⟨r, z, by simp only [execOp, hop]; exact value_of h1, h2, h3, h4⟩
    obtain ⟨ad, k, c, own, ys, h1, h2, h3, h4⟩ := aslice_run (P := P) hf.st ht he h0 h.2 (hf.eval hi') h.1 (compOpt_rep hf hl) (compOpt_rep hf hh) (compOpt_rep hf hm)
    by_cases hown : own = 0
    ·subst hown
     exact wp_read hf hd ⟨_, _, by simp only [execOp, hop]; exact value_of h1, h2, h3, by intro _ _ e; cases e; rfl⟩
    ·obtain ⟨rfl, h5⟩ := h4 hown
     obtain ⟨O', hf'⟩ := hf.putFull (dst := o.dst) hd h2 (fun _ => h5)
     exact wp_value (by simp only [execOp, hop]; exact value_of h1) ⟨M, L, H, _, O', h3, hf', Ext.refl A M w, List.prefix_refl L⟩
   ·rename_i i l h' ht hi' hl hh hm
    simp only [aop] at h
    have hmx : mx = none := by
     cases mx with
     | none => rfl
     | some q => simp only [compOpt] at hm; obtain ⟨_, _, hz⟩ := Option.map_eq_some_iff.1 hm; cases hz
    subst hmx
    obtain ⟨r, z, h1, h2, h3, h4⟩ := asliceStr_run (P := P) (w := w) ht h (hf.eval hi') (compOpt_rep hf hl) (compOpt_rep hf hh)
    exact wp_read hf hd ⟨r, z, by simp only [execOp, hop]; exact value_of h1, h2, h3, h4⟩
 | fieldAddr s x f =>
   simp only [compOp, hop] at hc
   split at hc <;> cases hc
   rename_i off sz j ht hj
   simp only [aop] at h
   obtain ⟨r, z, h1, h2, h3, h4⟩ := afieldAddr_run (P := P) (w := w) ht h (hf.eval hj)
   exact wp_read hf hd ⟨r, z, by simp only [execOp, hop]; exact value_of h1, h2, h3, h4⟩
 | field s x f =>
   simp only [compOp, hop] at hc
   split at hc <;> cases hc
   rename_i off sz j ht hj
   simp only [aop] at h
   obtain ⟨r, z, h1, h2, h3, h4⟩ := afield_run (P := P) (w := w) ht h (hf.eval hj)
   exact wp_read hf hd ⟨r, z, by simp only [execOp, hop]; exact value_of h1, h2, h3, h4⟩
 | indexAddr t x i =>
   simp only [compOp, hop] at hc
   split at hc <;> try cases hc
   rename_i e j k ht hj hk
   obtain ⟨esz, he, rfl⟩ := Option.map_eq_some_iff.1 hc
   simp only [aop] at h
   obtain ⟨r, z, h1, h2, h3, h4⟩ := aindexAddr_run (P := P) (w := w) ht he h.2 h.1 (hf.eval hj) (hf.eval hk)
   exact wp_read hf hd ⟨r, z, by simp only [execOp, hop]; exact value_of h1, h2, h3, h4⟩
 | index t x i =>
   simp only [compOp, hop] at hc
   split at hc <;> try cases hc
   ·rename_i j k ht hj hk
    simp only [aop] at h
    obtain ⟨r, z, h1, h2, h3, h4⟩ := aindexStr_run (P := P) (w := w) ht h (hf.eval hj) (hf.eval hk)
    exact wp_read hf hd ⟨r, z, by simp only [execOp, hop]; exact value_of h1, h2, h3, h4⟩
   ·rename_i m e j k ht hj hk
    split at hc <;> cases hc
    rename_i he
    simp only [aop] at h
    obtain ⟨r, z, h1, h2, h3, h4⟩ := aindexArr_run (P := P) (w := w) ht he h (hf.eval hj) (hf.eval hk)
    exact wp_read hf hd ⟨r, z, by simp only [execOp, hop]; exact value_of h1, h2, h3, h4⟩
 | lookup t m k ok =>
   simp only [compOp, hop] at hc
   split at hc <;> try cases hc
   rename_i kt et i j ht hi hj
   split at hc <;> cases hc
   rename_i kd z hk hz
   simp only [aop] at h
   obtain ⟨r, z, h1, h2, h3, h4⟩ := alookup_run (P := P) hf.st ht hk hz h (hf.eval hi) (hf.eval hj)
   exact wp_read hf hd ⟨r, z, by simp only [execOp, hop]; exact value_of h1, h2, h3, h4⟩
 | mapUpdate t m k x =>
   simp only [hop] at hnone
   simp only [compOp, hop] at hc
   split at hc <;> try cases hc
   rename_i kt et i j y ht hi hj hy
   obtain ⟨kd, hk, rfl⟩ := Option.map_eq_some_iff.1 hc
   simp only [aop] at h
   obtain ⟨w', H', h1, h2, h3, h4⟩ := amapset_run (P := P) hf.st ht hk h (hf.eval hi) (hf.eval hj) (hf.eval hy)
   refine wp_skipped (by simp only [execOp, hop]; exact skip_of h1) ⟨M, L, H', env, O, h2, ?_, h4, List.prefix_refl L⟩
   rw [hnone]; exact ⟨h3, hf.size, hf.defers.ext h4⟩
 | extract x i =>
   simp only [compOp, hop] at hc
   obtain ⟨j, hj, rfl⟩ := Option.map_eq_some_iff.1 hc
   simp only [aop] at h
   obtain ⟨r, z, h1, h2, h3, h4⟩ := aextract_run (P := P) (w := w) h (hf.eval hj)
   exact wp_read hf hd ⟨r, z, by simp only [execOp, hop]; exact value_of h1, h2, h3, h4⟩
 | call c =>
   simp only [compOp, hop] at hc
   split at hc
   ·rename_i f hcal
    split at hc <;> cases hc
    rename_i i js hi hj
    exact call_sound hop hcal hi hj hp hf hd h
   ·rename_i hcal
    split at hc <;> try cases hc
    rename_i x t hargs htys
    have hcall : c = { callee := .builtin .len, args := #[x], argTypes := #[t] } := by
     obtain ⟨c1, c2, c3⟩ := c
     simp only at hcal hargs htys
     subst hcal
     rw [show c2 = #[x] from Array.ext' hargs, show c3 = #[t] from Array.ext' htys]
    subst hcall
    have fin : ∀ {d : TypeDesc} {kd : Nat} {j : IX}, P.underlying t = some d → compX x = some j → lenFit d (aval env j) = true → (alen (aval env j) H fun z => K (put o.dst z env) H) → o.wpIn (wf ro) 0 P a w (Aft A n M L w K) Q := by
     intro d kd j ht hj hk h
     obtain ⟨r, z, h1, h2, h3, h4⟩ := alen_run (P := P) ht hf.st hk h (hf.eval hj) o.type
     refine wp_read hf hd ⟨r, z, ?_, h2, h3, h4⟩
     simp only [execOp, hop, resolve, invoke, builtin, Sem.run_bind, Sem.run_pure, Result.andThen_ok, List.map_toArray, List.map_cons, List.map_nil, h1]
    split at hc <;> cases hc
    ·rename_i j ht hj; exact fin (kd := 0) ht hj (lenOk_str h.1) h.2
    ·rename_i e j ht hj; exact fin (kd := 0) ht hj (lenOk_slice h.1 e) h.2
    ·rename_i k e j ht hj; exact fin (kd := 0) ht hj (lenOk_map h.1 k e) h.2
   ·rename_i hcal
    split at hc <;> try cases hc
    rename_i s x t t' hargs htys
    split at hc <;> try cases hc
    rename_i htt
    subst htt
    split at hc <;> try cases hc
    rename_i e i j ht hi hj
    split at hc <;> try cases hc
    rename_i esz z bytes hz hb
    split at hc <;> try cases hc
    rename_i hb0
    have hcall : c = { callee := .builtin .append, args := #[s, x], argTypes := #[t, t] } := by
     obtain ⟨c1, c2, c3⟩ := c
     simp only at hcal hargs htys
     subst hcal
     rw [show c2 = #[s, x] from Array.ext' hargs, show c3 = #[t, t] from Array.ext' htys]
    subst hcall
    split at hc
    ·split at hc <;> cases hc
     rename_i hokz
     exact appendA_sound hop ht hz hb hb0 hokz hi hj hf hd h
    cases hc
    exact append_sound hop ht hz hb hb0 hi hj hf hd h
   ·rename_i hcal
    split at hc <;> try cases hc
    rename_i x y hargs
    split at hc <;> cases hc
    rename_i i j hi hj
    simp only [aop] at h
    obtain ⟨r, z, h1, h2, h3, h4⟩ := amx_run (P := P) (w := w) (big := true) h (hf.eval hi) (hf.eval hj) c.argTypes o.type
    refine wp_read hf hd ⟨r, z, ?_, h2, h3, h4⟩
    have hargs' : c.args = #[x, y] := Array.ext' hargs
    simp only [if_true] at h1
    simp only [execOp, hop, resolve, hcal, invoke, builtin, Sem.run_bind, Sem.run_pure, Result.andThen_ok, hargs', List.map_toArray, List.map_cons, List.map_nil, h1]
   ·rename_i hcal
    split at hc <;> try cases hc
    rename_i x y hargs
    split at hc <;> cases hc
    rename_i i j hi hj
    simp only [aop] at h
    obtain ⟨r, z, h1, h2, h3, h4⟩ := amx_run (P := P) (w := w) (big := false) h (hf.eval hi) (hf.eval hj) c.argTypes o.type
    refine wp_read hf hd ⟨r, z, ?_, h2, h3, h4⟩
    have hargs' : c.args = #[x, y] := Array.ext' hargs
    simp only [Bool.false_eq_true, if_false] at h1
    simp only [execOp, hop, resolve, hcal, invoke, builtin, Sem.run_bind, Sem.run_pure, Result.andThen_ok, hargs', List.map_toArray, List.map_cons, List.map_nil, h1]
   ·cases hc
 | _ => simp [compOp, hop] at hc
theorem more_sound (o : Oper) (hf : Fr A n M L w H env O a) (hd : ∀ d, o.dst = some d → d < n) (h : aop ⟨P, lo⟩ (compMore P o) o.dst env H K) : o.wpIn (wf ro) 0 P a w (Aft A n M L w K) Q := by
 cases hop : o.op with
 | call c =>
   simp only [compMore, hop] at h
   split at h <;> try exact h.elim
   rotate_left
   ·rename_i hcal
    split at h <;> try exact h.elim
    rename_i s t hargs htys
    split at h <;> try exact h.elim
    rename_i e i ht hi
    split at h <;> try exact h.elim
    rename_i esz z hz
    simp only [aop] at h
    unfold compPartsOk at hz
    split at hz <;> try cases hz
    rename_i esz' z' hc1 hc2
    split at hz <;> cases hz
    rename_i hcond
    obtain ⟨h0, hzl, hzv⟩ := hcond
    obtain ⟨inf, hinf, hsz⟩ := Option.map_eq_some_iff.1 hc1
    unfold tzero at hc2
    simp only [hinf] at hc2
    split at hc2 <;> try cases hc2
    rename_i zv hzv'
    obtain ⟨w', H', O', h1, h2, h3, h4⟩ := aclearA_run (P := P) hf.st ht hinf hzv' h0 hc2 hzv hzl h (hf.eval hi) o.type
    obtain ⟨O'', hf'⟩ := (hf.mono h3 h4).put0 (dst := o.dst) hd (.tuple [] [] .nil) (by intro _ _ e; cases e)
    have hargs' : c.args = #[s] := Array.ext' hargs
    have htys' : c.argTypes = #[t] := Array.ext' htys
    refine wp_value (v := .tuple #[]) ?_ ⟨M, L, H', _, O'', h2, hf', h4, List.prefix_refl L⟩
    simp only [execOp, hop, resolve, hcal, invoke, builtin, Sem.run_bind, Sem.run_pure, Result.andThen_ok, hargs', htys', List.map_toArray, List.map_cons, List.map_nil, h1]
   rename_i hcal
   split at h <;> try exact h.elim
   rename_i s x t t' hargs htys
   split at h <;> try exact h.elim
   rename_i e i j ht hi hj
   split at h <;> try exact h.elim
   rename_i esz he
   simp only [aop] at h
   obtain ⟨r, z, w', H', O', h1, h2, h3, h4, h5, h6⟩ := acopy_run (P := P) hf.st ht he h (hf.eval hi) (hf.eval hj) t' o.type
   obtain ⟨O'', hf'⟩ := (hf.mono h4 h5).put0 (dst := o.dst) hd h2 h6
   have hargs' : c.args = #[s, x] := Array.ext' hargs
   have htys' : c.argTypes = #[t, t'] := Array.ext' htys
   refine wp_value (v := r) ?_ ⟨M, L, H', _, O'', h3, hf', h5, List.prefix_refl L⟩
   simp only [execOp, hop, resolve, hcal, invoke, builtin, Sem.run_bind, Sem.run_pure, Result.andThen_ok, hargs', htys', List.map_toArray, List.map_cons, List.map_nil, h1]
 | _ => simp only [compMore, hop] at h; exact h.elim
theorem setf_sound (o : Oper) (hf : Fr A n M L w H env O a) (hd : ∀ d, o.dst = some d → d < n) (h : aop ⟨P, lo⟩ (compSetf P o) o.dst env H K) : o.wpIn (wf ro) 0 P a w (Aft A n M L w K) Q := by
 have key : ∀ {x : Operand}, (o.op = .move x ∨ o.op = .assign x) → ∀ {i : IX} {esz : Nat}, compX x = some i → (asetf esz (aval env i) H fun z H' => K (put o.dst z env) H') → o.wpIn (wf ro) 0 P a w (Aft A n M L w K) Q := by
  intro x ho i esz hi h
  obtain ⟨z, M', H', O', h1, h2, h3, h4, h5⟩ := asetf_run hf.st h (hf.eval hi)
  have hrun : (execOp a.eval o).run P w = .ok (.value (a.eval x)) w := by
   rcases ho with ho | ho <;> simp [execOp, ho]
  obtain ⟨O'', hf'⟩ := (hf.mono h3 h4).put0 (dst := o.dst) hd h1 h5
  exact wp_value hrun ⟨M', L, H', _, O'', h2, hf', h4, List.prefix_refl L⟩
 cases hop : o.op with
 | move x =>
   simp only [compSetf, hop] at h
   split at h <;> try exact h.elim
   rename_i hi ht
   split at h <;> try exact h.elim
   exact key (.inl hop) hi h
 | assign x =>
   simp only [compSetf, hop] at h
   split at h <;> try exact h.elim
   rename_i hi ht
   split at h <;> try exact h.elim
   exact key (.inr hop) hi h
 | _ => simp only [compSetf, hop] at h; exact h.elim
theorem setfa_sound (o : Oper) (esz : Nat) (hf : Fr A n M L w H env O a) (hd : ∀ d, o.dst = some d → d < n) (h : aop ⟨P, lo⟩ (compSetfa esz o) o.dst env H K) : o.wpIn (wf ro) 0 P a w (Aft A n M L w K) Q := by
 have key : ∀ {x : Operand}, (o.op = .move x ∨ o.op = .assign x) → ∀ {i : IX}, compX x = some i → (asetf esz (aval env i) H fun z H' => K (put o.dst z env) H') → o.wpIn (wf ro) 0 P a w (Aft A n M L w K) Q := by
  intro x ho i hi h
  obtain ⟨z, M', H', O', h1, h2, h3, h4, h5⟩ := asetf_run hf.st h (hf.eval hi)
  have hrun : (execOp a.eval o).run P w = .ok (.value (a.eval x)) w := by
   rcases ho with ho | ho <;> simp [execOp, ho]
  obtain ⟨O'', hf'⟩ := (hf.mono h3 h4).put0 (dst := o.dst) hd h1 h5
  exact wp_value hrun ⟨M', L, H', _, O'', h2, hf', h4, List.prefix_refl L⟩
 cases hop : o.op with
 | move x =>
   simp only [compSetfa, hop] at h
   split at h <;> try exact h.elim
   rename_i hi
   exact key (.inl hop) hi h
 | assign x =>
   simp only [compSetfa, hop] at h
   split at h <;> try exact h.elim
   rename_i hi
   exact key (.inr hop) hi h
 | _ => simp only [compSetfa, hop] at h; exact h.elim
theorem comp1_sound (o : Oper) {fl : Nat} (hp : ∀ l, lo = some l → ∀ id, l ≤ id → A.top id = none) (hf : Fr A n M L w H env O a) (hd : ∀ d, o.dst = some d → d < n) (hnone : (match o.op with | .store .. | .mapUpdate .. => o.dst = none | _ => True))
 (h : aop ⟨P, lo⟩ (comp1 P o fl) o.dst env H K) : o.wpIn (wf ro) 0 P a w (Aft A n M L w K) Q := by
 unfold comp1 at h
 split at h
 ·exact setf_sound o hf hd h
 split at h
 ·exact setfa_sound o _ hf hd h
 cases hc : compOp P o fl with
 | none => rw [hc] at h; exact more_sound o hf hd h
 | some i => rw [hc] at h; exact op_sound o hc hp hf hd hnone h
end
end Go.Abs
end
section
namespace Go.Abs
open Go
section
variable {M : Mem} {L : List Nat}
theorem belowL_flat' {n : Nat} : ∀ {xs : List AV}, (∀ x ∈ xs, x.cells.length ≠ 0) → belowL n (flat xs) = true → belowL n xs = true
 | [], _, _ => rfl
 | x :: xs, hx, h => by
   rw [belowL_iff] at h ⊢
   intro y hy
   rcases List.mem_cons.1 hy with rfl | hy
   ·cases y with
    | agg ys =>
      simp only [AV.blw]
      rw [belowL_iff]
      intro z hz
      exact h z (by simp [flat, AV.cells, hz])
    | _ => exact h _ (by simp [flat, AV.cells])
   ·have := belowL_flat' (xs := xs) (n := n) (fun x hx' => hx x (List.mem_cons_of_mem _ hx')) (by
     rw [belowL_iff]
     intro z hz
     exact h z (by simp only [flat, List.flatMap_cons, List.mem_append] at hz ⊢; exact .inr hz))
    rw [belowL_iff] at this
    exact this y hy
theorem blw_cells {n : Nat} {x : AV} (h : belowL n x.cells = true) : x.blw n = true := by
 cases x <;> simp_all [AV.cells, AV.blw, belowL]
theorem Rep.blwL {v : Value} {x : AV} (h : Rep M L v x) : x.blw L.length = true := by
 induction h using Rep.rec (motive_2 := fun vs xs _ => belowL L.length xs = true) with
 | lst b off c own e cs xs he hx hn hle hc hr hm ih => exact belowL_flat' (fun x hx' => by rw [hx x hx']; omega) ih
 | arr b off len cap id hl hc => simp only [AV.blw, decide_eq_true_eq]; exact get_lt hl
 | agg cs xs hr ih => exact ih
 | tuple cs xs hr ih => exact ih
 | ptr b off id hl => simp only [AV.blw, decide_eq_true_eq]; exact get_lt hl
 | iptr b off cs x hr hm ih => simp only [AV.blw]; exact blw_cells ih
 | map b id hl => simp only [AV.blw, decide_eq_true_eq]; exact get_lt hl
 | yld b id hl => simp only [AV.blw, decide_eq_true_eq]; exact get_lt hl
 | fn f fs cs xs ys h1 h2 i1 i2 => simp only [AV.blw, Bool.and_eq_true]; exact ⟨i1, i2⟩
 | iface t v x h ih => exact ih
 | cons v x vs xs h t i1 i2 => simp only [belowL, Bool.and_eq_true]; exact ⟨i1, i2⟩
 | nil => rfl
 | _ => rfl
theorem RepL.blwL : ∀ {vs : List Value} {xs : List AV}, RepL M L vs xs → belowL L.length xs = true
 | _, _, .nil => rfl
 | _, _, .cons _ _ _ _ h t => by simp only [belowL, Bool.and_eq_true]; exact ⟨h.blwL, t.blwL⟩
end
section
variable {A : Perm} {M : Mem} {L : List Nat} {w : World} {H : List AObj} {ev : Nat → Value} {ea : Nat → AV} {O : Pos → Option Nat}
theorem St.writeLoop (h : St A M L w H ev ea O) {id b : Nat} {st st' : LSt} {lc : LCode} {es : List AV} {r' : Loop} (hid : H[id]? = some (.loop st lc es)) (hL : L[id]? = some b)
 (hr : ∀ r, w.heap[b]? = some (.loop r) → r'.params = r.params ∧ r'.assign = r.assign ∧ r'.body = r.body ∧ r'.tmps = r.tmps ∧ r'.defers = r.defers ∧ st'.ok r') :
 St A M L (w.putObj b (.loop r')) (H.set id (.loop st' lc es)) ev ea O ∧ Ext A M w M (w.putObj b (.loop r')) := by
 have hbL : b ∈ L := List.mem_of_getElem? hL
 have hblt := h.lt b hbL
 obtain ⟨r0, hc, p1, p2, p3, p4, p5⟩ := h.obj id _ b hid hL
 obtain ⟨q1, q2, q3, q4, q5, q6⟩ := hr r0 hc
 have hoth : ∀ k, k ≠ b → (w.putObj b (.loop r')).heap[k]? = w.heap[k]? := fun k hk => World.putObj_heap_other hk
 have hnew : (w.putObj b (.loop r')).heap[b]? = some (.loop r') := World.putObj_heap_same hblt
 have hMb : ∀ o, M b o = none := by
  intro o
  cases hm : M b o with
  | none => rfl
  | some v =>
    have := h.mem b o v hm
    simp [World.cell?, hc] at this
 have hidl : id < H.length := get_lt hid
 refine ⟨{ len := by simp [h.len], nodup := h.nodup, env := h.env, mem := ?_, obj := ?_, strat := ?_, lt := ?_, spt := ?_, spc := ?_, oinj := h.oinj, osep := h.osep, olt := ?_, La := h.La, Oa := h.Oa, fresh := ?_ }, ?_⟩
 ·intro k o v hv
  have hk : k ≠ b := by rintro rfl; rw [hMb o] at hv; cases hv
  have := h.mem k o v hv
  simp only [World.cell?] at this ⊢
  rw [hoth k hk]; exact this
 ·intro id' o k ho hk
  by_cases e0 : id' = id
  ·subst e0
   rw [hL] at hk; cases hk
   rw [List.getElem?_set_self hidl] at ho
   cases ho
   exact ⟨r', hnew, q1.trans p1, q2.trans p2, q3.trans p3, by rw [q4]; exact p4, q6⟩
  ·rw [List.getElem?_set_ne (fun h' => e0 h'.symm)] at ho
   have hkb : k ≠ b := by
    rintro rfl
    exact e0 ((List.getElem?_inj (get_lt hk) h.nodup).1 (hk.trans hL.symm))
   exact (h.obj id' o k ho hk).mono (Mem.sub_refl M) (List.prefix_refl _) (hoth k hkb) (fun _ => rfl)
 ·intro id' o ho
  rw [List.length_set]
  by_cases e0 : id' = id
  ·subst e0
   rw [List.getElem?_set_self hidl] at ho
   cases ho
   exact h.strat id' (.loop st lc es) hid
  ·rw [List.getElem?_set_ne (fun h' => e0 h'.symm)] at ho
   exact h.strat id' o ho
 ·intro k hk; simpa using h.lt k hk
 ·intro t
  exact (h.spt t).mono fun k hk => ⟨hoth k (fun e3 => h.osep _ k hk (e3 ▸ hbL)), fun _ => rfl⟩
 ·intro id' j
  by_cases e0 : id' = id
  ·subst e0
   have hn : O (.c id' j) = none := by
    have := h.spc id' j
    simp only [cellA, hid] at this
    exact this
   have e2 : cellA (H.set id' (.loop st' lc es)) id' j = .any := by
    unfold cellA
    rw [List.getElem?_set_self hidl]
   rw [e2, hn]; rfl
  ·have e1 : cellV L (w.putObj b (.loop r')) id' j = cellV L w id' j := by
    unfold cellV
    split
    ·rename_i k hk
     have hkb : k ≠ b := by
      rintro rfl
      exact e0 ((List.getElem?_inj (get_lt hk) h.nodup).1 (hk.trans hL.symm))
     simp only [World.cell?]
     rw [hoth k hkb]
    ·rfl
   have e2 : cellA (H.set id (.loop st' lc es)) id' j = cellA H id' j := by
    unfold cellA
    rw [List.getElem?_set_ne (fun h' => e0 h'.symm)]
   rw [e1, e2]
   exact (h.spc id' j).mono fun k hk => ⟨hoth k (fun e3 => h.osep _ k hk (e3 ▸ hbL)), fun _ => rfl⟩
 ·intro p k hp; simpa using h.olt p k hp
 ·intro k hk; simp at hk; exact h.fresh k hk
 ·exact ⟨Mem.sub_refl M, by simp, rfl, rfl, rfl, fun k hk hA => ⟨hoth k (fun e0 => hA (e0 ▸ h.La b hbL)), fun _ => rfl⟩, fun k r hk => by
   by_cases e0 : k = b
   ·subst e0
    rw [hc] at hk; cases hk
    exact ⟨r', hnew, q5⟩
   ·exact ⟨r, (hoth k e0).trans hk, rfl⟩⟩
def Perm.but (A : Perm) (D : Nat) : Perm := ⟨fun b => A b ∧ b ≠ D, A.top, A.ok, A.base⟩
def Perm.Le (A' A : Perm) : Prop := A'.top = A.top ∧ (∀ b, A' b → A b) ∧ A'.base = A.base
theorem Perm.Le.refl (A : Perm) : A.Le A := ⟨rfl, fun _ h => h, rfl⟩
theorem Perm.Le.trans {A B C : Perm} (h : A.Le B) (k : B.Le C) : A.Le C := ⟨h.1.trans k.1, fun b hb => k.2.1 b (h.2.1 b hb), h.2.2.trans k.2.2⟩
theorem Perm.but_le (A : Perm) (D : Nat) : (A.but D).Le A := ⟨rfl, fun _ h => h.1, rfl⟩
theorem Perm.Le.lim {A' A : Perm} (h : A'.Le A) (len id : Nat) : A'.lim len id = A.lim len id := by unfold Perm.lim; rw [h.1]
theorem Ext.le {A' : Perm} {M' : Mem} {w' : World} (h : Ext A' M w M' w') (hl : A'.Le A) : Ext A M w M' w' :=
 ⟨h.msub, h.size, h.os, h.tape, h.output, fun b hb hA => h.keep b hb fun h' => hA (hl.2.1 b h'), h.loops⟩
theorem St.le {A' : Perm} (h : St A' M L w H ev ea O) (hl : A'.Le A) : St A M L w H ev ea O :=
 { h with strat := fun id o ho => by rw [← hl.lim]; exact h.strat id o ho, La := fun b hb => hl.2.1 b (h.La b hb), Oa := fun p b hp => hl.2.1 b (h.Oa p b hp), fresh := fun b hb => hl.2.1 b (h.fresh b hb) }
theorem St.but (h : St A M L w H ev ea O) {D : Nat} (h1 : D ∉ L) (h2 : ∀ p, O p ≠ some D) (h3 : D < w.heap.size) : St (A.but D) M L w H ev ea O :=
 { h with
   strat := fun id o ho => by rw [(A.but_le D).lim]; exact h.strat id o ho
   La := fun b hb => ⟨h.La b hb, fun e => h1 (e ▸ hb)⟩
   Oa := fun p b hp => ⟨h.Oa p b hp, fun e => h2 p (e ▸ hp)⟩
   fresh := fun b hb => ⟨h.fresh b hb, fun e => by omega⟩ }
theorem Dfs.le {A' : Perm} {ds : List Deferred} (h : Dfs A w ds) (hl : A'.Le A) : Dfs A' w ds := ⟨by rw [hl.2.2]; exact h.1, h.2.1, fun d hd => by
 obtain ⟨D, h1, h2, h3, h4⟩ := h.2.2 d hd
 exact ⟨D, h1, h2, fun h' => h3 (hl.2.1 D h'), by rw [hl.2.2]; exact h4⟩⟩
end
end Go.Abs
end
section
namespace Go.Abs
open Go
structure IOper where
 g : Option (Nat × Bool)
 dst : Option Nat
 op : IOp
 deriving Inhabited
inductive DT where
 | done
 | take (st : Bool) (o : IOper) (r : DT)
 | br (o : IOper) (t rest : DT)
 | nil
 deriving Inhabited
def inst (il : List IOper) : Plan → DT
 | .done => .done
 | .take i st r => .take st (il.getD i default) (inst il r)
 | .br i t rest => .br (il.getD i default) (inst il t) (inst il rest)
 | .nil => .nil
inductive IR where
 | skip
 | region (ops : List IOper) (live : Option (List Nat))
 | draw (t : DT) (live : Option (List Nat))
 | seq (a b : IR)
 | cond (x : IX) (a b : IR)
 | block (id : Nat) (a : IR)
 | loop (a : IR)
 | exit (id : Nat)
 | ret
 | never
 | rangeF (f : IX) (lc : LCode)
 deriving Inhabited
def prune (live : Option (List Nat)) (env : Env) : Env :=
 match live with
 | none => env
 | some l => l.map fun t => (t, get env t)
def aguard (env : Env) (g : Nat) (want : Bool) (yes no : Env → Prop) : Prop :=
 match get env g with
 | .bool b => (b = want → yes ((g, .bool want) :: env)) ∧ (b = (!want) → no ((g, .bool (!want)) :: env))
 | .tuple [] => no env
 | _ => False
def agd (P : Px) (o : IOper) (env : Env) (H : List AObj) (K : Env → List AObj → Prop) : Prop :=
 match o.g with
 | none => aop P o.op o.dst env H K
 | some (g, want) => aguard env g want (fun env => aop P o.op o.dst env H K) (fun env => K (put o.dst (.tuple []) env) H)
def aops (P : Px) : List IOper → Env → List AObj → (Env → List AObj → Prop) → Prop
 | [], env, H, K => K env H
 | o :: r, env, H, K => agd P o env H fun env H => aops P r env H K
def dval (P : Px) (o : IOp) (ρ : IX → AV) (H : List AObj) (x : AV) : Prop :=
 match o with
 | .set i false => (ρ i).unown = x
 | .pick c a b => boolP (ρ c) fun q => (q = true → (ρ a).unown = x) ∧ (q = false → (ρ b).unown = x)
 | .bin op i j => abin op (ρ i) (ρ j) fun z => z = x
 | .shift op i j => ashift op (ρ i) (ρ j) fun z => z = x
 | .eqBool neq i j => aeqBool neq (ρ i) (ρ j) fun z => z = x
 | .eqNil kd neq i => aeqNil kd neq (ρ i) fun z => z = x
 | .un op i => aun op (ρ i) fun z => z = x
 | .boxi i => (ρ i).val = true ∧ .iptr (ρ i) = x
 | .build z ps => abuild z.cells (ps.map fun q => (q.1, q.2.1, ρ q.2.2)) fun v => v = x
 | .buildSlice own esz z len ps => abslice (List.replicate len (canon z)) esz (ps.map fun q => (q.1, ρ q.2)) fun xs => .lst own xs = x
 | .load sz i => aload sz (ρ i) H fun z => z = x
 | .nilCheck i => anilCheck (ρ i) fun z => z = x
 | .fieldAddr off sz i => afieldAddr off sz (ρ i) fun z => z = x
 | .field off sz i => afield off sz (ρ i) fun z => z = x
 | .indexAddr esz i j => (∀ own xs, ρ i = .lst own xs → ∀ z ∈ xs, z.cells.length = esz) ∧ aindexAddr esz (ρ i) (ρ j) fun z => z = x
 | .indexStr i j => aindexStr (ρ i) (ρ j) fun z => z = x
 | .indexArr n i j => aindexArr n (ρ i) (ρ j) fun z => z = x
 | .slice esz i lo hi mx => asliceX esz (ρ i) (lo.map ρ) (hi.map ρ) (mx.map ρ) fun z => z = x
 | .sliceStr i lo hi => asliceStr (ρ i) (lo.map ρ) (hi.map ρ) fun z => z = x
 | .len kd i => lenOk kd (ρ i) ∧ alen (ρ i) H fun z => z = x
 | .lookup kd z m k ok => alookup kd z (ρ m) (ρ k) ok H fun v => v = x
 | .fn f first cap => .fn f (first.map fun x => (ρ x).unown) (cap.map fun x => (ρ x).unown) = x
 | .extract i k => aextract (ρ i) k fun z => z = x
 | .call f args none => match ρ f with
   | .fn (.func g) first cap => ∃ args', LeL (first.map AV.unown ++ (args.map fun x => (ρ x).unown) ++ cap.map AV.unown) args' ∧ ACalls P.prog g args' H (fun r H' => r = x ∧ H' = H)
   | _ => False
 | .convInt k i => aconvInt k (ρ i) fun z => z = x
 | .convStr i => aconvStr (ρ i) fun z => z = x
 | .bytesOf i => abytesOf 1 (ρ i) fun z => z = x
 | .mkbuf esz bytes i => amkbuf esz bytes (ρ i) fun z => z = x
 | .strOf i => astrOf (ρ i) fun z => z = x
 | .mx big i j => amx big (ρ i) (ρ j) fun z => z = x
 | _ => False
def dv (P : Px) (st : Bool) (o : IOp) (ρ : IX → AV) (H : List AObj) (x : AV) : Prop :=
 match st with
 | true => dval P o ρ H x
 | false => ∀ H', dval P o ρ H' x
def atake (P : Px) (st : Bool) (o : IOper) (env : Env) (H : List AObj) (K : Env → Prop) : Prop :=
 match o.g with
 | none => ∃ x, dv P st o.op (aval env) H x ∧ K (put o.dst x env)
 | some (g, want) => aguard env g want (fun _ => ∃ x, dv P st o.op (aval env) H x ∧ K (put o.dst x env)) (fun _ => K (put o.dst (.tuple []) env))
def adt (P : Px) : DT → Env → List AObj → (Env → List AObj → Prop) → Prop
 | .done, env, H, K => K env H
 | .take st o r, env, H, K => atake P st o env H fun env => adt P r env H K
 | .br o t rest, env, H, K => agd P o env H (fun env H => adt P t env H K) ∧ adt P rest env H K
 | .nil, _, _, _ => True
def sle (n0 : Nat) (env : Env) (H : List AObj) (env' : Env) (H' : List AObj) : Prop :=
 (∀ t, (get env t).le (get env' t)) ∧ (H' = H ∨ ∃ m, n0 ≤ m ∧ H' = H.take m ∧ ∀ t, (get env' t).blw m = true)
def sleL (n0 : Nat) (env : Env) (H : List AObj) (env' : Env) (H' : List AObj) : Prop :=
 (∀ t, (get env t).le (get env' t)) ∧ (H' = H ∨ ∃ m, n0 ≤ m ∧ H' = H.take m ∧ (∀ id o, n0 ≤ id → id < m → H[id]? = some o → o.blw m = true) ∧ ∀ t, (get env' t).blw m = true)
def sleX (lo : Option Nat) (n0 : Nat) (env : Env) (H : List AObj) (env' : Env) (H' : List AObj) : Prop :=
 match lo with
 | none => sle n0 env H env' H'
 | some _ => sleL n0 env H env' H'
def envL (n : Nat) (env : Env) : List AV := (List.range n).map fun t => (get env t).unown
def behind (id : Nat) (H' : List AObj) (K : Option Code → List AObj → Prop) : Prop :=
 match H'[id]? with
 | some (.loop .ready lc es) => K none (H'.set id (.loop .over lc es))
 | some (.loop (.jump c) lc es) => K (some c) (H'.set id (.loop .over lc es))
 | _ => False
def goOn (j : Option Code) (Q : Exit → Env → List AObj → Prop) (env : Env) (H : List AObj) : Prop :=
 match j with
 | none => Q .normal env H
 | some .ret => Q .ret env H
 | some (.exit id) => Q (.exit id) env H
 | _ => False
def awp (P : Px) (n0 : Nat) : IR → Env → List AObj → (Exit → Env → List AObj → Prop) → Prop
 | .skip, env, H, Q => Q .normal env H
 | .region ops live, env, H, Q => aops P ops env H fun env' H' => Q .normal (prune live env') H'
 | .draw t live, env, H, Q => adt P t env H fun env' H' => Q .normal (prune live env') H'
 | .seq a b, env, H, Q => awp P n0 a env H fun e env' H' => match e with
   | .normal => awp P n0 b env' H' Q
   | e => Q e env' H'
 | .cond x a b, env, H, Q => boolP (aval env x) fun q => (q = true → awp P n0 a env H Q) ∧ (q = false → awp P n0 b env H Q)
 | .block id a, env, H, Q => awp P n0 a env H fun e env' H' => match e with
   | .exit id' => if id' = id then Q .normal env' H' else Q (.exit id') env' H'
   | e => Q e env' H'
 | .loop a, env, H, Q => ∃ (ι : Type) (I : ι → Prop) (se : ι → Env) (sh : ι → List AObj) (μ : ι → Nat), (∃ i, I i ∧ sleX P.lo n0 env H (se i) (sh i)) ∧
    ∀ i, I i → awp P n0 a (se i) (sh i) fun e env' H' => match e with
     | .normal => ∃ j, I j ∧ μ j < μ i ∧ sleX P.lo n0 env' H' (se j) (sh j)
     | e => Q e env' H'
 | .exit id, env, H, Q => Q (.exit id) env H
 | .ret, env, H, Q => Q .ret env H
 | .never, env, H, Q => False
 | .rangeF f lc, env, H, Q => match aval env f with
   | .fn (.func g) first cap => (∀ (as : Array Value) (w : World), (callFunc g as).run P.prog w = .ok (.enter g as) w) ∧
     ∃ args', LeL (first.map AV.unown ++ [.yld H.length] ++ cap.map AV.unown) args' ∧ XCalls P g args' (H ++ [.loop .ready lc (envL lc.n env)]) fun _ H' => behind H.length H' fun j H'' => goOn j Q env H''
   | _ => False
def Ann.at_ (an : Ann) (r i : Nat) : Nat := match an.find? fun x => x.1 == r && x.2.1 == i with | some x => x.2.2 | none => 0
def Lives.at_ (lv : Lives) (r : Nat) : Option (List Nat) := (lv.find? fun x => x.1 == r).map (·.2)
def dstOk (n : Nat) (o : Oper) : Bool := (match o.dst with | some d => d < n | none => true) && (match o.op with | .store .. | .mapUpdate .. => o.dst.isNone | _ => true)
def compG (ops : Array Oper) (o : Oper) : Option (Option (Nat × Bool)) :=
 match o.guard with
 | none => some none
 | some (j, want) => match (ops[j]?).bind (·.dst) with
   | some g => some (some (g, want))
   | none => none
def notSlot (i : IX) (d : Nat) : Bool := match i with | .t s => decide (s ≠ d) | _ => true
def fuse (P : Program) (ops : Array Oper) (n : Nat) (fl : Nat) (o o' : Oper) : Option IOper :=
 match fl, o.op, o.dst, o.guard, o'.op, o'.dst, o'.guard with
 | 2, .alloc e, some d, none, .store t (.tmp d') x, none, none =>
   if d = d' ∧ d < n ∧ t = e then (match compX x, tcells P t, tzero P e with
    | some i, some m, some z => if notSlot i d = true ∧ z.cells.length = m ∧ z.val = true ∧ m ≠ 0 then some ⟨none, some d, .boxs m i⟩ else none
    | _, _, _ => none) else none
 | _, _, _, _, _, _, _ => none
def compOps (P : Program) (ops : Array Oper) (an : Ann) (n rid : Nat) (fu : Bool) : Nat → Nat → List Oper → Option (List IOper)
 | _, _, [] => some []
 | 0, _, _ => none
 | fuel + 1, k, o :: r =>
   if an.at_ rid k = 1000 ∧ fu = true then
    match r with
    | o' :: r' => match fuse P ops n 2 o o', compOps P ops an n rid fu fuel (k + 2) r' with
      | some x, some xs => some (x :: xs)
      | _, _ => none
    | [] => none
   else
    match compG ops o, compOps P ops an n rid fu fuel (k + 1) r with
    | some g, some xs => if dstOk n o = true then some (⟨g, o.dst, comp1 P o (an.at_ rid k)⟩ :: xs) else none
    | _, _ => none
def IOp.all : IOp → List IX
 | .set i _ => [i]
 | .pick c a b => [c, a, b]
 | .bin _ i j | .shift _ i j | .eqBool _ i j | .indexAddr _ i j | .indexStr i j | .indexArr _ i j | .lookup _ _ i j _ | .mx _ i j | .store _ i j | .storeW _ i j | .append _ _ i j | .appendA _ _ _ i j | .copy _ i j => [i, j]
 | .clearA _ _ i | .setf _ i | .eqNil _ _ i | .un _ i | .box i | .boxi i | .boxs _ i | .load _ i | .loadf _ _ i | .takeCell i | .nilCheck i | .fieldAddr _ _ i | .field _ _ i | .len _ i | .mkarr _ _ _ i | .mkbuf _ _ i | .extract i _ | .convInt _ i | .convStr i | .bytesOf i | .strOf i => [i]
 | .putCell i s => [i, .t s]
 | .mapset _ i j k => [i, j, k]
 | .build _ ps => ps.map fun q => q.2.2
 | .buildSlice _ _ _ _ ps | .litA _ _ _ ps => ps.map fun q => q.2
 | .slice _ i lo hi m | .sliceZ _ i lo hi m => i :: (lo.toList ++ hi.toList ++ m.toList)
 | .sliceStr i lo hi => i :: (lo.toList ++ hi.toList)
 | .fn _ first cap => first ++ cap
 | .call f args _ => f :: args
 | .alloc _ | .mkmap | .never => []
def IX.slots : List IX → List Nat := fun l => l.filterMap fun i => match i with | .t s => some s | .c _ => none
def IOp.kill : IOp → List Nat
 | .set (.t s) true => [s]
 | .putCell _ s => [s]
 | .append _ _ (.t s) _ => [s]
 | .call _ args pass => (match pass with | some j => (match args[j]? with | some (.t s) => [s] | _ => []) | none => [])
 | _ => []
def IOp.chg : IOp → Bool
 | .box _ | .alloc _ | .takeCell _ | .store .. | .storeW .. | .loadf .. | .putCell .. | .mkarr .. | .mkmap | .mapset .. | .call .. | .copy .. | .setf .. | .litA .. | .appendA .. | .clearA .. | .never => true
 | _ => false
def IOper.lk (o : IOper) : List Nat := IX.slots o.op.all ++ (match o.g with | some (g, _) => [g] | none => [])
def IOp.apt (o : IOp) (pure : Bool) : Bool :=
 match o with
 | .set _ take => !take
 | .call _ _ none => pure
 | .never | .call .. | .append .. => false
 | .boxs .. => false
 | o => !o.chg
def IOp.grows : IOp → Bool
 | .box _ | .alloc _ | .mkmap => true
 | _ => false
def IOp.stays : IOp → Bool
 | .call .. => false
 | _ => true
def apartI (st : Bool) (oi oj : IOper) : Bool :=
 (match oi.dst with | some d => !oj.lk.contains d && oj.dst != some d && !oj.op.kill.contains d | none => true) &&
 (match oj.dst with | some d => !oi.lk.contains d | none => true) &&
 oj.op.kill.all (fun s => !oi.lk.contains s) && (!st || !oj.op.chg || (oj.op.grows && oi.op.stays))
def mustAfter (ops : Array Oper) : Nat → Nat → Nat → Bool
 | 0, _, _ => false
 | f + 1, j, i => match ops[j]? with
   | some o => o.after.any fun e => Region.binds .any e && (e.on == i || mustAfter ops f e.on i)
   | none => false
def freeAt (ops : Array Oper) (il : List IOper) (listed : Array Bool) (i : Nat) (st : Bool) : Bool :=
 (List.range ops.size).all fun j => j == i || listed.getD j true || mustAfter ops ops.size j i || apartI st (il.getD i default) (il.getD j default)
def pok (ops : Array Oper) (il : List IOper) : Nat → Array Bool → Option (List Nat) → Plan → Bool
 | _, listed, none, .done => (Region.ready .any ops listed).isEmpty
 | f + 1, listed, none, .take i st r => (Region.ready .any ops listed).contains i && (il.getD i default).op.apt true && freeAt ops il listed i st && pok ops il f (listed.setIfInBounds i true) none r
 | f + 1, listed, none, .br i t rest => (match Region.ready .any ops listed with | k :: ks => k == i && pok ops il f (listed.setIfInBounds i true) none t && pok ops il (f + 1) listed (some ks) rest | [] => false)
 | f + 1, listed, some (k :: ks), .br i t rest => k == i && pok ops il f (listed.setIfInBounds i true) none t && pok ops il (f + 1) listed (some ks) rest
 | _, _, some [], .nil => true
 | _, _, _, _ => false
def amask : List Edge → Nat
 | [] => 0
 | e :: r => if Region.binds .any e = true then (1 <<< e.on) ||| amask r else amask r
def rmaskOf (rs : List Nat) : List Edge → Nat
 | [] => 0
 | e :: r => if Region.binds .any e = true ∧ e.on < rs.length then ((1 <<< e.on) ||| rs.getD e.on 0) ||| rmaskOf rs r else rmaskOf rs r
def rmasks : List Oper → List Nat → List Nat
 | [], acc => acc
 | o :: r, acc => rmasks r (acc ++ [rmaskOf acc o.after.toList])
def readyM (m : Nat) : Nat → List Nat → List Nat
 | _, [] => []
 | i, a :: r => if m.testBit i = false ∧ a &&& m = a then i :: readyM m (i + 1) r else readyM m (i + 1) r
def freeM (m i : Nat) (st : Bool) (oi : IOper) : Nat → List Nat → List IOper → Bool
 | j, r :: rs, o :: os => (j == i || m.testBit j || r.testBit i || apartI st oi o) && freeM m i st oi (j + 1) rs os
 | _, _, [] => true
 | _, [], _ :: _ => false
def pokM (am rm : List Nat) (il : List IOper) : Nat → Nat → Option (List Nat) → Plan → Bool
 | _, m, none, .done => (readyM m 0 am).isEmpty
 | f + 1, m, none, .take i st r => (readyM m 0 am).contains i && (il.getD i default).op.apt true && freeM m i st (il.getD i default) 0 rm il && pokM am rm il f (m ||| (1 <<< i)) none r
 | f + 1, m, none, .br i t rest => (match readyM m 0 am with | k :: ks => k == i && pokM am rm il f (m ||| (1 <<< i)) none t && pokM am rm il (f + 1) m (some ks) rest | [] => false)
 | f + 1, m, some (k :: ks), .br i t rest => k == i && pokM am rm il f (m ||| (1 <<< i)) none t && pokM am rm il (f + 1) m (some ks) rest
 | _, _, some [], .nil => true
 | _, _, _, _ => false
def Plans.at_ (pl : Plans) (r : Nat) : Plan := match pl.find? fun x => x.1 == r with | some x => x.2 | none => .done
def comp (P : Program) (an : Ann) (lv : Lives) (pl : Plans) (n : Nat) : Code → Option IR
 | .skip => some .skip
 | .region id ops false => (compOps P ops an n id true (ops.size + 1) 0 ops.toList).map fun l => .region l (lv.at_ id)
 | .region id ops true => match compOps P ops an n id false (ops.size + 1) 0 ops.toList with
   | some il => if P.follows .mixedOrders = true ∧ pokM (ops.toList.map fun o => amask o.after.toList) (rmasks ops.toList []) il ops.size 0 none (pl.at_ id) = true then some (.draw (inst il (pl.at_ id)) (lv.at_ id)) else none
   | none => none
 | .seq a b => match comp P an lv pl n a, comp P an lv pl n b with
   | some x, some y => some (.seq x y)
   | _, _ => none
 | .cond c a b => match compX c, comp P an lv pl n a, comp P an lv pl n b with
   | some i, some x, some y => some (.cond i x y)
   | _, _, _ => none
 | .block id a => (comp P an lv pl n a).map (.block id)
 | .loop a => (comp P an lv pl n a).map .loop
 | .exit id => some (.exit id)
 | .ret => some .ret
 | .rangeFunc f ps as bd => (compX f).map fun i => .rangeF i ⟨n, ps.toList, as, bd, an, lv, pl⟩
 | _ => some .never
theorem testBit_one_shl (n k : Nat) : (1 <<< n).testBit k = decide (n = k) := by
 rw [Nat.shiftLeft_eq, Nat.one_mul, Nat.testBit_two_pow]
theorem amask_spec (m : Nat) : ∀ (es : List Edge), (amask es &&& m = amask es) ↔ ∀ e ∈ es, Region.binds .any e = true → m.testBit e.on = true := by
 have key : ∀ a : Nat, (a &&& m = a) ↔ ∀ i, a.testBit i = true → m.testBit i = true := by
  intro a
  constructor
  ·intro h i hi
   rw [← h] at hi
   simp only [Nat.testBit_and, Bool.and_eq_true] at hi
   exact hi.2
  ·intro h
   apply Nat.eq_of_testBit_eq
   intro i
   rw [Nat.testBit_and]
   cases ha : a.testBit i with
   | false => simp
   | true => simp [h i ha]
 intro es
 rw [key]
 induction es with
 | nil => simp [amask]
 | cons e r ih =>
   simp only [amask]
   split
   ·rename_i hb
    constructor
    ·intro h e' he' hb'
     rcases List.mem_cons.1 he' with rfl | he'
     ·exact h _ (by simp [])
     ·exact ih.1 (fun i hi => h i (by simp [hi])) e' he' hb'
    ·intro h i hi
     simp only [Nat.testBit_or, Bool.or_eq_true, testBit_one_shl, decide_eq_true_eq] at hi
     rcases hi with rfl | hi
     ·exact h e (by simp) hb
     ·exact ih.2 (fun e' he' hb' => h e' (List.mem_cons_of_mem _ he') hb') i hi
   ·rename_i hb
    constructor
    ·intro h e' he' hb'
     rcases List.mem_cons.1 he' with rfl | he'
     ·exact absurd hb' hb
     ·exact ih.1 h e' he' hb'
    ·intro h
     exact ih.2 (fun e' he' hb' => h e' (List.mem_cons_of_mem _ he') hb')
theorem rmaskOf_spec {rs : List Nat} {i : Nat} : ∀ {es : List Edge}, (rmaskOf rs es).testBit i = true → ∃ e ∈ es, Region.binds .any e = true ∧ e.on < rs.length ∧ (e.on = i ∨ (rs.getD e.on 0).testBit i = true)
 | [], h => by simp [rmaskOf] at h
 | e :: r, h => by
   simp only [rmaskOf] at h
   split at h
   ·rename_i hb
    simp only [Nat.testBit_or, Bool.or_eq_true, testBit_one_shl, decide_eq_true_eq] at h
    rcases h with h | h
    ·exact ⟨e, by simp, hb.1, hb.2, h⟩
    ·obtain ⟨e', he', h'⟩ := rmaskOf_spec h
     exact ⟨e', List.mem_cons_of_mem _ he', h'⟩
   ·obtain ⟨e', he', h'⟩ := rmaskOf_spec h
    exact ⟨e', List.mem_cons_of_mem _ he', h'⟩
theorem rmasks_pre : ∀ (l : List Oper) (acc : List Nat), ∃ r, rmasks l acc = acc ++ r ∧ r.length = l.length
 | [], acc => ⟨[], by simp [rmasks], rfl⟩
 | o :: l, acc => by
   obtain ⟨r, h1, h2⟩ := rmasks_pre l (acc ++ [rmaskOf acc o.after.toList])
   exact ⟨rmaskOf acc o.after.toList :: r, by simp [rmasks, h1], by simp [h2]⟩
theorem rmasks_get : ∀ (l : List Oper) (acc : List Nat) (j : Nat) (o : Oper), l[j]? = some o → (rmasks l acc)[acc.length + j]? = some (rmaskOf ((rmasks l acc).take (acc.length + j)) o.after.toList)
 | [], acc, j, o, h => by simp at h
 | x :: l, acc, 0, o, h => by
   simp at h
   subst h
   simp only [rmasks]
   obtain ⟨r, h1, h2⟩ := rmasks_pre l (acc ++ [rmaskOf acc x.after.toList])
   rw [h1]
   simp
 | x :: l, acc, j + 1, o, h => by
   have ih := rmasks_get l (acc ++ [rmaskOf acc x.after.toList]) j o (by simpa using h)
   simp only [rmasks]
   simp only [List.length_append, List.length_cons, List.length_nil] at ih
   rw [show acc.length + (j + 1) = acc.length + (0 + 1) + j by omega]
   exact ih
theorem rmask_must {ops : Array Oper} {i : Nat} : ∀ (j f : Nat), j < f → j < ops.size → ((rmasks ops.toList []).getD j 0).testBit i = true → mustAfter ops f j i = true := by
 intro j
 induction j using Nat.strongRecOn with
 | _ j ih =>
   intro f hf hj h
   have hoj : ops[j]? = some ops[j] := by simp [hj]
   have hg := rmasks_get ops.toList [] j ops[j] (by simp [hj])
   simp only [List.length_nil, Nat.zero_add] at hg
   rw [List.getD_eq_getElem?_getD, hg, Option.getD_some] at h
   obtain ⟨e, he, hb, hlt, hor⟩ := rmaskOf_spec h
   have hlt' : e.on < j := by simp at hlt; omega
   cases f with
   | zero => omega
   | succ f =>
     simp only [mustAfter, hoj]
     rw [Array.any_eq_true']
     refine ⟨e, by simpa using he, ?_⟩
     simp only [Bool.and_eq_true, Bool.or_eq_true, beq_iff_eq]
     refine ⟨hb, ?_⟩
     rcases hor with h1 | h1
     ·exact .inl h1
     ·refine .inr (ih e.on hlt' f (by omega) (by omega) ?_)
      have : ((rmasks ops.toList []).take j).getD e.on 0 = (rmasks ops.toList []).getD e.on 0 := by
       simp [List.getD_eq_getElem?_getD, hlt']
      rw [this] at h1
      exact h1
def bitsOf (n : Nat) (listed : Array Bool) (m : Nat) : Prop := listed.size = n ∧ ∀ k, m.testBit k = listed.getD k false
theorem bits_set {n : Nat} {listed : Array Bool} {m i : Nat} (h : bitsOf n listed m) (hi : i < n) : bitsOf n (listed.setIfInBounds i true) (m ||| (1 <<< i)) := by
 obtain ⟨h1, h2⟩ := h
 refine ⟨by simp [h1], fun k => ?_⟩
 rw [Nat.testBit_or, h2 k, testBit_one_shl]
 simp only [Array.getD_eq_getD_getElem?, Array.getElem?_setIfInBounds]
 by_cases hk : i = k
 ·subst hk
  simp [h1, hi]
 ·simp [hk]
theorem readyM_mem {ops : Array Oper} {listed : Array Bool} {m : Nat} (hb : bitsOf ops.size listed m) : ∀ (l : List Oper) (i : Nat), (∀ j, l[j]? = ops[i + j]?) →
 readyM m i (l.map fun o => amask o.after.toList) = (List.range' i l.length).filter fun i => !listed.getD i true && ((ops[i]?).map (·.after.all fun e => !Region.binds .any e || listed.getD e.on false)).getD false
 | [], i, _ => by simp [readyM]
 | o :: l, i, h => by
   have h0 : ops[i]? = some o := by simpa using (h 0).symm
   have hi : i < ops.size := (Array.getElem?_eq_some_iff.1 h0).1
   have ih := readyM_mem hb l (i + 1) (fun j => by have := h (j + 1); simpa [Nat.add_assoc, Nat.add_comm 1 j] using this)
   simp only [List.map_cons, readyM, List.length_cons, List.range'_succ, List.filter_cons]
   have e1 : (m.testBit i = false) ↔ (listed.getD i true = false) := by
    rw [hb.2 i]
    have : i < listed.size := by rw [hb.1]; exact hi
    simp [Array.getD, this]
   have e2 : (amask o.after.toList &&& m = amask o.after.toList) ↔ (o.after.all fun e => !Region.binds .any e || listed.getD e.on false) = true := by
    rw [amask_spec, Array.all_eq_true']
    simp only [Array.mem_toList_iff, Bool.or_eq_true, Bool.not_eq_true', hb.2]
    constructor
    ·intro h e he
     cases hbe : Region.binds .any e with
     | false => exact .inl rfl
     | true => exact .inr (h e he hbe)
    ·intro h e he hbe
     rcases h e he with h | h
     ·rw [hbe] at h; cases h
     ·exact h
   by_cases hc : m.testBit i = false ∧ amask o.after.toList &&& m = amask o.after.toList
   ·rw [if_pos hc, if_pos (by rw [h0]; simp only [Option.map_some, Option.getD_some, e1.1 hc.1, e2.1 hc.2, Bool.not_false, Bool.and_self]), ih]
   ·rw [if_neg hc, if_neg (by
     rw [h0]
     simp only [Option.map_some, Option.getD_some, Bool.and_eq_true, Bool.not_eq_true']
     intro h'
     exact hc ⟨e1.2 h'.1, e2.2 h'.2⟩), ih]
theorem readyM_eq {ops : Array Oper} {listed : Array Bool} {m : Nat} (hb : bitsOf ops.size listed m) : readyM m 0 (ops.toList.map fun o => amask o.after.toList) = Region.ready .any ops listed := by
 rw [readyM_mem hb ops.toList 0 (by simp)]
 unfold Region.ready
 simp [List.range_eq_range']
theorem freeM_spec {ops : Array Oper} {il : List IOper} {listed : Array Bool} {m i : Nat} {st : Bool} {oi : IOper} (hb : bitsOf ops.size listed m) : ∀ (rs : List Nat) (os : List IOper) (j : Nat), (∀ k, os[k]? = il[j + k]?) → (∀ k, rs[k]? = (rmasks ops.toList [])[j + k]?) → freeM m i st oi j rs os = true →
 ∀ k, j ≤ k → k < ops.size → k < il.length → (k == i || listed.getD k true || mustAfter ops ops.size k i || apartI st oi (il.getD k default)) = true
 | rs, [], j, h1, _, _, k, hjk, _, hk => by
   have := h1 (k - j)
   rw [show j + (k - j) = k by omega] at this
   simp at this
   omega
 | [], o :: os, j, h1, h2, h, _, _, _, _ => by simp [freeM] at h
 | r :: rs, o :: os, j, h1, h2, h, k, hjk, hks, hkl => by
   simp only [freeM, Bool.and_eq_true] at h
   by_cases hk : k = j
   ·subst hk
    have ho : il.getD k default = o := by
     have := h1 0
     simp at this
     rw [List.getD_eq_getElem?_getD, ← this]; rfl
    have hr : (rmasks ops.toList []).getD k 0 = r := by
     have := h2 0
     simp at this
     rw [List.getD_eq_getElem?_getD, ← this]; rfl
    have h := h.1
    simp only [Bool.or_eq_true] at h ⊢
    rcases h with ((h | h) | h) | h
    ·exact .inl (.inl (.inl h))
    ·refine .inl (.inl (.inr ?_))
     rw [hb.2 k] at h
     have : k < listed.size := by rw [hb.1]; exact hks
     simpa [Array.getD, this] using h
    ·exact .inl (.inr (rmask_must k _ hks hks (by rw [hr]; exact h)))
    ·rw [ho]; exact .inr h
   ·exact freeM_spec hb rs os (j + 1) (fun q => by have := h1 (q + 1); simpa [Nat.add_assoc, Nat.add_comm 1 q] using this) (fun q => by have := h2 (q + 1); simpa [Nat.add_assoc, Nat.add_comm 1 q] using this) h.2 k (by omega) hks hkl
theorem mem_ready_lt {ops : Array Oper} {listed : Array Bool} {i : Nat} (h : i ∈ Region.ready .any ops listed) : i < ops.size := by
 unfold Region.ready at h
 simp at h
 exact h.1
theorem pokM_pok {ops : Array Oper} {il : List IOper} (hsz : il.length = ops.size) : ∀ (p : Plan) (f m : Nat) (listed : Array Bool) (rem : Option (List Nat)), bitsOf ops.size listed m → (∀ ks, rem = some ks → ∀ k ∈ ks, k < ops.size) →
 pokM (ops.toList.map fun o => amask o.after.toList) (rmasks ops.toList []) il f m rem p = true → pok ops il f listed rem p = true := by
 intro p
 induction p with
 | done =>
   intro f m listed rem hb _ h
   cases rem with
   | none => cases f <;> (simp only [pokM, readyM_eq hb] at h; simpa [pok] using h)
   | some ks => cases ks <;> cases f <;> simp [pokM] at h
 | nil =>
   intro f m listed rem hb _ h
   cases rem with
   | none => cases f <;> simp [pokM] at h
   | some ks => cases ks <;> cases f <;> simp [pokM] at h <;> simp [pok]
 | take i st r ih =>
   intro f m listed rem hb _ h
   cases rem with
   | some ks => cases ks <;> cases f <;> simp [pokM] at h
   | none =>
     cases f with
     | zero => simp [pokM] at h
     | succ f =>
       simp only [pokM, readyM_eq hb, Bool.and_eq_true] at h
       obtain ⟨⟨⟨h1, h2⟩, h3⟩, h4⟩ := h
       have hi : i < ops.size := mem_ready_lt (by simpa using h1)
       simp only [pok, Bool.and_eq_true]
       refine ⟨⟨⟨h1, h2⟩, ?_⟩, ih _ _ _ _ (bits_set hb hi) (by simp) h4⟩
       unfold freeAt
       refine List.all_eq_true.2 fun k hk => ?_
       have hk' : k < ops.size := List.mem_range.1 hk
       exact freeM_spec hb (rmasks ops.toList []) il 0 (fun k => by rw [Nat.zero_add]) (fun k => by rw [Nat.zero_add]) h3 k (Nat.zero_le _) hk' (by omega)
 | br i t rest iht ihr =>
   intro f m listed rem hb hrem h
   cases f with
   | zero => cases rem with
     | none => simp [pokM] at h
     | some ks => cases ks <;> simp [pokM] at h
   | succ f =>
     cases rem with
     | none =>
       simp only [pokM, readyM_eq hb] at h
       simp only [pok]
       split at h
       ·rename_i k ks hr
        simp only [Bool.and_eq_true, beq_iff_eq] at h
        obtain ⟨⟨rfl, h1⟩, h2⟩ := h
        have hk : ∀ q ∈ k :: ks, q < ops.size := fun q hq => mem_ready_lt (by rw [hr]; exact hq)
        simp only [Bool.and_eq_true, beq_iff_eq, true_and]
        exact ⟨iht _ _ _ _ (bits_set hb (hk k (by simp))) (by simp) h1, ihr _ _ _ _ hb (fun ks' e q hq => by cases e; exact hk q (by simp [hq])) h2⟩
       ·cases h
     | some ks =>
       cases ks with
       | nil => simp [pokM] at h
       | cons k ks =>
         simp only [pokM, Bool.and_eq_true, beq_iff_eq] at h
         obtain ⟨⟨rfl, h1⟩, h2⟩ := h
         have hk := hrem _ rfl
         simp only [pok, Bool.and_eq_true, beq_iff_eq, true_and]
         exact ⟨iht _ _ _ _ (bits_set hb (hk k (by simp))) (by simp) h1, ihr _ _ _ _ hb (fun ks' e q hq => by cases e; exact hk q (by simp [hq])) h2⟩
theorem bits_none (n : Nat) : bitsOf n (Array.replicate n false) 0 := ⟨by simp, fun k => by
 simp only [Nat.zero_testBit, Array.getD_eq_getD_getElem?, Array.getElem?_replicate]
 split <;> rfl⟩
section
variable {ro : Option Nat} {P : Program} {lo : Option Nat} {A : Perm} {n : Nat} {M : Mem} {L : List Nat} {w : World} {H : List AObj} {env : Env} {O : Pos → Option Nat} {a : Act} {ev : Nat → Value} {ea : Nat → AV}
def Post (A : Perm) (n : Nat) (M0 : Mem) (L0 : List Nat) (w0 : World) (Q : Exit → Env → List AObj → Prop) (e : Exit) (a : Act) (w : World) : Prop :=
 ∃ A' M L H env O, A'.Le A ∧ Q e env H ∧ Fr A' n M L w H env O a ∧ Ext A M0 w0 M w ∧ L0 <+: L
theorem Fr.env_eq (h : Fr A n M L w H env O a) {env' : Env} (he : get env' = get env) : Fr A n M L w H env' O a := ⟨by rw [he]; exact h.st, h.size, h.defers⟩
theorem Fr.weaken (h : Fr A n M L w H env O a) {env' : Env} (hl : ∀ t, (get env t).le (get env' t)) : ∃ O', Fr A n M L w H env' O' a := by
 obtain ⟨O', h'⟩ := h.st.weaken hl
 exact ⟨O', h', h.size, h.defers⟩
theorem le_refl (x : AV) : x.le x := .inl rfl
theorem le_any (x : AV) : x.le .any := .inr (.inl rfl)
theorem get_prune (live : Option (List Nat)) (env : Env) (t : Nat) : (get env t).le (get (prune live env) t) := by
 cases live with
 | none => exact le_refl _
 | some l =>
   simp only [prune]
   induction l with
   | nil => exact le_any _
   | cons s l ih =>
     simp only [List.map_cons, get]
     split
     ·rename_i e; subst e; exact le_refl _
     ·exact ih
theorem get_mem {env : Env} {t : Nat} {x : AV} (h : get env t = x) : x = .any ∨ (t, x) ∈ env := by
 induction env with
 | nil => left; exact h.symm
 | cons p r ih =>
   obtain ⟨k, v⟩ := p
   simp only [get] at h
   split at h
   ·rename_i e; subst e; subst h; right; simp
   ·rcases ih h with h' | h'
    ·exact .inl h'
    ·exact .inr (List.mem_cons_of_mem _ h')
theorem sle_refl (n0 : Nat) (env : Env) (H : List AObj) : sle n0 env H env H := ⟨fun t => le_refl _, .inl rfl⟩
def fitsX (lo : Option Nat) (n0 : Nat) (A : Perm) : Prop := (∀ id, id < n0 → ∃ m, m ≤ n0 ∧ A.top id = some m) ∧ match lo with
 | none => ∀ id, n0 ≤ id → A.top id = some (id + 1)
 | some l => l = n0 ∧ ∀ id, n0 ≤ id → A.top id = none
theorem fitsX.opens {n0 : Nat} (h : fitsX lo n0 A) : ∀ l, lo = some l → ∀ id, l ≤ id → A.top id = none := by
 rintro l rfl id hid
 obtain ⟨_, rfl, h⟩ := h
 exact h id hid
theorem fitsX.low {n0 m : Nat} (h : fitsX lo n0 A) (hm : n0 ≤ m) (hs : St A M L w H ev ea O) : ∀ id o, id < n0 → H[id]? = some o → o.blw m = true := by
 intro id o hid ho
 obtain ⟨k, hk, e⟩ := h.1 id hid
 have := hs.strat id o ho
 refine AObj.blw_mono ?_ o this
 unfold Perm.lim
 rw [e]
 exact Nat.le_trans (Nat.min_le_left _ _) (by omega)
theorem fitsX.closed {n0 m : Nat} (h : fitsX none n0 A) (hm : n0 ≤ m) (hs : St A M L w H ev ea O) : ∀ id o, id < m → H[id]? = some o → o.blw m = true := by
 intro id o hid ho
 by_cases e : id < n0
 ·exact h.low hm hs id o e ho
 ·have e1 := h.2 id (by omega)
  have := hs.strat id o ho
  refine AObj.blw_mono ?_ o this
  unfold Perm.lim
  rw [e1]
  exact Nat.le_trans (Nat.min_le_left _ _) (by omega)
theorem Fr.sle (h : Fr A n M L w H env O a) {env' : Env} {H' : List AObj} {L0 : List Nat} (hA : fitsX lo L0.length A) (hL : L0 <+: L) (hl : sleX lo L0.length env H env' H') : ∃ L' O', Fr A n M L' w H' env' O' a ∧ L0 <+: L' := by
 have hl' : sleL L0.length env H env' H' := by
  unfold sleX at hl
  split at hl
  ·obtain ⟨h1, h2⟩ := hl
   refine ⟨h1, ?_⟩
   rcases h2 with rfl | ⟨m, hm, rfl, hb⟩
   ·exact .inl rfl
   ·exact .inr ⟨m, hm, rfl, fun id o _ hid ho => hA.closed hm h.st id o hid ho, hb⟩
  ·exact hl
 obtain ⟨h1, h2⟩ := hl'
 obtain ⟨O', hf⟩ := h.weaken h1
 rcases h2 with rfl | ⟨m, hm, rfl, hc, hb⟩
 ·exact ⟨L, O', hf, hL⟩
 ·obtain ⟨O'', hst⟩ := hf.st.cut m (fun id o hid ho => by
   by_cases e : id < L0.length
   ·exact hA.low hm hf.st id o e ho
   ·exact hc id o (by omega) hid ho) hb
  refine ⟨L.take m, O'', ⟨hst, hf.size, hf.defers⟩, ?_⟩
  obtain ⟨r, rfl⟩ := hL
  exact ⟨r.take (m - L0.length), by rw [List.take_append, List.take_of_length_le hm]⟩
theorem yielded_bool {ops : Array Oper} {j g : Nat} (hg : (ops[j]?).bind (·.dst) = some g) (hf : Fr A n M L w H env O a) {b : Bool} (hb : get env g = .bool b) : yielded ops a.tmps j = some b := by
 have hr := hf.st.env g
 rw [hb] at hr
 generalize hv : a.tmps.getD g undef = v at hr
 cases hr
 have : a.tmps[g]? = some (.bool b) := by
  rw [Array.getD_eq_getD_getElem?] at hv
  cases h : a.tmps[g]? with
  | none => rw [h] at hv; cases hv
  | some v => rw [h] at hv; simp at hv; rw [hv]
 simp [yielded, hg, this]
theorem yielded_undef {ops : Array Oper} {j g : Nat} (hg : (ops[j]?).bind (·.dst) = some g) (hf : Fr A n M L w H env O a) (hb : get env g = .tuple []) : yielded ops a.tmps j = none := by
 have hr := hf.st.env g
 rw [hb] at hr
 generalize hv : a.tmps.getD g undef = v at hr
 cases hr with
 | tuple cs _ h =>
 rw [Array.getD_eq_getD_getElem?] at hv
 simp only [yielded, hg, Option.bind_some]
 cases h : a.tmps[g]? with
 | none => rfl
 | some v => rw [h] at hv; simp at hv; rw [hv]
theorem agd_sound {ops : Array Oper} {o : Oper} {fl : Nat} {g : Option (Nat × Bool)} (hg : compG ops o = some g) (hdst : dstOk n o = true) (hp : ∀ l, lo = some l → ∀ id, l ≤ id → A.top id = none) (hf : Fr A n M L w H env O a) {K : Env → List AObj → Prop} (h : agd ⟨P, lo⟩ ⟨g, o.dst, comp1 P o fl⟩ env H K) (Q : Exit → Act → World → Prop) :
 if Region.wanted o (yielded ops a.tmps) then o.wpIn (wf ro) 0 P a w (Aft A n M L w K) Q else Aft A n M L w K (a.put o.dst undef) w := by
 simp only [dstOk, Bool.and_eq_true] at hdst
 have hd : ∀ d, o.dst = some d → d < n := by
  intro d hd
  have := hdst.1
  rw [hd] at this
  simpa using this
 have hn : (match o.op with | .store .. | .mapUpdate .. => o.dst = none | _ => True) := by
  have := hdst.2
  split at this <;> first | trivial | skip
  ·simpa using this
  ·simpa using this
 unfold compG at hg
 split at hg
 ·rename_i hgd
  cases hg
  rw [if_pos (by simp [Region.wanted, hgd])]
  exact comp1_sound o hp hf hd hn h
 ·rename_i j want hgd
  split at hg <;> cases hg
  rename_i g hgj
  simp only [agd, aguard] at h
  split at h
  rotate_left
  ·rename_i hb
   have hy := yielded_undef hgj hf hb
   rw [if_neg (by simp [Region.wanted, hgd, hy])]
   obtain ⟨O', hf'⟩ := hf.put0 (dst := o.dst) (v := undef) (x := .tuple []) hd (.tuple [] [] .nil) (by intro _ _ e; cases e)
   exact ⟨M, L, H, _, O', h, hf', Ext.refl A M w, List.prefix_refl L⟩
  ·exact h.elim
  rename_i b hb
  have hy := yielded_bool hgj hf hb
  have hupd : get ((g, AV.bool b) :: env) = get env := by
   rw [get_cons]; funext t; simp only [upd]; split
   ·rename_i e; rw [e, hb]
   ·rfl
  by_cases hw : b = want
  ·subst hw
   rw [if_pos (by simp [Region.wanted, hgd, hy])]
   exact comp1_sound o hp (hf.env_eq hupd) hd hn (h.1 rfl)
  ·have hbw : b = !want := by cases b <;> cases want <;> simp_all
   subst hbw
   rw [if_neg (by simp [Region.wanted, hgd, hy])]
   obtain ⟨O', hf'⟩ := (hf.env_eq hupd).put0 (dst := o.dst) (v := undef) (x := .tuple []) hd (.tuple [] [] .nil) (by intro _ _ e; cases e)
   exact ⟨M, L, H, _, O', h.2 rfl, hf', Ext.refl A M w, List.prefix_refl L⟩
theorem Aft.trans {K K' : Env → List AObj → Prop} {M' : Mem} {L' : List Nat} {w' : World} {a' : Act} {w'' : World} (hext : Ext A M w M' w') (hL : L <+: L') (h : Aft A n M' L' w' K a' w'') : Aft A n M L w K a' w'' := by
 obtain ⟨M2, L2, H2, env2, O2, h1, h2, h3, h4⟩ := h
 exact ⟨M2, L2, H2, env2, O2, h1, h2, hext.trans h3, hL.trans h4⟩
theorem setRow_push (w : World) (c c' : Array Value) (e : TypeId) : ({ w with heap := w.heap.push (.cells c e) } : World).setRow w.heap.size c' = { w with heap := w.heap.push (.cells c' e) } := by
 simp only [World.setRow]
 congr 1
 apply Array.ext
 ·simp
 ·intro i h1 h2
  rw [Array.getElem_modify]
  by_cases hi : w.heap.size = i
  ·subst hi; simp
  ·simp only [hi, if_false]
   have : i < w.heap.size := by simp at h2; omega
   rw [Array.getElem_push_lt this, Array.getElem_push_lt this]
theorem fuse_sound {ops : Array Oper} {o o' : Oper} {x : IOper} (hx : fuse P ops n 2 o o' = some x) (hf : Fr A n M L w H env O a) {K : Env → List AObj → Prop} (h : agd ⟨P, lo⟩ x env H K) (r : List Oper) (Q : Exit → Act → World → Prop)
 (hrest : ∀ a' w', Aft A n M L w K a' w' → wpListIn (wf ro) 0 P ops Q r a' w') : wpListIn (wf ro) 0 P ops Q (o :: o' :: r) a w := by
 unfold fuse at hx
 split at hx <;> try cases hx
 rename_i e d t d' y _ hop hdst hgd hop' hdst' hgd'
 split at hx <;> try cases hx
 rename_i hcond
 obtain ⟨rfl, hdn, rfl⟩ := hcond
 split at hx <;> try cases hx
 rename_i i m z hi hm hz
 split at hx <;> cases hx
 rename_i hcond
 obtain ⟨hne, hzl, hzv, hm0⟩ := hcond
 simp only [agd, aop] at h
 obtain ⟨hval, hcl, hone, hK⟩ := h
 have hr := hf.eval hi
 have hvc := hr.vcells hval
 have hvl := hvc.length
 -- the zero value
 obtain ⟨inf, hinf, hsz⟩ := Option.map_eq_some_iff.1 hm
 unfold tzero at hz
 simp only [hinf] at hz
 split at hz <;> try cases hz
 rename_i zv hzv'
 have hzs : zv.cells.size = m := by have := ((ofValue_rep (M := M) (L := L) hz).vcells hzv).length; rw [hzl] at this; simpa using this
 have hrun1 : (execOp a.eval o).run P w = .ok (.value (.pointer (some ⟨w.heap.size, 0, none⟩))) { w with heap := w.heap.push (.cells zv.cells t) } := by
  simp only [execOp, hop]
  exact value_of (by simp only [Instr.alloc, zeroValue, typeInfo, Sem.run_bind, run_program, Result.andThen_ok, hinf, Sem.run_pure, hzv']; rfl)
 have hsize : d < a.tmps.size := by rw [hf.size]; exact hdn
 have hev1 : (a.put (some d) (.pointer (some ⟨w.heap.size, 0, none⟩))).eval (.tmp d) = .pointer (some ⟨w.heap.size, 0, none⟩) := by
  show (a.put (some d) _).tmps.getD d undef = _
  rw [getD_put a d _ hsize d]; simp [upd]
 have hev2 : (a.put (some d) (.pointer (some ⟨w.heap.size, 0, none⟩))).eval y = a.eval y := by
  cases y with
  | tmp s =>
    simp [compX] at hi; subst hi
    simp [notSlot] at hne
    show (a.put (some d) _).tmps.getD s undef = a.tmps.getD s undef
    rw [getD_put a d _ hsize s]; simp [upd, hne]
  | _ => rfl
 have hst := run_storeCells_at P w.heap.size 0 t (a.eval y).cells.toList 0 zv.cells { w with heap := w.heap.push (.cells zv.cells t) } (heap_push_new w _) (by simp at hvl ⊢; omega) (hvc.oneCell hone)
 have hwhole : (zv.cells.toList.take (0 + 0) ++ (a.eval y).cells.toList ++ zv.cells.toList.drop (0 + 0 + (a.eval y).cells.toList.length)).toArray = (a.eval y).cells := by
  have : zv.cells.toList.drop (0 + 0 + (a.eval y).cells.toList.length) = [] := List.drop_eq_nil_of_le (by simp at hvl ⊢; omega)
  rw [this]; simp
 rw [hwhole, setRow_push] at hst
 have hrun2 : (execOp (a.put (some d) (.pointer (some ⟨w.heap.size, 0, none⟩))).eval o').run P { w with heap := w.heap.push (.cells zv.cells t) } = .ok .skip { w with heap := w.heap.push (.cells (a.eval y).cells t) } := by
  simp only [execOp, hop', hev1, hev2]
  refine skip_of ?_
  have hs : (sizeOf t).run P { w with heap := w.heap.push (.cells zv.cells t) } = .ok m { w with heap := w.heap.push (.cells zv.cells t) } := by simp [sizeOf, typeInfo, hinf, hsz]
  simp only [Instr.storeAt, Instr.sureAddr, storeVar, Sem.run_bind, Sem.run_pure, Result.andThen_ok, hs, ne_eq]
  rw [if_neg (by simp at hvl; omega)]
  exact hst
 obtain ⟨g1, g2, g3⟩ := hf.st.addImm (a.eval y).cells t
 have hrep : Rep (M.add w.heap.size (a.eval y).cells.toList) L (.pointer (some ⟨w.heap.size, 0, none⟩)) (.iptr (aval env i)) := .iptr _ _ _ _ (hvc.mono g2.msub (List.prefix_refl _)) g3
 obtain ⟨O', hf'⟩ := (hf.mono g1 g2).put0 (dst := some d) (fun d' e => by cases e; exact hdn) hrep (by intro _ _ e; cases e)
 have hfin := hrest _ _ ⟨_, L, H, _, O', hK, hf', g2, List.prefix_refl L⟩
 unfold wpListIn
 rw [if_pos (by simp [Region.wanted, hgd])]
 refine wpIn_run hrun1 (by intro d e; cases e) ?_
 rw [Oper.uponIn_value, hdst]
 unfold wpListIn
 rw [if_pos (by simp [Region.wanted, hgd'])]
 refine wpIn_run hrun2 (by intro d e; cases e) ?_
 rw [Oper.uponIn_skip, hdst']
 exact hfin
theorem aops_sound {ops : Array Oper} {an : Ann} {rid : Nat} {fu : Bool} (hp : ∀ l, lo = some l → ∀ id, l ≤ id → A.top id = none) (Q : Exit → Act → World → Prop) : ∀ (fuel k : Nat) (l : List Oper) (il : List IOper), compOps P ops an n rid fu fuel k l = some il → ∀ {M : Mem} {L : List Nat} {w : World} {H : List AObj} {env : Env} {O : Pos → Option Nat} {a : Act} (K : Env → List AObj → Prop),
 Fr A n M L w H env O a → aops ⟨P, lo⟩ il env H K → (∀ a' w', Aft A n M L w K a' w' → Q .normal a' w') → wpListIn (wf ro) 0 P ops Q l a w
 | _, _, [], il, hc, M, L, w, H, env, O, a, K, hf, h, hQ => by
   unfold compOps at hc
   cases hc
   exact hQ a w ⟨M, L, H, env, O, h, hf, Ext.refl A M w, List.prefix_refl L⟩
 | 0, _, o :: r, il, hc, _, _, _, _, _, _, _, _, _, _, _ => by simp [compOps] at hc
 | fuel + 1, k, o :: r, il, hc, M, L, w, H, env, O, a, K, hf, h, hQ => by
   unfold compOps at hc
   split at hc
   ·-- a new variable with its first value
    split at hc <;> try cases hc
    rename_i o' r'
    split at hc <;> cases hc
    rename_i x xs hx hxs
    simp only [aops] at h
    refine fuse_sound hx hf h r' Q ?_
    rintro a' w' ⟨M', L', H', env', O', k1, k2, k3, k4⟩
    exact aops_sound hp Q fuel (k + 2) r' xs hxs K k2 k1 (fun a2 w2 h2 => hQ a2 w2 (Aft.trans (K' := K) k3 k4 h2))
   ·split at hc <;> try cases hc
    rename_i g xs hg hxs
    split at hc <;> cases hc
    rename_i hdst
    simp only [aops] at h
    have h1 := agd_sound (ro := ro) (ops := ops) hg hdst hp hf h Q
    have hrest : ∀ a' w', Aft A n M L w (fun env H => aops ⟨P, lo⟩ xs env H K) a' w' → wpListIn (wf ro) 0 P ops Q r a' w' := by
     rintro a' w' ⟨M', L', H', env', O', k1, k2, k3, k4⟩
     exact aops_sound hp Q fuel (k + 1) r xs hxs K k2 k1 (fun a2 w2 h2 => hQ a2 w2 (Aft.trans (K' := K) k3 k4 h2))
    unfold wpListIn
    split
    ·rename_i hw
     rw [if_pos hw] at h1
     exact Oper.wpIn_mono hrest h1
    ·rename_i hw
     rw [if_neg hw] at h1
     exact ⟨fun _ _ => trivial, hrest _ _ h1⟩
theorem Post.trans {A' : Perm} {M0 M1 : Mem} {L0 : List Nat} {w0 w1 : World} {Q : Exit → Env → List AObj → Prop} {e : Exit} {a : Act} {w : World} (hl : A'.Le A) (hx : Ext A M0 w0 M1 w1) (hp : Post A' n M1 L0 w1 Q e a w) : Post A n M0 L0 w0 Q e a w := by
 obtain ⟨A2, M, L, H, env, O, hA, h1, h2, h3, h4⟩ := hp
 exact ⟨A2, M, L, H, env, O, hA.trans hl, h1, h2, hx.trans (h3.le hl), h4⟩
theorem fitsX.le {n0 : Nat} {A' : Perm} (h : fitsX lo n0 A) (hl : A'.Le A) : fitsX lo n0 A' := by
 unfold fitsX at *
 rw [hl.1]
 exact h
def Own (ro : Option Nat) (w : World) : Prop := ∀ l, ro = some l → ∃ r, w.heap[l]? = some (.loop r)
theorem Own.ext {M' : Mem} {w' : World} (h : Own ro w) (hx : Ext A M w M' w') : Own ro w' := fun l hl => by
 obtain ⟨r, hr⟩ := h l hl
 obtain ⟨r', hr', _⟩ := hx.loops l r hr
 exact ⟨r', hr'⟩
theorem least_nat (p : Nat → Prop) (h : ∃ k, p k) : ∃ k, p k ∧ ∀ j, p j → k ≤ j := by
 obtain ⟨k, hk⟩ := h
 induction k using Nat.strongRecOn with
 | _ k ih =>
   by_cases hl : ∃ j, j < k ∧ p j
   ·obtain ⟨j, hj, hp⟩ := hl
    exact ih j hj hp
   ·exact ⟨k, hk, fun j hj => by
     rcases Nat.lt_or_ge j k with h' | h'
     ·exact absurd ⟨j, h', hj⟩ hl
     ·exact h'⟩
theorem wpIn_loop_ix {F : Fence} {k : Nat} {c : Code} {Q : Exit → Act → World → Prop} {w : World} {a : Act} {ι : Type} (I : ι → Act → World → Prop) (μ : ι → Nat)
 (round : ∀ i a w, I i a w → c.wpIn F k P (Exit.then (fun a' w' => ∃ j, I j a' w' ∧ μ j < μ i) Q) a w) (i0 : ι) (h0 : I i0 a w) : (Code.loop c).wpIn F k P Q a w := by
 let p : Act → World → Nat → Prop := fun a w k => ∃ i, I i a w ∧ μ i = k
 let ν : Act → World → Nat := fun a w => Classical.epsilon fun k => p a w k ∧ ∀ j, p a w j → k ≤ j
 have hν : ∀ a w, (∃ i, I i a w) → p a w (ν a w) ∧ ∀ j, p a w j → ν a w ≤ j := by
  rintro a w ⟨i, hi⟩
  exact Classical.epsilon_spec (least_nat (p a w) ⟨μ i, i, hi, rfl⟩)
 refine wpIn_loop (fun a w => ∃ i, I i a w) ν ⟨i0, h0⟩ ?_
 intro a w hI
 obtain ⟨⟨i, hi, hμ⟩, _⟩ := hν a w hI
 refine Go.wpIn_mono (round i a w hi) ?_
 intro e a' w' h
 cases e with
 | normal =>
   obtain ⟨j, hj, hlt⟩ := h
   refine ⟨⟨j, hj⟩, ?_⟩
   have := (hν a' w' ⟨j, hj⟩).2 (μ j) ⟨j, hj, rfl⟩
   omega
 | _ => exact h
def DrawSound (P : Program) (ro lo : Option Nat) (A : Perm) (n : Nat) (L0 : List Nat) : Prop :=
 ∀ {id : Nat} {ops : Array Oper} {il : List IOper} {p : Plan} {live : Option (List Nat)} {an : Ann} {M : Mem} {L : List Nat} {w : World} {H : List AObj} {env : Env} {O : Pos → Option Nat} {a : Act} {M0 : Mem} {w0 : World} {Q : Exit → Env → List AObj → Prop},
  P.follows .mixedOrders = true → pokM (ops.toList.map fun o => amask o.after.toList) (rmasks ops.toList []) il ops.size 0 none p = true → compOps P ops an n id false (ops.size + 1) 0 ops.toList = some il → awp ⟨P, lo⟩ L0.length (.draw (inst il p) live) env H Q → Fr A n M L w H env O a → Ext A M0 w0 M w → L0 <+: L → (Code.region id ops true).wpIn (wf ro) 0 P (Post A n M0 L0 w0 Q) a w
theorem range_sound {L0 : List Nat} (hA : fitsX lo L0.length A) {f : Operand} {ps : Array Tmp} {as bd : Code} {an : Ann} {lv : Lives} {pl : Plans} {i : IX} (hi : compX f = some i) {Q : Exit → Env → List AObj → Prop}
 (hro : Own ro w) (h : awp ⟨P, lo⟩ L0.length (.rangeF i ⟨n, ps.toList, as, bd, an, lv, pl⟩) env H Q) (hf : Fr A n M L w H env O a) (hL : L0 <+: L) : (Code.rangeFunc f ps as bd).wpIn (wf ro) 0 P (Post A n M L0 w Q) a w := by
 have hrf := hf.eval hi
 simp only [awp] at h
 split at h <;> try exact h.elim
 rename_i g first cap hfx
 obtain ⟨hcf, args', hle, hcall⟩ := h
 rw [hfx] at hrf
 generalize hu : a.eval f = u at hrf
 cases hrf with
 | fn _ fs cs _ _ hr1 hr2 =>
 refine wpIn_rangeFunc fun fn _ => ?_
 -- the record
 have enter : ∃ (l : Nat) (mark : List Deferred) (w1 : World) (A1 : Perm), (Instr.enterLoop fn a.tmps ps as bd ro).run P w = .ok (l, mark) w1 ∧ A1.Le A ∧
  Fr A1 n M (L ++ [l]) w1 (H ++ [.loop .ready ⟨n, ps.toList, as, bd, an, lv, pl⟩ (envL n env)]) env O { a with defers := mark ++ a.defers } ∧ Ext A M w M w1 := by
  have hes : RepL M L a.tmps.toList (envL n env) := by
   refine RepL.of_get (by simp [envL, hf.size]) fun j x hx => ?_
   simp only [envL, List.getElem?_map] at hx
   obtain ⟨t, ht, rfl⟩ := Option.map_eq_some_iff.1 hx
   obtain ⟨hjl, rfl⟩ := List.getElem?_eq_some_iff.1 ht
   simp only [List.length_range] at hjl
   simp only [List.getElem_range]
   have := (hf.st.env j).unown
   refine ⟨a.tmps.getD j undef, ?_, this⟩
   rw [Array.getD_eq_getD_getElem?, Array.getElem?_toList, Array.getElem?_eq_getElem (by rw [hf.size]; exact hjl)]
   rfl
  have hbl : (AObj.loop .ready ⟨n, ps.toList, as, bd, an, lv, pl⟩ (envL n env)).blw (H.length + 1) = true := by
   simp only [AObj.blw]
   have := hes.blwL
   rw [hf.st.len] at this
   exact belowL_mono (by omega) _ this
  cases ro with
  | none =>
    have hg := hf.st.grow (w' := { w with heap := w.heap.push (.deferred (some [])) }) (Mem.sub_refl M) (fun b o v hv => by
     have h1 := hf.st.mem b o v hv
     simp only [World.cell?] at h1 ⊢
     cases hb : w.heap[b]? with
     | none => rw [hb] at h1; simp at h1
     | some ob => rw [heap_push_lt w _ (Array.getElem?_eq_some_iff.1 hb).1]; exact h1) (by simp) (fun b hb => heap_push_lt w _ hb) (fun _ _ _ => rfl)
    have hx1 : Ext A M w M { w with heap := w.heap.push (.deferred (some [])) } := Ext.grow (Mem.sub_refl M) (by simp) rfl rfl rfl (fun b hb => heap_push_lt w _ hb) (fun _ _ _ => rfl)
    have hb := hg.but (D := w.heap.size) (fun hm => by have := hf.st.lt _ hm; omega) (fun p hp => by have := hf.st.olt _ _ hp; omega) (by simp)
    obtain ⟨g1, g2⟩ := hb.addObj (.loop { state := .ready, pending := none, fn, tmps := a.tmps, params := ps, assign := as, body := bd, defers := w.heap.size }) (.loop .ready ⟨n, ps.toList, as, bd, an, lv, pl⟩ (envL n env))
     (fun w' hw' _ => ⟨_, hw', (Array.toArray_toList).symm, rfl, rfl, hes.mono (Mem.sub_refl M) ⟨_, rfl⟩, rfl, rfl⟩) hbl (fun j => rfl)
    refine ⟨w.heap.size + 1, _, _, A.but w.heap.size, run_enterLoop_outer _ _ _ _ _, A.but_le _, ⟨?_, hf.size, ?_⟩, ?_⟩
    ·have e1 : ({ w with heap := w.heap.push (.deferred (some [])) } : World).heap.size = w.heap.size + 1 := by simp
     rw [e1] at g1
     exact g1
    ·have old := ((hf.defers.ext hx1).le (A.but_le w.heap.size)).ext g2
     refine ⟨old.1, ?_, fun d hd => ?_⟩
     ·show (_ :: a.defers).Nodup
      rw [List.nodup_cons]
      refine ⟨fun hm => ?_, old.2.1⟩
      obtain ⟨D, e, hD, _⟩ := hf.defers.2.2 _ hm
      cases e
      have := (Array.getElem?_eq_some_iff.1 hD).1
      omega
     rcases List.mem_append.1 hd with hd | hd
     ·rw [List.mem_singleton] at hd
      subst hd
      refine ⟨w.heap.size, rfl, ?_, (fun h => h.2 rfl), (show A.base ≤ w.heap.size from hf.defers.1)⟩
      show ((w.heap.push _).push _)[w.heap.size]? = _
      rw [Array.getElem?_push_lt (by simp)]
      simp
     ·exact old.2.2 d hd
    ·exact hx1.trans (g2.le (A.but_le _))
  | some l0 =>
    obtain ⟨r0, hr0⟩ := hro l0 rfl
    obtain ⟨g1, g2⟩ := hf.st.addObj (.loop { state := .ready, pending := none, fn, tmps := a.tmps, params := ps, assign := as, body := bd, defers := r0.defers }) (.loop .ready ⟨n, ps.toList, as, bd, an, lv, pl⟩ (envL n env))
     (fun w' hw' _ => ⟨_, hw', (Array.toArray_toList).symm, rfl, rfl, hes.mono (Mem.sub_refl M) ⟨_, rfl⟩, rfl, rfl⟩) hbl (fun j => rfl)
    exact ⟨w.heap.size, [], _, A, run_enterLoop_inner hr0 _ _ _ _ _, Perm.Le.refl A, ⟨g1, hf.size, by simpa using hf.defers.ext g2⟩, g2⟩
 obtain ⟨l, mark, w1, A1, he, hle1, hf1, hx1⟩ := enter
 have hll : L.length = H.length := hf.st.len
 have hl1 : (L ++ [l])[H.length]? = some l := by rw [← hll]; simp
 have hA1 : fitsX lo L0.length A1 := hA.le hle1
 obtain ⟨loose, hlo, hcall⟩ : ∃ loose : Bool, (loose = true → ∀ id, (H ++ [AObj.loop .ready ⟨n, ps.toList, as, bd, an, lv, pl⟩ (envL n env)]).length ≤ id → A1.top id = none) ∧
  CallsX loose P g args' (H ++ [.loop .ready ⟨n, ps.toList, as, bd, an, lv, pl⟩ (envL n env)]) fun _ H' => behind H.length H' fun j H'' => goOn j Q env H'' := by
  unfold XCalls at hcall
  split at hcall
  ·exact ⟨false, by simp, hcall⟩
  ·rename_i l' hl'
   rcases hcall with hcall | ⟨h1, hcall⟩
   ·exact ⟨false, by simp, hcall⟩
   ·exact ⟨true, fun _ id hid => hA1.opens l' hl' id (by omega), hcall⟩
 have hry : RepL M (L ++ [l]) (fs ++ [.func (.yield l) #[] #[]]) (first ++ [.yld H.length]) :=
  (hr1.mono (Mem.sub_refl M) ⟨_, rfl⟩).append (.one (.yld l _ hl1))
 obtain ⟨Oc, hvl, hst, fin⟩ := call_prep (o := (⟨none, .move f, 0, "", #[], none⟩ : Oper)) (K := fun env' H' => env' = env ∧ behind H.length H' fun j H'' => goOn j Q env H'') (xs := []) (js := []) rfl (pass := none) hry (hr2.mono (Mem.sub_refl M) ⟨[l], rfl⟩)
  (by simpa [baseArgs, AV.unown] using hle) hf1 (fun d e => by cases e) hlo
 obtain ⟨vs, hvs⟩ : ∃ vs : List Value, vs = fs ++ [.func (.yield l) #[] #[]] ++ cs := ⟨_, rfl⟩
 simp only [List.map_nil, List.append_nil] at hvl hst
 rw [← hvs] at hvl hst
 refine ⟨l, mark, w1, { target := .fn (.func g) cs.toArray, args := fs.toArray ++ #[.func (.yield l) #[] #[]] }, w1, g, vs.toArray, w1, he, ?_, fun _ _ => trivial, ?_, (fun h => by cases h), ?_⟩
 ·have ec : a.eval (.const (.func (.yield l) #[] #[])) = .func (.yield l) #[] #[] := rfl
  simp [resolve, hu, Deferred.ofValue, ec]
 ·have e1 : (fs.toArray ++ #[.func (.yield l) #[] #[]] ++ cs.toArray : Array Value) = vs.toArray := by
   apply Array.ext'; simp [hvs]
  simp only [invoke]
  rw [e1]
  exact hcf _ _
 ·rcases hcall (calleeA A1 loose (H ++ [AObj.loop .ready ⟨n, ps.toList, as, bd, an, lv, pl⟩ (envL n env)]) (L ++ [l]) Oc w1) M (L ++ [l]) w1 vs.toArray Oc (calleeA_entry A1 loose _ _ Oc w1) (by simpa using hvl) hst with ⟨_, hc⟩ | ⟨v, w', r, H', M', L', O', h1, _⟩
  ·have hc2 : CallsIn (wf ro) (0 - 1) P g vs.toArray w1 _ := callsIn_wide.2 hc
   refine CallsIn.mono hc2 fun e w' he => ?_
   obtain ⟨v, r, H', M', L', O', rfl, hK, hst', hext, hL'⟩ := he
   obtain ⟨M2, L2, H2, env2, O2, ⟨rfl, hb⟩, hf2, hx2, hL2⟩ := fin v r H' M' L' O' w' ⟨rfl, hK⟩ hst' hext hL'
   have hl2 : L2[H.length]? = some l := prefix_get hL2 hl1
   have hpre : L0 <+: L2 := hL.trans ((List.prefix_append L [l]).trans hL2)
   unfold behind at hb
   split at hb
   ·rename_i lc es hrec
    obtain ⟨r, q1, q2, q3, q4, q5, q6⟩ := hf2.st.obj _ _ l hrec hl2
    obtain ⟨k1, k2⟩ := hf2.st.writeLoop (st' := .over) (r' := { r with state := .exhausted }) hrec hl2 (fun r2 hr2 => by rw [q1] at hr2; cases hr2; exact ⟨rfl, rfl, rfl, rfl, rfl, trivial⟩)
    exact ⟨none, _, (run_endLoop q1 (by rw [q6.1]; simp)).trans (congrArg (fun p => Result.ok p _) q6.2), A1, M2, L2, _, env2, O2, hle1, hb, ⟨k1, hf2.size, hf2.defers.ext k2⟩, hx1.trans ((hx2.trans k2).le hle1), hpre⟩
   ·rename_i c lc es hrec
    obtain ⟨r, q1, q2, q3, q4, q5, q6⟩ := hf2.st.obj _ _ l hrec hl2
    obtain ⟨k1, k2⟩ := hf2.st.writeLoop (st' := .over) (r' := { r with state := .exhausted }) hrec hl2 (fun r2 hr2 => by rw [q1] at hr2; cases hr2; exact ⟨rfl, rfl, rfl, rfl, rfl, trivial⟩)
    refine ⟨some c, _, (run_endLoop q1 (by rw [q6.1]; simp)).trans (congrArg (fun p => Result.ok p _) q6.2), ?_⟩
    unfold goOn at hb
    split at hb
    ·rename_i e; cases e
    ·rename_i e; cases e
     exact wpIn_ret ⟨A1, M2, L2, _, env2, O2, hle1, hb, ⟨k1, hf2.size, hf2.defers.ext k2⟩, hx1.trans ((hx2.trans k2).le hle1), hpre⟩
    ·rename_i e; cases e
     exact wpIn_exit ⟨A1, M2, L2, _, env2, O2, hle1, hb, ⟨k1, hf2.size, hf2.defers.ext k2⟩, hx1.trans ((hx2.trans k2).le hle1), hpre⟩
    ·exact hb.elim
   ·exact hb.elim
  ·rw [hcf] at h1; cases h1
theorem sound {L0 : List Nat} (hdraw : ∀ A, fitsX lo L0.length A → DrawSound P ro lo A n L0) {an : Ann} {lv : Lives} {pl : Plans} : ∀ (c : Code) (ir : IR), comp P an lv pl n c = some ir → ∀ {A : Perm} {M : Mem} {L : List Nat} {w : World} {H : List AObj} {env : Env} {O : Pos → Option Nat} {a : Act} {Q : Exit → Env → List AObj → Prop},
 fitsX lo L0.length A → Own ro w → awp ⟨P, lo⟩ L0.length ir env H Q → Fr A n M L w H env O a → L0 <+: L → c.wpIn (wf ro) 0 P (Post A n M L0 w Q) a w := by
 intro c
 induction c with
 | skip =>
   intro ir hc A M L w H env O a Q hA hro h hf hL
   simp only [comp] at hc; cases hc
   exact wpIn_skip ⟨A, M, L, H, env, O, .refl A, h, hf, Ext.refl A M w, hL⟩
 | exit id =>
   intro ir hc A M L w H env O a Q hA hro h hf hL
   simp only [comp] at hc; cases hc
   exact wpIn_exit ⟨A, M, L, H, env, O, .refl A, h, hf, Ext.refl A M w, hL⟩
 | ret =>
   intro ir hc A M L w H env O a Q hA hro h hf hL
   simp only [comp] at hc; cases hc
   exact wpIn_ret ⟨A, M, L, H, env, O, .refl A, h, hf, Ext.refl A M w, hL⟩
 | region id ops draw =>
   intro ir hc A M L w H env O a Q hA hro h hf hL
   cases draw with
   | true =>
     simp only [comp] at hc
     split at hc <;> try cases hc
     rename_i il hil
     split at hc <;> cases hc
     rename_i hm
     exact hdraw A hA hm.1 hm.2 hil h hf (Ext.refl A M w) hL
   | false =>
     simp only [comp] at hc
     obtain ⟨il, hil, rfl⟩ := Option.map_eq_some_iff.1 hc
     simp only [awp] at h
     refine wpIn_region_list (aops_sound hA.opens _ _ _ _ _ hil _ hf h ?_)
     rintro a' w' ⟨M', L', H', env', O', h1, h2, h3, h4⟩
     obtain ⟨O'', h5⟩ := h2.weaken (get_prune (lv.at_ id) env')
     exact ⟨A, M', L', H', _, O'', .refl A, h1, h5, h3, hL.trans h4⟩
 | seq x y ihx ihy =>
   intro ir hc A M L w H env O a Q hA hro h hf hL
   simp only [comp] at hc
   split at hc <;> cases hc
   rename_i x' y' hx hy
   simp only [awp] at h
   refine wpIn_seq (Go.wpIn_mono (ihx _ hx hA hro h hf hL) ?_)
   rintro e a' w' ⟨A', M', L', H', env', O', hl, h1, h2, h3, h4⟩
   cases e with
   | normal => exact Go.wpIn_mono (ihy _ hy (hA.le hl) (hro.ext h3) h1 h2 h4) fun e a w hp => hp.trans hl h3
   | _ => exact ⟨A', M', L', H', env', O', hl, h1, h2, h3, h4⟩
 | cond x c d ihc ihd =>
   intro ir hc A M L w H env O a Q hA hro h hf hL
   simp only [comp] at hc
   split at hc <;> cases hc
   rename_i i c' d' hi hc' hd'
   simp only [awp] at h
   obtain ⟨q, hq, h⟩ := boolP_inv h
   have hr := hf.eval hi
   rw [hq] at hr
   generalize hu : a.eval x = u at hr
   cases hr
   refine wpIn_cond_split hu (fun e => ihc _ hc' hA hro (h.1 e) hf hL) (fun e => ihd _ hd' hA hro (h.2 e) hf hL)
 | block id c ih =>
   intro ir hc A M L w H env O a Q hA hro h hf hL
   simp only [comp] at hc
   obtain ⟨c', hc', rfl⟩ := Option.map_eq_some_iff.1 hc
   simp only [awp] at h
   refine wpIn_block (Go.wpIn_mono (ih _ hc' hA hro h hf hL) ?_)
   rintro e a' w' ⟨A', M', L', H', env', O', hl, h1, h2, h3, h4⟩
   cases e with
   | exit id' =>
     simp only [Exit.inBlock]
     simp only at h1
     split at h1
     ·rename_i e; rw [if_pos e]; exact ⟨A', M', L', H', env', O', hl, h1, h2, h3, h4⟩
     ·rename_i e; rw [if_neg e]; exact ⟨A', M', L', H', env', O', hl, h1, h2, h3, h4⟩
   | _ => exact ⟨A', M', L', H', env', O', hl, h1, h2, h3, h4⟩
 | loop c ih =>
   intro ir hc A M L w H env O a Q hA hro h hf hL
   simp only [comp] at hc
   obtain ⟨c', hc', rfl⟩ := Option.map_eq_some_iff.1 hc
   simp only [awp] at h
   obtain ⟨ι, I, se, sh, μ, ⟨i0, hi0, hs0⟩, hround⟩ := h
   obtain ⟨L', O', hf', hL'⟩ := hf.sle hA hL hs0
   refine wpIn_loop_ix (fun i a' w' => I i ∧ ∃ A' M' L' O', A'.Le A ∧ Fr A' n M' L' w' (sh i) (se i) O' a' ∧ Ext A M w M' w' ∧ L0 <+: L') μ ?_ i0 ⟨hi0, A, M, L', O', .refl A, hf', Ext.refl A M w, hL'⟩
   rintro i a1 w1 ⟨hi, A1, M1, L1, O1, hl1, hf1, hx1, hL1⟩
   refine Go.wpIn_mono (ih _ hc' (hA.le hl1) (hro.ext hx1) (hround i hi) hf1 hL1) ?_
   rintro e a' w' ⟨A', M', L', H', env', O', hl, h1, h2, h3, h4⟩
   cases e with
   | normal =>
     obtain ⟨j, hj, hlt, hs⟩ := h1
     obtain ⟨L2, O2, hf2, hL2⟩ := h2.sle ((hA.le hl1).le hl) h4 hs
     exact ⟨j, ⟨hj, A', M', L2, O2, hl.trans hl1, hf2, hx1.trans (h3.le hl1), hL2⟩, hlt⟩
   | _ => exact ⟨A', M', L', H', env', O', hl.trans hl1, h1, h2, hx1.trans (h3.le hl1), h4⟩
 | rangeFunc f ps as bd =>
   intro ir hc A M L w H env O a Q hA hro h hf hL
   simp only [comp] at hc
   obtain ⟨i, hi, rfl⟩ := Option.map_eq_some_iff.1 hc
   exact range_sound hA hi hro h hf hL
 | _ =>
   intro ir hc A M L w H env O a Q hA hro h
   simp only [comp] at hc
   cases hc
   exact h.elim
end
end Go.Abs
end
section
namespace Go.Abs
open Go
section
variable {φ ψ : AV → Prop} (hm : ∀ z, φ z → ψ z)
include hm
theorem abin_mono {op : BinOp} {x y : AV} (h : abin op x y φ) : abin op x y ψ := by
 unfold abin at *
 split at h <;> (try exact h.elim)
 ·obtain ⟨h0, h⟩ := h
  refine ⟨h0, ?_⟩
  split at h <;> first | exact hm _ h | exact ⟨h.1, hm _ h.2⟩ | exact h.elim
 ·split at h <;> first | exact hm _ h | exact ⟨h.1, hm _ h.2⟩ | exact h.elim
theorem ashift_mono {op : BinOp} {x y : AV} (h : ashift op x y φ) : ashift op x y ψ := by
 unfold ashift at *
 split at h <;> (try exact h.elim)
 obtain ⟨h0, h⟩ := h
 refine ⟨h0, ?_⟩
 split at h <;> first | exact hm _ h | exact h.elim
theorem aeqBool_mono {neq : Bool} {x y : AV} (h : aeqBool neq x y φ) : aeqBool neq x y ψ := by
 unfold aeqBool at *
 split at h <;> first | exact hm _ h | exact h.elim
theorem aeqNil_mono {kd : Nat} {neq : Bool} {x : AV} (h : aeqNil kd neq x φ) : aeqNil kd neq x ψ := by
 unfold aeqNil at *
 split at h
 ·exact hm _ h
 ·split at h
  ·exact ⟨hm _ h.1, hm _ h.2⟩
  ·exact h.elim
theorem aun_mono {op : UnOp} {x : AV} (h : aun op x φ) : aun op x ψ := by
 unfold aun at *
 split at h <;> first | exact hm _ h | exact h.elim
theorem aload_mono {sz : Option Nat} {x : AV} {H : List AObj} (h : aload sz x H φ) : aload sz x H ψ := by
 unfold aload at *
 split at h <;> (try exact h.elim) <;> (split at h <;> (try exact h.elim)) <;> first | exact ⟨h.1, hm _ h.2⟩ | (split at h <;> exact ⟨h.1, hm _ h.2⟩)
theorem afield_mono {off : Nat} {sz : Option Nat} {x : AV} (h : afield off sz x φ) : afield off sz x ψ := by
 unfold afield apart at *
 split at h <;> (try exact h.elim)
 split at h <;> first | exact ⟨h.1, hm _ h.2⟩ | exact ⟨h.1, h.2.1, hm _ h.2.2⟩
theorem afieldAddr_mono {off : Nat} {sz : Option Nat} {x : AV} (h : afieldAddr off sz x φ) : afieldAddr off sz x ψ := by
 unfold afieldAddr apart at *
 split at h <;> (try exact h.elim)
 ·exact hm _ h
 ·split at h <;> first | exact ⟨h.1, hm _ h.2⟩ | exact ⟨h.1, h.2.1, hm _ h.2.2⟩
theorem aindexAddr_mono {esz : Nat} {x i : AV} (h : aindexAddr esz x i φ) : aindexAddr esz x i ψ := by
 unfold aindexAddr at *
 split at h <;> first | exact ⟨h.1, h.2.1, hm _ h.2.2⟩ | exact h.elim
theorem aindexStr_mono {x i : AV} (h : aindexStr x i φ) : aindexStr x i ψ := by
 unfold aindexStr at *
 split at h <;> first | exact ⟨h.1, h.2.1, hm _ h.2.2⟩ | exact h.elim
theorem aindexArr_mono {n : Nat} {x i : AV} (h : aindexArr n x i φ) : aindexArr n x i ψ := by
 unfold aindexArr at *
 split at h <;> first | exact ⟨h.1, h.2.1, h.2.2.1, hm _ h.2.2.2⟩ | exact h.elim
theorem alen_mono {x : AV} {H : List AObj} (h : alen x H φ) : alen x H ψ := by
 unfold alen at *
 split at h <;> (try exact h.elim) <;> (try exact hm _ h)
 ·exact fun hl => hm _ (h hl)
 ·split at h <;> first | exact hm _ h | exact h.elim
theorem aextract_mono {x : AV} {i : Nat} (h : aextract x i φ) : aextract x i ψ := by
 unfold aextract at *
 split at h <;> first | exact ⟨h.1, hm _ h.2⟩ | exact h.elim
theorem anilCheck_mono {x : AV} (h : anilCheck x φ) : anilCheck x ψ := by
 unfold anilCheck at *
 split at h <;> first | exact hm _ h | exact h.elim
theorem aconvInt_mono {k : IntKind} {x : AV} (h : aconvInt k x φ) : aconvInt k x ψ := by
 unfold aconvInt at *
 split at h <;> first | exact hm _ h | exact h.elim
theorem amx_mono {big : Bool} {x y : AV} (h : amx big x y φ) : amx big x y ψ := by
 unfold amx at *
 split at h <;> first | exact hm _ h | exact h.elim
theorem aconvStr_mono {x : AV} (h : aconvStr x φ) : aconvStr x ψ := by
 unfold aconvStr at *
 split at h <;> first | exact hm _ h | exact h.elim
theorem abytesOf_mono {own : Nat} {x : AV} (h : abytesOf own x φ) : abytesOf own x ψ := by
 unfold abytesOf at *
 split at h <;> first | exact ⟨h.1, hm _ h.2⟩ | exact h.elim
theorem astrOf_mono {x : AV} (h : astrOf x φ) : astrOf x ψ := by
 unfold astrOf at *
 split at h <;> first | exact hm _ h | exact ⟨_, h.choose_spec.1, hm _ h.choose_spec.2⟩ | (obtain ⟨l, h1, h2⟩ := h; exact ⟨l, h1, hm _ h2⟩) | exact ⟨h.1, hm _ h.2⟩ | exact h.elim
theorem amkbuf_mono {esz bytes : Nat} {n : AV} (h : amkbuf esz bytes n φ) : amkbuf esz bytes n ψ := by
 unfold amkbuf at *
 split at h <;> first | exact ⟨h.1, h.2.1, hm _ h.2.2⟩ | exact h.elim
theorem alookup_mono {kd : Nat} {z m k : AV} {ok : Bool} {H : List AObj} (h : alookup kd z m k ok H φ) : alookup kd z m k ok H ψ := by
 unfold alookup at *
 split at h <;> (try exact h.elim) <;> first | exact hm _ h | exact ⟨h.1, hm _ h.2⟩ | (split at h <;> (try exact h.elim) <;> first | exact hm _ h | exact ⟨h.1, hm _ h.2⟩ | (split at h <;> (try exact h.elim) <;> first | exact hm _ h | exact ⟨h.1, hm _ h.2⟩))
end
theorem aidx_mono {x : Option AV} {d : Nat} {φ ψ : Nat → Prop} (hm : ∀ k, φ k → ψ k) (h : aidx x d φ) : aidx x d ψ := by
 unfold aidx at *
 split at h <;> first | exact hm _ h | exact ⟨h.1, hm _ h.2⟩ | exact h.elim
theorem aslice_mono {esz : Nat} {x : AV} {lo hi mx : Option AV} {φ ψ : AV → Prop} (hm : ∀ z, φ z → ψ z) (h : aslice esz x lo hi mx φ) : aslice esz x lo hi mx ψ := by
 unfold aslice at *
 split at h <;> (try exact h.elim)
 refine aidx_mono (fun k h => aidx_mono (fun l h => ⟨h.1, h.2.1, ?_⟩) h) h
 obtain ⟨_, _, h⟩ := h
 split at h
 ·exact hm _ h
 ·exact ⟨h.1, aidx_mono (fun m h => ⟨h.1, h.2.1, hm _ h.2.2⟩) h.2⟩
theorem asliceX_mono {esz : Nat} {x : AV} {lo hi mx : Option AV} {φ ψ : AV → Prop} (hm : ∀ z, φ z → ψ z) (h : asliceX esz x lo hi mx φ) : asliceX esz x lo hi mx ψ := by
 unfold asliceX aslicea aslicem at *
 split at h
 ·split at h
  ·exact aidx_mono (fun k h => aidx_mono (fun l h => ⟨h.1, h.2.1, hm _ h.2.2⟩) h) h
  ·exact ⟨h.1, aidx_mono (fun m h => aidx_mono (fun k h => aidx_mono (fun l h => ⟨h.1, h.2.1, h.2.2.1, hm _ h.2.2.2⟩) h) h) h.2⟩
 ·exact ⟨h.1, aslice_mono hm h.2⟩
theorem asliceStr_mono {x : AV} {lo hi : Option AV} {φ ψ : AV → Prop} (hm : ∀ z, φ z → ψ z) (h : asliceStr x lo hi φ) : asliceStr x lo hi ψ := by
 unfold asliceStr at *
 split at h <;> (try exact h.elim)
 exact aidx_mono (fun k h => aidx_mono (fun l h => ⟨h.1, h.2.1, hm _ h.2.2⟩) h) h
theorem afill_mono {φ ψ : List AV → Prop} (hm : ∀ z, φ z → ψ z) : ∀ {ps : List (Nat × Nat × AV)} {zs : List AV}, afill zs ps φ → afill zs ps ψ
 | [], zs, h => hm _ h
 | (off, sz, x) :: r, zs, h => ⟨h.1, h.2.1, h.2.2.1, afill_mono hm h.2.2.2⟩
theorem abslice_mono {esz : Nat} {φ ψ : List AV → Prop} (hm : ∀ z, φ z → ψ z) : ∀ {ps : List (Nat × AV)} {zs : List AV}, abslice zs esz ps φ → abslice zs esz ps ψ
 | [], zs, h => hm _ h
 | (i, x) :: r, zs, h => ⟨h.1, h.2.1, h.2.2.1, abslice_mono hm h.2.2.2⟩
def updO (τ : Nat → AV) (dst : Option Nat) (x : AV) : Nat → AV := match dst with | some d => upd τ d x | none => τ
theorem get_put (env : Env) (dst : Option Nat) (x : AV) : get (put dst x env) = updO (get env) dst x := by cases dst <;> rfl
theorem opt_look {lo : Option IX} {env : Env} {ρ : IX → AV} (h : ∀ i ∈ lo.toList, aval env i = ρ i) : lo.map ρ = optX env lo := by
 cases lo with
 | none => rfl
 | some i => simp [optX, h i (by simp)]
theorem map_look {is : List IX} {env : Env} {ρ : IX → AV} (h : ∀ i ∈ is, aval env i = ρ i) (g : AV → AV) : (is.map fun x => g (aval env x)) = is.map fun x => g (ρ x) := by
 apply List.map_congr_left
 intro i hi
 rw [h i hi]
theorem baseArgs_no (env : Env) : ∀ (is : List IX) (j : Nat), baseArgs env none j is = is.map fun x => (aval env x).unown
 | [], _ => rfl
 | .t s :: r, j => by simp [baseArgs, baseArgs_no env r, aval]
 | .c v :: r, j => by simp [baseArgs, baseArgs_no env r, aval]
theorem dval_aop {P : Px} {o : IOp} {dst : Option Nat} {ρ : IX → AV} {env : Env} {H : List AObj} {x : AV} (h : dval P o ρ H x) (hρ : ∀ i ∈ o.all, aval env i = ρ i) :
 aop P o dst env H fun e h => h = H ∧ get e = get (put dst x env) := by
 have key : ∀ z, z = x → (H = H ∧ get (put dst z env) = get (put dst x env)) := fun z e => ⟨rfl, e ▸ rfl⟩
 cases o with
 | set i take =>
   cases take with
   | true => exact h.elim
   | false =>
     simp only [dval, IOp.all, List.mem_singleton, forall_eq] at h hρ
     rw [← hρ] at h
     unfold aop
     cases dst with
     | none => exact ⟨rfl, rfl⟩
     | some d =>
       subst h
       refine ⟨rfl, ?_⟩
       cases i <;> rfl
 | pick c a b =>
   simp only [dval, IOp.all, List.mem_cons, List.not_mem_nil, or_false, forall_eq_or_imp, forall_eq] at h hρ
   obtain ⟨h1, h2, h3⟩ := hρ
   rw [← h1, ← h2, ← h3] at h
   obtain ⟨q, hq, h⟩ := boolP_inv h
   show boolP (aval env c) _
   rw [hq]
   exact ⟨fun e => key _ (h.1 e), fun e => key _ (h.2 e)⟩
 | bin op i j =>
   simp only [dval, IOp.all, List.mem_cons, List.not_mem_nil, or_false, forall_eq_or_imp, forall_eq] at h hρ
   obtain ⟨h1, h2⟩ := hρ
   rw [← h1, ← h2] at h
   exact abin_mono key h
 | shift op i j =>
   simp only [dval, IOp.all, List.mem_cons, List.not_mem_nil, or_false, forall_eq_or_imp, forall_eq] at h hρ
   obtain ⟨h1, h2⟩ := hρ
   rw [← h1, ← h2] at h
   exact ashift_mono key h
 | eqBool neq i j =>
   simp only [dval, IOp.all, List.mem_cons, List.not_mem_nil, or_false, forall_eq_or_imp, forall_eq] at h hρ
   obtain ⟨h1, h2⟩ := hρ
   rw [← h1, ← h2] at h
   exact aeqBool_mono key h
 | mx big i j =>
   simp only [dval, IOp.all, List.mem_cons, List.not_mem_nil, or_false, forall_eq_or_imp, forall_eq] at h hρ
   obtain ⟨h1, h2⟩ := hρ
   rw [← h1, ← h2] at h
   exact amx_mono key h
 | indexAddr esz i j =>
   simp only [dval, IOp.all, List.mem_cons, List.not_mem_nil, or_false, forall_eq_or_imp, forall_eq] at h hρ
   obtain ⟨h1, h2⟩ := hρ
   rw [← h1, ← h2] at h
   exact ⟨h.1, aindexAddr_mono key h.2⟩
 | indexStr i j =>
   simp only [dval, IOp.all, List.mem_cons, List.not_mem_nil, or_false, forall_eq_or_imp, forall_eq] at h hρ
   obtain ⟨h1, h2⟩ := hρ
   rw [← h1, ← h2] at h
   exact aindexStr_mono key h
 | indexArr n i j =>
   simp only [dval, IOp.all, List.mem_cons, List.not_mem_nil, or_false, forall_eq_or_imp, forall_eq] at h hρ
   obtain ⟨h1, h2⟩ := hρ
   rw [← h1, ← h2] at h
   exact aindexArr_mono key h
 | lookup kd z i j ok =>
   simp only [dval, IOp.all, List.mem_cons, List.not_mem_nil, or_false, forall_eq_or_imp, forall_eq] at h hρ
   obtain ⟨h1, h2⟩ := hρ
   rw [← h1, ← h2] at h
   exact alookup_mono key h
 | eqNil kd neq i =>
   simp only [dval, IOp.all, List.mem_singleton, forall_eq] at h hρ
   rw [← hρ] at h
   exact aeqNil_mono key h
 | un op i =>
   simp only [dval, IOp.all, List.mem_singleton, forall_eq] at h hρ
   rw [← hρ] at h
   exact aun_mono key h
 | boxi i =>
   simp only [dval, IOp.all, List.mem_singleton, forall_eq] at h hρ
   rw [← hρ] at h
   exact ⟨h.1, key _ h.2⟩
 | load sz i =>
   simp only [dval, IOp.all, List.mem_singleton, forall_eq] at h hρ
   rw [← hρ] at h
   exact aload_mono key h
 | nilCheck i =>
   simp only [dval, IOp.all, List.mem_singleton, forall_eq] at h hρ
   rw [← hρ] at h
   exact anilCheck_mono key h
 | fieldAddr off sz i =>
   simp only [dval, IOp.all, List.mem_singleton, forall_eq] at h hρ
   rw [← hρ] at h
   exact afieldAddr_mono key h
 | field off sz i =>
   simp only [dval, IOp.all, List.mem_singleton, forall_eq] at h hρ
   rw [← hρ] at h
   exact afield_mono key h
 | len kd i =>
   simp only [dval, IOp.all, List.mem_singleton, forall_eq] at h hρ
   rw [← hρ] at h
   exact ⟨h.1, alen_mono key h.2⟩
 | extract i k =>
   simp only [dval, IOp.all, List.mem_singleton, forall_eq] at h hρ
   rw [← hρ] at h
   exact aextract_mono key h
 | convInt k i =>
   simp only [dval, IOp.all, List.mem_singleton, forall_eq] at h hρ
   rw [← hρ] at h
   exact aconvInt_mono key h
 | convStr i =>
   simp only [dval, IOp.all, List.mem_singleton, forall_eq] at h hρ
   rw [← hρ] at h
   exact aconvStr_mono key h
 | bytesOf i =>
   simp only [dval, IOp.all, List.mem_singleton, forall_eq] at h hρ
   rw [← hρ] at h
   exact abytesOf_mono key h
 | mkbuf esz bytes i =>
   simp only [dval, IOp.all, List.mem_singleton, forall_eq] at h hρ
   rw [← hρ] at h
   exact amkbuf_mono key h
 | strOf i =>
   simp only [dval, IOp.all, List.mem_singleton, forall_eq] at h hρ
   rw [← hρ] at h
   exact astrOf_mono key h
 | build z ps =>
   simp only [dval, IOp.all] at h hρ
   have : (ps.map fun q => (q.1, q.2.1, aval env q.2.2)) = ps.map fun q => (q.1, q.2.1, ρ q.2.2) :=
    List.map_congr_left fun q hq => by rw [hρ _ (List.mem_map.2 ⟨q, hq, rfl⟩)]
   show abuild z.cells (ps.map fun q => (q.1, q.2.1, aval env q.2.2)) (fun v => H = H ∧ get (put dst v env) = get (put dst x env))
   rw [this]
   exact afill_mono (fun v h => key _ h) h
 | buildSlice own esz z len ps =>
   simp only [dval, IOp.all] at h hρ
   have : (ps.map fun q => (q.1, aval env q.2)) = ps.map fun q => (q.1, ρ q.2) :=
    List.map_congr_left fun q hq => by rw [hρ _ (List.mem_map.2 ⟨q, hq, rfl⟩)]
   show abslice _ _ (ps.map fun q => (q.1, aval env q.2)) _
   rw [this]
   exact abslice_mono (fun v h => key (.lst own v) h) h
 | slice esz i lo hi mx =>
   simp only [dval, IOp.all, List.mem_cons, List.mem_append, forall_eq_or_imp] at h hρ
   obtain ⟨h1, h2⟩ := hρ
   rw [← h1, opt_look (fun i hi => h2 i (.inl (.inl hi))), opt_look (fun i hi => h2 i (.inl (.inr hi))), opt_look (fun i hi => h2 i (.inr hi))] at h
   exact asliceX_mono key h
 | sliceStr i lo hi =>
   simp only [dval, IOp.all, List.mem_cons, List.mem_append, forall_eq_or_imp] at h hρ
   obtain ⟨h1, h2⟩ := hρ
   rw [← h1, opt_look (fun i hi => h2 i (.inl hi)), opt_look (fun i hi => h2 i (.inr hi))] at h
   exact asliceStr_mono key h
 | fn f first cap =>
   simp only [dval, IOp.all, List.mem_append] at h hρ
   refine key _ ?_
   rw [map_look (fun i hi => hρ i (.inl hi)) AV.unown, map_look (fun i hi => hρ i (.inr hi)) AV.unown]
   exact h
 | call f args pass =>
   cases pass with
   | some _ => exact h.elim
   | none =>
     simp only [dval, IOp.all, List.mem_cons, forall_eq_or_imp] at h hρ
     obtain ⟨h1, h2⟩ := hρ
     rw [← h1] at h
     split at h <;> try exact h.elim
     rename_i g first cap hg
     show acall P (aval env f) args none env H (fun r env' H' => H' = H ∧ get (put dst r env') = get (put dst x env))
     rw [hg]
     obtain ⟨args', hl, hcall⟩ := h
     refine ⟨args', ?_, XCalls.of <| hcall.mono ?_⟩
     ·rw [baseArgs_no, map_look h2 AV.unown]; exact hl
     ·rintro r H' ⟨hr, rfl⟩
      exact key r hr
 | _ => exact h.elim
end Go.Abs
end
section
namespace Go.Abs
open Go
theorem astore_mono {m : Nat} {p x : AV} {H : List AObj} {K K' : List AObj → Prop} (hm : ∀ H', K H' → K' H') (h : astore m p x H K) : astore m p x H K' := by
 unfold astore at *
 split at h <;> (try exact h.elim)
 split at h <;> (try exact h.elim)
 exact ⟨h.1, h.2.1, h.2.2.1, h.2.2.2.1, h.2.2.2.2.1, hm _ h.2.2.2.2.2⟩
theorem aputCell_mono {p x : AV} {H : List AObj} {K K' : List AObj → Prop} (hm : ∀ H', K H' → K' H') (h : aputCell p x H K) : aputCell p x H K' := by
 unfold aputCell at *
 split at h <;> (try exact h.elim)
 split at h <;> (try exact h.elim)
 exact ⟨h.1, h.2.1, h.2.2.1, hm _ h.2.2.2⟩
theorem aappend_mono {esz bytes : Nat} {s x : AV} {φ ψ : List AV → Prop} (hm : ∀ z, φ z → ψ z) (h : aappend esz bytes s x φ) : aappend esz bytes s x ψ := by
 unfold aappend at *
 split at h <;> (try exact h.elim)
 exact ⟨h.1, h.2.1, hm _ h.2.2⟩
theorem aappendA_mono {esz bytes : Nat} {z s x : AV} {H : List AObj} {K K' : AV → List AObj → Prop} (hm : ∀ v H', K v H' → K' v H') (h : aappendA esz bytes z s x H K) : aappendA esz bytes z s x H K' := by
 unfold aappendA at *
 cases hr : rlist x with
 | none =>
   rw [hr] at h
   simp only at h ⊢
   split at h <;> try exact h.elim
   rename_i id off len cap n ys hsrc
   cases hi : H[id]? with
   | none => rw [hi] at h; exact h.elim
   | some ob =>
     rw [hi] at h
     cases ob with
     | cells es =>
       obtain ⟨a, b, c, d, e, f⟩ := h
       exact ⟨a, b, c, d, e, hm _ _ f⟩
     | _ => exact h.elim
 | some ys =>
   rw [hr] at h
   obtain ⟨h1, h⟩ := h
   refine ⟨h1, ?_⟩
   cases s with
   | nils =>
     obtain ⟨a, b, c⟩ := h
     exact ⟨a, fun e => hm _ _ (b e), fun e cap h1 h2 => ⟨(c e cap h1 h2).1, hm _ _ (c e cap h1 h2).2⟩⟩
   | emp =>
     obtain ⟨a, b, c⟩ := h
     exact ⟨a, fun e => hm _ _ (b e), fun e cap h1 h2 => ⟨(c e cap h1 h2).1, hm _ _ (c e cap h1 h2).2⟩⟩
   | arr id off len cap =>
     simp only at h ⊢
     cases hi : H[id]? with
     | none => rw [hi] at h; exact h.elim
     | some ob =>
       rw [hi] at h
       cases ob with
       | cells es =>
         obtain ⟨a, b, c, d, f⟩ := h
         exact ⟨a, b, c, fun e => ⟨(d e).1, hm _ _ (d e).2⟩, fun e cap' h1 h2 => ⟨(f e cap' h1 h2).1, hm _ _ (f e cap' h1 h2).2⟩⟩
       | _ => exact h.elim
   | _ => exact h.elim
theorem aclearA_mono {esz : Nat} {z x : AV} {H : List AObj} {K K' : List AObj → Prop} (hm : ∀ H', K H' → K' H') (h : aclearA esz z x H K) : aclearA esz z x H K' := by
 unfold aclearA at *
 split at h <;> (try exact h.elim)
 split at h <;> (try exact h.elim)
 exact ⟨h.1, h.2.1, h.2.2.1, hm _ h.2.2.2⟩
theorem amkarr_mono {esz bytes : Nat} {z n : AV} {H : List AObj} {K K' : AV → List AObj → Prop} (hm : ∀ v H', K v H' → K' v H') (h : amkarr esz bytes z n H K) : amkarr esz bytes z n H K' := by
 unfold amkarr at *
 split at h <;> (try exact h.elim)
 exact ⟨h.1, h.2.1, h.2.2.1, hm _ _ h.2.2.2⟩
theorem amapset_mono {kd : Nat} {m k x : AV} {H : List AObj} {K K' : List AObj → Prop} (hm : ∀ H', K H' → K' H') (h : amapset kd m k x H K) : amapset kd m k x H K' := by
 unfold amapset at *
 split at h <;> (try exact h.elim)
 split at h <;> (try exact h.elim)
 refine ⟨h.1, h.2.1, h.2.2.1, ?_⟩
 obtain ⟨_, _, _, h⟩ := h
 split at h
 ·exact hm _ h
 ·exact ⟨h.1, hm _ h.2⟩
 ·exact h.elim
theorem acopy_mono {esz : Nat} {d s : AV} {H : List AObj} {K K' : AV → List AObj → Prop} (hm : ∀ v H', K v H' → K' v H') (h : acopy esz d s H K) : acopy esz d s H K' := by
 unfold acopy at *
 split at h <;> (try exact h.elim)
 split at h <;> (try exact h.elim)
 exact ⟨h.1, h.2.1, h.2.2.1, hm _ _ h.2.2.2⟩
theorem asetf1_mono {esz : Nat} {x : AV} {H : List AObj} {K K' : AV → List AObj → Prop} (hm : ∀ v H', K v H' → K' v H') (h : asetf1 esz x H K) : asetf1 esz x H K' := by
 unfold asetf1 at *
 split at h
 ·split at h <;> (try exact h.elim)
  exact ⟨h.1, h.2.1, h.2.2.1, h.2.2.2.1, hm _ _ h.2.2.2.2⟩
 ·exact h.elim
 ·exact hm _ _ h
 ·exact hm _ _ h
theorem asetfL_mono {esz : Nat} : ∀ {xs : List AV} {H : List AObj} {K K' : List AV → List AObj → Prop} (hm : ∀ v H', K v H' → K' v H') (h : asetfL esz xs H K), asetfL esz xs H K'
 | [], H, K, K', hm, h => hm _ _ h
 | x :: r, H, K, K', hm, h => asetf1_mono (fun v H' hk => asetfL_mono (fun vs H'' h2 => hm _ _ h2) hk) h
theorem afrz_mono {e id c : Nat} {H : List AObj} {K K' : List AObj → Prop} (hm : ∀ H', K H' → K' H') (h : afrz e id c H K) : afrz e id c H K' := by
 unfold afrz at *
 split at h <;> (try exact h.elim)
 split at h <;> (try exact h.elim)
 ·exact asetf1_mono (fun v H' hk => ⟨hk.1, hk.2.1, hm _ hk.2.2⟩) h
 ·exact hm _ h
theorem asetf_mono {esz : Nat} {x : AV} {H : List AObj} {K K' : AV → List AObj → Prop} (hm : ∀ v H', K v H' → K' v H') (h : asetf esz x H K) : asetf esz x H K' := by
 unfold asetf at *
 split at h
 ·exact asetfL_mono (fun v H' hk => hm _ _ hk) h
 ·split at h
  ·rename_i hc; rw [if_pos hc]; exact afrz_mono (hm _) h
  ·rename_i hc; rw [if_neg hc]; exact asetf1_mono hm h
 ·exact asetf1_mono hm h
theorem astoreW_mono {l m : Nat} {p x : AV} {H : List AObj} {K K' : List AObj → Prop} (hm : ∀ H', K H' → K' H') (h : astoreW l m p x H K) : astoreW l m p x H K' := by
 unfold astoreW at *
 split at h <;> (try exact h.elim)
 split at h <;> (try exact h.elim)
 exact ⟨h.1, h.2.1, h.2.2.1, h.2.2.2.1, h.2.2.2.2.1, h.2.2.2.2.2.1, hm _ h.2.2.2.2.2.2⟩
theorem baseArgs_eq {env1 env2 : Env} {pass : Option Nat} : ∀ {is : List IX} {j : Nat}, (∀ i ∈ is, aval env2 i = aval env1 i) → baseArgs env2 pass j is = baseArgs env1 pass j is
 | [], _, _ => rfl
 | .t s :: r, j, h => by
   have h1 : get env2 s = get env1 s := h (.t s) (by simp)
   simp only [baseArgs, h1, baseArgs_eq (fun i hi => h i (List.mem_cons_of_mem _ hi))]
 | .c v :: r, j, h => by
   simp only [baseArgs, baseArgs_eq (fun i hi => h i (List.mem_cons_of_mem _ hi))]
theorem opt_look2 {lo : Option IX} {env1 env2 : Env} (h : ∀ i ∈ lo.toList, aval env2 i = aval env1 i) : optX env2 lo = optX env1 lo := by
 cases lo with
 | none => rfl
 | some i => simp [optX, h i (by simp)]
theorem aop_frame {P : Px} {o : IOp} {dst : Option Nat} {env1 env2 : Env} {H : List AObj} {K1 K2 : Env → List AObj → Prop} (hl : ∀ i ∈ o.all, aval env2 i = aval env1 i) (h : aop P o dst env1 H K1)
 (hK : ∀ (mods : List (Nat × AV)) H', (∀ p ∈ mods, dst = some p.1 ∨ p.1 ∈ o.kill) → (o.chg = false → H' = H) → (o.grows = true → ∃ e, H' = H ++ e) → K1 (mods ++ env1) H' → K2 (mods ++ env2) H') : aop P o dst env2 H K2 := by
 have kput : ∀ z H', (o.chg = false → H' = H) → (o.grows = true → ∃ e, H' = H ++ e) → K1 (put dst z env1) H' → K2 (put dst z env2) H' := by
  intro z H' hc hg
  cases hd : dst with
  | none => exact hK [] H' (by simp) hc hg
  | some d => exact hK [(d, z)] H' (by simp [hd]) hc hg
 have kput0 : ∀ z, K1 (put dst z env1) H → K2 (put dst z env2) H := fun z => kput z H (fun _ => rfl) (fun _ => ⟨[], by simp⟩)
 have kenv : ∀ H', (o.chg = false → H' = H) → (o.grows = true → ∃ e, H' = H ++ e) → K1 env1 H' → K2 env2 H' := fun H' hc hg => hK [] H' (by simp) hc hg
 cases o with
 | set i take =>
   simp only [IOp.all, List.mem_singleton, forall_eq] at hl
   simp only [aop] at h ⊢
   cases dst with
   | none => exact kenv H (fun _ => rfl) (fun _ => ⟨[], by simp⟩) h
   | some d =>
     simp only at h ⊢
     cases i with
     | c v => cases take <;> exact kput0 _ h
     | t s =>
       have hs : get env2 s = get env1 s := hl
       cases take with
       | false =>
         have e1 : setE env1 d (.t s) false = put (some d) (get env1 s).unown env1 := rfl
         have e2 : setE env2 d (.t s) false = put (some d) (get env1 s).unown env2 := by simp only [setE, put, aval, hs]
         rw [e2]; rw [e1] at h
         exact kput0 _ h
       | true =>
         have e1 : setE env1 d (.t s) true = [(d, get env1 s), (s, (get env1 s).unown)] ++ env1 := rfl
         have e2 : setE env2 d (.t s) true = [(d, get env1 s), (s, (get env1 s).unown)] ++ env2 := by simp only [setE, hs]; rfl
         rw [e2]; rw [e1] at h
         exact hK _ H (by simp [IOp.kill]) (fun _ => rfl) (fun _ => ⟨[], by simp⟩) h
 | pick c a b =>
   simp only [IOp.all, List.mem_cons, List.not_mem_nil, or_false, forall_eq_or_imp, forall_eq] at hl
   obtain ⟨h1, h2, h3⟩ := hl
   simp only [aop] at h ⊢
   rw [h1, h2, h3]
   obtain ⟨q, hq, h⟩ := boolP_inv h
   rw [hq]
   exact ⟨fun e => kput0 _ (h.1 e), fun e => kput0 _ (h.2 e)⟩
 | bin op i j =>
   simp only [IOp.all, List.mem_cons, List.not_mem_nil, or_false, forall_eq_or_imp, forall_eq] at hl
   simp only [aop] at h ⊢
   rw [hl.1, hl.2]
   exact abin_mono kput0 h
 | shift op i j =>
   simp only [IOp.all, List.mem_cons, List.not_mem_nil, or_false, forall_eq_or_imp, forall_eq] at hl
   simp only [aop] at h ⊢
   rw [hl.1, hl.2]
   exact ashift_mono kput0 h
 | eqBool neq i j =>
   simp only [IOp.all, List.mem_cons, List.not_mem_nil, or_false, forall_eq_or_imp, forall_eq] at hl
   simp only [aop] at h ⊢
   rw [hl.1, hl.2]
   exact aeqBool_mono kput0 h
 | indexAddr esz i j =>
   simp only [IOp.all, List.mem_cons, List.not_mem_nil, or_false, forall_eq_or_imp, forall_eq] at hl
   simp only [aop] at h ⊢
   rw [hl.1, hl.2]
   exact ⟨h.1, aindexAddr_mono kput0 h.2⟩
 | indexStr i j =>
   simp only [IOp.all, List.mem_cons, List.not_mem_nil, or_false, forall_eq_or_imp, forall_eq] at hl
   simp only [aop] at h ⊢
   rw [hl.1, hl.2]
   exact aindexStr_mono kput0 h
 | indexArr n i j =>
   simp only [IOp.all, List.mem_cons, List.not_mem_nil, or_false, forall_eq_or_imp, forall_eq] at hl
   simp only [aop] at h ⊢
   rw [hl.1, hl.2]
   exact aindexArr_mono kput0 h
 | lookup kd z i j ok =>
   simp only [IOp.all, List.mem_cons, List.not_mem_nil, or_false, forall_eq_or_imp, forall_eq] at hl
   simp only [aop] at h ⊢
   rw [hl.1, hl.2]
   exact alookup_mono kput0 h
 | mx big i j =>
   simp only [IOp.all, List.mem_cons, List.not_mem_nil, or_false, forall_eq_or_imp, forall_eq] at hl
   simp only [aop] at h ⊢
   rw [hl.1, hl.2]
   exact amx_mono kput0 h
 | store m i j =>
   simp only [IOp.all, List.mem_cons, List.not_mem_nil, or_false, forall_eq_or_imp, forall_eq] at hl
   simp only [aop] at h ⊢
   rw [hl.1, hl.2]
   exact astore_mono (fun H' hk => kenv H' (fun e => by cases e) (fun e => by cases e) hk) h
 | storeW m i j =>
   simp only [IOp.all, List.mem_cons, List.not_mem_nil, or_false, forall_eq_or_imp, forall_eq] at hl
   simp only [aop] at h ⊢
   rw [hl.1, hl.2]
   split at h <;> (try exact h.elim)
   exact astoreW_mono (fun H' hk => kenv H' (fun e => by cases e) (fun e => by cases e) hk) h
 | append esz bytes i j =>
   simp only [IOp.all, List.mem_cons, List.not_mem_nil, or_false, forall_eq_or_imp, forall_eq] at hl
   simp only [aop] at h ⊢
   rw [hl.1, hl.2]
   refine aappend_mono (fun zs hk => ?_) h
   cases i with
   | c v => exact kput0 _ hk
   | t s =>
     have hs : get env2 s = get env1 s := hl.1
     have e : ∀ env : Env, get env s = get env1 s → put dst (.lst esz zs) (unslotE env (IX.t s).slot) = (put dst (.lst esz zs) [(s, (get env1 s).unown)]) ++ env := by
      intro env he
      cases dst <;> simp [put, unslotE, IX.slot, he]
     rw [e env1 rfl] at hk
     rw [e env2 hs]
     refine hK _ H ?_ (fun _ => rfl) (fun _ => ⟨[], by simp⟩) hk
     intro p hp
     cases dst with
     | none => simp [put] at hp; subst hp; right; simp [IOp.kill]
     | some d =>
       simp [put] at hp
       rcases hp with rfl | rfl
       ·left; rfl
       ·right; simp [IOp.kill]
 | copy esz i j =>
   simp only [IOp.all, List.mem_cons, List.not_mem_nil, or_false, forall_eq_or_imp, forall_eq] at hl
   simp only [aop] at h ⊢
   rw [hl.1, hl.2]
   exact acopy_mono (fun v H' hk => kput v H' (fun e => by cases e) (fun e => by cases e) hk) h
 | mapset kd i j k =>
   simp only [IOp.all, List.mem_cons, List.not_mem_nil, or_false, forall_eq_or_imp, forall_eq] at hl
   simp only [aop] at h ⊢
   rw [hl.1, hl.2.1, hl.2.2]
   exact amapset_mono (fun H' hk => kenv H' (fun e => by cases e) (fun e => by cases e) hk) h
 | putCell i s =>
   simp only [IOp.all, List.mem_cons, List.not_mem_nil, or_false, forall_eq_or_imp, forall_eq] at hl
   simp only [aop] at h ⊢
   have hs : get env2 s = get env1 s := hl.2
   rw [hl.1, hs]
   exact aputCell_mono (fun H' hk => hK [(s, (get env1 s).unown)] H' (by simp [IOp.kill]) (fun e => by cases e) (fun e => by cases e) hk) h
 | eqNil kd neq i =>
   simp only [IOp.all, List.mem_singleton, forall_eq] at hl
   simp only [aop] at h ⊢
   rw [hl]
   exact aeqNil_mono kput0 h
 | un op i =>
   simp only [IOp.all, List.mem_singleton, forall_eq] at hl
   simp only [aop] at h ⊢
   rw [hl]
   exact aun_mono kput0 h
 | box i =>
   simp only [IOp.all, List.mem_singleton, forall_eq] at hl
   simp only [aop] at h ⊢
   rw [hl]
   exact ⟨h.1, h.2.1, kput _ _ (fun e => by cases e) (fun _ => ⟨_, rfl⟩) h.2.2⟩
 | boxi i =>
   simp only [IOp.all, List.mem_singleton, forall_eq] at hl
   simp only [aop] at h ⊢
   rw [hl]
   exact ⟨h.1, kput0 _ h.2⟩
 | boxs m i =>
   simp only [IOp.all, List.mem_singleton, forall_eq] at hl
   simp only [aop] at h ⊢
   rw [hl]
   exact ⟨h.1, h.2.1, h.2.2.1, kput0 _ h.2.2.2⟩
 | alloc z =>
   simp only [aop] at h ⊢
   exact ⟨h.1, kput _ _ (fun e => by cases e) (fun _ => ⟨_, rfl⟩) h.2⟩
 | mkmap =>
   simp only [aop] at h ⊢
   exact kput _ _ (fun e => by cases e) (fun _ => ⟨_, rfl⟩) h
 | load sz i =>
   simp only [IOp.all, List.mem_singleton, forall_eq] at hl
   simp only [aop] at h ⊢
   rw [hl]
   exact aload_mono kput0 h
 | loadf sz esz i =>
   simp only [IOp.all, List.mem_singleton, forall_eq] at hl
   simp only [aop] at h ⊢
   rw [hl]
   exact aload_mono (fun z hz => asetf_mono (fun v H' hk => kput v H' (fun e => by cases e) (fun e => by cases e) hk) hz) h
 | takeCell i =>
   simp only [IOp.all, List.mem_singleton, forall_eq] at hl
   simp only [aop] at h ⊢
   rw [hl]
   cases dst with
   | none => exact h.elim
   | some d =>
     cases hv : aval env1 i with
     | ptr id off =>
       rw [hv] at h
       simp only at h ⊢
       cases hid : H[id]? with
       | none => rw [hid] at h; exact h.elim
       | some ob =>
         rw [hid] at h
         cases ob with
         | cells es => exact ⟨h.1, hK [(d, es.getD off .any)] _ (by simp) (fun e => by cases e) (fun e => by cases e) h.2⟩
         | _ => exact h.elim
     | _ => rw [hv] at h; exact h.elim
 | setf esz i =>
   simp only [IOp.all, List.mem_singleton, forall_eq] at hl
   simp only [aop] at h ⊢
   rw [hl]
   exact asetf_mono (fun v H' hk => kput v H' (fun e => by cases e) (fun e => by cases e) hk) h
 | nilCheck i =>
   simp only [IOp.all, List.mem_singleton, forall_eq] at hl
   simp only [aop] at h ⊢
   rw [hl]
   exact anilCheck_mono kput0 h
 | fieldAddr off sz i =>
   simp only [IOp.all, List.mem_singleton, forall_eq] at hl
   simp only [aop] at h ⊢
   rw [hl]
   exact afieldAddr_mono kput0 h
 | field off sz i =>
   simp only [IOp.all, List.mem_singleton, forall_eq] at hl
   simp only [aop] at h ⊢
   rw [hl]
   exact afield_mono kput0 h
 | len kd i =>
   simp only [IOp.all, List.mem_singleton, forall_eq] at hl
   simp only [aop] at h ⊢
   rw [hl]
   exact ⟨h.1, alen_mono kput0 h.2⟩
 | mkarr esz bytes z i =>
   simp only [IOp.all, List.mem_singleton, forall_eq] at hl
   simp only [aop] at h ⊢
   rw [hl]
   exact amkarr_mono (fun v H' hk => kput v H' (fun e => by cases e) (fun e => by cases e) hk) h
 | mkbuf esz bytes i =>
   simp only [IOp.all, List.mem_singleton, forall_eq] at hl
   simp only [aop] at h ⊢
   rw [hl]
   exact amkbuf_mono kput0 h
 | extract i k =>
   simp only [IOp.all, List.mem_singleton, forall_eq] at hl
   simp only [aop] at h ⊢
   rw [hl]
   exact aextract_mono kput0 h
 | convInt k i =>
   simp only [IOp.all, List.mem_singleton, forall_eq] at hl
   simp only [aop] at h ⊢
   rw [hl]
   exact aconvInt_mono kput0 h
 | convStr i =>
   simp only [IOp.all, List.mem_singleton, forall_eq] at hl
   simp only [aop] at h ⊢
   rw [hl]
   exact aconvStr_mono kput0 h
 | bytesOf i =>
   simp only [IOp.all, List.mem_singleton, forall_eq] at hl
   simp only [aop] at h ⊢
   rw [hl]
   exact abytesOf_mono kput0 h
 | strOf i =>
   simp only [IOp.all, List.mem_singleton, forall_eq] at hl
   simp only [aop] at h ⊢
   rw [hl]
   exact astrOf_mono kput0 h
 | build z ps =>
   simp only [IOp.all] at hl
   simp only [aop] at h ⊢
   have : (ps.map fun q => (q.1, q.2.1, aval env2 q.2.2)) = ps.map fun q => (q.1, q.2.1, aval env1 q.2.2) :=
    List.map_congr_left fun q hq => by rw [hl _ (List.mem_map.2 ⟨q, hq, rfl⟩)]
   rw [this]
   exact afill_mono (fun v hk => kput0 _ hk) h
 | litA esz z len ps =>
   simp only [IOp.all] at hl
   simp only [aop] at h ⊢
   have : (ps.map fun q => (q.1, aval env2 q.2)) = ps.map fun q => (q.1, aval env1 q.2) :=
    List.map_congr_left fun q hq => by rw [hl _ (List.mem_map.2 ⟨q, hq, rfl⟩)]
   rw [this]
   exact abslice_mono (fun v hk => ⟨hk.1, kput _ _ (fun e => by cases e) (fun e => by cases e) hk.2⟩) h
 | appendA esz bytes z i j =>
   simp only [IOp.all, List.mem_cons, List.not_mem_nil, or_false, forall_eq_or_imp, forall_eq] at hl
   simp only [aop] at h ⊢
   rw [hl.1, hl.2]
   exact aappendA_mono (fun v H' hk => kput v H' (fun e => by cases e) (fun e => by cases e) hk) h
 | clearA esz z i =>
   simp only [IOp.all, List.mem_singleton, forall_eq] at hl
   simp only [aop] at h ⊢
   rw [hl]
   exact aclearA_mono (fun H' hk => kput _ H' (fun e => by cases e) (fun e => by cases e) hk) h
 | buildSlice own esz z len ps =>
   simp only [IOp.all] at hl
   simp only [aop] at h ⊢
   have : (ps.map fun q => (q.1, aval env2 q.2)) = ps.map fun q => (q.1, aval env1 q.2) :=
    List.map_congr_left fun q hq => by rw [hl _ (List.mem_map.2 ⟨q, hq, rfl⟩)]
   rw [this]
   exact abslice_mono (fun v hk => kput0 _ hk) h
 | slice esz i lo hi m =>
   simp only [IOp.all, List.mem_cons, List.mem_append, forall_eq_or_imp] at hl
   obtain ⟨h1, h2⟩ := hl
   simp only [aop] at h ⊢
   rw [h1, opt_look2 (fun i hi => h2 i (.inl (.inl hi))), opt_look2 (fun i hi => h2 i (.inl (.inr hi))), opt_look2 (fun i hi => h2 i (.inr hi))]
   exact asliceX_mono kput0 h
 | sliceZ esz i lo hi m =>
   simp only [IOp.all, List.mem_cons, List.mem_append, forall_eq_or_imp] at hl
   obtain ⟨h1, h2⟩ := hl
   simp only [aop] at h ⊢
   rw [h1, opt_look2 (fun i hi => h2 i (.inl (.inl hi))), opt_look2 (fun i hi => h2 i (.inl (.inr hi))), opt_look2 (fun i hi => h2 i (.inr hi))]
   exact ⟨h.1, aslice_mono (fun z hz => ⟨hz.1, kput0 _ hz.2⟩) h.2⟩
 | sliceStr i lo hi =>
   simp only [IOp.all, List.mem_cons, List.mem_append, forall_eq_or_imp] at hl
   obtain ⟨h1, h2⟩ := hl
   simp only [aop] at h ⊢
   rw [h1, opt_look2 (fun i hi => h2 i (.inl hi)), opt_look2 (fun i hi => h2 i (.inr hi))]
   exact asliceStr_mono kput0 h
 | fn f first cap =>
   simp only [IOp.all, List.mem_append] at hl
   simp only [aop] at h ⊢
   rw [map_look (fun i hi => hl i (.inl hi)) AV.unown, map_look (fun i hi => hl i (.inr hi)) AV.unown]
   exact kput0 _ h
 | call f args pass =>
   simp only [IOp.all, List.mem_cons, forall_eq_or_imp] at hl
   obtain ⟨h1, h2⟩ := hl
   simp only [aop, acall] at h ⊢
   rw [h1]
   split at h <;> try exact h.elim
   all_goals
   obtain ⟨args', hle, hcall⟩ := h
   refine ⟨args', ?_, hcall.mono fun r H' hk => ?_⟩
   ·rw [baseArgs_eq h2]; exact hle
   ·cases hp : passSlot args pass with
    | none =>
      rw [hp] at hk
      exact kput r H' (fun e => by cases e) (fun e => by cases e) hk
    | some s =>
      rw [hp] at hk
      have hmem : IX.t s ∈ args ∧ s ∈ (IOp.call f args pass).kill := by
       unfold passSlot at hp
       simp only [IOp.kill]
       split at hp
       ·rename_i j
        split at hp <;> cases hp
        rename_i hj
        try simp only [hj]
        exact ⟨List.mem_of_getElem? hj, by simp⟩
       ·cases hp
      have hs : get env2 s = get env1 s := h2 _ hmem.1
      have e : ∀ env : Env, get env s = get env1 s → put dst r (unslotE env (some s)) = (put dst r [(s, (get env1 s).unown)]) ++ env := by
       intro env he
       cases dst <;> simp [put, unslotE, he]
      rw [e env1 rfl] at hk
      rw [e env2 hs]
      refine hK _ H' ?_ (fun e => by cases e) (fun e => by cases e) hk
      intro p hpm
      cases dst with
      | none => simp [put] at hpm; subst hpm; exact .inr hmem.2
      | some d =>
        simp [put] at hpm
        rcases hpm with rfl | rfl
        ·left; rfl
        ·exact .inr hmem.2
 | never => exact h.elim
end Go.Abs
end
section
namespace Go.Abs
open Go
theorem get_append_congr {env1 env2 : Env} (h : get env1 = get env2) : ∀ mods : List (Nat × AV), get (mods ++ env1) = get (mods ++ env2)
 | [] => h
 | (k, v) :: r => by
   funext t
   simp only [List.cons_append, get]
   split
   ·rfl
   ·rw [get_append_congr h r]
theorem get_append_at {env1 env2 : Env} {t : Nat} (h : get env1 t = get env2 t) : ∀ mods : List (Nat × AV), get (mods ++ env1) t = get (mods ++ env2) t
 | [] => h
 | (k, v) :: r => by
   simp only [List.cons_append, get]
   split
   ·rfl
   ·rw [get_append_at h r]
theorem get_append_ne {env : Env} {t : Nat} : ∀ {mods : List (Nat × AV)}, (∀ p ∈ mods, p.1 ≠ t) → get (mods ++ env) t = get env t
 | [], _ => rfl
 | (k, v) :: r, h => by
   simp only [List.cons_append, get]
   rw [if_neg (fun e => h (k, v) (by simp) e.symm), get_append_ne (fun p hp => h p (by simp [hp]))]
theorem mem_slots {l : List IX} {s : Nat} (h : IX.t s ∈ l) : s ∈ IX.slots l := List.mem_filterMap.2 ⟨_, h, rfl⟩
theorem lk_all {o : IOper} {env1 env2 : Env} (hl : ∀ s ∈ o.lk, get env2 s = get env1 s) : ∀ i ∈ o.op.all, aval env2 i = aval env1 i := by
 intro i hi
 cases i with
 | c v => rfl
 | t s => exact hl s (List.mem_append_left _ (mem_slots hi))
theorem get_guard {env : Env} {g : Nat} {b : Bool} (h : get env g = .bool b) : get ((g, AV.bool b) :: env) = get env := by
 funext t
 simp only [get]
 split
 ·rename_i e; rw [e, h]
 ·rfl
theorem agd_frame {P : Px} {o : IOper} {env1 env2 : Env} {H : List AObj} {K1 K2 : Env → List AObj → Prop} (hl : ∀ s ∈ o.lk, get env2 s = get env1 s) (h : agd P o env1 H K1)
 (hK : ∀ e1 e2 H', (∃ mods : List (Nat × AV), (∀ p ∈ mods, o.dst = some p.1 ∨ p.1 ∈ o.op.kill) ∧ get e1 = get (mods ++ env1) ∧ get e2 = get (mods ++ env2)) → (o.op.chg = false → H' = H) → (o.op.grows = true → ∃ e, H' = H ++ e) → K1 e1 H' → K2 e2 H') : agd P o env2 H K2 := by
 unfold agd at *
 cases hg : o.g with
 | none =>
   simp only [hg] at h ⊢
   exact aop_frame (lk_all hl) h fun mods H' hm hc hg hk => hK _ _ H' ⟨mods, hm, rfl, rfl⟩ hc hg hk
 | some p =>
   obtain ⟨g, want⟩ := p
   simp only [hg] at h ⊢
   unfold aguard at *
   have hgl : get env2 g = get env1 g := hl g (by simp [IOper.lk, hg])
   rw [hgl]
   split at h
   rotate_left
   ·rename_i hb
    refine hK _ _ H ⟨(match o.dst with | some d => [(d, .tuple [])] | none => []), ?_, ?_, ?_⟩ (fun _ => rfl) (fun _ => ⟨[], by simp⟩) h
    ·cases hd : o.dst <;> simp
    ·cases hd : o.dst <;> rfl
    ·cases hd : o.dst <;> rfl
   ·exact h.elim
   rename_i b hb
   have hb2 : get env2 g = .bool b := by rw [hgl, hb]
   refine ⟨fun e => ?_, fun e => ?_⟩
   ·subst e
    refine aop_frame (env1 := (g, .bool b) :: env1) (lk_all (o := o) fun s hs => ?_) (h.1 rfl) fun mods H' hm hc hg hk => hK _ _ H' ⟨mods, hm, get_append_congr (get_guard hb) mods, get_append_congr (get_guard hb2) mods⟩ hc hg hk
    rw [get_guard hb, get_guard hb2]
    exact hl s hs
   ·have h2 := h.2 e
    subst e
    refine hK _ _ H ⟨(match o.dst with | some d => [(d, .tuple [])] | none => []), ?_, ?_, ?_⟩ (fun _ => rfl) (fun _ => ⟨[], by simp⟩) h2
    ·cases hd : o.dst <;> simp
    ·cases hd : o.dst with
     | none => exact get_guard hb
     | some d => exact get_append_congr (get_guard hb) [(d, .tuple [])]
    ·cases hd : o.dst with
     | none => exact get_guard hb2
     | some d => exact get_append_congr (get_guard hb2) [(d, .tuple [])]
theorem agd_mono {P : Px} {o : IOper} {env : Env} {H : List AObj} {K1 K2 : Env → List AObj → Prop} (h : agd P o env H K1)
 (hK : ∀ e1 e2 H', get e1 = get e2 → K1 e1 H' → K2 e2 H') : agd P o env H K2 :=
 agd_frame (fun _ _ => rfl) h fun e1 e2 H' ⟨mods, _, h1, h2⟩ _ _ hk => hK e1 e2 H' (h1.trans h2.symm) hk
section
variable {P : Px} {ops : Array Oper} {il : List IOper} {K : Env → List AObj → Prop}
def qA (P : Px) (il : List IOper) (i : Nat) (env : Env) (H : List AObj) (K : Env → List AObj → Prop) : Prop :=
 match il[i]? with
 | none => K env H
 | some o => agd P o env H K
def AAny (P : Px) (ops : Array Oper) (il : List IOper) (K : Env → List AObj → Prop) : Nat → Array Bool → Env → List AObj → Prop
 | 0, listed, env, H => Region.ready .any ops listed = [] ∧ K env H
 | f + 1, listed, env, H => (Region.ready .any ops listed = [] → K env H) ∧ ∀ i ∈ Region.ready .any ops listed, qA P il i env H (AAny P ops il K f (listed.setIfInBounds i true))
def Inv (K : Env → List AObj → Prop) : Prop := ∀ e1 e2 H, get e1 = get e2 → K e1 H → K e2 H
theorem AAny_congr (hK : Inv K) : ∀ (f : Nat) (listed : Array Bool) {e1 e2 : Env} {H : List AObj}, get e1 = get e2 → AAny P ops il K f listed e1 H → AAny P ops il K f listed e2 H
 | 0, _, _, _, _, he, h => ⟨h.1, hK _ _ _ he h.2⟩
 | f + 1, listed, e1, e2, H, he, h => by
   refine ⟨fun h0 => hK _ _ _ he (h.1 h0), fun i hi => ?_⟩
   have hq := h.2 i hi
   unfold qA at *
   split
   ·rename_i hn; simp only [hn] at hq; exact AAny_congr hK f _ he hq
   ·rename_i o ho
    simp only [ho] at hq
    exact agd_frame (fun s _ => by rw [he]) hq fun a b H' ⟨mods, _, h1, h2⟩ _ _ hk => AAny_congr hK f _ (by rw [h1, h2, get_append_congr he]) hk
def tkv (P : Px) (st : Bool) (o : IOper) (env : Env) (H : List AObj) (x : AV) : Prop :=
 ∃ ρ : IX → AV, (∀ i ∈ o.op.all, aval env i = ρ i) ∧ match o.g with
  | none => dv P st o.op ρ H x
  | some (g, want) => (∃ b, get env g = .bool b ∧ (b = want → dv P st o.op ρ H x) ∧ (b ≠ want → x = .tuple [])) ∨ (get env g = .tuple [] ∧ x = .tuple [])
theorem dv_dval {st : Bool} {o : IOp} {ρ : IX → AV} {H : List AObj} {x : AV} (h : dv P st o ρ H x) : dval P o ρ H x := by
 cases st
 ·exact h H
 ·exact h
theorem get_grow {H e : List AObj} {id : Nat} {o : AObj} (h : H[id]? = some o) : (H ++ e)[id]? = some o := by
 rw [List.getElem?_append_left (List.getElem?_eq_some_iff.1 h).1, h]
theorem aload_grow {sz : Option Nat} {x : AV} {H e : List AObj} {φ : AV → Prop} (h : aload sz x H φ) : aload sz x (H ++ e) φ := by
 unfold aload at *
 split at h
 ·split at h
  ·rename_i hid; rw [get_grow hid]; exact h
  ·exact h.elim
 ·exact h
 ·exact h.elim
theorem alen_grow {x : AV} {H e : List AObj} {φ : AV → Prop} (h : alen x H φ) : alen x (H ++ e) φ := by
 unfold alen at *
 split at h <;> (try exact h)
 split at h
 ·rename_i hid; rw [get_grow hid]; exact h
 ·exact h.elim
theorem alookup_grow {kd : Nat} {z m k : AV} {ok : Bool} {H e : List AObj} {φ : AV → Prop} (h : alookup kd z m k ok H φ) : alookup kd z m k ok (H ++ e) φ := by
 unfold alookup at *
 split at h <;> (try exact h)
 split at h
 ·rename_i hid; rw [get_grow hid]; exact h
 ·exact h.elim
theorem dval_grow {o : IOp} {ρ : IX → AV} {H e : List AObj} {x : AV} (hs : o.stays = true) (h : dval P o ρ H x) : dval P o ρ (H ++ e) x := by
 cases o with
 | call f args pass => cases hs
 | load sz i =>
   unfold dval at h ⊢
   exact aload_grow h
 | len kd i =>
   unfold dval at h ⊢
   exact ⟨h.1, alen_grow h.2⟩
 | lookup kd z m k ok =>
   unfold dval at h ⊢
   exact alookup_grow h
 | set i t => cases t <;> exact h
 | _ => exact h
theorem dv_other {st : Bool} {o : IOp} {ρ : IX → AV} {H H' : List AObj} {x : AV} (hH : st = true → H' = H ∨ (o.stays = true ∧ ∃ e, H' = H ++ e)) (h : dv P st o ρ H x) : dv P st o ρ H' x := by
 cases st
 ·exact h
 ·rcases hH rfl with e | ⟨h1, e, he⟩
  ·rw [e]; exact h
  ·rw [he]; exact dval_grow h1 h
theorem tkv_frame {st : Bool} {o : IOper} {env1 env2 : Env} {H1 H2 : List AObj} {x : AV} (hl : ∀ s ∈ o.lk, get env2 s = get env1 s) (hH : st = true → H2 = H1 ∨ (o.op.stays = true ∧ ∃ e, H2 = H1 ++ e)) (h : tkv P st o env1 H1 x) : tkv P st o env2 H2 x := by
 obtain ⟨ρ, h1, h2⟩ := h
 refine ⟨ρ, fun i hi => (lk_all hl i hi).trans (h1 i hi), ?_⟩
 cases hg : o.g with
 | none => simp only [hg] at h2 ⊢; exact dv_other hH h2
 | some p =>
   obtain ⟨g, want⟩ := p
   simp only [hg] at h2 ⊢
   rcases h2 with ⟨b, k1, k2, k3⟩ | ⟨k1, k2⟩
   ·exact .inl ⟨b, (hl g (by simp [IOper.lk, hg])).trans k1, fun e => dv_other hH (k2 e), k3⟩
   ·exact .inr ⟨(hl g (by simp [IOper.lk, hg])).trans k1, k2⟩
theorem tkv_agd {st : Bool} {o : IOper} {env : Env} {H : List AObj} {x : AV} (h : tkv P st o env H x) : agd P o env H fun e H' => H' = H ∧ get e = get (put o.dst x env) := by
 obtain ⟨ρ, h1, h2⟩ := h
 unfold agd
 cases hg : o.g with
 | none => simp only [hg] at h2 ⊢; exact dval_aop (dv_dval h2) h1
 | some p =>
   obtain ⟨g, want⟩ := p
   simp only [hg] at h2 ⊢
   rcases h2 with ⟨b, k1, k2, k3⟩ | ⟨k1, k2⟩
   rotate_left
   ·unfold aguard
    rw [k1]
    subst k2
    exact ⟨by simp, rfl⟩
   unfold aguard
   rw [k1]
   refine ⟨fun e => ?_, fun e => ?_⟩
   ·subst e
    have hgd := get_guard k1
    have := dval_aop (dst := o.dst) (env := (g, .bool b) :: env) (dv_dval (k2 rfl)) (fun i hi => by
     rw [← h1 i hi]
     cases i with
     | c v => rfl
     | t s => show get _ s = get _ s; rw [hgd])
    refine aop_frame (fun _ _ => rfl) this ?_
    intro mods H' _ _ _ hk
    refine ⟨hk.1, hk.2.trans ?_⟩
    rw [get_put, get_put, hgd]
   ·have hne : b ≠ want := by intro e2; subst e2; cases b <;> cases e
    have hx := k3 hne
    subst hx
    subst e
    exact ⟨by simp, by rw [get_put, get_put, get_guard k1]⟩
def closed (ops : Array Oper) (listed : Array Bool) : Prop := ∀ k o, ops[k]? = some o → listed.getD k false = true → ∀ e ∈ o.after, Region.binds .any e = true → listed.getD e.on false = true
theorem mustAfter_listed {listed : Array Bool} (hc : closed ops listed) {i : Nat} : ∀ (f j : Nat) (oj : Oper), ops[j]? = some oj → (∀ e ∈ oj.after, Region.binds .any e = true → listed.getD e.on false = true) → mustAfter ops f j i = true → listed.getD i false = true
 | 0, _, _, _, _, h => by simp [mustAfter] at h
 | f + 1, j, oj, hj, hall, h => by
   simp only [mustAfter, hj] at h
   obtain ⟨k, hk, he⟩ := Array.any_eq_true.1 h
   simp only [Bool.and_eq_true, Bool.or_eq_true, beq_iff_eq] at he
   have hmem : oj.after[k] ∈ oj.after := Array.getElem_mem hk
   have hl := hall _ hmem he.1
   rcases he.2 with e | e
   ·rw [← e]; exact hl
   ·have hso : ∃ o', ops[(oj.after[k]).on]? = some o' := by
     cases f with
     | zero => simp [mustAfter] at e
     | succ f =>
       cases ho : ops[(oj.after[k]).on]? with
       | none => simp [mustAfter, ho] at e
       | some o' => exact ⟨o', rfl⟩
    obtain ⟨o', ho'⟩ := hso
    exact mustAfter_listed hc f _ o' ho' (hc _ _ ho' hl) e
theorem getD_true_of_ready {listed : Array Bool} {i : Nat} (h : listed.getD i true = false) : listed.getD i false = false := by
 simp only [Array.getD_eq_getD_getElem?] at *
 cases hx : listed[i]? with
 | none => rfl
 | some b => rw [hx] at h; simpa using h
theorem closed_set {listed : Array Bool} (hc : closed ops listed) {j : Nat} (hj : j ∈ Region.ready .any ops listed) : closed ops (listed.setIfInBounds j true) := by
 obtain ⟨_, oj, hoj, hall⟩ := mem_ready.1 hj
 intro k o ho hk e he hb
 refine getD_set_true ?_
 by_cases hkj : k = j
 ·subst hkj
  rw [hoj] at ho
  cases ho
  exact hall e he hb
 ·rw [getD_set_ne false (Ne.symm hkj)] at hk
  exact hc k o ho hk e he hb
theorem freeAt_spec {listed : Array Bool} {i j : Nat} {st : Bool} (h : freeAt ops il listed i st = true) (hj : j < ops.size) (hji : j ≠ i) (hun : listed.getD j true = false) (hno : mustAfter ops ops.size j i = false) : apartI st (il.getD i default) (il.getD j default) = true := by
 unfold freeAt at h
 have := List.all_eq_true.1 h j (List.mem_range.2 hj)
 simp only [Bool.or_eq_true, beq_iff_eq, hun, hno, Bool.false_eq_true, or_false] at this
 rcases this with e | e
 ·exact absurd e hji
 ·exact e
theorem freeAt_mono {listed : Array Bool} {i j : Nat} {st : Bool} (h : freeAt ops il listed i st = true) : freeAt ops il (listed.setIfInBounds j true) i st = true := by
 unfold freeAt at *
 refine List.all_eq_true.2 fun k hk => ?_
 have := List.all_eq_true.1 h k hk
 simp only [Bool.or_eq_true] at this ⊢
 rcases this with ((e | e) | e) | e
 ·exact .inl (.inl (.inl e))
 ·refine .inl (.inl (.inr ?_))
  by_cases hjk : j = k
  ·subst hjk
   simp only [Array.getD_eq_getD_getElem?, Array.getElem?_setIfInBounds]
   split
   ·split <;> simp
   ·rename_i hne; exact absurd trivial hne
  ·rw [getD_set_ne true hjk]; exact e
 ·exact .inl (.inr e)
 ·exact .inr e
theorem apartI_spec {st : Bool} {oi oj : IOper} (h : apartI st oi oj = true) :
 (∀ d, oi.dst = some d → d ∉ oj.lk ∧ oj.dst ≠ some d ∧ d ∉ oj.op.kill) ∧ (∀ d, oj.dst = some d → d ∉ oi.lk) ∧ (∀ s ∈ oj.op.kill, s ∉ oi.lk) ∧ (st = true → oj.op.chg = false ∨ (oj.op.grows = true ∧ oi.op.stays = true)) := by
 unfold apartI at h
 simp only [Bool.and_eq_true, Bool.or_eq_true, Bool.not_eq_true'] at h
 obtain ⟨⟨⟨h1, h2⟩, h3⟩, h4⟩ := h
 refine ⟨fun d hd => ?_, fun d hd => ?_, fun s hs => ?_, fun e => ?_⟩
 ·rw [hd] at h1
  simpa [and_assoc] using h1
 ·rw [hd] at h2
  simpa using h2
 ·have := List.all_eq_true.1 h3 s hs
  simpa using this
 ·rcases h4 with (e2 | e2) | e2
  ·rw [e] at e2; cases e2
  ·exact .inl e2
  ·exact .inr e2
theorem getD_of_get? {l : List IOper} {i : Nat} {o : IOper} (h : l[i]? = some o) : l.getD i default = o := by
 rw [List.getD_eq_getElem?_getD, h]; rfl
theorem AAny_take (hK : Inv K) (hsz : il.length = ops.size) {i : Nat} {oi : IOper} {x : AV} {st : Bool} (hi : il[i]? = some oi) : ∀ (f : Nat) (listed : Array Bool) {env : Env} {H : List AObj}, closed ops listed → freeAt ops il listed i st = true → i ∈ Region.ready .any ops listed →
 tkv P st oi env H x → AAny P ops il K f (listed.setIfInBounds i true) (put oi.dst x env) H → AAny P ops il K (f + 1) listed env H := by
 intro f
 induction f with
 | zero =>
   intro listed env H hcl hfr hr ht hD
   refine ⟨fun h => (by rw [h] at hr; cases hr), fun j hj => ?_⟩
   by_cases hji : j = i
   ·subst hji
    unfold qA
    simp only [hi]
    exact agd_mono (tkv_agd ht) fun e1 e2 H' he ⟨h1, h2⟩ => by
     subst h1
     exact AAny_congr hK 0 _ (h2.symm.trans he) hD
   ·have := ready_mono hj hji
    rw [hD.1] at this
    cases this
 | succ f ih =>
   intro listed env H hcl hfr hr ht hD
   refine ⟨fun h => (by rw [h] at hr; cases hr), fun j hj => ?_⟩
   by_cases hji : j = i
   ·subst hji
    unfold qA
    simp only [hi]
    exact agd_mono (tkv_agd ht) fun e1 e2 H' he ⟨h1, h2⟩ => by
     subst h1
     exact AAny_congr hK (f + 1) _ (h2.symm.trans he) hD
   ·have h1 := hD.2 j (ready_mono hj hji)
    obtain ⟨hjun, oj', hoj', hall⟩ := mem_ready.1 hj
    have hjs : j < ops.size := (Array.getElem?_eq_some_iff.1 hoj').1
    have hno : mustAfter ops ops.size j i = false := by
     cases hma : mustAfter ops ops.size j i with
     | false => rfl
     | true =>
       have := mustAfter_listed hcl _ j oj' hoj' hall hma
       rw [getD_true_of_ready (mem_ready.1 hr).1] at this
       cases this
    have hap := freeAt_spec hfr hjs hji hjun hno
    rw [getD_of_get? hi] at hap
    unfold qA at *
    cases hoj : il[j]? with
    | none =>
      rw [List.getElem?_eq_none_iff] at hoj
      omega
    | some oj =>
      rw [getD_of_get? hoj] at hap
      obtain ⟨a1, a2, a3, a4⟩ := apartI_spec hap
      simp only [hoj] at h1 ⊢
      refine agd_frame (env1 := put oi.dst x env) (fun s hs => ?_) h1 fun e1 e2 H' ⟨mods, hm, g1, g2⟩ hch hgr hk => ?_
      ·rw [get_put]
       cases hd : oi.dst with
       | none => rfl
       | some d =>
         simp only [updO, upd]
         rw [if_neg]
         intro e
         exact (a1 d hd).1 (e ▸ hs)
      ·have hmi : ∀ s ∈ oi.lk, ∀ p ∈ mods, p.1 ≠ s := by
        intro s hs p hp e
        rcases hm p hp with h | h
        ·exact a2 _ h (e ▸ hs)
        ·exact a3 _ h (e ▸ hs)
       have hmd : ∀ d, oi.dst = some d → ∀ p ∈ mods, p.1 ≠ d := by
        intro d hd p hp e
        rcases hm p hp with h | h
        ·exact (a1 d hd).2.1 (e ▸ h)
        ·exact (a1 d hd).2.2 (e ▸ h)
       refine ih (listed.setIfInBounds j true) (closed_set hcl hj) (freeAt_mono hfr) (ready_mono hr (Ne.symm hji)) ?_ ?_
       ·refine tkv_frame (fun s hs => ?_) (fun e => (a4 e).imp hch fun ⟨q1, q2⟩ => ⟨q2, hgr q1⟩) ht
        rw [g2]
        exact get_append_ne (hmi s hs)
       ·rw [Array.setIfInBounds_comm _ _ hji]
        refine AAny_congr hK f _ ?_ hk
        rw [g1, get_put, g2]
        cases hd : oi.dst with
        | none => rfl
        | some d =>
          funext t
          simp only [updO, upd, put]
          by_cases htd : t = d
          ·subst htd
           rw [if_pos rfl, get_append_ne (hmd t hd)]
           simp [get]
          ·rw [if_neg htd]
           refine get_append_at ?_ mods
           simp [get, htd]
theorem pok_any (hK : Inv K) (hsz : il.length = ops.size) : ∀ (p : Plan) (f : Nat) (listed : Array Bool) {env : Env} {H : List AObj}, closed ops listed →
 (pok ops il f listed none p = true → adt P (inst il p) env H K → AAny P ops il K f listed env H) ∧
 (∀ ks, (∀ i ∈ ks, i ∈ Region.ready .any ops listed) → pok ops il (f + 1) listed (some ks) p = true → adt P (inst il p) env H K → ∀ i ∈ ks, qA P il i env H (AAny P ops il K f (listed.setIfInBounds i true))) := by
 intro p
 induction p with
 | done =>
   intro f listed env H hcl
   refine ⟨fun h hd => ?_, fun ks _ h _ i hi => ?_⟩
   ·have : Region.ready .any ops listed = [] := by
     cases f <;> simpa [pok, List.isEmpty_iff] using h
    simp only [inst, adt] at hd
    cases f with
    | zero => exact ⟨this, hd⟩
    | succ f => exact ⟨fun _ => hd, fun i hi => by rw [this] at hi; cases hi⟩
   ·cases ks with
    | nil => cases hi
    | cons k ks => simp [pok] at h
 | nil =>
   intro f listed env H hcl
   refine ⟨fun h _ => by cases f <;> simp [pok] at h, fun ks _ h _ i hi => ?_⟩
   cases ks with
   | nil => cases hi
   | cons k ks => simp [pok] at h
 | take k st r ih =>
   intro f listed env H hcl
   refine ⟨fun h hd => ?_, fun ks _ h _ i hi => ?_⟩
   ·cases f with
    | zero => simp [pok] at h
    | succ f =>
      simp only [pok, Bool.and_eq_true, List.contains_iff_mem] at h
      obtain ⟨⟨⟨hr, hapt⟩, hfr⟩, hp⟩ := h
      obtain ⟨_, ok, hok, _⟩ := mem_ready.1 hr
      have hks : k < il.length := by rw [hsz]; exact (Array.getElem?_eq_some_iff.1 hok).1
      have hik : il[k]? = some (il.getD k default) := by rw [List.getD_eq_getElem?_getD, List.getElem?_eq_getElem hks]; rfl
      simp only [inst, adt, atake] at hd
      have fin : ∀ x, tkv P st (il.getD k default) env H x → adt P (inst il r) (put (il.getD k default).dst x env) H K → AAny P ops il K (f + 1) listed env H := by
       intro x hx hrest
       exact AAny_take hK hsz hik f listed hcl hfr hr hx ((ih f _ (closed_set hcl hr)).1 hp hrest)
      cases hg : (il.getD k default).g with
      | none =>
        simp only [hg] at hd
        obtain ⟨x, hx, hrest⟩ := hd
        exact fin x ⟨aval env, fun _ _ => rfl, by simp only [hg]; exact hx⟩ hrest
      | some gw =>
        obtain ⟨g, want⟩ := gw
        simp only [hg, aguard] at hd
        split at hd
        rotate_left
        ·rename_i hb
         exact fin (.tuple []) ⟨aval env, fun _ _ => rfl, by simp only [hg]; exact .inr ⟨hb, by trivial⟩⟩ hd
        ·exact hd.elim
        rename_i b hb
        by_cases hbw : b = want
        ·obtain ⟨x, hx, hrest⟩ := hd.1 hbw
         exact fin x ⟨aval env, fun _ _ => rfl, by simp only [hg]; exact .inl ⟨b, hb, fun _ => hx, fun e => absurd hbw e⟩⟩ hrest
        ·have hrest := hd.2 (by cases b <;> cases want <;> first | rfl | exact absurd rfl hbw)
         exact fin (.tuple []) ⟨aval env, fun _ _ => rfl, by simp only [hg]; exact .inl ⟨b, hb, fun e => absurd e hbw, fun _ => by trivial⟩⟩ hrest
   ·cases ks with
    | nil => cases hi
    | cons k ks => simp [pok] at h
 | br k t rest iht ihr =>
   intro f listed env H hcl
   have key : ∀ (f : Nat) (ks : List Nat), (∀ i ∈ k :: ks, i ∈ Region.ready .any ops listed) → pok ops il f (listed.setIfInBounds k true) none t = true → pok ops il (f + 1) listed (some ks) rest = true → adt P (inst il (.br k t rest)) env H K →
    ∀ i ∈ k :: ks, qA P il i env H (AAny P ops il K f (listed.setIfInBounds i true)) := by
    intro f ks hks h1 h2 hd i hi
    simp only [inst, adt] at hd
    rcases List.mem_cons.1 hi with rfl | hi
    ·have hr := hks i (by simp)
     obtain ⟨_, ok, hok, _⟩ := mem_ready.1 hr
     have hlt : i < il.length := by rw [hsz]; exact (Array.getElem?_eq_some_iff.1 hok).1
     have hik : il[i]? = some (il.getD i default) := by rw [List.getD_eq_getElem?_getD, List.getElem?_eq_getElem hlt]; rfl
     unfold qA
     rw [hik]
     exact agd_mono hd.1 fun e1 e2 H' he hk => AAny_congr hK f _ he ((iht f _ (closed_set hcl hr)).1 h1 hk)
    ·exact (ihr f listed hcl).2 ks (fun j hj => hks j (by simp [hj])) h2 hd.2 i hi
   refine ⟨fun h hd => ?_, fun ks hks h hd i hi => ?_⟩
   ·cases f with
    | zero => simp [pok] at h
    | succ f =>
      simp only [pok] at h
      split at h
      ·rename_i k' ks hrd
       simp only [Bool.and_eq_true, beq_iff_eq] at h
       obtain ⟨⟨rfl, h1⟩, h2⟩ := h
       have := key f ks (fun i hi => by rw [hrd]; exact hi) h1 h2 hd
       exact ⟨(fun e => by rw [e] at hrd; cases hrd), fun i hi => this i (by rw [hrd] at hi; exact hi)⟩
      ·cases h
   ·cases ks with
    | nil => cases hi
    | cons k' ks =>
      simp only [pok, Bool.and_eq_true, beq_iff_eq] at h
      obtain ⟨⟨rfl, h1⟩, h2⟩ := h
      exact key f ks hks h1 h2 hd i hi
end
end Go.Abs
end
section
namespace Go.Abs
open Go
section
variable {ro : Option Nat} {P : Program} {lo : Option Nat} {A : Perm} {n : Nat}
theorem compOps_get {ops : Array Oper} {an : Ann} {rid : Nat} : ∀ (fuel k : Nat) (l : List Oper) (il : List IOper), compOps P ops an n rid false fuel k l = some il →
 il.length = l.length ∧ ∀ (j : Nat) (o : Oper), l[j]? = some o → ∃ g, compG ops o = some g ∧ dstOk n o = true ∧ il[j]? = some ⟨g, o.dst, comp1 P o (an.at_ rid (k + j))⟩
 | _, _, [], il, hc => by
   unfold compOps at hc
   cases hc
   exact ⟨rfl, fun j o h => by simp at h⟩
 | 0, _, o :: r, il, hc => by simp [compOps] at hc
 | fuel + 1, k, o :: r, il, hc => by
   unfold compOps at hc
   simp only [Bool.false_eq_true, and_false, if_false] at hc
   split at hc <;> try cases hc
   rename_i g xs hg hxs
   split at hc <;> cases hc
   rename_i hdst
   obtain ⟨h1, h2⟩ := compOps_get fuel (k + 1) r xs hxs
   refine ⟨by simp [h1], fun j o' hj => ?_⟩
   cases j with
   | zero =>
     simp at hj
     subst hj
     exact ⟨g, hg, hdst, by simp⟩
   | succ j =>
     simp at hj
     obtain ⟨g', e1, e2, e3⟩ := h2 j o' hj
     exact ⟨g', e1, e2, by simp [e3, Nat.add_assoc, Nat.add_comm 1 j]⟩
theorem any_of_AAny {ops : Array Oper} {il : List IOper} {an : Ann} {rid : Nat} {L0 : List Nat} {M0 : Mem} {w0 : World} {K : Env → List AObj → Prop} {Q : Exit → Act → World → Prop}
 (hp : ∀ l, lo = some l → ∀ id, l ≤ id → A.top id = none) (hc : compOps P ops an n rid false (ops.size + 1) 0 ops.toList = some il)
 (hF : ∀ (M : Mem) (L : List Nat) (w : World) (H : List AObj) (env : Env) (O : Pos → Option Nat) (a : Act), K env H → Fr A n M L w H env O a → Ext A M0 w0 M w → L0 <+: L → Q .normal a w) :
 ∀ (f : Nat) (listed : Array Bool) {M : Mem} {L : List Nat} {w : World} {H : List AObj} {env : Env} {O : Pos → Option Nat} {a : Act}, Fr A n M L w H env O a → Ext A M0 w0 M w → L0 <+: L → AAny ⟨P, lo⟩ ops il K f listed env H → wpAnyIn (wf ro) 0 P .any ops Q f listed a w
 | 0, _, _, _, _, _, _, _, _, hf, hext, hL, h => ⟨h.1, hF _ _ _ _ _ _ _ h.2 hf hext hL⟩
 | f + 1, listed, M, L, w, H, env, O, a, hf, hext, hL, h => by
   refine ⟨fun h0 => hF _ _ _ _ _ _ _ (h.1 h0) hf hext hL, fun i hi => ?_⟩
   have hq := h.2 i hi
   unfold wpOpIn
   cases ho : ops[i]? with
   | none =>
     obtain ⟨_, o, ho', _⟩ := mem_ready.1 hi
     rw [ho] at ho'; cases ho'
   | some o =>
     obtain ⟨g, hg, hdst, hil⟩ := (compOps_get _ _ _ _ hc).2 i o (by simpa using ho)
     unfold qA at hq
     rw [hil] at hq
     have hs := agd_sound (ro := ro) (ops := ops) hg hdst hp hf hq Q
     have hrest : ∀ a' w', Aft A n M L w (AAny ⟨P, lo⟩ ops il K f (listed.setIfInBounds i true)) a' w' → wpAnyIn (wf ro) 0 P .any ops Q f (listed.setIfInBounds i true) a' w' := by
      rintro a' w' ⟨M', L', H', env', O', k1, k2, k3, k4⟩
      exact any_of_AAny hp hc hF f _ k2 (hext.trans k3) (hL.trans k4) k1
     simp only
     split
     ·rename_i hw
      rw [if_pos hw] at hs
      exact Oper.wpIn_mono hrest hs
     ·rename_i hw
      rw [if_neg hw] at hs
      exact ⟨fun _ _ => trivial, hrest _ _ hs⟩
theorem drawSound (L0 : List Nat) (hp : ∀ l, lo = some l → ∀ id, l ≤ id → A.top id = none) : DrawSound P ro lo A n L0 := by
 intro id ops il p live an M L w H env O a M0 w0 Q hm hB hc h hf hext hL
 simp only [awp] at h
 have hK : Inv (fun (env' : Env) (H' : List AObj) => ∃ e, get e = get env' ∧ Q .normal (prune live e) H') := fun e1 e2 H he ⟨e, h1, h2⟩ => ⟨e, h1.trans he, h2⟩
 have hsz : il.length = ops.size := by simpa using (compOps_get _ _ _ _ hc).1
 have hB := pokM_pok hsz p _ _ _ _ (bits_none _) (by simp) hB
 have hcl : closed ops (Array.replicate ops.size false) := by
  intro k o _ hk
  simp only [Array.getD_eq_getD_getElem?, Array.getElem?_replicate] at hk
  split at hk <;> cases hk
 have hd : adt ⟨P, lo⟩ (inst il p) env H (fun (env' : Env) (H' : List AObj) => ∃ e, get e = get env' ∧ Q .normal (prune live e) H') := by
  have mono : ∀ (t : DT) (env : Env) (H : List AObj) (K1 K2 : Env → List AObj → Prop), (∀ e H, K1 e H → K2 e H) → Inv K2 → adt ⟨P, lo⟩ t env H K1 → adt ⟨P, lo⟩ t env H K2 := by
   intro t
   induction t with
   | done => intro env H K1 K2 hk _ h; exact hk _ _ h
   | nil => intro _ _ _ _ _ _ _; trivial
   | take st o r ih =>
     intro env H K1 K2 hk hi h
     simp only [adt, atake] at h ⊢
     cases hg : o.g with
     | none =>
       simp only [hg] at h ⊢
       obtain ⟨x, hx, h⟩ := h
       exact ⟨x, hx, ih _ _ _ _ hk hi h⟩
     | some gw =>
       obtain ⟨g, want⟩ := gw
       simp only [hg, aguard] at h ⊢
       split at h
       rotate_left
       ·exact ih _ _ _ _ hk hi h
       ·exact h.elim
       exact ⟨fun e => let ⟨x, hx, h⟩ := h.1 e; ⟨x, hx, ih _ _ _ _ hk hi h⟩, fun e => ih _ _ _ _ hk hi (h.2 e)⟩
   | br o t rest iht ihr =>
     intro env H K1 K2 hk hi h
     have hinv : ∀ K : Env → List AObj → Prop, Inv K → ∀ t, Inv fun env H => adt ⟨P, lo⟩ t env H K := by
      intro K hK t
      induction t with
      | done => exact hK
      | nil => intro _ _ _ _ _; trivial
      | take st o r ih =>
        intro e1 e2 H he h
        simp only [adt, atake] at h ⊢
        have hav : aval e2 = aval e1 := by
         funext i
         cases i with
         | c v => rfl
         | t s => show get e2 s = get e1 s; rw [he]
        have hput : ∀ x, get (put o.dst x e1) = get (put o.dst x e2) := fun x => by rw [get_put, get_put, he]
        cases hg : o.g with
        | none =>
          simp only [hg] at h ⊢
          obtain ⟨x, hx, h⟩ := h
          exact ⟨x, by rw [hav]; exact hx, ih _ _ _ (hput x) h⟩
        | some gw =>
          obtain ⟨g, want⟩ := gw
          simp only [hg, aguard] at h ⊢
          rw [← he]
          split at h
          rotate_left
          ·exact ih _ _ _ (hput _) h
          ·exact h.elim
          exact ⟨fun e => let ⟨x, hx, h⟩ := h.1 e; ⟨x, by rw [hav]; exact hx, ih _ _ _ (hput x) h⟩, fun e => ih _ _ _ (hput _) (h.2 e)⟩
      | br o t rest iht ihr =>
        intro e1 e2 H he h
        exact ⟨agd_frame (fun s _ => by rw [he]) h.1 fun a b H' ⟨mods, _, g1, g2⟩ _ _ hk => iht _ _ _ (by rw [g1, g2, get_append_congr he]) hk, ihr _ _ _ he h.2⟩
     exact ⟨agd_mono h.1 fun e1 e2 H' he hk2 => hinv K2 hi t _ _ _ he (iht _ _ _ _ hk hi hk2), ihr _ _ _ _ hk hi h.2⟩
  exact mono _ _ _ _ _ (fun e H hq => ⟨e, rfl, hq⟩) hK h
 have hA := (pok_any (P := ⟨P, lo⟩) hK hsz p ops.size (Array.replicate ops.size false) (env := env) (H := H) hcl).1 hB hd
 refine wpIn_region_any hm (any_of_AAny (M0 := M0) (w0 := w0) (L0 := L0) hp hc ?_ ops.size _ (M := M) (L := L) (H := H) (env := env) (O := O) ⟨hf.st.drew, hf.size, hf.defers.ext (Ext.drew (M := M))⟩ (hext.trans Ext.drew) hL hA)
 rintro M' L' w' H' env' O' a' ⟨e, he, hq⟩ h2 h3 h4
 obtain ⟨O'', h5⟩ := (h2.env_eq he).weaken (get_prune live e)
 exact ⟨A, M', L', H', _, O'', .refl A, hq, h5, h3, h4⟩
theorem sound' {L0 : List Nat} {an : Ann} {lv : Lives} {pl : Plans} (c : Code) (ir : IR) (hc : comp P an lv pl n c = some ir) {M : Mem} {L : List Nat} {w : World} {H : List AObj} {env : Env} {O : Pos → Option Nat} {a : Act} {Q : Exit → Env → List AObj → Prop}
 (hA : fitsX lo L0.length A) (hro : Own ro w) (h : awp ⟨P, lo⟩ L0.length ir env H Q) (hf : Fr A n M L w H env O a) (hL : L0 <+: L) : c.wpIn (wf ro) 0 P (Post A n M L0 w Q) a w :=
 sound (fun A hA => drawSound L0 hA.opens) c ir hc hA hro h hf hL
end
end Go.Abs
end
section
namespace Go.Abs
open Go
inductive RX where
 | t (s : Nat)
 | c (s : Nat) (sz : Option Nat)
 deriving Inhabited
def compR (P : Program) : ResultVar → Option RX
 | .tmp t => some (.t t)
 | .cell a t => (tsz P t).map (.c a)
def compRs (P : Program) : List ResultVar → Option (List RX)
 | [] => some []
 | r :: rs => match compR P r, compRs P rs with
   | some x, some xs => some (x :: xs)
   | _, _ => none
def ares : List RX → Env → List AObj → (List AV → Prop) → Prop
 | [], _, _, φ => φ []
 | .t s :: r, env, H, φ => ares r env H fun xs => φ (get env s :: xs)
 | .c s sz :: r, env, H, φ => aload sz (get env s) H fun x => ares r env H fun xs => φ (x :: xs)
def aret (n0 : Nat) (rs : List RX) (env : Env) (H : List AObj) (R : AV → List AObj → Prop) : Prop :=
 ares rs env H fun xs => ∃ m, n0 ≤ m ∧ match xs with
  | [x] => ∃ r, x.le r ∧ r.blw m = true ∧ R r (H.take m)
  | xs => ∃ ys, LeL (xs.map AV.unown) ys ∧ belowL m ys = true ∧ R (.tuple ys) (H.take m)
def aretC (C : List AObj → Nat → List AObj → Prop) (n0 : Nat) (rs : List RX) (env : Env) (H : List AObj) (R : AV → List AObj → Prop) : Prop :=
 ares rs env H fun xs => ∃ m H', n0 ≤ m ∧ C H m H' ∧ match xs with
  | [x] => ∃ r, x.le r ∧ r.blw m = true ∧ R r H'
  | xs => ∃ ys, LeL (xs.map AV.unown) ys ∧ belowL m ys = true ∧ R (.tuple ys) H'
theorem ares_mono : ∀ {rs : List RX} {env : Env} {H : List AObj} {φ ψ : List AV → Prop}, (∀ xs, φ xs → ψ xs) → ares rs env H φ → ares rs env H ψ
 | [], env, H, φ, ψ, hm, h => hm _ h
 | .t s :: r, env, H, φ, ψ, hm, h => ares_mono (rs := r) (fun xs hx => hm _ hx) h
 | .c s sz :: r, env, H, φ, ψ, hm, h => aload_mono (fun x hx => ares_mono (rs := r) (fun xs hx => hm _ hx) hx) h
theorem aret_C {n0 : Nat} {rs : List RX} {env : Env} {H : List AObj} {R : AV → List AObj → Prop} (h : aret n0 rs env H R) : aretC (fun H m H' => H' = H.take m) n0 rs env H R :=
 ares_mono (fun xs ⟨m, h1, h2⟩ => ⟨m, H.take m, h1, rfl, h2⟩) h
def argEnv : Nat → List AV → Env
 | _, [] => []
 | k, x :: xs => (k, x) :: argEnv (k + 1) xs
theorem get_argEnv : ∀ (xs : List AV) (k t : Nat), get (argEnv k xs) t = if k ≤ t then xs.getD (t - k) .any else .any
 | [], k, t => by simp [argEnv, get]
 | x :: xs, k, t => by
   simp only [argEnv, get]
   split
   ·rename_i e; subst e; simp
   ·rename_i e
    rw [get_argEnv xs (k + 1) t]
    by_cases h : k + 1 ≤ t
    ·have : t - k = (t - (k + 1)) + 1 := by omega
     rw [if_pos h, if_pos (by omega), this]; simp
    ·rw [if_neg h, if_neg (by omega)]
section
variable {P : Program} {A : Perm} {n : Nat} {M : Mem} {L : List Nat} {w : World} {H : List AObj} {env : Env} {O : Pos → Option Nat} {a : Act}
def resG (tmps : Array Value) : ResultVar → Sem Value := fun
 | .tmp t => pure (tmps.getD t undef)
 | .cell a t => do loadVar t (← asAddr (tmps.getD a undef))
theorem run_results {fn : Func} {tmps : Array Value} {vs : List Value} (h : (fn.results.toList.mapM (resG tmps)).run P w = .ok vs w) :
 (results fn tmps).run P w = .ok (if h : vs.toArray.size = 1 then vs.toArray[0] else .tuple vs.toArray) w := by
 have e : (results fn tmps) = (do
  let vs ← fn.results.mapM (resG tmps)
  pure (if h : vs.size = 1 then vs[0] else .tuple vs)) := rfl
 rw [e, Array.mapM_eq_mapM_toList]
 simp only [Sem.run_bind, Sem.run_map, h]
 rfl
theorem run_res (hf : Fr A n M L w H env O a) : ∀ (rs : List ResultVar) (is : List RX), compRs P rs = some is → ∀ {φ : List AV → Prop}, ares is env H φ →
 ∃ vs xs, (rs.mapM (resG a.tmps)).run P w = .ok vs w ∧ φ xs ∧ RepL M L vs xs ∧ (∀ s, is = [.t s] → xs = [get env s] ∧ vs = [a.tmps.getD s undef]) ∧ (∀ s sz, is = [.c s sz] → ∀ x, xs = [x] → ∀ own ys, x = .lst own ys → own = 0)
 | [], is, hc, φ, h => by
   simp only [compRs] at hc; cases hc
   exact ⟨[], [], by simp, h, .nil, (by intro s e; cases e), (by intro s sz e; cases e)⟩
 | r :: rs, is, hc, φ, h => by
   unfold compRs at hc
   split at hc <;> cases hc
   rename_i x xs hx hxs
   cases r with
   | tmp t =>
     simp only [compR] at hx; cases hx
     simp only [ares] at h
     obtain ⟨vs, ys, h1, h2, h3, _⟩ := run_res hf rs xs hxs h
     refine ⟨a.tmps.getD t undef :: vs, get env t :: ys, ?_, h2, .cons _ _ _ _ (hf.st.env t) h3, ?_, ?_⟩
     ·simp only [List.mapM_cons, Sem.run_bind, resG, Sem.run_pure, Result.andThen_ok, h1]
     ·intro s e
      cases e
      cases rs with
      | nil =>
        cases h3 with
        | nil => exact ⟨rfl, rfl⟩
        | cons v x vs xs hh tt =>
          simp at h1
      | cons r rs =>
        unfold compRs at hxs
        split at hxs <;> cases hxs
     ·intro s sz e; cases e
   | cell p t =>
     simp only [compR, Option.map_eq_some_iff] at hx
     obtain ⟨sz, hsz, rfl⟩ := hx
     simp only [ares] at h
     obtain ⟨r, z, k1, k2, k3, k4⟩ := aload_run (P := P) hsz hf.st h (hf.st.env p)
     obtain ⟨vs, ys, h1, h2, h3, _⟩ := run_res hf rs xs hxs k3
     refine ⟨r :: vs, z :: ys, ?_, h2, .cons _ _ _ _ k2 h3, ?_, ?_⟩
     ·have hl : (do loadVar t (← asAddr (a.tmps.getD p undef)) : Sem Value).run P w = .ok r w := by
       have hrep := hf.st.env p
       revert k1 hrep
       generalize a.tmps.getD p undef = u
       intro k1 hrep
       unfold aload at h
       split at h
       ·rename_i id off e
        rw [e] at hrep
        cases hrep
        exact k1
       ·rename_i y e
        rw [e] at hrep
        cases hrep
        exact k1
       ·exact h.elim
      have h1' : (List.mapM (resG a.tmps) rs).run P w = .ok vs w := h1
      simp only [List.mapM_cons, Sem.run_bind, resG] at hl ⊢
      rw [hl]
      simp only [Result.andThen_ok, h1']
      rfl
     ·intro s e; cases e
     ·intro s sz e x hx
      cases hx
      exact k4
theorem St.ret0 {ev : Nat → Value} {ea : Nat → AV} (h : St A M L w H ev ea O) {v : Value} {x : AV} (hr : Rep M L v x) (ob : Option Nat) (hs : Spare M w v x ob)
 (h1 : ∀ id j b, ob = some b → O (.c id j) ≠ some b) (h2 : ∀ b, ob = some b → b ∉ L ∧ b < w.heap.size ∧ A b) :
 ∃ O', St A M L w H (upd (fun _ => undef) 0 v) (upd (fun _ => .any) 0 x) O' := by
 have k1 := h.forArgs (fun _ => undef) (fun _ => .any) (fun _ => .any _) (fun _ _ _ e => by cases e)
 exact ⟨_, k1.put 0 hr ob hs (fun p b hob hp => by
  cases p with
  | t t => cases hp
  | c id j => exact absurd hp (h1 id j b hob)) h2⟩
theorem upd_blw {x : AV} {m : Nat} (hb : x.blw m = true) (t : Nat) : (upd (fun _ => AV.any) 0 x t).blw m = true := by
 simp only [upd]
 split
 ·exact hb
 ·rfl
theorem St.retain {ev : Nat → Value} {ea : Nat → AV} (h : St A M L w H ev ea O) (A2 : Perm) (hwr : A2.wr = A.wr) (n : Nat) {H' : List AObj} (hlen : H'.length = min n H.length)
 (hc : ∀ (id : Nat) (o : AObj), H'[id]? = some o → o = .dead ∨ (H[id]? = some o ∧ o.blw (A2.lim H'.length id) = true)) (hb : ∀ t, (ea t).blw n = true) : ∃ O', St A2 M (L.take n) w H' ev ea O' := by
 let O' : Pos → Option Nat := fun p => match p with | .t t => O (.t t) | .c id j => match H'[id]? with | some .dead => none | some _ => O (.c id j) | none => none
 have hO : ∀ p b, O' p = some b → O p = some b := by
  intro p b hp
  cases p with
  | t t => exact hp
  | c id j =>
    simp only [O'] at hp
    split at hp <;> first | exact hp | cases hp
 have hget : ∀ {α : Type} {l : List α} {i : Nat} {a : α}, (l.take n)[i]? = some a → i < n ∧ l[i]? = some a := by
  intro α l i a hi
  rw [List.getElem?_take] at hi
  split at hi
  ·exact ⟨by assumption, hi⟩
  ·cases hi
 have hmem : ∀ b, b ∈ L.take n → b ∈ L := fun b hb => List.mem_of_mem_take hb
 refine ⟨O', { len := by simp [h.len, hlen], nodup := (List.take_sublist n L).nodup h.nodup, env := fun t => (h.env t).takeL (hb t), mem := h.mem, obj := ?_, strat := ?_, lt := fun b hb => h.lt b (hmem b hb), spt := h.spt, spc := ?_, oinj := fun p q b hp hq => h.oinj p q b (hO p b hp) (hO q b hq), osep := fun p b hp hm => h.osep p b (hO p b hp) (hmem b hm), olt := fun p b hp => h.olt p b (hO p b hp), La := fun b hb => by rw [hwr]; exact h.La b (hmem b hb), Oa := fun p b hp => by rw [hwr]; exact h.Oa p b (hO p b hp), fresh := fun b hb => by rw [hwr]; exact h.fresh b hb }⟩
 ·intro id o b ho hb'
  obtain ⟨hn, hb'⟩ := hget hb'
  rcases hc id o ho with rfl | ⟨h1, h2⟩
  ·trivial
  ·refine (h.obj id o b h1 hb').takeL (AObj.blw_mono ?_ o h2)
   have := A2.lim_le H'.length id
   omega
 ·intro id o ho
  rcases hc id o ho with rfl | ⟨h1, h2⟩
  ·rfl
  ·exact h2
 ·intro id j
  have dead : ∀ x : Option AObj, H'[id]? = x → (x = none ∨ x = some .dead) → Spare M w (cellV (L.take n) w id j) (cellA H' id j) (O' (.c id j)) := by
   intro x hx hx2
   have e2 : cellA H' id j = .any := by
    unfold cellA
    rw [hx]
    rcases hx2 with rfl | rfl <;> rfl
   have e3 : O' (.c id j) = none := by
    simp only [O', hx]
    rcases hx2 with rfl | rfl <;> rfl
   rw [e2, e3]
   rfl
  cases hx : H'[id]? with
  | none => exact dead none hx (.inl rfl)
  | some o =>
    by_cases ed : o = .dead
    ·subst ed; exact dead _ hx (.inr rfl)
    ·rcases hc id o hx with h' | ⟨h1, h2⟩
     ·exact absurd h' ed
     have hl := get_lt hx
     have e1 : cellV (L.take n) w id j = cellV L w id j := by
      unfold cellV
      rw [List.getElem?_take, if_pos (by omega)]
     have e2 : cellA H' id j = cellA H id j := by
      unfold cellA
      rw [hx, h1]
     have e3 : O' (.c id j) = O (.c id j) := by
      simp only [O', hx]
     rw [e1, e2, e3]
     exact h.spc id j
theorem leL_rep : ∀ {vs : List Value} {xs ys : List AV}, RepL M L vs xs → LeL (xs.map AV.unown) ys → RepL M L vs ys
 | _, _, [], .nil, h => .nil
 | _, _, y :: ys, .nil, h => by simp [LeL] at h
 | _, _, [], .cons _ _ _ _ _ _, h => by simp [LeL] at h
 | _, _, y :: ys, .cons _ _ _ _ h1 h2, h => by
   simp only [List.map_cons, LeL] at h
   exact .cons _ _ _ _ (h1.unown.le h.1) (leL_rep h2 h.2)
def Marks (A : Perm) (w w2 : World) : Prop := w2.heap.size = w.heap.size ∧ w2.os = w.os ∧ w2.tape = w.tape ∧ w2.output = w.output ∧
 ∀ b, w2.heap[b]? = w.heap[b]? ∨ (A.base ≤ b ∧ ¬ A b ∧ (∃ x, w.heap[b]? = some (.deferred x)) ∧ ∃ x, w2.heap[b]? = some (.deferred x))
theorem Marks.refl (A : Perm) (w : World) : Marks A w w := ⟨rfl, rfl, rfl, rfl, fun b => .inl rfl⟩
theorem Marks.trans {A : Perm} {w w1 w2 : World} (h : Marks A w w1) (k : Marks A w1 w2) : Marks A w w2 := by
 refine ⟨k.1.trans h.1, k.2.1.trans h.2.1, k.2.2.1.trans h.2.2.1, k.2.2.2.1.trans h.2.2.2.1, fun b => ?_⟩
 rcases h.2.2.2.2 b with h1 | ⟨h1, h2, h3, x, h4⟩ <;> rcases k.2.2.2.2 b with k1 | ⟨k1, k2, ⟨y, k3⟩, k4⟩
 ·exact .inl (k1.trans h1)
 ·exact .inr ⟨k1, k2, ⟨y, by rw [← h1]; exact k3⟩, k4⟩
 ·exact .inr ⟨h1, h2, h3, x, by rw [k1]; exact h4⟩
 ·exact .inr ⟨h1, h2, h3, k4⟩
theorem leaves_marks {A : Perm} {F : Fence} {m : Nat} {fn : Func} {tmps : Array Value} {R : Ending → World → Prop} : ∀ (ds : List Deferred) {w : World}, Dfs A w ds → (∀ w2, Marks A w w2 → LeavesIn F m P fn tmps R [] .returning w2) → LeavesInM F m P fn tmps R ds .returning w
 | [], w, _, h => h w (.refl A w)
 | d :: ds, w, hd, h => by
   obtain ⟨D, rfl, h2, h3, h4⟩ := hd.2.2 _ List.mem_cons_self
   have hm : Marks A w (w.putObj D (.deferred none)) := ⟨World.putObj_size, rfl, rfl, rfl, fun b => by
    by_cases e : b = D
    ·subst e
     exact .inr ⟨h4, h3, ⟨_, h2⟩, _, World.putObj_heap_same (Array.getElem?_eq_some_iff.1 h2).1⟩
    ·exact .inl (World.putObj_heap_other e)⟩
   refine ⟨by simp, .inl ⟨D, _, rfl, run_takeDeferred h2, leaves_marks ds ⟨by rw [World.putObj_size]; exact hd.1, (List.nodup_cons.1 hd.2.1).2, fun d' hd' => ?_⟩ fun w2 hm2 => h w2 (hm.trans hm2)⟩⟩
   obtain ⟨D', e', k2, k3⟩ := hd.2.2 d' (List.mem_cons_of_mem _ hd')
   refine ⟨D', e', ?_, k3⟩
   rw [World.putObj_heap_other]
   ·exact k2
   ·rintro rfl
    exact (List.nodup_cons.1 hd.2.1).1 (e' ▸ hd')
theorem St.marks {ev : Nat → Value} {ea : Nat → AV} (h : St A M L w H ev ea O) {w2 : World} (hm : Marks A w w2) : St A M L w2 H ev ea O := by
 obtain ⟨h1, _, _, _, h5⟩ := hm
 have same : ∀ b, A b → w2.heap[b]? = w.heap[b]? := fun b hb => by
  rcases h5 b with h | ⟨_, h, _⟩
  ·exact h
  ·exact absurd hb h
 exact { len := h.len, nodup := h.nodup, env := h.env, strat := h.strat, oinj := h.oinj, osep := h.osep, La := h.La, Oa := h.Oa
         mem := fun b o v hv => by
          have hc := h.mem b o v hv
          rcases h5 b with e | ⟨_, _, ⟨x, e⟩, _⟩
          ·simp only [World.cell?] at hc ⊢; rw [e]; exact hc
          ·simp [World.cell?, e] at hc
         obj := fun id o b ho hb => (h.obj id o b ho hb).mono (Mem.sub_refl M) (List.prefix_refl L) (same b (h.La b (List.mem_of_getElem? hb))) (fun _ => rfl)
         lt := fun b hb => by rw [h1]; exact h.lt b hb
         spt := fun t => (h.spt t).mono fun b hb => ⟨same b (h.Oa _ b hb), fun _ => rfl⟩
         spc := fun id j => by
          have e : cellV L w2 id j = cellV L w id j := by
           unfold cellV
           split
           ·rename_i b hb
            simp only [World.cell?]
            rw [same b (h.La b (List.mem_of_getElem? hb))]
           ·rfl
          rw [e]
          exact (h.spc id j).mono fun b hb => ⟨same b (h.Oa _ b hb), fun _ => rfl⟩
         olt := fun p b hp => by rw [h1]; exact h.olt p b hp
         fresh := fun b hb => h.fresh b (by rw [← h1]; exact hb) }
theorem Ext.marks {A A' : Perm} {M M' : Mem} {w w' w2 : World} (h : Ext A M w M' w') (hm : Marks A' w' w2) (hb : w.heap.size ≤ A'.base) : Ext A M w M' w2 := by
 obtain ⟨h1, h2, h3, h4, h5⟩ := hm
 refine ⟨h.msub, by rw [h1]; exact h.size, h2.trans h.os, h3.trans h.tape, h4.trans h.output, fun b hlt hA => ?_, fun b r hr => ?_⟩
 ·obtain ⟨k1, k2⟩ := h.keep b hlt hA
  refine ⟨?_, k2⟩
  rcases h5 b with e | ⟨e, _⟩
  ·exact e.trans k1
  ·omega
 ·obtain ⟨r', k1, k2⟩ := h.loops b r hr
  rcases h5 b with e | ⟨_, _, ⟨x, e⟩, _⟩
  ·exact ⟨r', e.trans k1, k2⟩
  ·rw [k1] at e; cases e
theorem calls_core {lo : Option Nat} {b : Bool} (A1 : Perm → Perm) (C : List AObj → Nat → List AObj → Prop) {f : FuncId} {fn : Func} {c : Code} {an : Ann} {lv : Lives} {pl : Plans} {ir : IR} {rs : List RX} {args : List AV} {R : AV → List AObj → Prop}
 (hf : P.funcs[f]? = some fn) (hcall : ∀ (as : Array Value) (w : World), (callFunc f as).run P w = .ok (.enter f as) w) (hb : fn.body = some c) (hc : comp P an lv pl fn.ntmps c = some ir) (hrs : compRs P fn.results.toList = some rs)
 (h1 : ∀ A : Perm, A.entry b H.length → fitsX lo H.length (A1 A)) (h2 : ∀ A : Perm, (A1 A).wr = A.wr) (h3 : ∀ (A : Perm) {M : Mem} {L : List Nat} {w : World} {ev : Nat → Value} {ea : Nat → AV} {O : Pos → Option Nat}, A.entry b H.length → St A M L w H ev ea O → St (A1 A) M L w H ev ea O)
 (h4 : ∀ (A : Perm) {M : Mem} {L : List Nat} {w : World} {H' : List AObj} {ev : Nat → Value} {ea : Nat → AV} {O : Pos → Option Nat} {m : Nat} {H'' : List AObj}, A.entry b H.length → H.length ≤ m → H.length ≤ H'.length → C H' m H'' → St (A1 A) M L w H' ev ea O → (∀ t, (ea t).blw m = true) → ∃ O', St A M (L.take m) w H'' ev ea O')
 (hn : args.length ≤ fn.ntmps) (Rt : Env → List AObj → Prop) (hRt : ∀ env H', Rt env H' → aretC C H.length rs env H' R) (h : awp ⟨P, lo⟩ H.length ir (argEnv 0 args) H fun e env H' => (e = .normal ∨ e = .ret) ∧ Rt env H') : CallsX b P f args H R := by
 refine fun A M L w vs O hA hs hst0 => .inl ⟨hcall _ _, callsIn_wide.1 (callsIn_of_wp_marks (F := Fence.wide) (n := 0) hf hb trivial ?_ rfl)⟩
 obtain ⟨A2, hA2⟩ : ∃ A2 : Perm, A2 = { A1 A with base := w.heap.size } := ⟨_, rfl⟩
 have a2w : A2.wr = A.wr := by rw [hA2]; exact h2 A
 have st12 : ∀ {M : Mem} {L : List Nat} {w : World} {H : List AObj} {ev : Nat → Value} {ea : Nat → AV} {O : Pos → Option Nat}, St (A1 A) M L w H ev ea O → St A2 M L w H ev ea O := by
  intro M L w H ev ea O h; subst hA2
  exact { len := h.len, nodup := h.nodup, env := h.env, mem := h.mem, obj := h.obj, strat := h.strat, lt := h.lt, spt := h.spt, spc := h.spc, oinj := h.oinj, osep := h.osep, olt := h.olt, La := h.La, Oa := h.Oa, fresh := h.fresh }
 have st21 : ∀ {M : Mem} {L : List Nat} {w : World} {H : List AObj} {ev : Nat → Value} {ea : Nat → AV} {O : Pos → Option Nat}, St A2 M L w H ev ea O → St (A1 A) M L w H ev ea O := by
  intro M L w H ev ea O h; subst hA2
  exact { len := h.len, nodup := h.nodup, env := h.env, mem := h.mem, obj := h.obj, strat := h.strat, lt := h.lt, spt := h.spt, spc := h.spc, oinj := h.oinj, osep := h.osep, olt := h.olt, La := h.La, Oa := h.Oa, fresh := h.fresh }
 have hst := st12 (h3 A hA hst0)
 have hfits : fitsX lo H.length A2 := by rw [hA2]; exact h1 A hA
 have hll : L.length = H.length := hst0.len
 have hfr : Fr A2 fn.ntmps M L w H (argEnv 0 args) O { tmps := vs ++ Array.replicate (fn.ntmps - vs.size) undef, defers := [] } := by
  refine ⟨hst.congr ?_ ?_, by simp; omega, ⟨by rw [hA2]; exact Nat.le_refl _, List.nodup_nil, fun d h => by cases h⟩⟩
  ·intro t
   simp only [Array.getD_eq_getD_getElem?]
   by_cases ht : t < vs.size
   ·rw [Array.getElem?_append_left ht]
   ·rw [Array.getElem?_append_right (by omega), Array.getElem?_eq_none (xs := vs) (by omega), Array.getElem?_replicate]
    split <;> rfl
  ·intro t
   rw [get_argEnv]; simp
 rw [← hst.len] at h hfits
 refine Go.wpIn_mono (sound' (ro := none) (L0 := L) c ir hc hfits (fun l e => by cases e) h hfr (List.prefix_refl L)) ?_
 rintro e a w1 ⟨A', M', L', H', env, O', hle, ⟨he, hret⟩, hfr1, hext1, hL⟩
 have base : A'.base = w.heap.size := by rw [hle.2.2, hA2]
 have done : (∀ w', Marks A' w1 w' → LeavesIn Fence.wide 0 P fn a.tmps (fun e w' => ∃ v r H' M' L' O', e = .returned v ∧ R r H' ∧ St A M' L' w' H' (upd (fun _ => undef) 0 v) (upd (fun _ => .any) 0 r) O' ∧ Ext A M w M' w' ∧ L <+: L') [] .returning w') →
  bodyPostM Fence.wide 0 P fn (fun e w' => ∃ v r H' M' L' O', e = .returned v ∧ R r H' ∧ St A M' L' w' H' (upd (fun _ => undef) 0 v) (upd (fun _ => .any) 0 r) O' ∧ Ext A M w M' w' ∧ L <+: L') e a w1 := by
  intro hd
  rcases he with rfl | rfl <;> exact leaves_marks _ hfr1.defers hd
 refine done fun w' hm => ?_
 have hfr' : Fr A2 fn.ntmps M' L' w' H' env O' { a with defers := [] } :=
  ⟨(hfr1.st.marks hm).le hle, hfr1.size, ⟨by rw [hm.1, ← hle.2.2]; exact hfr1.defers.1, List.nodup_nil, fun d h => by cases h⟩⟩
 have hext : Ext A M w M' w' := by
  have := hext1.marks hm (Nat.le_of_eq base.symm)
  exact ⟨this.msub, this.size, this.os, this.tape, this.output, fun b hb hA => this.keep b hb (by rw [a2w]; exact hA), this.loops⟩
 have hlen2 : H.length ≤ H'.length := by have := hL.length_le; rw [hll, hfr'.st.len] at this; exact this
 have goal : ∃ v, (results fn a.tmps).run P w' = .ok v w' ∧ ∃ v' r H'' M'' L'' O'', Ending.returned v = .returned v' ∧ R r H'' ∧ St A M'' L'' w' H'' (upd (fun _ => undef) 0 v') (upd (fun _ => .any) 0 r) O'' ∧ Ext A M w M'' w' ∧ L <+: L'' := by
  replace hret := hRt _ _ hret
  unfold aretC at hret
  obtain ⟨us, xs, k1, ⟨m, H2, hm, hC, k2⟩, k3, k4, k5⟩ := run_res (P := P) hfr' _ _ hrs hret
  have hpre : L <+: L'.take m := by
   obtain ⟨r, rfl⟩ := hL
   exact ⟨r.take (m - L.length), by rw [List.take_append, List.take_of_length_le (show L.length ≤ m by omega)]⟩
  have hrun := run_results k1
  split at k2
  ·rename_i x
   obtain ⟨r, hle, hb, hR⟩ := k2
   cases k3 with
   | cons v _ _ _ hv ht =>
   cases ht
   refine ⟨v, by simpa using hrun, v, r, H2, M', L'.take m, ?_⟩
   have hown : ∃ ob, Spare M' w' v x ob ∧ (∀ id j b, ob = some b → O' (.c id j) ≠ some b) ∧ (∀ b, ob = some b → b ∉ L' ∧ b < w'.heap.size ∧ A2 b) := by
    match rs, hrs, k4, k5 with
    | [], hrs, _, _ =>
      unfold compRs at hrs
      split at hrs
      ·rename_i e
       rw [e] at k1
       simp at k1
      ·split at hrs <;> cases hrs
    | [.t s], _, k4, _ =>
      obtain ⟨e1, e2⟩ := k4 s rfl
      cases e1; cases e2
      refine ⟨O' (.t s), hfr'.st.spt s, fun id j b hb hc => ?_, fun b hb => ⟨hfr'.st.osep _ b hb, hfr'.st.olt _ b hb, hfr'.st.Oa _ b hb⟩⟩
      exact absurd (hfr'.st.oinj _ _ b hb hc) (by intro e; cases e)
    | [.c s sz], _, _, k5 =>
      exact ⟨none, Spare.free (k5 s sz rfl x rfl), (fun _ _ _ e => by cases e), (fun _ e => by cases e)⟩
    | r1 :: r2 :: rs, hrs, _, _ =>
      unfold compRs at hrs
      split at hrs
      ·cases hrs
      ·split at hrs <;> cases hrs
       rename_i h1 h2
       unfold compRs at h2
       split at h2
       ·cases h2
       ·rename_i e
        rw [e] at k1
        simp only [List.mapM_cons, Sem.run_bind] at k1
        revert k1
        generalize hg1 : (resG a.tmps _).run P w' = g1
        cases g1 <;> simp
        generalize hg2 : (resG a.tmps _).run P _ = g2
        cases g2 <;> simp
        generalize hg3 : (List.mapM (resG a.tmps) _).run P _ = g3
        cases g3 <;> simp
   obtain ⟨ob, o1, o2, o3⟩ := hown
   obtain ⟨ob', p1, p2⟩ := o1.le hv hle
   obtain ⟨O'', hst'⟩ := hfr'.st.ret0 (hv.le hle) ob' p1 (fun id j b hb => by
    rcases p2 with rfl | rfl
    ·cases hb
    ·exact o2 id j b hb) (fun b hb => by
    rcases p2 with rfl | rfl
    ·cases hb
    ·exact o3 b hb)
   obtain ⟨O3, hst''⟩ := h4 A hA (by omega) hlen2 hC (st21 hst') (upd_blw hb)
   exact ⟨O3, rfl, hR, hst'', hext, hpre⟩
  ·rename_i hne
   obtain ⟨ys, hle, hb, hR⟩ := k2
   have hlen : us.toArray.size ≠ 1 := by
    have := k3.length
    intro e
    simp at e
    rw [e] at this
    match xs, this with
    | [x], _ => exact hne x rfl
   rw [dif_neg hlen] at hrun
   refine ⟨.tuple us.toArray, hrun, .tuple us.toArray, .tuple ys, H2, M', L'.take m, ?_⟩
   obtain ⟨O'', hst'⟩ := hfr'.st.ret0 (.tuple _ _ (leL_rep k3 hle)) none (Spare.free (by intro _ _ e; cases e)) (fun _ _ _ e => by cases e) (fun _ e => by cases e)
   obtain ⟨O3, hst''⟩ := h4 A hA (by omega) hlen2 hC (st21 hst') (upd_blw (x := .tuple ys) hb)
   exact ⟨O3, rfl, hR, hst'', hext, hpre⟩
 exact goal
theorem entry_fits {A : Perm} {k : Nat} (h : A.entry false k) : fitsX none k A := ⟨h.1, fun id hid => by rw [h.2 id hid]; rfl⟩
theorem acalls_of {f : FuncId} {fn : Func} {c : Code} {an : Ann} {lv : Lives} {pl : Plans} {ir : IR} {rs : List RX} {args : List AV} {R : AV → List AObj → Prop}
 (hf : P.funcs[f]? = some fn) (hcall : ∀ (as : Array Value) (w : World), (callFunc f as).run P w = .ok (.enter f as) w) (hb : fn.body = some c) (hc : comp P an lv pl fn.ntmps c = some ir) (hrs : compRs P fn.results.toList = some rs)
 (hn : args.length ≤ fn.ntmps) (h : awp P H.length ir (argEnv 0 args) H fun e env H' => (e = .normal ∨ e = .ret) ∧ aret H.length rs env H' R) : ACalls P f args H R := by
 refine calls_core (lo := none) (b := false) (fun A => A) (fun H m H' => H' = H.take m) hf hcall hb hc hrs (fun A => entry_fits) (fun A => rfl) (fun A _ _ _ _ _ _ _ h => h) ?_ hn (fun env H' => aret H.length rs env H' R) (fun env H' => aret_C) h
 intro A M L w H' ev ea O m H'' hA hm hl e hst hblw
 subst e
 exact hst.cut m (fun id o => (entry_fits hA).closed hm hst id o) hblw
def loosen (k : Nat) (A : Perm) : Perm where
 wr := A.wr
 top := fun id => if id < k then A.top id else none
 ok := fun id n h => by
  split at h
  ·exact A.ok id n h
  ·cases h
theorem loosen_fits {A : Perm} {k : Nat} {b : Bool} (h : A.entry b k) : fitsX (some k) k (loosen k A) :=
 ⟨fun id hid => by obtain ⟨m, h1, h2⟩ := h.1 id hid; exact ⟨m, h1, by simp only [loosen, if_pos hid]; exact h2⟩, rfl, fun id hid => by simp only [loosen]; rw [if_neg (by omega)]⟩
def sealS (n0 : Nat) (H : List AObj) (m : Nat) (H' : List AObj) : Prop :=
 H'.length = min m H.length ∧ ∀ (id : Nat) (o : AObj), H'[id]? = some o → o = .dead ∨ (H[id]? = some o ∧ (n0 ≤ id → o.blw (id + 1) = true))
theorem acallsS_of {f : FuncId} {fn : Func} {c : Code} {an : Ann} {lv : Lives} {pl : Plans} {ir : IR} {rs : List RX} {args : List AV} {R : AV → List AObj → Prop}
 (hf : P.funcs[f]? = some fn) (hcall : ∀ (as : Array Value) (w : World), (callFunc f as).run P w = .ok (.enter f as) w) (hb : fn.body = some c) (hc : comp P an lv pl fn.ntmps c = some ir) (hrs : compRs P fn.results.toList = some rs)
 (hn : args.length ≤ fn.ntmps) (h : awp ⟨P, some H.length⟩ H.length ir (argEnv 0 args) H fun e env H' => (e = .normal ∨ e = .ret) ∧ aretC (sealS H.length) H.length rs env H' R) : ACalls P f args H R := by
 refine calls_core (lo := some H.length) (b := false) (loosen H.length) (sealS H.length) hf hcall hb hc hrs (fun A hA => loosen_fits hA) (fun A => rfl) (fun A M L w ev ea O hA hst => ?_) ?_ hn (fun env H' => aretC (sealS H.length) H.length rs env H' R) (fun env H' h => h) h
 ·exact { len := hst.len, nodup := hst.nodup, env := hst.env, mem := hst.mem, obj := hst.obj, lt := hst.lt, spt := hst.spt, spc := hst.spc, oinj := hst.oinj, osep := hst.osep, olt := hst.olt, La := hst.La, Oa := hst.Oa, fresh := hst.fresh
          strat := fun id o ho => by
           have := hst.strat id o ho
           have e : (loosen H.length A).lim H.length id = A.lim H.length id := by unfold Perm.lim; simp only [loosen, if_pos (get_lt ho)]
           rw [e]; exact this }
 ·intro A M L w H' ev ea O m H'' hA hm hl hC hst hblw
  obtain ⟨hlen, hC⟩ := hC
  refine hst.retain A rfl m hlen (fun id o ho => ?_) hblw
  rcases hC id o ho with h' | ⟨h1, h2⟩
  ·exact .inl h'
  ·refine .inr ⟨h1, ?_⟩
   by_cases hid : id < H.length
   ·obtain ⟨k, hk, ek⟩ := hA.1 id hid
    have := hst.strat id o h1
    have e1 : (loosen H.length A).lim H'.length id = min k H'.length := by unfold Perm.lim; simp only [loosen, if_pos hid, ek]
    have e2 : A.lim H''.length id = min k H''.length := by unfold Perm.lim; simp only [ek]
    rw [e1] at this
    rw [e2]
    exact AObj.blw_mono (by omega) o this
   ·have e2 : A.lim H''.length id = min (id + 1) H''.length := by unfold Perm.lim; rw [hA.2 id (by omega)]; rfl
    have := get_lt ho
    rw [e2]
    exact AObj.blw_mono (by omega) o (h2 (by omega))
end
end Go.Abs
end
