/- A memory-free reading of the model's values (part 10): calls, and all operations together. -/
import Derived.Test.YtcfmgncmkbiknaaAbs9c
set_option linter.unusedVariables false
set_option linter.unusedSimpArgs false
namespace Go.Abs
open Go

/-- A call, told without memory: R of what it returns and of what the objects are then. (Either the callee has a body, or it answers at once.) -/
def ACalls (P : Program) (f : FuncId) (args : List AV) (H : List AObj) (R : AV → List AObj → Prop) : Prop :=
  ∀ A M L w (vs : Array Value) O, vs.size = args.length → St A M L w H (fun t => vs.getD t undef) (fun t => args.getD t .any) O →
    ((callFunc f vs).run P w = .ok (.enter f vs) w ∧ Calls P f vs w fun e w' => ∃ v r H' M' L' O', e = .returned v ∧ R r H' ∧ St A M' L' w' H' (upd (fun _ => undef) 0 v) (upd (fun _ => .any) 0 r) O' ∧ Ext A M w M' w' ∧ L <+: L') ∨
    (∃ v w' r H' M' L' O', (callFunc f vs).run P w = .ok (.value v) w' ∧ R r H' ∧ St A M' L' w' H' (upd (fun _ => undef) 0 v) (upd (fun _ => .any) 0 r) O' ∧ Ext A M w M' w' ∧ L <+: L')

theorem ACalls.mono {P : Program} {f : FuncId} {args : List AV} {H : List AObj} {R R' : AV → List AObj → Prop} (h : ACalls P f args H R) (hr : ∀ r H', R r H' → R' r H') : ACalls P f args H R' := by
  intro A M L w vs O hs hst
  rcases h A M L w vs O hs hst with ⟨h1, h2⟩ | ⟨v, w', r, H', M', L', O', h1, h2, h3⟩
  · exact .inl ⟨h1, h2.mono fun e w' ⟨v, r, H', M', L', O', h1, h2, h3⟩ => ⟨v, r, H', M', L', O', h1, hr _ _ h2, h3⟩⟩
  · exact .inr ⟨v, w', r, H', M', L', O', h1, hr _ _ h2, h3⟩

/-- Where the callee has a body. -/
theorem ACalls.body {P : Program} {f : FuncId} {args : List AV} {H : List AObj} {R : AV → List AObj → Prop} (h : ACalls P f args H R) (he : ∀ (as : Array Value) (w : World), (callFunc f as).run P w = .ok (.enter f as) w)
    {A : Nat → Prop} {M : Mem} {L : List Nat} {w : World} {vs : Array Value} {O : Pos → Option Nat} (hs : vs.size = args.length) (hst : St A M L w H (fun t => vs.getD t undef) (fun t => args.getD t .any) O) :
    Calls P f vs w fun e w' => ∃ v r H' M' L' O', e = .returned v ∧ R r H' ∧ St A M' L' w' H' (upd (fun _ => undef) 0 v) (upd (fun _ => .any) 0 r) O' ∧ Ext A M w M' w' ∧ L <+: L' := by
  rcases h A M L w vs O hs hst with ⟨h1, h2⟩ | ⟨v, w', r, H', M', L', O', h1, h2, h3⟩
  · exact h2
  · rw [he] at h1; cases h1

/-- Arguments may be told less of. -/
def LeL : List AV → List AV → Prop
  | [], [] => True
  | x :: xs, y :: ys => x.le y ∧ LeL xs ys
  | _, _ => False

def baseArgs (env : Env) (pass : Option Nat) : Nat → List IX → List AV
  | _, [] => []
  | j, .t s :: xs => (if pass = some j then get env s else (get env s).unown) :: baseArgs env pass (j + 1) xs
  | j, .c v :: xs => v.unown :: baseArgs env pass (j + 1) xs
/-- The slot whose list is handed over. -/
def passSlot (args : List IX) (pass : Option Nat) : Option Nat :=
  match pass with
  | some j => match args[j]? with
    | some (.t s) => some s
    | _ => none
  | none => none
def unslotE (env : Env) (s : Option Nat) : Env := match s with | some d => (d, (get env d).unown) :: env | none => env

def acall (P : Program) (f : AV) (args : List IX) (pass : Option Nat) (env : Env) (H : List AObj) (K : AV → Env → List AObj → Prop) : Prop :=
  match f with
  | .fn (.func g) first cap => ∃ args', LeL (first.map AV.unown ++ baseArgs env pass 0 args ++ cap.map AV.unown) args' ∧ ACalls P g args' H (fun r H' => K r (unslotE env (passSlot args pass)) H')
  | _ => False

def lenOk (kd : Nat) (x : AV) : Prop :=
  match kd, x with
  | 0, .str _ => True
  | 1, .nils => True
  | 1, .lst _ _ => True
  | 1, .arr _ _ _ _ => True
  | 2, .nilm => True
  | 2, .map _ => True
  | _, _ => False

def optX (env : Env) (x : Option IX) : Option AV := x.map (aval env)

def aop (P : Program) (o : IOp) (dst : Option Nat) (env : Env) (H : List AObj) (K : Env → List AObj → Prop) : Prop :=
  match o with
  | .set x take => match dst with | some d => K (setE env d x take) H | none => K env H
  | .pick c a b => boolP (aval env c) fun q => (q = true → K (put dst (aval env a).unown env) H) ∧ (q = false → K (put dst (aval env b).unown env) H)
  | .bin op x y => abin op (aval env x) (aval env y) fun z => K (put dst z env) H
  | .shift op x y => ashift op (aval env x) (aval env y) fun z => K (put dst z env) H
  | .eqBool neq x y => aeqBool neq (aval env x) (aval env y) fun z => K (put dst z env) H
  | .eqNil kd neq x => aeqNil kd neq (aval env x) fun z => K (put dst z env) H
  | .un op x => aun op (aval env x) fun z => K (put dst z env) H
  | .box x => (aval env x).val = true ∧ belowL (H.length + 1) ((aval env x).cells.map AV.unown) = true ∧ K (put dst (.ptr H.length 0) env) (H ++ [.cells ((aval env x).cells.map AV.unown)])
  | .boxi x => (aval env x).val = true ∧ K (put dst (.iptr (aval env x)) env) H
  | .boxs m x => (aval env x).val = true ∧ (aval env x).cells.length = m ∧ (aval env x).cells.all AV.one = true ∧ K (put dst (.iptr (aval env x)) env) H
  | .alloc z => belowL (H.length + 1) (z.cells.map AV.unown) = true ∧ K (put dst (.ptr H.length 0) env) (H ++ [.cells (z.cells.map AV.unown)])
  | .build z ps => abuild z.cells (ps.map fun q => (q.1, q.2.1, aval env q.2.2)) fun v => K (put dst v env) H
  | .buildSlice own esz z len ps => abslice (List.replicate len (canon z)) esz (ps.map fun q => (q.1, aval env q.2)) fun xs => K (put dst (.lst own xs) env) H
  | .load sz a => aload sz (aval env a) H fun z => K (put dst z env) H
  | .takeCell a => match dst, aval env a with
    | some d, .ptr id off => match H[id]? with
      | some (.cells es) => off < es.length ∧ K ((d, es.getD off .any) :: env) (H.set id (.cells (es.set off (es.getD off .any).unown)))
      | _ => False
    | _, _ => False
  | .store m a x => astore m (aval env a) (aval env x) H fun H' => K env H'
  | .putCell a s => aputCell (aval env a) (get env s) H fun H' => K ((s, (get env s).unown) :: env) H'
  | .nilCheck x => anilCheck (aval env x) fun z => K (put dst z env) H
  | .fieldAddr off sz x => afieldAddr off sz (aval env x) fun z => K (put dst z env) H
  | .field off sz x => afield off sz (aval env x) fun z => K (put dst z env) H
  | .indexAddr esz x i => (∀ own xs, aval env x = .lst own xs → ∀ z ∈ xs, z.cells.length = esz) ∧ aindexAddr esz (aval env x) (aval env i) fun z => K (put dst z env) H
  | .indexStr x i => aindexStr (aval env x) (aval env i) fun z => K (put dst z env) H
  | .slice esz x lo hi mx => asliceX esz (aval env x) (optX env lo) (optX env hi) (optX env mx) fun z => K (put dst z env) H
  | .copy esz d s => acopy esz (aval env d) (aval env s) H fun z H' => K (put dst z env) H'
  | .sliceStr x lo hi => asliceStr (aval env x) (optX env lo) (optX env hi) fun z => K (put dst z env) H
  | .len kd x => lenOk kd (aval env x) ∧ alen (aval env x) H fun z => K (put dst z env) H
  | .append esz bytes s x => aappend esz bytes (aval env s) (aval env x) fun zs => K (put dst (.lst esz zs) (unslotE env s.slot)) H
  | .mkarr esz bytes z n => amkarr esz bytes z (aval env n) H fun v H' => K (put dst v env) H'
  | .mkbuf esz bytes n => amkbuf esz bytes (aval env n) fun v => K (put dst v env) H
  | .mkmap => K (put dst (.map H.length) env) (H ++ [.map []])
  | .lookup kd z m k ok => alookup kd z (aval env m) (aval env k) ok H fun v => K (put dst v env) H
  | .mapset kd m k x => amapset kd (aval env m) (aval env k) (aval env x) H fun H' => K env H'
  | .fn f first cap => K (put dst (.fn f (first.map fun x => (aval env x).unown) (cap.map fun x => (aval env x).unown)) env) H
  | .extract x i => aextract (aval env x) i fun z => K (put dst z env) H
  | .call f args pass => acall P (aval env f) args pass env H fun r env' H' => K (put dst r env') H'
  | .convInt k x => aconvInt k (aval env x) fun z => K (put dst z env) H
  | .convStr x => aconvStr (aval env x) fun z => K (put dst z env) H
  | .bytesOf x => abytesOf 1 (aval env x) fun z => K (put dst z env) H
  | .strOf x => astrOf (aval env x) fun z => K (put dst z env) H
  | .mx big a b => amx big (aval env a) (aval env b) fun z => K (put dst z env) H
  | .setf esz x => asetf esz (aval env x) H fun z H' => K (put dst z env) H'
  | .never => False

/-! ### From the model's operations to these -/
def compPartsOk (P : Program) (e : TypeId) : Option (Nat × AV) :=
  match tcells P e, tzero P e with
  | some esz, some z => if 0 < esz ∧ z.cells.length = esz ∧ z.val = true then some (esz, z) else none
  | _, _ => none
def tbytes (P : Program) (e : TypeId) : Option Nat := (P.info? e).map (·.bytes)
def okZero (z : AV) : Bool := z.cells.all fun y => match y with | .lst own _ => own == 0 | _ => true
def compOpt : Option Operand → Option (Option IX)
  | none => some none
  | some x => (compX x).map some

def sameOp (x y : Operand) : Bool := match x, y with | .tmp a, .tmp b => a == b | .const (.int .i64 a), .const (.int .i64 b) => a == b | _, _ => false

def compOp (P : Program) (o : Oper) (fl : Nat) : Option IOp :=
  match o.op with
  | .move x | .assign x => (compX x).map fun i => .set i (fl == 1)
  | .pick c a b => match compX c, compX a, compX b with
    | some c, some a, some b => some (.pick c a b)
    | _, _, _ => none
  | .binOp op t x y _ => match compX x, compX y with
    | some i, some j => match op with
      | .shl | .shr => some (.shift op i j)
      | .eql | .neq => match P.underlying t with
        | some .bool => some (.eqBool (op matches .neq) i j)
        | some (.int _) | some .string => some (.bin op i j)
        | some (.slice _) => match y with | .const (.slice none 0 0) => some (.eqNil 0 (op matches .neq) i) | _ => none
        | some (.pointer _) => match y with | .const (.pointer none) => some (.eqNil 1 (op matches .neq) i) | _ => none
        | some (.map _ _) => match y with | .const (.map none) => some (.eqNil 2 (op matches .neq) i) | _ => none
        | some (.func _ _ _) => match y with | .const .nilFunc => some (.eqNil 3 (op matches .neq) i) | _ => none
        | _ => none
      | _ => some (.bin op i j)
    | _, _ => none
  | .unOp op _ x => (compX x).map fun i => .un op i
  | .box _ x => (compX x).map fun i => if fl = 1 then .boxi i else .box i
  | .alloc e => match tzero P e with
    | some z => if z.val = true then some (.alloc z) else none
    | none => none
  | .build t ps => match tbuild P t with
    | some (z, places) => match compParts places ps.toList with
      | some qs => if z.val = true then some (.build z qs) else none
      | none => none
    | none => none
  | .buildSlice t len ps => match P.underlying t with
    | some (.slice e) => match compPartsOk P e, compParts1 ps.toList with
      | some (esz, z), some qs => if len * esz ≤ 16777216 then some (.buildSlice (if fl = 1 then esz else 0) esz z len qs) else none
      | _, _ => none
    | _ => none
  | .load t a => match tsz P t, compX a with
    | some sz, some i => if fl = 1 then (if sz = none then some (.takeCell i) else none) else some (.load sz i)
    | _, _ => none
  | .store t a x => match tcells P t, compX a, compX x with
    | some m, some i, some j => if fl = 1 then (match j with | .t s => if m = 1 then some (.putCell i s) else none | _ => none) else some (.store m i j)
    | _, _, _ => none
  | .nilCheck x => (compX x).map .nilCheck
  | .fieldAddr s x f => match tfield P s f, compX x with
    | some (off, sz), some i => some (.fieldAddr off sz i)
    | _, _ => none
  | .field s x f => match tfield P s f, compX x with
    | some (off, sz), some i => some (.field off sz i)
    | _, _ => none
  | .indexAddr t x i => match P.underlying t, compX x, compX i with
    | some (.slice e), some j, some k => (tcells P e).map fun esz => .indexAddr esz j k
    | _, _, _ => none
  | .index t x i => match P.underlying t, compX x, compX i with
    | some .string, some j, some k => some (.indexStr j k)
    | _, _, _ => none
  | .slice t x lo hi mx => match P.underlying t, compX x, compOpt lo, compOpt hi, compOpt mx with
    | some (.slice e), some i, some l, some h, some m => match tcells P e with
      | some esz => if 0 < esz then some (.slice esz i l h m) else none
      | none => none
    | some .string, some i, some l, some h, some none => some (.sliceStr i l h)
    | _, _, _, _, _ => none
  | .makeSlice t l c => match P.underlying t, compX c with
    | some (.slice e), some k => match compPartsOk P e, tbytes P e with
      | some (esz, z), some bytes => if 0 < bytes ∧ okZero z = true then (match l with
          | .const (.int .i64 0) => some (.mkbuf esz bytes k)
          | _ => if sameOp l c = true then some (.mkarr esz bytes z k) else none) else none
      | _, _ => none
    | _, _ => none
  | .makeMap _ none => some .mkmap
  | .lookup t m k ok => match P.underlying t, compX m, compX k with
    | some (.map kt et), some i, some j => match keyKind P kt, tzero P et with
      | some kd, some z => some (.lookup kd z i j ok)
      | _, _ => none
    | _, _, _ => none
  | .mapUpdate t m k x => match P.underlying t, compX m, compX k, compX x with
    | some (.map kt _), some i, some j, some y => (keyKind P kt).map fun kd => .mapset kd i j y
    | _, _, _, _ => none
  | .makeFunc f first cap => match compXs first.toList, compXs cap.toList with
    | some i, some j => some (.fn f i j)
    | _, _ => none
  | .extract x i => (compX x).map fun j => .extract j i
  | .convert src dst x => match P.underlying src, P.underlying dst, compX x with
    | some (.int _), some (.int k), some i => some (.convInt k i)
    | some .string, some .string, some i => some (.convStr i)
    | some .string, some (.slice e), some i => match P.underlying e with
      | some (.int .u8) => some (.bytesOf i)
      | _ => none
    | some (.slice e), some .string, some i => match P.underlying e with
      | some (.int .u8) => some (.strOf i)
      | _ => none
    | _, _, _ => none
  | .call c => match c.callee with
    | .value f => match compX f, compXs c.args.toList with
      | some i, some js => some (.call i js (if fl = 0 then none else some (fl - 1)))
      | _, _ => none
    | .builtin .len => match c.args.toList, c.argTypes.toList with
      | [x], [t] => match P.underlying t, compX x with
        | some .string, some i => some (.len 0 i)
        | some (.slice _), some i => some (.len 1 i)
        | some (.map _ _), some i => some (.len 2 i)
        | _, _ => none
      | _, _ => none
    | .builtin .append => match c.args.toList, c.argTypes.toList with
      | [s, x], [t, t'] => if t = t' then (match P.underlying t, compX s, compX x with
          | some (.slice e), some i, some j => match compPartsOk P e, tbytes P e with
            | some (esz, _), some bytes => if 0 < bytes then some (.append esz bytes i j) else none
            | _, _ => none
          | _, _, _ => none) else none
      | _, _ => none
    | .builtin .max => match c.args.toList with
      | [x, y] => match compX x, compX y with
        | some i, some j => some (.mx true i j)
        | _, _ => none
      | _ => none
    | .builtin .min => match c.args.toList with
      | [x, y] => match compX x, compX y with
        | some i, some j => some (.mx false i j)
        | _, _ => none
      | _ => none
    | _ => none
  | _ => none

/-- Operations besides. -/
def compMore (P : Program) (o : Oper) : IOp :=
  match o.op with
  | .call c => match c.callee with
    | .builtin .copy => match c.args.toList, c.argTypes.toList with
      | [s, x], [t, _] => match P.underlying t, compX s, compX x with
          | some (.slice e), some i, some j => match tcells P e with
            | some esz => .copy esz i j
            | none => .never
          | _, _, _ => .never
      | _, _ => .never
    | _ => .never
  | _ => .never
/-- A move behind which an object is written no more. -/
def compSetf (P : Program) (o : Oper) : IOp :=
  match o.op with
  | .move x | .assign x => match compX x, P.underlying o.type with
    | some i, some (.slice e) => match tcells P e with
      | some esz => .setf esz i
      | none => .never
    | _, _ => .never
  | _ => .never
def comp1 (P : Program) (o : Oper) (fl : Nat) : IOp := if fl = 3000 then compSetf P o else (compOp P o fl).getD (compMore P o)
end Go.Abs
