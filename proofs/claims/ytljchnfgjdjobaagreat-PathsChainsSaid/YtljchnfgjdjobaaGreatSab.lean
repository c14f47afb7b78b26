/- Part 2 of 18 of the proof. -/
import Derived.Test.YtljchnfgjdjobaaGreatSaa
import Derived.RangeFuncNested
set_option linter.unusedVariables false
set_option linter.unusedSimpArgs false
set_option linter.defProp false
set_option linter.unusedSectionVars false
section
namespace Go.aK
open Go
def Perm.entry (A : Perm) (loose : Bool) (n : Nat) : Prop := (∀ id, id < n → ∃ m, m ≤ n ∧ A.top id = some m) ∧ ∀ id, n ≤ id → A.top id = if loose = true then none else some (id + 1)
def kc (loose : Bool) (P : Program) (f : FuncId) (args : List AV) (H : List aa) (R : AV → List aa → Prop) : Prop :=
 ∀ A M L w (vs : Array Value) O, A.entry loose H.length → vs.size = args.length → St A M L w H (fun t => vs.getD t undef) (fun t => args.getD t .any) O →
  ((callFunc f vs).run P w = .ok (.enter f vs) w ∧ Calls P f vs w fun e w' => ∃ v r H' M' L' O', e = .returned v ∧ R r H' ∧ St A M' L' w' H' (fe (fun _ => undef) 0 v) (fe (fun _ => .any) 0 r) O' ∧ Ext A M w M' w' ∧ L <+: L') ∨
  (∃ v w' r H' M' L' O', (callFunc f vs).run P w = .ok (.value v) w' ∧ R r H' ∧ St A M' L' w' H' (fe (fun _ => undef) 0 v) (fe (fun _ => .any) 0 r) O' ∧ Ext A M w M' w' ∧ L <+: L')
def aq (P : Program) (f : FuncId) (args : List AV) (H : List aa) (R : AV → List aa → Prop) : Prop := kc false P f args H R
def tx (P : Program) (f : FuncId) (args : List AV) (H : List aa) (R : AV → List aa → Prop) : Prop := kc true P f args H R
theorem kc.mono {b : Bool} {P : Program} {f : FuncId} {args : List AV} {H : List aa} {R R' : AV → List aa → Prop} (h : kc b P f args H R) (hr : ∀ r H', R r H' → R' r H') : kc b P f args H R' := by
 intro A M L w vs O hA hs bP
 rcases h A M L w vs O hA hs bP with ⟨h1, h2⟩ | ⟨v, w', r, H', M', L', O', h1, h2, h3⟩
 ·exact .inl ⟨h1, h2.mono fun e w' ⟨v, r, H', M', L', O', h1, h2, h3⟩ => ⟨v, r, H', M', L', O', h1, hr _ _ h2, h3⟩⟩
 ·exact .inr ⟨v, w', r, H', M', L', O', h1, hr _ _ h2, h3⟩
theorem aq.mono {P : Program} {f : FuncId} {args : List AV} {H : List aa} {R R' : AV → List aa → Prop} (h : aq P f args H R) (hr : ∀ r H', R r H' → R' r H') : aq P f args H R' := kc.mono h hr
theorem tx.mono {P : Program} {f : FuncId} {args : List AV} {H : List aa} {R R' : AV → List aa → Prop} (h : tx P f args H R) (hr : ∀ r H', R r H' → R' r H') : tx P f args H R' := kc.mono h hr
theorem aq.body {P : Program} {f : FuncId} {args : List AV} {H : List aa} {R : AV → List aa → Prop} (h : aq P f args H R) (he : ∀ (as : Array Value) (w : World), (callFunc f as).run P w = .ok (.enter f as) w)
 {A : Perm} {M : Mem} {L : List Nat} {w : World} {vs : Array Value} {O : Pos → Option Nat} (hA : A.entry false H.length) (hs : vs.size = args.length) (bP : St A M L w H (fun t => vs.getD t undef) (fun t => args.getD t .any) O) :
 Calls P f vs w fun e w' => ∃ v r H' M' L' O', e = .returned v ∧ R r H' ∧ St A M' L' w' H' (fe (fun _ => undef) 0 v) (fe (fun _ => .any) 0 r) O' ∧ Ext A M w M' w' ∧ L <+: L' := by
 rcases h A M L w vs O hA hs bP with ⟨h1, h2⟩ | ⟨v, w', r, H', M', L', O', h1, h2, h3⟩
 ·exact h2
 ·rw [he] at h1; cases h1
structure Px where
 prog : Program
 lo : Option Nat
instance : Coe Program Px := ⟨fun P => ⟨P, none⟩⟩
def dY (P : Px) (f : FuncId) (args : List AV) (H : List aa) (R : AV → List aa → Prop) : Prop :=
 match P.lo with
 | none => aq P.prog f args H R
 | some l => aq P.prog f args H R ∨ (l ≤ H.length ∧ tx P.prog f args H R)
theorem dY.of {P : Px} {f : FuncId} {args : List AV} {H : List aa} {R : AV → List aa → Prop} (h : aq P.prog f args H R) : dY P f args H R := by
 unfold dY; split
 ·exact h
 ·exact .inl h
theorem dY.mono {P : Px} {f : FuncId} {args : List AV} {H : List aa} {R R' : AV → List aa → Prop} (h : dY P f args H R) (hr : ∀ r H', R r H' → R' r H') : dY P f args H R' := by
 unfold dY at *; split at h
 ·exact h.mono hr
 ·rcases h with h | ⟨h1, h2⟩
  ·exact .inl (h.mono hr)
  ·exact .inr ⟨h1, h2.mono hr⟩
def fa (loose : Bool) (P : Program) (id : Nat) (args : List AV) (H : List aa) (R : AV → List aa → Prop) : Prop :=
 ∀ A M L w (vs : Array Value) O b, A.entry loose H.length → vs.size = args.length → L[id]? = some b → St A M L w H (fun t => vs.getD t undef) (fun t => args.getD t .any) O →
  ∃ fn tmps as bd, (Instr.yield b vs).run P w = .ok (.round b fn tmps as bd) w ∧ RoundIn Fence.wide 0 P b fn tmps as bd w fun e w' =>
   ∃ v r H' M' L' O', e = .returned v ∧ R r H' ∧ St A M' L' w' H' (fe (fun _ => undef) 0 v) (fe (fun _ => .any) 0 r) O' ∧ Ext A M w M' w' ∧ L <+: L'
theorem fa.mono {b : Bool} {P : Program} {id : Nat} {args : List AV} {H : List aa} {R R' : AV → List aa → Prop} (h : fa b P id args H R) (hr : ∀ r H', R r H' → R' r H') : fa b P id args H R' := by
 intro A M L w vs O c hA hs hc bP
 obtain ⟨fn, tmps, as, bd, h1, h2⟩ := h A M L w vs O c hA hs hc bP
 exact ⟨fn, tmps, as, bd, h1, h2.mono fun e w' ⟨v, r, H', M', L', O', h1, h2, h3⟩ => ⟨v, r, H', M', L', O', h1, hr _ _ h2, h3⟩⟩
def jt (P : Program) (id : Nat) (args : List AV) (H : List aa) (R : AV → List aa → Prop) : Prop := fa false P id args H R
def LH (P : Program) (id : Nat) (args : List AV) (H : List aa) (R : AV → List aa → Prop) : Prop := fa true P id args H R
def lq (P : Px) (id : Nat) (args : List AV) (H : List aa) (R : AV → List aa → Prop) : Prop :=
 match P.lo with
 | none => jt P.prog id args H R
 | some l => jt P.prog id args H R ∨ (l ≤ H.length ∧ LH P.prog id args H R)
theorem lq.mono {P : Px} {id : Nat} {args : List AV} {H : List aa} {R R' : AV → List aa → Prop} (h : lq P id args H R) (hr : ∀ r H', R r H' → R' r H') : lq P id args H R' := by
 unfold lq at *; split at h
 ·exact fa.mono h hr
 ·rcases h with h | ⟨h1, h2⟩
  ·exact .inl (fa.mono h hr)
  ·exact .inr ⟨h1, fa.mono h2 hr⟩
def xk : List AV → List AV → Prop
 | [], [] => True
 | x :: xs, y :: ys => x.le y ∧ xk xs ys
 | _, _ => False
def aH (env : Env) (pass : Option Nat) : Nat → List IX → List AV
 | _, [] => []
 | j, .t s :: xs => (if pass = some j then get env s else (get env s).ab) :: aH env pass (j + 1) xs
 | j, .c v :: xs => v.ab :: aH env pass (j + 1) xs
def bc (args : List IX) (pass : Option Nat) : Option Nat :=
 match pass with
 | some j => match args[j]? with
   | some (.t s) => some s
   | _ => none
 | none => none
def cD (env : Env) (s : Option Nat) : Env := match s with | some d => (d, (get env d).ab) :: env | none => env
def oz (P : Px) (f : AV) (args : List IX) (pass : Option Nat) (env : Env) (H : List aa) (K : AV → Env → List aa → Prop) : Prop :=
 match f with
 | .fn (.func g) first cap => ∃ bO, xk (first.map AV.ab ++ aH env pass 0 args ++ cap.map AV.ab) bO ∧ dY P g bO H (fun r H' => K r (cD env (bc args pass)) H')
 | .mC id => ∃ bO, xk (aH env pass 0 args) bO ∧ lq P id bO H (fun r H' => K r (cD env (bc args pass)) H')
 | _ => False
def aL (kd : Nat) (x : AV) : Prop :=
 match kd, x with
 | 0, .str _ => True
 | 1, .ah => True
 | 1, .ap _ _ => True
 | 1, .bf _ _ _ _ => True
 | 1, .oh => True
 | 2, .iD => True
 | 2, .map _ => True
 | _, _ => False
def fX (env : Env) (x : Option IX) : Option AV := x.map (al env)
def bt (P : Px) (o : bW) (dst : Option Nat) (env : Env) (H : List aa) (K : Env → List aa → Prop) : Prop :=
 match o with
 | .set x take => match dst with | some d => K (sW env d x take) H | none => K env H
 | .pick c a b => eI (al env c) fun q => (q = true → K (put dst (al env a).ab env) H) ∧ (q = false → K (put dst (al env b).ab env) H)
 | .bin op x y => cV op (al env x) (al env y) fun z => K (put dst z env) H
 | .shift op x y => dN op (al env x) (al env y) fun z => K (put dst z env) H
 | .gO neq x y => cM neq (al env x) (al env y) fun z => K (put dst z env) H
 | .iT kd neq x => dc kd neq (al env x) fun z => K (put dst z env) H
 | .un op x => yE op (al env x) fun z => K (put dst z env) H
 | .box x => (al env x).val = true ∧ aj (H.length + 1) ((al env x).cells.map AV.ab) = true ∧ K (put dst (.ptr H.length 0) env) (H ++ [.cells ((al env x).cells.map AV.ab)])
 | .k9 x => (al env x).val = true ∧ K (put dst (.ai (al env x)) env) H
 | .qQ m x => (al env x).val = true ∧ (al env x).cells.length = m ∧ (al env x).cells.all AV.one = true ∧ K (put dst (.ai (al env x)) env) H
 | .alloc z => aj (H.length + 1) (z.cells.map AV.ab) = true ∧ K (put dst (.ptr H.length 0) env) (H ++ [.cells (z.cells.map AV.ab)])
 | .build z ps => cC z.cells (ps.map fun q => (q.1, q.2.1, al env q.2.2)) fun v => K (put dst v env) H
 | .buildSlice own esz z len ps => bh (List.replicate len (aT z)) esz (ps.map fun q => (q.1, al env q.2)) fun xs => K (put dst (.ap own xs) env) H
 | .load sz a => aS sz (al env a) H fun z => K (put dst z env) H
 | .sc sz esz a => aS sz (al env a) H fun z => ff esz z H fun y H' => K (put dst y env) H'
 | .eh a => match dst, al env a with
   | some d, .ptr id off => match H[id]? with
     | some (.cells es) => off < es.length ∧ K ((d, es.getD off .any) :: env) (H.set id (.cells (es.set off (es.getD off .any).ab)))
     | _ => False
   | _, _ => False
 | .store m a x => gQ m (al env a) (al env x) H fun H' => K env H'
 | .mE m a x => match P.lo with | some l => gh l m (al env a) (al env x) H fun H' => K env H' | none => False
 | .eV a s => dO (al env a) (get env s) H fun H' => K ((s, (get env s).ab) :: env) H'
 | .nilCheck x => bR (al env x) fun z => K (put dst z env) H
 | .fieldAddr off sz x => ak off sz (al env x) fun z => K (put dst z env) H
 | .field off sz x => eJ off sz (al env x) fun z => K (put dst z env) H
 | .indexAddr esz x i => (∀ own xs, al env x = .ap own xs → ∀ z ∈ xs, z.cells.length = esz) ∧ ay esz (al env x) (al env i) fun z => K (put dst z env) H
 | .c8 x i => bH (al env x) (al env i) fun z => K (put dst z env) H
 | .dL n x i => bQ n (al env x) (al env i) fun z => K (put dst z env) H
 | .oM esz x lo hi mx => (∀ own xs, al env x = .ap own xs → ∀ z ∈ xs, z.cells.length = esz) ∧ eM esz (al env x) (fX env lo) (fX env hi) (fX env mx) fun z => z = .ap esz [] ∧ K (put dst .oh env) H
 | .slice esz x lo hi mx => bn esz (al env x) (fX env lo) (fX env hi) (fX env mx) fun z => K (put dst z env) H
 | .copy esz d s => jq esz (al env d) (al env s) H fun z H' => K (put dst z env) H'
 | .dM x lo hi => b7 (al env x) (fX env lo) (fX env hi) fun z => K (put dst z env) H
 | .len kd x => aL kd (al env x) ∧ eW (al env x) H fun z => K (put dst z env) H
 | .append esz bytes s x => bE esz bytes (al env s) (al env x) fun zs => K (put dst (.ap esz zs) (cD env s.slot)) H
 | .sd esz bytes z n => fK esz bytes z (al env n) H fun v H' => K (put dst v env) H'
 | .mF esz bytes n => iI esz bytes (al env n) fun v => K (put dst v env) H
 | .mG => K (put dst (.map H.length) env) (H ++ [.map []])
 | .lookup kd z m k ok => cb kd z (al env m) (al env k) ok H fun v => K (put dst v env) H
 | .jY kd m k x => eZ kd (al env m) (al env k) (al env x) H fun H' => K env H'
 | .fn f first cap => K (put dst (.fn f (first.map fun x => (al env x).ab) (cap.map fun x => (al env x).ab)) env) H
 | .extract x i => bC (al env x) i fun z => K (put dst z env) H
 | .call f args pass => oz P (al env f) args pass env H fun r aD H' => K (put dst r aD) H'
 | .eC k x => cq k (al env x) fun z => K (put dst z env) H
 | .gg x => fw (al env x) fun z => K (put dst z env) H
 | .bytesOf x => eN 1 (al env x) fun z => K (put dst z env) H
 | .strOf x => jo (al env x) fun z => K (put dst z env) H
 | .mx big a b => wj big (al env a) (al env b) fun z => K (put dst z env) H
 | .yC esz x => ff esz (al env x) H fun z H' => K (put dst z env) H'
 | .AG esz z len ps => bh (List.replicate len (aT z)) esz (ps.map fun q => (q.1, al env q.2)) fun xs => so xs H fun v H' => K (put dst v env) H'
 | .iV esz bytes z s x => cG esz bytes z (al env s) (al env x) H fun v H' => K (put dst v env) H'
 | .mH esz z x => gZ esz z (al env x) H fun H' => K (put dst (.tuple []) env) H'
 | .never => False
def cQ (P : Program) (e : TypeId) : Option (Nat × AV) :=
 match dB P e, ft P e with
 | some esz, some z => if 0 < esz ∧ z.cells.length = esz ∧ z.val = true then some (esz, z) else none
 | _, _ => none
def yT (P : Program) (e : TypeId) : Option Nat := (P.info? e).map (·.bytes)
def Dl (z : AV) : Bool := z.cells.all fun y => match y with | .ap own _ => own == 0 | _ => true
def jQ : Option Operand → Option (Option IX)
 | none => some none
 | some x => (aP x).map some
def It (x y : Operand) : Bool := match x, y with | .tmp a, .tmp b => a == b | .const (.int .i64 a), .const (.int .i64 b) => a == b | _, _ => false
def cj (P : Program) (o : Oper) (fl : Nat) : Option bW :=
 match o.op with
 | .move x | .assign x => (aP x).map fun i => .set i (fl == 1)
 | .pick c a b => match aP c, aP a, aP b with
   | some c, some a, some b => some (.pick c a b)
   | _, _, _ => none
 | .binOp op t x y _ => match aP x, aP y with
   | some i, some j => match op with
     | .shl | .shr => some (.shift op i j)
     | .eql | .neq => match P.underlying t with
       | some .bool => some (.gO (op matches .neq) i j)
       | some (.int _) | some .string => some (.bin op i j)
       | some (.slice _) => match y with | .const (.slice none 0 0) => some (.iT 0 (op matches .neq) i) | _ => none
       | some (.pointer _) => match y with | .const (.pointer none) => some (.iT 1 (op matches .neq) i) | _ => none
       | some (.map _ _) => match y with | .const (.map none) => some (.iT 2 (op matches .neq) i) | _ => none
       | some (.func _ _ _) => match y with | .const .nilFunc => some (.iT 3 (op matches .neq) i) | _ => none
       | _ => none
     | _ => some (.bin op i j)
   | _, _ => none
 | .unOp op _ x => (aP x).map fun i => .un op i
 | .box _ x => (aP x).map fun i => if fl = 1 then .k9 i else .box i
 | .alloc e => match ft P e with
   | some z => if z.val = true then some (.alloc z) else none
   | none => none
 | .build t ps => match Da P t with
   | some (z, places) => match eY places ps.toList with
     | some qs => if z.val = true then some (.build z qs) else none
     | none => none
   | none => none
 | .buildSlice t len ps => match P.underlying t with
   | some (.slice e) => match cQ P e, jl ps.toList with
     | some (esz, z), some qs => if len * esz ≤ 16777216 then some (if fl = 2 then .AG esz z len qs else .buildSlice (if fl = 1 then esz else 0) esz z len qs) else none
     | _, _ => none
   | _ => none
 | .load t a => match HL P t, aP a with
   | some sz, some i => if fl = 1 then (if sz = none then some (.eh i) else none) else if 3000 < fl then some (.sc sz (fl - 3000) i) else some (.load sz i)
   | _, _ => none
 | .store t a x => match dB P t, aP a, aP x with
   | some m, some i, some j => if fl = 1 then (match j with | .t s => if m = 1 then some (.eV i s) else none | _ => none) else if fl = 2 then some (.mE m i j) else some (.store m i j)
   | _, _, _ => none
 | .nilCheck x => (aP x).map .nilCheck
 | .fieldAddr s x f => match qS P s f, aP x with
   | some (off, sz), some i => some (.fieldAddr off sz i)
   | _, _ => none
 | .field s x f => match qS P s f, aP x with
   | some (off, sz), some i => some (.field off sz i)
   | _, _ => none
 | .indexAddr t x i => match P.underlying t, aP x, aP i with
   | some (.slice e), some j, some k => (dB P e).map fun esz => .indexAddr esz j k
   | _, _, _ => none
 | .index t x i => match P.underlying t, aP x, aP i with
   | some .string, some j, some k => some (.c8 j k)
   | some (.array n e), some j, some k => if HL P e = some none then some (.dL n j k) else none
   | _, _, _ => none
 | .slice t x lo hi mx => match P.underlying t, aP x, jQ lo, jQ hi, jQ mx with
   | some (.slice e), some i, some l, some h, some m => match dB P e with
     | some esz => if 0 < esz then some (if fl = 4 then .oM esz i l h m else .slice esz i l h m) else none
     | none => none
   | some .string, some i, some l, some h, some none => some (.dM i l h)
   | _, _, _, _, _ => none
 | .makeSlice t l c => match P.underlying t, aP c with
   | some (.slice e), some k => match cQ P e, yT P e with
     | some (esz, z), some bytes => if 0 < bytes ∧ Dl z = true then (match l with
        | .const (.int .i64 0) => some (.mF esz bytes k)
        | _ => if It l c = true then some (.sd esz bytes z k) else none) else none
     | _, _ => none
   | _, _ => none
 | .makeMap _ none => some .mG
 | .lookup t m k ok => match P.underlying t, aP m, aP k with
   | some (.map kt et), some i, some j => match nG P kt, ft P et with
     | some kd, some z => some (.lookup kd z i j ok)
     | _, _ => none
   | _, _, _ => none
 | .mapUpdate t m k x => match P.underlying t, aP m, aP k, aP x with
   | some (.map kt _), some i, some j, some y => (nG P kt).map fun kd => .jY kd i j y
   | _, _, _, _ => none
 | .makeFunc f first cap => match fm first.toList, fm cap.toList with
   | some i, some j => some (.fn f i j)
   | _, _ => none
 | .extract x i => (aP x).map fun j => .extract j i
 | .convert src dst x => match P.underlying src, P.underlying dst, aP x with
   | some (.int _), some (.int k), some i => some (.eC k i)
   | some .string, some .string, some i => some (.gg i)
   | some .string, some (.slice e), some i => match P.underlying e with
     | some (.int .u8) => some (.bytesOf i)
     | _ => none
   | some (.slice e), some .string, some i => match P.underlying e with
     | some (.int .u8) => some (.strOf i)
     | _ => none
   | _, _, _ => none
 | .call c => match c.callee with
   | .value f => match aP f, fm c.args.toList with
     | some i, some js => some (.call i js (if fl = 0 then none else some (fl - 1)))
     | _, _ => none
   | .builtin .len => match c.args.toList, c.argTypes.toList with
     | [x], [t] => match P.underlying t, aP x with
       | some .string, some i => some (.len 0 i)
       | some (.slice _), some i => some (.len 1 i)
       | some (.map _ _), some i => some (.len 2 i)
       | _, _ => none
     | _, _ => none
   | .builtin .append => match c.args.toList, c.argTypes.toList with
     | [s, x], [t, t'] => if t = t' then (match P.underlying t, aP s, aP x with
        | some (.slice e), some i, some j => match cQ P e, yT P e with
          | some (esz, z), some bytes => if 0 < bytes then (if fl = 2 then (if Dl z = true then some (.iV esz bytes z i j) else none) else some (.append esz bytes i j)) else none
          | _, _ => none
        | _, _, _ => none) else none
     | _, _ => none
   | .builtin .max => match c.args.toList with
     | [x, y] => match aP x, aP y with
       | some i, some j => some (.mx true i j)
       | _, _ => none
     | _ => none
   | .builtin .min => match c.args.toList with
     | [x, y] => match aP x, aP y with
       | some i, some j => some (.mx false i j)
       | _, _ => none
     | _ => none
   | _ => none
 | _ => none
def pE (P : Program) (o : Oper) : bW :=
 match o.op with
 | .call c => match c.callee with
   | .builtin .copy => match c.args.toList, c.argTypes.toList with
     | [s, x], [t, _] => match P.underlying t, aP s, aP x with
        | some (.slice e), some i, some j => match dB P e with
          | some esz => .copy esz i j
          | none => .never
        | _, _, _ => .never
     | _, _ => .never
   | .builtin .clear => match c.args.toList, c.argTypes.toList with
     | [s], [t] => match P.underlying t, aP s with
        | some (.slice e), some i => match cQ P e with
          | some (esz, z) => .mH esz z i
          | none => .never
        | _, _ => .never
     | _, _ => .never
   | _ => .never
 | _ => .never
def mN (P : Program) (o : Oper) : bW :=
 match o.op with
 | .move x | .assign x => match aP x, P.underlying o.type with
   | some i, some (.slice e) => match dB P e with
     | some esz => .yC esz i
     | none => .never
   | _, _ => .never
 | _ => .never
def kB (esz : Nat) (o : Oper) : bW :=
 match o.op with
 | .move x | .assign x => match aP x with
   | some i => .yC esz i
   | none => .never
 | _ => .never
def LI (o : Oper) : Bool := match o.op with | .load _ _ => false | _ => true
def A0 (P : Program) (o : Oper) (fl : Nat) : bW := if fl = 3000 then mN P o else if 3000 < fl ∧ LI o = true then kB (fl - 3000) o else (cj P o fl).getD (pE P o)
end Go.aK
end
section
namespace Go.aK
open Go
section
variable {ro : Option Nat} {P : Program} {lo : Option Nat} {A : Perm} {n : Nat} {M : Mem} {L : List Nat} {w : World} {H : List aa} {env : Env} {O : Pos → Option Nat} {a : Act} {Q : Exit → Act → World → Prop} {K : Env → List aa → Prop}
theorem bK {o : Oper} (hf : Fr A n M L w H env O a) (hd : ∀ d, o.dst = some d → d < n)
 (h : ∃ r z, (execOp a.eval o).run P w = .ok (.value r) w ∧ aR M L r z ∧ K (put o.dst z env) H ∧ ∀ own xs, z = .ap own xs → own = 0) : o.wpIn (wf ro) 0 P a w (mw A n M L w K) Q := by
 obtain ⟨r, z, h1, h2, h3, h4⟩ := h
 exact wp_pure hf hd h1 h2 h4 h3
theorem aV {s : Sem Value} {r : Value} {w' : World} (h : s.run P w = .ok r w') : (do pure (Next.value (← s)) : Sem Next).run P w = .ok (.value r) w' := by
 simp only [Sem.run_bind, h, Result.andThen_ok, Sem.run_pure]
theorem pF {s : Sem Unit} {w' : World} (h : s.run P w = .ok () w') : (do s; pure Next.skip : Sem Next).run P w = .ok .skip w' := by
 simp only [Sem.run_bind, h, Result.andThen_ok, Sem.run_pure]
theorem nJ {o : Oper} (hf : Fr A n M L w H env O a) (hd : ∀ d, o.dst = some d → d < n) {r : Value} {z : AV} {w' : World} {M' : Mem} {L' : List Nat} {H' : List aa} (bG : (execOp a.eval o).run P w = .ok (.value r) w')
 (hr : aR M' L' r z) (hz : ∀ own xs, z = .ap own xs → own = 0) (bP : St A M' L' w' H' (fun t => a.tmps.getD t undef) (get env) O) (cr : Ext A M w M' w') (hL : L <+: L') (hK : K (put o.dst z env) H') : o.wpIn (wf ro) 0 P a w (mw A n M L w K) Q := by
 obtain ⟨O', oQ⟩ := (hf.mono bP cr).ol hd hr hz
 exact c9 bG ⟨M', L', H', _, O', hK, oQ, cr, hL⟩
theorem uk {o : Oper} {aD : Env} {O' : Pos → Option Nat} (hf : Fr A n M L w H env O a) (hd : ∀ d, o.dst = some d → d < n) {r : Value} {z : AV} {w' : World} {M' : Mem} {ob : Option Nat} (bG : (execOp a.eval o).run P w = .ok (.value r) w')
 (hr : aR M' L r z) (KY : bb M' w' r z ob) (bP : St A M' L w' H (fun t => a.tmps.getD t undef) (get aD) O') (cr : Ext A M w M' w') (h1 : ∀ q b, ob = some b → O' q ≠ some b) (h2 : ∀ b, ob = some b → b ∉ L ∧ b < w'.heap.size ∧ A b) (hK : K (put o.dst z aD) H) : o.wpIn (wf ro) 0 P a w (mw A n M L w K) Q := by
 have oQ : Fr A n M' L w' H aD O' a := ⟨bP, hf.size, hf.defers.ext cr⟩
 refine c9 bG ?_
 cases fL : o.dst with
 | none => rw [fL] at hK; exact ⟨M', L, H, _, O', hK, oQ, cr, List.prefix_refl L⟩
 | some d =>
   rw [fL] at hK
   exact ⟨M', L, H, _, _, hK, oQ.C6 (hd d fL) hr ob KY (fun q b hb hq => absurd hq (h1 q b hb)) h2, cr, List.prefix_refl L⟩
theorem xl {o : Oper} {x : Operand} (ho : o.op = .move x ∨ o.op = .assign x) {i : IX} (hc : aP x = some i) {take : Bool} (hf : Fr A n M L w H env O a) (hd : ∀ d, o.dst = some d → d < n)
 (h : bt ⟨P, lo⟩ (.set i take) o.dst env H K) : o.wpIn (wf ro) 0 P a w (mw A n M L w K) Q := by
 have bG : (execOp a.eval o).run P w = .ok (.value (a.eval x)) w := by
  rcases ho with ho | ho <;> simp [execOp, ho]
 have hr := hf.eval hc
 simp only [bt] at h
 cases fL : o.dst with
 | none =>
   rw [fL] at h
   refine c9 bG ⟨M, L, H, env, O, h, ?_, Ext.refl A M w, List.prefix_refl L⟩
   rw [fL]; exact hf
 | some d =>
   rw [fL] at h
   have TN := hd d fL
   have h : K (sW env d i take) H := h
   unfold sW at h
   split at h
   ·rename_i s _
    -- the list moves
    cases x with
    | tmp t =>
      have hts : t = s := by simpa [aP] using hc
      subst hts
      have mL := hf.st.ol t (v := a.tmps.getD t undef) (x := (get env t).ab) (hf.st.env t).ab (AV.bI _)
      have TA : fe (fun t => a.tmps.getD t undef) t (a.tmps.getD t undef) = fun t => a.tmps.getD t undef := by funext t'; simp only [fe]; split; rename_i e0; rw [e0]; rfl
      rw [TA] at mL
      have EN : Fr A n M L w H ((t, (get env t).ab) :: env) (dW O (.t t) none) a := ⟨mL, hf.size, hf.defers⟩
      have sq := EN.C6 TN (v := a.tmps.getD t undef) (x := get env t) (hf.st.env t) (O (.t t)) (hf.st.gH t) (fun p b hb hp => by
       simp only [dW] at hp
       split at hp
       ·cases hp
       ·rename_i n'; exact absurd (hf.st.bY _ _ b hp hb) n') (fun b hb => ⟨hf.st.cc _ b hb, hf.st.eT _ b hb, hf.st.Oa _ b hb⟩)
      rw [← fL] at sq
      exact c9 bG ⟨M, L, H, _, _, h, sq, Ext.refl A M w, List.prefix_refl L⟩
    | const v => simp only [aP] at hc; obtain ⟨y, _, hy⟩ := Option.map_eq_some_iff.1 hc; cases hy
    | func f => simp [aP] at hc
    | global g => simp [aP] at hc
   ·have sq := hf.C6 TN hr.ab none (bb.free (AV.bI _)) (fun p b e => by cases e) (fun b e => by cases e)
    rw [← fL] at sq
    exact c9 bG ⟨M, L, H, _, _, h, sq, Ext.refl A M w, List.prefix_refl L⟩
theorem ul {o : Oper} {t : TypeId} {x : Operand} (ho : o.op = .load t x) (ht : HL P t = some none) {i : IX} (hc : aP x = some i) (hf : Fr A n M L w H env O a) (hd : ∀ d, o.dst = some d → d < n)
 (h : bt ⟨P, lo⟩ (.eh i) o.dst env H K) : o.wpIn (wf ro) 0 P a w (mw A n M L w K) Q := by
 have hr := hf.eval hc
 simp only [bt] at h
 split at h <;> try exact h.elim
 rename_i d id off fL hx
 split at h <;> try exact h.elim
 rename_i es bm
 obtain ⟨om, hK⟩ := h
 rw [hx] at hr
 generalize hu : a.eval x = u at hr
 cases hr with
 | ptr b _ _ hl =>
 obtain ⟨cs, e, h1, h2, h3⟩ := eX hf.st bm hl
 have hlen := h2.length
 obtain ⟨r1, r2⟩ := ej (w := w) (m := 0) ht
 have yH : off < cs.toList.length := by omega
 have hcell := h3 off cs.toList[off] (by simp)
 have fo := h2.getD off
 have e0 : cs.toList.getD off undef = cs.toList[off] := by rw [List.getD_eq_getElem?_getD, List.getElem?_eq_getElem yH]; rfl
 rw [e0] at fo
 have bG : (execOp a.eval o).run P w = .ok (.value cs.toList[off]) w := by
  simp only [execOp, ho, hu]
  exact aV (by simp only [Instr.loadAt, Instr.sureAddr, loadVar, Sem.run_bind, Sem.run_pure, Result.andThen_ok, r1, Bool.false_eq_true, if_false, run_load, hcell])
 have bP := hf.st.FZ bm hl om
 have EN : Fr A n M L w (H.set id (.cells (es.set off (es.getD off .any).ab))) env (dW O (.c id off) none) a := ⟨bP, hf.size, hf.defers⟩
 have KY : bb M w cs.toList[off] (es.getD off .any) (O (.c id off)) := by
  have h0 := hf.st.gE id off
  have e3 : bJ L w id off = cs.toList[off] := by unfold bJ; simp only [hl, hcell]; rfl
  have e4 : bp H id off = es.getD off .any := by unfold bp; simp [bm]
  rwa [e3, e4] at h0
 have sq := EN.C6 (hd d fL) fo (O (.c id off)) KY (fun p b hb hp => by
  simp only [dW] at hp
  split at hp
  ·cases hp
  ·rename_i n'; exact absurd (hf.st.bY _ _ b hp hb) n') (fun b hb => ⟨hf.st.cc _ b hb, hf.st.eT _ b hb, hf.st.Oa _ b hb⟩)
 rw [← fL] at sq
 exact c9 bG ⟨M, L, _, _, _, hK, sq, Ext.refl A M w, List.prefix_refl L⟩
theorem wC {o : Oper} {t : TypeId} {x y : Operand} (ho : o.op = .store t x y) (ht : dB P t = some 1) {i : IX} {s : Nat} (hc : aP x = some i) (hy : aP y = some (.t s)) (hf : Fr A n M L w H env O a)
 (fL : o.dst = none) (h : bt ⟨P, lo⟩ (.eV i s) o.dst env H K) : o.wpIn (wf ro) 0 P a w (mw A n M L w K) Q := by
 have hr := hf.eval hc
 simp only [bt] at h
 have pr : y = .tmp s := by
  cases y with
  | tmp t => simp [aP] at hy; rw [hy]
  | const v => simp only [aP] at hy; obtain ⟨z, _, hz⟩ := Option.map_eq_some_iff.1 hy; cases hz
  | func f => simp [aP] at hy
  | global g => simp [aP] at hy
 subst pr
 obtain ⟨w', H', O', h1, h2, h3, h4⟩ := yI (P := P) hf.st ht h hr s rfl rfl
 have bG : (execOp a.eval o).run P w = .ok .skip w' := by
  simp only [execOp, ho]
  exact pF h1
 have sq : Fr A n M L w' H' ((s, (get env s).ab) :: env) O' (a.put o.dst undef) := by
  rw [fL]; exact ⟨h3, hf.size, hf.defers.ext h4⟩
 exact lf bG ⟨M, L, H', _, O', h2, sq, h4, List.prefix_refl L⟩
theorem yU {o : Oper} {t e : TypeId} {s x : Operand} (ho : o.op = .call { callee := .builtin .append, args := #[s, x], argTypes := #[t, t] }) (ht : P.underlying t = some (.slice e)) {esz bytes : Nat} {z : AV} (hz : cQ P e = some (esz, z)) (hb : yT P e = some bytes) (ue : 0 < bytes)
 {i j : IX} (hi : aP s = some i) (hj : aP x = some j) (hf : Fr A n M L w H env O a) (hd : ∀ d, o.dst = some d → d < n)
 (h : bt ⟨P, lo⟩ (.append esz bytes i j) o.dst env H K) : o.wpIn (wf ro) 0 P a w (mw A n M L w K) Q := by
 simp only [bt] at h
 have wD := hf.eval hi
 have Ye := hf.eval hj
 unfold cQ at hz
 split at hz <;> try cases hz
 rename_i esz' z' Ow oo
 split at hz <;> cases hz
 rename_i hcond
 obtain ⟨h0, iH, si⟩ := hcond
 obtain ⟨inf, iF, cT⟩ := Option.map_eq_some_iff.1 Ow
 obtain ⟨inf', sr, xd⟩ := Option.map_eq_some_iff.1 hb
 rw [iF] at sr; cases sr
 unfold ft at oo
 simp only [iF] at oo
 split at oo <;> try cases oo
 rename_i zv uc
 have tu : zv.cells.size = esz := by have := ((cz (M := M) (L := L) oo).fI si).length; rw [iH] at this; simpa using this
 have Ly : match i.slot with | some d => (fun t => a.tmps.getD t undef) d = a.eval s ∧ get env d = al env i | none => al env i = .ah := by
  cases s with
  | tmp t => simp [aP] at hi; subst hi; exact ⟨rfl, rfl⟩
  | const v =>
    simp only [aP] at hi
    obtain ⟨y, hy, rfl⟩ := Option.map_eq_some_iff.1 hi
    simp only [IX.slot, al]
    have h2 := h
    simp only [al, bE] at h2
    split at h2 <;> try exact h2.elim
    rename_i fp _
    unfold ma at fp
    split at fp
    ·rfl
    ·-- a constant is never an owned list
     exfalso
     unfold ofValue at hy
     split at hy
     ·obtain ⟨_, _, hq⟩ := Option.map_eq_some_iff.1 hy; cases hq
     ·unfold Tw at hy; split at hy <;> cases hy
    ·cases fp
  | func f =>
    simp [aP] at hi; subst hi
    simp only [al, bE, ma] at h
  | global g => simp [aP] at hi
 obtain ⟨r, w', M', O', ob, zs, g1, g2, g3, g4, g5, g6, g7, g8⟩ := AP (P := P) (ty := o.type) hf.st ht iF uc cT xd tu h0 ue h i.slot wD Ly Ye
 have bG : (execOp a.eval o).run P w = .ok (.value r) w' := by
  simp only [execOp, ho, resolve, invoke, builtin, Sem.run_bind, Sem.run_pure, Result.andThen_ok, List.map_toArray, List.map_cons, List.map_nil, g1]
 have C5 : j3 (get env) i.slot = get (cD env i.slot) := by
  cases i.slot with
  | none => rfl
  | some d => rfl
 rw [C5] at g5
 exact uk hf hd bG g3 g4 g5 g6 g7 g8 g2
theorem wE {o : Oper} {t e : TypeId} {s x : Operand} (ho : o.op = .call { callee := .builtin .append, args := #[s, x], argTypes := #[t, t] }) (ht : P.underlying t = some (.slice e)) {esz bytes : Nat} {z : AV} (hz : cQ P e = some (esz, z)) (hb : yT P e = some bytes) (ue : 0 < bytes) (Iu : Dl z = true)
 {i j : IX} (hi : aP s = some i) (hj : aP x = some j) (hf : Fr A n M L w H env O a) (hd : ∀ d, o.dst = some d → d < n)
 (h : bt ⟨P, lo⟩ (.iV esz bytes z i j) o.dst env H K) : o.wpIn (wf ro) 0 P a w (mw A n M L w K) Q := by
 simp only [bt] at h
 have wD := hf.eval hi
 have Ye := hf.eval hj
 unfold cQ at hz
 split at hz <;> try cases hz
 rename_i esz' z' Ow oo
 split at hz <;> cases hz
 rename_i hcond
 obtain ⟨h0, iH, si⟩ := hcond
 obtain ⟨inf, iF, cT⟩ := Option.map_eq_some_iff.1 Ow
 obtain ⟨inf', sr, xd⟩ := Option.map_eq_some_iff.1 hb
 rw [iF] at sr; cases sr
 unfold ft at oo
 simp only [iF] at oo
 split at oo <;> try cases oo
 rename_i zv uc
 have Il : ∀ y ∈ z.cells, ∀ own xs, y = .ap own xs → own = 0 := by
  intro y hy own xs e
  have := List.all_eq_true.1 Iu y hy
  subst e
  simpa using this
 obtain ⟨r, y, L', w', H', O', g1, g2, g3, g4, g5, g6, g7⟩ := yS (P := P) (ty := o.type) hf.st ht iF uc cT xd h0 ue oo si iH Il h wD Ye
 have bG : (execOp a.eval o).run P w = .ok (.value r) w' := by
  simp only [execOp, ho, resolve, invoke, builtin, Sem.run_bind, Sem.run_pure, Result.andThen_ok, List.map_toArray, List.map_cons, List.map_nil, g1]
 have EN : Fr A n M L' w' H' env O' a := ⟨g5, hf.size, hf.defers.ext g6⟩
 obtain ⟨O'', oQ⟩ := EN.ol hd g2 g3
 exact c9 bG ⟨M, L', H', _, O'', g4, oQ, g6, g7⟩
theorem EO : ∀ {xs ys : List AV}, xk xs ys → xs.length = ys.length ∧ ∀ t, (xs.getD t .any).le (ys.getD t .any)
 | [], [], _ => ⟨rfl, fun t => .inl rfl⟩
 | [], _ :: _, h => h.elim
 | _ :: _, [], h => h.elim
 | x :: xs, y :: ys, h => by
   obtain ⟨h1, h2⟩ := h
   obtain ⟨i1, i2⟩ := EO h2
   refine ⟨by simp [i1], fun t => ?_⟩
   cases t with
   | zero => simpa using h1
   | succ t => simpa using i2 t
theorem dw (env : Env) (pass : Option Nat) : ∀ (j : Nat) (xs : List IX), (aH env pass j xs).length = xs.length
 | _, [] => rfl
 | j, .t s :: xs => by simp [aH, dw env pass (j + 1) xs]
 | j, .c v :: xs => by simp [aH, dw env pass (j + 1) xs]
theorem iY (hf : Fr A n M L w H env O a) (pass : Option Nat) : ∀ {xs : List Operand} {is : List IX} (j : Nat), fm xs = some is → aJ M L (xs.map a.eval) (aH env pass j is)
 | [], is, j, hc => by simp [fm] at hc; subst hc; exact .nil
 | x :: xs, is, j, hc => by
   unfold fm at hc
   split at hc
   ·rename_i i is' h1 h2
    cases hc
    have hr := hf.eval h1
    cases i with
    | t s =>
      refine .cons _ _ _ _ ?_ (iY hf pass (j + 1) h2)
      split
      ·exact hr
      ·exact hr.ab
    | c v => exact .cons _ _ _ _ hr.ab (iY hf pass (j + 1) h2)
   ·cases hc
def dk (A : Perm) (loose : Bool) (H : List aa) (L : List Nat) (O : Pos → Option Nat) (w : World) : Perm where
 wr := fun b => b ∈ L ∨ (∃ p, O p = some b) ∨ w.heap.size ≤ b
 top := fun id => if id < H.length then some (A.jc H.length id) else if loose = true then none else some (id + 1)
 ok := by
  intro id n h
  split at h
  ·rename_i h1
   cases h
   have := A.k7 h1
   omega
  ·split at h
   ·cases h
   ·cases h; omega
theorem ke (A : Perm) (loose : Bool) (H : List aa) (L : List Nat) (O : Pos → Option Nat) (w : World) : (dk A loose H L O w).entry loose H.length :=
 ⟨fun id h => ⟨A.jc H.length id, A.tV _ _, by simp only [dk, if_pos h]⟩, fun id h => by simp only [dk]; rw [if_neg (by omega)]⟩
theorem sv (A : Perm) (loose : Bool) (H : List aa) (L : List Nat) (O : Pos → Option Nat) (w : World) {id : Nat} (h : id < H.length) (len : Nat) : (dk A loose H L O w).jc len id = min (A.jc H.length id) len := by
 unfold Perm.jc
 simp only [dk, if_pos h]
 rfl
theorem St.narrow {ev : Nat → Value} {ea : Nat → AV} (loose : Bool) (h : St A M L w H ev ea O) : St (dk A loose H L O w) M L w H ev ea O :=
 { len := h.len, nodup := h.nodup, env := h.env, mem := h.mem, obj := h.obj, lt := h.lt, gH := h.gH, gE := h.gE, bY := h.bY, cc := h.cc, eT := h.eT,
   bB := fun id o ho => by
    rw [sv A loose H L O w (aN ho), Nat.min_eq_left (A.tV _ _)]
    exact h.bB id o ho
   La := fun b hb => .inl hb, Oa := fun p b hp => .inr (.inl ⟨p, hp⟩), fresh := fun b hb => .inr (.inr hb) }
theorem St.pG {ev : Nat → Value} {ea : Nat → AV} (h : St A M L w H ev ea O) (ev' : Nat → Value) (ea' : Nat → AV) (hr : ∀ t, aR M L (ev' t) (ea' t)) (hx : ∀ t own xs, ea' t = .ap own xs → own = 0) :
 St A M L w H ev' ea' (fun p => match p with | .t _ => none | .c id j => O (.c id j)) := by
 have hO : ∀ (p : Pos) (b : Nat), (match p with | .t _ => none | .c id j => O (.c id j)) = some b → O p = some b := by
  intro p b hp
  cases p with
  | t t => cases hp
  | c id j => exact hp
 exact { len := h.len, nodup := h.nodup, env := hr, mem := h.mem, obj := h.obj, bB := h.bB, lt := h.lt, gH := fun t => bb.free (hx t), gE := h.gE, bY := fun p q b hp hq => h.bY p q b (hO p b hp) (hO q b hq),
         cc := fun p b hp => h.cc p b (hO p b hp), eT := fun p b hp => h.eT p b (hO p b hp), La := h.La, Oa := fun p b hp => h.Oa p b (hO p b hp), fresh := h.fresh }
theorem St.F9 {ev : Nat → Value} {ea : Nat → AV} (h : St A M L w H ev ea O) {Oc : Pos → Option Nat} (pt : Option Nat) (loose : Bool) (ud : loose = true → ∀ id, H.length ≤ id → A.top id = none) (Xx : ∀ b, (∃ p, Oc p = some b) → (∃ id j, O (.c id j) = some b) ∨ ∃ s, pt = some s ∧ O (.t s) = some b)
 {M' : Mem} {L' : List Nat} {w' : World} {H' : List aa} {v : Value} {r : AV} {O' : Pos → Option Nat}
 (h' : St (dk A loose H L Oc w) M' L' w' H' (fe (fun _ => undef) 0 v) (fe (fun _ => .any) 0 r) O') (cr : Ext (dk A loose H L Oc w) M w M' w') (hL : L <+: L') :
 ∃ O'', St A M' L' w' H' ev (j3 ea pt) O'' ∧ Ext A M w M' w' ∧ aR M' L' v r ∧ bb M' w' v r (O' (.t 0)) ∧ (∀ q b, O' (.t 0) = some b → O'' q ≠ some b) ∧ (∀ b, O' (.t 0) = some b → b ∉ L' ∧ b < w'.heap.size ∧ A b) := by
 have hlen : H.length ≤ H'.length := by
  have := hL.length_le
  rw [h.len, h'.len] at this
  exact this
 have Xy : ∀ b, dk A loose H L Oc w b → A b := by
  rintro b (hb | hb | hb)
  ·exact h.La b hb
  ·rcases Xx b hb with ⟨id, j, hq⟩ | ⟨s, _, hq⟩
   ·exact h.Oa _ b hq
   ·exact h.Oa _ b hq
  ·exact h.fresh b hb
 let O'' : Pos → Option Nat := fun p => match p with
  | .t i => if pt = some i then none else O (.t i)
  | .c id j => O' (.c id j)
 -- what the caller keeps is not the callee's to write
 have jX : ∀ i b, pt ≠ some i → O (.t i) = some b → ¬ dk A loose H L Oc w b := by
  rintro i b hi hb (hc | hc | hc)
  ·exact h.cc _ b hb hc
  ·rcases Xx b hc with ⟨id, j, hq⟩ | ⟨s, hs, hq⟩
   ·have := h.bY _ _ b hb hq; cases this
   ·have := h.bY _ _ b hb hq; cases this; exact hi hs
  ·have := h.eT _ b hb; omega
 have Ga : ∀ i b, O'' (.t i) = some b → pt ≠ some i ∧ O (.t i) = some b := by
  intro i b hb
  simp only [O''] at hb
  split at hb
  ·cases hb
  ·rename_i hi; exact ⟨hi, hb⟩
 have PY : ∀ i b p, O'' (.t i) = some b → O' p ≠ some b := by
  intro i b p hb hp
  obtain ⟨h1, h2⟩ := Ga i b hb
  exact jX i b h1 h2 (h'.Oa p b hp)
 refine ⟨O'', { len := h'.len, nodup := h'.nodup, env := ?_, mem := h'.mem, obj := h'.obj, bB := ?_, lt := h'.lt, gH := ?_, gE := h'.gE, bY := ?_, cc := ?_, eT := ?_, La := fun b hb => Xy b (h'.La b hb), Oa := ?_, fresh := fun b hb => h.fresh b (Nat.le_trans cr.size hb) }, ?_, ?_, ?_, ?_, ?_⟩
 ·intro t
  have := (h.env t).mono cr.kw hL
  cases pt with
  | none => exact this
  | some d =>
    simp only [j3, fe]
    split
    ·rename_i e0; subst e0; exact this.ab
    ·exact this
 ·intro id o ho
  have h1 := h'.bB id o ho
  have hl := aN ho
  by_cases e : id < H.length
  ·rw [sv A loose H L Oc w e] at h1
   exact aa.cE (Nat.le_trans (Nat.min_le_left _ _) (A.AE hlen id)) o h1
  ·by_cases hx : loose = true
   ·have e1 : A.jc H'.length id = H'.length := by unfold Perm.jc; rw [ud hx id (by omega)]
    rw [e1]
    exact aa.cE (Perm.tV _ _ _) o h1
   ·have e1 : (dk A loose H L Oc w).jc H'.length id = min (id + 1) H'.length := by
     unfold Perm.jc
     simp only [dk, if_neg e, if_neg hx]
    rw [e1] at h1
    exact aa.cE (Nat.le_trans (Nat.min_le_left _ _) (A.k7 hl)) o h1
 ·intro t
  have h1 := h.gH t
  cases pt with
  | none =>
    exact h1.mono fun b hb => cr.jX b (h.eT _ b hb) (jX t b (by simp) hb)
  | some d =>
    simp only [j3, fe, O'']
    by_cases e0 : t = d
    ·subst e0
     simp only [if_true]
     exact bb.free (AV.bI _)
    ·have : ¬ (some d = some t) := fun e => e0 (by cases e; rfl)
     simp only [e0, this, if_false]
     exact h1.mono fun b hb => cr.jX b (h.eT _ b hb) (jX t b this hb)
 ·intro p q b hp hq
  cases p with
  | t i =>
    cases q with
    | t j => exact h.bY _ _ b (Ga i b hp).2 (Ga j b hq).2
    | c id j => exact absurd hq (PY i b _ hp)
  | c id j =>
    cases q with
    | t i => exact absurd hp (PY i b _ hq)
    | c id' j' => exact h'.bY _ _ b hp hq
 ·intro p b hp hm
  cases p with
  | t i => exact jX i b (Ga i b hp).1 (Ga i b hp).2 (h'.La b hm)
  | c id j => exact h'.cc _ b hp hm
 ·intro p b hp
  cases p with
  | t i => exact Nat.lt_of_lt_of_le (h.eT _ b (Ga i b hp).2) cr.size
  | c id j => exact h'.eT _ b hp
 ·intro p b hp
  cases p with
  | t i => exact h.Oa _ b (Ga i b hp).2
  | c id j => exact Xy b (h'.Oa _ b hp)
 ·exact ⟨cr.kw, cr.size, cr.os, cr.tape, cr.output, fun b hb hA => cr.jX b hb (fun hc => hA (Xy b hc)), cr.loops⟩
 ·simpa [fe] using h'.env 0
 ·simpa [fe] using h'.gH 0
 ·intro q b hb hq
  cases q with
  | t i => exact PY i b _ hq hb
  | c id j => have := h'.bY _ _ b hb hq; cases this
 ·intro b hb
  exact ⟨h'.cc _ b hb, h'.eT _ b hb, Xy b (h'.Oa _ b hb)⟩
theorem fx (env : Env) : ∀ (xs : List IX) (j t : Nat), (aH env none j xs).getD t .any = (match xs[t]? with | some x => (al env x).ab | none => .any)
 | [], j, t => by simp [aH]
 | .t s :: xs, j, 0 => by simp [aH, al]
 | .c v :: xs, j, 0 => by simp [aH, al]
 | .t s :: xs, j, t + 1 => by
   simp only [aH, List.getD_cons_succ, List.getElem?_cons_succ]
   exact fx env xs (j + 1) t
 | .c v :: xs, j, t + 1 => by
   simp only [aH, List.getD_cons_succ, List.getElem?_cons_succ]
   exact fx env xs (j + 1) t
theorem fy (env : Env) (k : Nat) : ∀ (xs : List IX) (j t : Nat), (aH env (some k) j xs).getD t .any = (match xs[t]? with | some (.t s) => if k = j + t then get env s else (get env s).ab | some (.c v) => v.ab | none => .any)
 | [], j, t => by simp [aH]
 | .t s :: xs, j, 0 => by simp [aH]
 | .c v :: xs, j, 0 => by simp [aH]
 | .t s :: xs, j, t + 1 => by
   simp only [aH, List.getD_cons_succ, List.getElem?_cons_succ]
   rw [fy env k xs (j + 1) t, show j + 1 + t = j + (t + 1) by omega]
 | .c v :: xs, j, t + 1 => by
   simp only [aH, List.getD_cons_succ, List.getElem?_cons_succ]
   rw [fy env k xs (j + 1) t, show j + 1 + t = j + (t + 1) by omega]
theorem pH (vs : List Value) (t : Nat) : vs.toArray.getD t undef = vs.getD t undef := by
 simp [List.getD_eq_getElem?_getD]
theorem kC (xs ys zs : List AV) (t : Nat) : (xs ++ ys ++ zs).getD t .any = if t < xs.length then xs.getD t .any else if t < xs.length + ys.length then ys.getD (t - xs.length) .any else zs.getD (t - xs.length - ys.length) .any := by
 simp only [List.getD_eq_getElem?_getD, List.getElem?_append, List.length_append]
 by_cases h1 : t < xs.length
 ·rw [if_pos (by omega), if_pos h1, if_pos h1]
 ·by_cases h2 : t < xs.length + ys.length
  ·rw [if_pos h2, if_neg h1, if_neg h1, if_pos h2]
  ·rw [if_neg h2, if_neg h1, if_neg h2, Nat.sub_sub]
theorem qX {o : Oper} {xs : List Operand} {js : List IX} (Tb : fm xs = some js) {pass : Option Nat} {fs cs : List Value} {first cap : List AV} (yV : aJ M L fs first) (qV : aJ M L cs cap) {bO : List AV}
 (hle : xk (first.map AV.ab ++ aH env pass 0 js ++ cap.map AV.ab) bO) (hf : Fr A n M L w H env O a) (hd : ∀ d, o.dst = some d → d < n) {loose : Bool} (ud : loose = true → ∀ id, H.length ≤ id → A.top id = none) :
 ∃ Oc, (fs ++ xs.map a.eval ++ cs).length = bO.length ∧ St (dk A loose H L Oc w) M L w H (fun t => (fs ++ xs.map a.eval ++ cs).toArray.getD t undef) (fun t => bO.getD t .any) Oc ∧
  ∀ (v : Value) (r : AV) (H' : List aa) (M' : Mem) (L' : List Nat) (O' : Pos → Option Nat) (w' : World), K (put o.dst r (cD env (bc js pass))) H' → St (dk A loose H L Oc w) M' L' w' H' (fe (fun _ => undef) 0 v) (fe (fun _ => .any) 0 r) O' → Ext (dk A loose H L Oc w) M w M' w' → L <+: L' →
   mw A n M L w K (a.put o.dst v) w' := by
 have hrb := iY hf pass 0 Tb
 have Yf := iY hf none 0 Tb
 obtain ⟨hlen, Yg⟩ := EO hle
 obtain ⟨vs, wv⟩ : ∃ vs : List Value, vs = fs ++ xs.map a.eval ++ cs := ⟨_, rfl⟩
 have hrv : aJ M L vs (first.map AV.ab ++ aH env pass 0 js ++ cap.map AV.ab) := by rw [wv]; exact (yV.cU.append hrb).append qV.cU
 have Yh : aJ M L vs (first.map AV.ab ++ aH env none 0 js ++ cap.map AV.ab) := by rw [wv]; exact (yV.cU.append Yf).append qV.cU
 have pB : vs.length = bO.length := by rw [hrv.length]; exact hlen
 -- the callee's state
 have Yi : ∃ Oc, St A M L w H (fun t => vs.toArray.getD t undef) (fun t => bO.getD t .any) Oc ∧ (∀ b, (∃ p, Oc p = some b) → (∃ id j, O (.c id j) = some b) ∨ ∃ s, bc js pass = some s ∧ O (.t s) = some b) := by
  have hfree : ∀ t own zs, (first.map AV.ab ++ aH env none 0 js ++ cap.map AV.ab).getD t .any = .ap own zs → own = 0 := by
   intro t own zs he
   have hm : ∀ (l : List AV) q, (l.map AV.ab).getD q .any = .ap own zs → own = 0 := by
    intro l q hq
    rw [List.getD_eq_getElem?_getD, List.getElem?_map] at hq
    cases hx : l[q]? with
    | none => simp [hx] at hq
    | some y => simp [hx] at hq; exact AV.bI y own zs hq
   rw [kC] at he
   split at he
   ·exact hm _ _ he
   ·split at he
    ·rw [fx] at he
     split at he
     ·exact AV.bI _ own zs he
     ·cases he
    ·exact hm _ _ he
  have h0 := hf.st.pG (fun t => vs.toArray.getD t undef) (fun t => (first.map AV.ab ++ aH env none 0 js ++ cap.map AV.ab).getD t .any) (fun t => by rw [pH]; exact Yh.getD t) hfree
  -- then the one that is handed over
  have h1 : ∃ O1, St A M L w H (fun t => vs.toArray.getD t undef) (fun t => (first.map AV.ab ++ aH env pass 0 js ++ cap.map AV.ab).getD t .any) O1 ∧ (∀ b, (∃ p, O1 p = some b) → (∃ id j, O (.c id j) = some b) ∨ ∃ s, bc js pass = some s ∧ O (.t s) = some b) := by
   cases pw : bc js pass with
   | none =>
     refine ⟨_, h0.congr (fun _ => rfl) (fun t => ?_), ?_⟩
     ·rw [kC, kC, dw, dw]
      split
      ·rfl
      ·split
       ·cases pass with
        | none => rfl
        | some k =>
          rw [fx, fy]
          unfold bc at pw
          simp only at pw
          cases hx : js[t - (first.map AV.ab).length]? with
          | none => rfl
          | some x =>
            cases x with
            | c v => rfl
            | t s =>
              simp only
              rw [if_neg]
              ·rfl
              ·intro e
               rw [Nat.zero_add] at e
               rw [e, hx] at pw
               simp at pw
       ·rfl
     ·rintro b ⟨p, hp⟩
      cases p with
      | t t => cases hp
      | c id j => exact .inl ⟨id, j, hp⟩
   | some s =>
     -- where it stands
     obtain ⟨k, rfl, Ox⟩ : ∃ k, pass = some k ∧ js[k]? = some (.t s) := by
      unfold bc at pw
      split at pw
      ·rename_i k
       split at pw
       ·rename_i s' TO; cases pw; exact ⟨k, rfl, TO⟩
       ·cases pw
      ·cases pw
     have EP : k < js.length := aN Ox
     have hargs : ∀ (xs : List Operand) (is : List IX), fm xs = some is → ∀ (q s : Nat), is[q]? = some (IX.t s) → xs[q]? = some (Operand.tmp s) := by
      intro xs
      induction xs with
      | nil => intro is hc q s hq; simp [fm] at hc; subst hc; simp at hq
      | cons x xs ih =>
        intro is hc q s hq
        unfold fm at hc
        split at hc
        ·rename_i i is' e1 e2
         cases hc
         cases q with
         | zero =>
           simp at hq; subst hq
           cases x with
           | tmp t => simp [aP] at e1; simp [e1]
           | const v => simp only [aP] at e1; obtain ⟨_, _, hz⟩ := Option.map_eq_some_iff.1 e1; cases hz
           | func f => simp [aP] at e1
           | global g => simp [aP] at e1
         | succ q => simpa using ih is' e2 q s (by simpa using hq)
        ·cases hc
     have cI := hargs _ _ Tb k s Ox
     have kz : vs[first.length + k]? = some (a.tmps.getD s undef) := by
      have LF : fs.length = first.length := yV.length
      rw [wv]
      rw [List.append_assoc, List.getElem?_append_right (by omega), LF, show first.length + k - first.length = k by omega, List.getElem?_append_left (by simpa using aN cI), List.getElem?_map, cI]
      rfl
     have mL := h0.put (first.length + k) (v := a.tmps.getD s undef) (x := get env s) (hf.st.env s) (O (.t s)) (hf.st.gH s) (fun p b hb hp => by
      cases p with
      | t t => cases hp
      | c id j => have := hf.st.bY _ _ b hb hp; cases this) (fun b hb => ⟨hf.st.cc _ b hb, hf.st.eT _ b hb, hf.st.Oa _ b hb⟩)
     refine ⟨_, mL.congr (fun t => ?_) (fun t => ?_), ?_⟩
     ·simp only [fe]
      split
      ·rename_i e; subst e
       rw [pH, List.getD_eq_getElem?_getD, kz]; rfl
      ·rfl
     ·simp only [fe]
      rw [kC, kC, dw, dw]
      simp only [List.length_map]
      by_cases e : t = first.length + k
      ·subst e
       rw [if_pos rfl, if_neg (by omega), if_pos (by omega), show first.length + k - first.length = k by omega, fy, Ox]
       simp
      ·rw [if_neg e]
       split
       ·rfl
       ·split
        ·rw [fx, fy]
         cases hx : js[t - first.length]? with
         | none => rfl
         | some x =>
           cases x with
           | c v => rfl
           | t s =>
             simp only
             rw [if_neg (by omega)]
             rfl
        ·rfl
     ·rintro b ⟨p, hp⟩
      simp only [dW] at hp
      split at hp
      ·exact .inr ⟨s, rfl, hp⟩
      ·cases p with
       | t t => cases hp
       | c id j => exact .inl ⟨id, j, hp⟩
  obtain ⟨O1, g1, g2⟩ := h1
  obtain ⟨O2, g3, g4⟩ := g1.EI (ea' := fun t => bO.getD t .any) Yg
  exact ⟨O2, g3, fun b ⟨p, hp⟩ => g2 b ⟨p, g4 p b hp⟩⟩
 obtain ⟨Oc, bP, Xx⟩ := Yi
 refine ⟨Oc, by rw [← wv]; exact pB, by rw [← wv]; exact bP.narrow loose, ?_⟩
 intro v r H' M' L' O' w' hK lm cr hL
 obtain ⟨O'', k1, k2, k3, k4, k5, k6⟩ := hf.st.F9 (bc js pass) loose ud Xx lm cr hL
 have C5 : j3 (get env) (bc js pass) = get (cD env (bc js pass)) := by
  cases bc js pass <;> rfl
 rw [C5] at k1
 have oQ : Fr A n M' L' w' H' (cD env (bc js pass)) O'' a := ⟨k1, hf.size, hf.defers.ext k2⟩
 show mw A n M L w K (a.put o.dst v) w'
 cases fL : o.dst with
 | none => rw [fL] at hK; exact ⟨M', L', H', _, O'', hK, oQ, k2, hL⟩
 | some d =>
   rw [fL] at hK
   exact ⟨M', L', H', _, _, hK, oQ.C6 (hd d fL) k3 (O' (.t 0)) k4 (fun q b hb hq => absurd hq (k5 q b hb)) k6, k2, hL⟩
theorem Dm {o : Oper} {c : Call} (ho : o.op = .call c) {f : Operand} (mj : c.callee = .value f) {i : IX} {js : List IX} (EQ : aP f = some i) (Tb : fm c.args.toList = some js) {pass : Option Nat}
 (hp : ∀ l, lo = some l → ∀ id, l ≤ id → A.top id = none) (hf : Fr A n M L w H env O a) (hd : ∀ d, o.dst = some d → d < n) (h : bt ⟨P, lo⟩ (.call i js pass) o.dst env H K) : o.wpIn (wf ro) 0 P a w (mw A n M L w K) Q := by
 simp only [bt] at h
 have K3 := hf.eval EQ
 unfold oz at h
 split at h <;> try exact h.elim
 ·rename_i g first cap TP
  obtain ⟨bO, hle, hcall⟩ := h
  rw [TP] at K3
  generalize hu : a.eval f = u at K3
  cases K3 with
  | fn _ fs cs _ _ yV qV =>
  obtain ⟨loose, ud, hcall⟩ : ∃ loose : Bool, (loose = true → ∀ id, H.length ≤ id → A.top id = none) ∧ kc loose P g bO H fun r H' => K (put o.dst r (cD env (bc js pass))) H' := by
   unfold dY at hcall
   split at hcall
   ·exact ⟨false, by simp, hcall⟩
   ·rename_i l hl
    rcases hcall with hcall | ⟨h1, hcall⟩
    ·exact ⟨false, by simp, hcall⟩
    ·exact ⟨true, fun _ id bm => hp l hl id (by omega), hcall⟩
  obtain ⟨Oc, pB, bP, fin⟩ := qX (K := K) (o := o) Tb yV qV hle hf hd ud
  obtain ⟨vs, wv⟩ : ∃ vs : List Value, vs = fs ++ c.args.toList.map a.eval ++ cs := ⟨_, rfl⟩
  rw [← wv] at pB bP
  have bG : (execOp a.eval o).run P w = (callFunc g vs.toArray).run P w := by
   simp only [execOp, ho, resolve, mj, Deferred.ofValue, hu, invoke, Sem.run_bind, Sem.run_pure, Result.andThen_ok]
   have e1 : (fs.toArray ++ c.args.map a.eval ++ cs.toArray) = vs.toArray := by
    apply Array.ext'; simp [wv]
   rw [e1]
  rcases hcall (dk A loose H L Oc w) M L w vs.toArray Oc (ke A loose H L Oc w) (by simpa using pB) bP with ⟨h1, hc⟩ | ⟨v, w', r, H', M', L', O', h1, hK, lm, cr, hL⟩
  ·refine kx (bG.trans h1) (by intro d e; cases e) ⟨(fun h => by cases h), ?_⟩
   have oo : CallsIn (wf ro) (0 - 1) P g vs.toArray w _ := callsIn_wide.2 hc
   refine CallsIn.mono oo fun e w' he => ?_
   obtain ⟨v, r, H', M', L', O', rfl, hK, lm, cr, hL⟩ := he
   exact fin v r H' M' L' O' w' hK lm cr hL
  ·exact c9 (bG.trans h1) (fin v r H' M' L' O' w' hK lm cr hL)
 ·rename_i id TP
  obtain ⟨bO, hle, hcall⟩ := h
  rw [TP] at K3
  generalize hu : a.eval f = u at K3
  cases K3 with
  | mC b _ hl =>
  obtain ⟨loose, ud, hcall⟩ : ∃ loose : Bool, (loose = true → ∀ id, H.length ≤ id → A.top id = none) ∧ fa loose P id bO H fun r H' => K (put o.dst r (cD env (bc js pass))) H' := by
   unfold lq at hcall
   split at hcall
   ·exact ⟨false, by simp, hcall⟩
   ·rename_i l hl
    rcases hcall with hcall | ⟨h1, hcall⟩
    ·exact ⟨false, by simp, hcall⟩
    ·exact ⟨true, fun _ id bm => hp l hl id (by omega), hcall⟩
  obtain ⟨Oc, pB, bP, fin⟩ := qX (K := K) (o := o) (fs := []) (cs := []) (first := []) (cap := []) Tb .nil .nil (by simpa using hle) hf hd ud
  simp only [List.nil_append, List.append_nil] at pB bP
  obtain ⟨fn, tmps, as, bd, h1, h2⟩ := hcall (dk A loose H L Oc w) M L w (c.args.toList.map a.eval).toArray Oc b (ke A loose H L Oc w) (by simpa using pB) hl bP
  have bG : (execOp a.eval o).run P w = .ok (.round b fn tmps as bd) w := by
   simp only [execOp, ho, resolve, mj, Deferred.ofValue, hu, invoke, Sem.run_bind, Sem.run_pure, Result.andThen_ok]
   have e1 : (#[] ++ c.args.map a.eval : Array Value) = (c.args.toList.map a.eval).toArray := by
    apply Array.ext'; simp
   rw [e1]
   exact h1
  refine kx bG (by intro d e; cases e) ⟨(fun h => by cases h), ?_⟩
  have oo : RoundIn (wf ro) (0 - 1) P b fn tmps as bd w _ := h2
  refine RoundIn.mono oo fun e w' he => ?_
  obtain ⟨v, r, H', M', L', O', rfl, hK, lm, cr, hL⟩ := he
  exact fin v r H' M' L' O' w' hK lm cr hL
end
end Go.aK
end
section
namespace Go.aK
open Go
section
variable {ro : Option Nat} {P : Program} {lo : Option Nat} {A : Perm} {n : Nat} {M : Mem} {L : List Nat} {w : World} {H : List aa} {env : Env} {O : Pos → Option Nat} {a : Act} {Q : Exit → Act → World → Prop} {K : Env → List aa → Prop}
theorem nK {x : AV} {φ : Bool → Prop} (h : eI x φ) : ∃ b, x = .bool b ∧ φ b := by
 unfold eI at h
 split at h
 ·exact ⟨_, rfl, h⟩
 ·exact h.elim
def gJ (kd : Nat) : Value := match kd with | 0 => .slice none 0 0 | 1 => .pointer none | 2 => .map none | _ => .nilFunc
def pI (kd : Nat) (D : TypeDesc) : Bool := match kd, D with | 0, .slice _ => true | 1, .pointer _ => true | 2, .map _ _ => true | 3, .func _ _ _ => true | _, _ => false
theorem s9 {d kd : Nat} {t : TypeId} {D : TypeDesc} (ht : P.underlying t = some D) (hD : pI kd D = true) {u : Value} {x : AV} {b : Bool} (hx : isNil kd x = some b) (hu : aR M L u x) : (Op.equalIn (d + 1) t u (gJ kd)).run P w = .ok b w := by
 unfold isNil at hx
 split at hx <;> cases hx <;> cases D <;> simp [pI] at hD <;> cases hu <;> simp [Op.equalIn, run_underlying ht, gJ]
theorem um {kd : Nat} {neq : Bool} {t : TypeId} {D : TypeDesc} (ht : P.underlying t = some D) (hD : pI kd D = true) {u : Value} {x : AV} {φ : AV → Prop} (h : dc kd neq x φ) (hu : aR M L u x) (X Y : Operand) :
 ∃ r z, (do eqGuard (if neq then .neq else .eql) t X Y u (gJ kd); binOp (if neq then .neq else .eql) t u (gJ kd) : Sem Value).run P w = .ok r w ∧ aR M L r z ∧ φ z ∧ ∀ own xs, z = .ap own xs → own = 0 := by
 unfold dc at h
 split at h
 rotate_left
 ·split at h <;> try exact h.elim
  cases hu with
  | ap b off c own e cs xs he hx hn hle hc hr hm => simp at hn
  | gb ad c own hc =>
    have hDs : ∃ e, D = .slice e := by
     cases D <;> simp [pI] at hD
     exact ⟨_, rfl⟩
    obtain ⟨e, rfl⟩ := hDs
    have Yj : ∀ d, (Op.equalIn (d + 1) t (.slice ad 0 c) (gJ 0)).run P w = .ok (ad.isNone) w := by
     intro d
     cases ad <;> simp [Op.equalIn, run_underlying ht, gJ]
    have he : (Op.equal t (.slice ad 0 c) (gJ 0)).run P w = .ok (ad.isNone) w := Yj 9999
    have hg : ∀ op, (eqGuard op t X Y (.slice ad 0 c) (gJ 0)).run P w = .ok () w := by
     intro op
     unfold eqGuard; cases op <;> rfl
    have h1 : binOp .eql t (.slice ad 0 c) (gJ 0) = (Op.equal t (.slice ad 0 c) (gJ 0) >>= fun q => (pure (.bool q) : Sem Value)) := rfl
    have h2 : binOp .neq t (.slice ad 0 c) (gJ 0) = (Op.equal t (.slice ad 0 c) (gJ 0) >>= fun q => (pure (.bool (!q)) : Sem Value)) := rfl
    have hφ : ∀ b, φ (.bool b) := fun b => by cases b; exact h.2; exact h.1
    cases neq
    ·refine ⟨.bool ad.isNone, .bool ad.isNone, ?_, .bool _, hφ _, by intro _ _ e; cases e⟩
     simp only [Bool.false_eq_true, if_false, Sem.run_bind, hg, Result.andThen_ok, h1, he, Sem.run_pure]
    ·refine ⟨.bool (!ad.isNone), .bool (!ad.isNone), ?_, .bool _, hφ _, by intro _ _ e; cases e⟩
     simp only [if_true, Sem.run_bind, hg, Result.andThen_ok, h2, he, Sem.run_pure]
 rename_i b hb
 have he : (Op.equal t u (gJ kd)).run P w = .ok b w := s9 (d := 9999) ht hD hb hu
 have hg : ∀ op, (eqGuard op t X Y u (gJ kd)).run P w = .ok () w := by
  intro op
  unfold isNil at hb
  split at hb <;> cases hb <;> cases hu <;> (unfold eqGuard; cases op <;> rfl)
 have h1 : binOp .eql t u (gJ kd) = (Op.equal t u (gJ kd) >>= fun q => (pure (.bool q) : Sem Value)) := by
  unfold isNil at hb
  split at hb <;> cases hb <;> cases hu <;> rfl
 have h2 : binOp .neq t u (gJ kd) = (Op.equal t u (gJ kd) >>= fun q => (pure (.bool (!q)) : Sem Value)) := by
  unfold isNil at hb
  split at hb <;> cases hb <;> cases hu <;> rfl
 cases neq
 ·refine ⟨.bool b, .bool b, ?_, .bool _, h, by intro _ _ e; cases e⟩
  simp only [Bool.false_eq_true, if_false, Sem.run_bind, hg, Result.andThen_ok, h1, he, Sem.run_pure]
 ·refine ⟨.bool (!b), .bool (!b), ?_, .bool _, h, by intro _ _ e; cases e⟩
  simp only [if_true, Sem.run_bind, hg, Result.andThen_ok, h2, he, Sem.run_pure]
theorem uo (hf : Fr A n M L w H env O a) {xs : List Operand} {is : List IX} (hc : fm xs = some is) : aJ M L (xs.map a.eval) (is.map fun x => (al env x).ab) := by
 have := (hf.Ou hc).cU
 rwa [List.map_map] at this
theorem b8 (hf : Fr A n M L w H env O a) {x : Option Operand} {i : Option IX} (hc : jQ x = some i) : iJ M L (fX env i) (x.map a.eval) := by
 cases x with
 | none => simp [jQ] at hc; subst hc; trivial
 | some x =>
   simp only [jQ] at hc
   obtain ⟨j, hj, rfl⟩ := Option.map_eq_some_iff.1 hc
   exact hf.eval hj
theorem ER {e : TypeId} {esz : Nat} {z : AV} (h : cQ P e = some (esz, z)) : dB P e = some esz ∧ ft P e = some z ∧ 0 < esz ∧ z.cells.length = esz ∧ z.val = true := by
 unfold cQ at h
 split at h <;> try cases h
 rename_i h1 h2
 split at h <;> cases h
 rename_i hc
 exact ⟨h1, h2, hc⟩
theorem Gb {x : AV} (h : aL 0 x) : iG .string x = true := by
 cases x <;> first | rfl | exact (show False from h).elim
theorem A4 {x : AV} (h : aL 1 x) (e : TypeId) : iG (.slice e) x = true := by
 cases x <;> first | rfl | exact (show False from h).elim
theorem Gc {x : AV} (h : aL 2 x) (k e : TypeId) : iG (.map k e) x = true := by
 cases x <;> first | rfl | exact (show False from h).elim
theorem Iv (o : Oper) {fl : Nat} {i : bW} (hc : cj P o fl = some i) (hp : ∀ l, lo = some l → ∀ id, l ≤ id → A.top id = none) (hf : Fr A n M L w H env O a) (hd : ∀ d, o.dst = some d → d < n) (hnone : (match o.op with | .store .. | .mapUpdate .. => o.dst = none | _ => True))
 (h : bt ⟨P, lo⟩ i o.dst env H K) : o.wpIn (wf ro) 0 P a w (mw A n M L w K) Q := by
 cases cI : o.op with
 | move x =>
   simp only [cj, cI] at hc
   obtain ⟨j, hj, rfl⟩ := Option.map_eq_some_iff.1 hc
   exact xl (.inl cI) hj hf hd h
 | assign x =>
   simp only [cj, cI] at hc
   obtain ⟨j, hj, rfl⟩ := Option.map_eq_some_iff.1 hc
   exact xl (.inr cI) hj hf hd h
 | pick c x y =>
   simp only [cj, cI] at hc
   split at hc <;> cases hc
   rename_i c' x' y' h1 h2 h3
   simp only [bt] at h
   obtain ⟨b, hb, h⟩ := nK h
   have hr := hf.eval h1
   rw [hb] at hr
   generalize hu : a.eval c = u at hr
   cases hr
   cases b
   ·exact wp_pure hf hd (by simp [execOp, cI, hu, asBool]) (hf.eval h3).ab (AV.bI _) (h.2 rfl)
   ·exact wp_pure hf hd (by simp [execOp, cI, hu, asBool]) (hf.eval h2).ab (AV.bI _) (h.1 rfl)
 | alloc e =>
   simp only [cj, cI] at hc
   split at hc <;> try cases hc
   rename_i z hz
   split at hc <;> cases hc
   rename_i hv
   simp only [bt] at h
   obtain ⟨r, L', w', h1, h2, h3, h4, h5⟩ := C9 (P := P) hf.st hz hv h.1
   exact nJ hf hd (by simp only [execOp, cI]; exact aV h1) h2 (by intro _ _ e; cases e) h3 h4 h5 h.2
 | box e x =>
   simp only [cj, cI] at hc
   obtain ⟨j, hj, hc⟩ := Option.map_eq_some_iff.1 hc
   split at hc <;> subst hc <;> simp only [bt] at h
   ·obtain ⟨r, M', w', h1, h2, h3, h4⟩ := FY (P := P) hf.st e (hf.eval hj) h.1
    exact nJ hf hd (by simp only [execOp, cI]; exact aV h1) h2 (by intro _ _ e; cases e) h3 h4 (List.prefix_refl L) h.2
   ·obtain ⟨r, L', w', h1, h2, h3, h4, h5⟩ := AJ (P := P) hf.st e (hf.eval hj) h.1 h.2.1
    exact nJ hf hd (by simp only [execOp, cI]; exact aV h1) h2 (by intro _ _ e; cases e) h3 h4 h5 h.2.2
 | build t ps =>
   simp only [cj, cI] at hc
   split at hc <;> try cases hc
   rename_i z places ht
   split at hc <;> try cases hc
   rename_i qs hq
   split at hc <;> cases hc
   rename_i hv
   simp only [bt] at h
   obtain ⟨r, x, h1, h2, h3, h4⟩ := Db (P := P) hf ht hq h hv
   exact wp_pure hf hd (by simp only [execOp, cI]; exact aV h1) h2 h4 h3
 | buildSlice t len ps =>
   simp only [cj, cI] at hc
   split at hc <;> try cases hc
   rename_i e ht
   split at hc <;> try cases hc
   rename_i esz z qs hz hq
   split at hc <;> cases hc
   rename_i hlen
   obtain ⟨p1, p2, p3, p4, p5⟩ := ER hz
   obtain ⟨q1, q2⟩ := l9 hf _ _ hq
   by_cases TQ : fl = 2
   ·rw [if_pos TQ] at h
    simp only [bt] at h
    obtain ⟨r, x, L', w', H', h1, h2, h3, h4, h5, h6, h7⟩ := F8 (P := P) hf.st ht p1 p3 p2 p4 p5 hlen (vs := ps.map fun (i, x) => (i, a.eval x)) (by
     intro j p hp
     obtain ⟨v, v1, v2⟩ := q1 j p hp
     exact ⟨v, by simpa using v1, v2⟩) (by simp [q2]) h
    exact nJ hf hd (by simp only [execOp, cI]; exact aV h1) h2 h3 h5 h6 h7 h4
   rw [if_neg TQ] at h
   simp only [bt] at h
   obtain ⟨m, xs, M', w', ad, h1, h2, h3, h4, h5, h6⟩ := sX (P := P) hf.st ht p1 p3 p2 p4 p5 (if fl = 1 then esz else 0) hlen (vs := ps.map fun (i, x) => (i, a.eval x)) (by
    intro j p hp
    obtain ⟨v, v1, v2⟩ := q1 j p hp
    exact ⟨v, by simpa using v1, v2⟩) (by simp [q2]) h
   obtain ⟨O', oQ⟩ := (hf.mono h5 h6).EK (dst := o.dst) hd h2 (fun dG y hy => by
    split at dG
    ·rename_i LF; rw [if_pos LF]; exact h3 y hy
    ·exact absurd rfl dG)
   exact c9 (by simp only [execOp, cI]; exact aV h1) ⟨M', L, H, _, O', h4, oQ, h6, List.prefix_refl L⟩
 | load t x =>
   simp only [cj, cI] at hc
   split at hc <;> try cases hc
   rename_i sz j ht hj
   split at hc
   ·split at hc <;> cases hc
    rename_i hs
    subst hs
    exact ul cI ht hj hf hd h
   split at hc
   ·cases hc
    simp only [bt] at h
    obtain ⟨r, z, h1, h2, h3, h4⟩ := qR (P := P) ht hf.st h (hf.eval hj)
    obtain ⟨y, M', H', O', g1, g2, g3, g4, g5⟩ := qW hf.st h3 h2
    obtain ⟨O'', oQ⟩ := (hf.mono g3 g4).ol (dst := o.dst) hd g1 g5
    exact c9 (by simp only [execOp, cI]; exact aV h1) ⟨M', L, H', _, O'', g2, oQ, g4, List.prefix_refl L⟩
   ·cases hc
    simp only [bt] at h
    obtain ⟨r, z, h1, h2, h3, h4⟩ := qR (P := P) ht hf.st h (hf.eval hj)
    exact bK hf hd ⟨r, z, by simp only [execOp, cI]; exact aV h1, h2, h3, h4⟩
 | store t x y =>
   simp only [cI] at hnone
   simp only [cj, cI] at hc
   split at hc <;> try cases hc
   rename_i m j k ht hj hk
   split at hc
   ·split at hc <;> try cases hc
    rename_i s
    split at hc <;> cases hc
    rename_i hm
    subst hm
    exact wC cI ht hj hk hf hnone h
   split at hc
   ·cases hc
    simp only [bt] at h
    obtain ⟨l, rfl⟩ : ∃ l, lo = some l := by cases lo with | none => exact h.elim | some l => exact ⟨l, rfl⟩
    obtain ⟨w', H', O', h1, h2, h3, h4⟩ := AN (P := P) hf.st (hp l rfl) ht h (hf.eval hj) (hf.eval hk)
    refine lf (by simp only [execOp, cI]; exact pF h1) ⟨M, L, H', env, O', h2, ?_, h4, List.prefix_refl L⟩
    rw [hnone]; exact ⟨h3, hf.size, hf.defers.ext h4⟩
   ·cases hc
    simp only [bt] at h
    obtain ⟨w', H', O', h1, h2, h3, h4⟩ := Dc (P := P) hf.st ht h (hf.eval hj) (hf.eval hk)
    refine lf (by simp only [execOp, cI]; exact pF h1) ⟨M, L, H', env, O', h2, ?_, h4, List.prefix_refl L⟩
    rw [hnone]; exact ⟨h3, hf.size, hf.defers.ext h4⟩
 | nilCheck x =>
   simp only [cj, cI] at hc
   obtain ⟨j, hj, rfl⟩ := Option.map_eq_some_iff.1 hc
   simp only [bt] at h
   exact bK hf hd (wu cI h (hf.eval hj))
 | binOp op t x y yt =>
   simp only [cj, cI] at hc
   split at hc <;> try cases hc
   rename_i j k hj hk
   have hx := hf.eval hj
   have hy := hf.eval hk
   have plain : ∀ {op}, cV op (al env j) (al env k) (fun z => K (put o.dst z env) H) → o.op = .binOp op t x y yt → o.wpIn (wf ro) 0 P a w (mw A n M L w K) Q := by
    intro op h cI
    obtain ⟨r, z, h1, h2, h3, h4⟩ := H8 (P := P) (w := w) (t := t) h hx hy x y
    exact bK hf hd ⟨r, z, by simp only [execOp, cI]; exact aV h1, h2, h3, h4⟩
   split at hc
   ·cases hc
    simp only [bt] at h
    obtain ⟨r, z, h1, h2, h3, h4⟩ := tY (P := P) (w := w) (t := t) h hx hy x y
    exact bK hf hd ⟨r, z, by simp only [execOp, cI]; exact aV h1, h2, h3, h4⟩
   ·cases hc
    simp only [bt] at h
    obtain ⟨r, z, h1, h2, h3, h4⟩ := tY (P := P) (w := w) (t := t) h hx hy x y
    exact bK hf hd ⟨r, z, by simp only [execOp, cI]; exact aV h1, h2, h3, h4⟩
   ·split at hc <;> try cases hc
    ·rename_i ht
     simp only [bt] at h
     obtain ⟨r, z, h1, h2, h3, h4⟩ := sf (P := P) (w := w) (neq := false) ht h hx hy x y
     exact bK hf hd ⟨r, z, by simp only [execOp, cI]; exact aV h1, h2, h3, h4⟩
    ·exact plain (op := .eql) h cI
    ·exact plain (op := .eql) h cI
    all_goals
     rename_i ht
     split at hc <;> cases hc
     simp only [bt] at h
     obtain ⟨r, z, h1, h2, h3, h4⟩ := um (P := P) (w := w) (neq := false) ht rfl h hx x (.const .nilFunc)
     exact bK hf hd ⟨r, z, by simp only [execOp, cI]; exact aV h1, h2, h3, h4⟩
   ·split at hc <;> try cases hc
    ·rename_i ht
     simp only [bt] at h
     obtain ⟨r, z, h1, h2, h3, h4⟩ := sf (P := P) (w := w) (neq := true) ht h hx hy x y
     exact bK hf hd ⟨r, z, by simp only [execOp, cI]; exact aV h1, h2, h3, h4⟩
    ·exact plain (op := .neq) h cI
    ·exact plain (op := .neq) h cI
    all_goals
     rename_i ht
     split at hc <;> cases hc
     simp only [bt] at h
     obtain ⟨r, z, h1, h2, h3, h4⟩ := um (P := P) (w := w) (neq := true) ht rfl h hx x (.const .nilFunc)
     exact bK hf hd ⟨r, z, by simp only [execOp, cI]; exact aV h1, h2, h3, h4⟩
   ·cases hc; exact plain h cI
 | unOp op t x =>
   simp only [cj, cI] at hc
   obtain ⟨j, hj, rfl⟩ := Option.map_eq_some_iff.1 hc
   simp only [bt] at h
   obtain ⟨r, z, h1, h2, h3, h4⟩ := Ls (P := P) (w := w) h (hf.eval hj)
   exact bK hf hd ⟨r, z, by simp only [execOp, cI]; exact aV h1, h2, h3, h4⟩
 | convert src dst x =>
   simp only [cj, cI] at hc
   split at hc <;> try cases hc
   ·rename_i k1 k2 j hs PZ hj
    simp only [bt] at h
    obtain ⟨r, z, h1, h2, h3, h4⟩ := yG (P := P) (w := w) hs PZ h (hf.eval hj)
    exact bK hf hd ⟨r, z, by simp only [execOp, cI]; exact aV h1, h2, h3, h4⟩
   ·rename_i j hs PZ hj
    simp only [bt] at h
    obtain ⟨r, z, h1, h2, h3, h4⟩ := yL (P := P) (w := w) hs PZ h (hf.eval hj)
    exact bK hf hd ⟨r, z, by simp only [execOp, cI]; exact aV h1, h2, h3, h4⟩
   ·rename_i e j hs PZ hj
    split at hc <;> cases hc
    rename_i he
    simp only [bt] at h
    obtain ⟨r, z, w', M', ob, h1, h2, h3, h4, h5, h6, h7, h8⟩ := yM (P := P) hf.st hs PZ he h (hf.eval hj)
    exact uk hf hd (by simp only [execOp, cI]; exact aV h1) h2 h4 h5 h6 h7 h8 h3
   ·rename_i e j hs PZ hj
    split at hc <;> cases hc
    rename_i he
    simp only [bt] at h
    obtain ⟨r, z, h1, h2, h3, h4⟩ := Dg (P := P) hf.st hs he PZ h (hf.eval hj)
    exact bK hf hd ⟨r, z, by simp only [execOp, cI]; exact aV h1, h2, h3, h4⟩
 | makeFunc f first cap =>
   simp only [cj, cI] at hc
   split at hc <;> cases hc
   rename_i i j hi hj
   simp only [bt] at h
   refine bK hf hd ⟨.func f (first.map a.eval) (cap.map a.eval), _, ?_, ?_, h, by intro _ _ e; cases e⟩
   ·simp only [execOp, cI]; rfl
   ·have := aR.fn (M := M) (L := L) f (first.toList.map a.eval) (cap.toList.map a.eval) _ _ (uo hf hi) (uo hf hj)
    rw [show (first.toList.map a.eval).toArray = first.map a.eval by apply Array.ext'; simp, show (cap.toList.map a.eval).toArray = cap.map a.eval by apply Array.ext'; simp] at this
    exact this
 | makeMap t r =>
   cases r with
   | some r => simp [cj, cI] at hc
   | none =>
     simp only [cj, cI] at hc
     cases hc
     simp only [bt] at h
     obtain ⟨r, L', w', h1, h2, h3, h4, h5⟩ := Dj (P := P) hf.st t
     exact nJ hf hd (by simp only [execOp, cI]; exact aV h1) h2 (by intro _ _ e; cases e) h3 h4 h5 h
 | makeSlice t l c =>
   simp only [cj, cI] at hc
   split at hc <;> try cases hc
   rename_i e k ht hk
   split at hc <;> try cases hc
   rename_i esz z bytes hz hb
   split at hc <;> try cases hc
   rename_i hcond
   obtain ⟨ue, Iu⟩ := hcond
   obtain ⟨p1, p2, p3, p4, p5⟩ := ER hz
   obtain ⟨inf, iF, cT⟩ := Option.map_eq_some_iff.1 p1
   obtain ⟨inf', sr, xd⟩ := Option.map_eq_some_iff.1 hb
   rw [iF] at sr; cases sr
   unfold ft at p2
   simp only [iF] at p2
   split at p2 <;> try cases p2
   rename_i zv si
   split at hc
   ·cases hc
    simp only [bt] at h
    have tu : zv.cells.size = esz := by have := ((cz (M := M) (L := L) p2).fI p5).length; rw [p4] at this; simpa using this
    obtain ⟨r, w', M', b, h1, h2, h3, h4, h5, h6, h7, h8, h9, Yk⟩ := Df (P := P) hf.st ht iF si cT xd p3 ue tu h (hf.eval hk)
    exact uk hf hd (by simp only [execOp, cI]; exact aV h1) h2 h4 h5 h6 (fun q b' dV => by cases dV; exact h7 q) (fun b' dV => by cases dV; exact ⟨h8, h9, Yk⟩) h3
   ·split at hc <;> cases hc
    rename_i hsame
    simp only [bt] at h
    have yH : a.eval l = a.eval c := by
     unfold It at hsame
     split at hsame
     ·simp at hsame; subst hsame; rfl
     ·simp at hsame; subst hsame; rfl
     ·cases hsame
    have Il : ∀ y ∈ z.cells, ∀ own xs, y = .ap own xs → own = 0 := by
     intro y hy own xs e
     have := List.all_eq_true.1 Iu y hy
     subst e
     simpa using this
    obtain ⟨r, x, L', w', H', h1, h2, h3, h4, h5, h6, h7⟩ := De (P := P) hf.st ht iF si cT xd p3 ue p2 p5 p4 Il h (hf.eval hk)
    exact nJ hf hd (by simp only [execOp, cI, yH]; exact aV h1) h2 h3 h5 h6 h7 h4
 | slice t x lo hi mx =>
   simp only [cj, cI] at hc
   split at hc <;> try cases hc
   ·rename_i e i l h' m ht mi hl hh hm
    split at hc <;> try cases hc
    rename_i esz he
    split at hc <;> cases hc
    rename_i h0
    by_cases LF : fl = 4
    ·rw [if_pos LF] at h
     simp only [bt] at h
     obtain ⟨ad, k, c, own, ys, h1, h2, ⟨h3, Tc⟩, h4⟩ := uf (P := P) hf.st ht he h0 h.2 (hf.eval mi) h.1 (b8 hf hl) (b8 hf hh) (b8 hf hm)
     cases h3
     obtain ⟨rfl, _⟩ := h4 (by omega)
     have hk : k = 0 := by
      cases h2 with
      | gb => rfl
      | ap b off c own e cs xs he hx hn => simp at hn
     subst hk
     exact bK hf hd ⟨_, _, by simp only [execOp, cI]; exact aV h1, .oh ad, Tc, by intro _ _ e; cases e⟩
    rw [if_neg LF] at h
    simp only [bt] at h
    unfold bn at h
    split at h
    ·rename_i e0 a0 b0 c0 d0 Ik
     rw [← Ik] at h
     split at h
     ·rename_i AQ
      have S8 : mx = none := by
       cases mx with
       | none => rfl
       | some q => simp only [jQ] at hm; obtain ⟨_, _, rfl⟩ := Option.map_eq_some_iff.1 hm; cases AQ
      subst S8
      obtain ⟨r, z, h1, h2, h3, h4⟩ := AW (P := P) ht he h (hf.eval mi) (b8 hf hl) (b8 hf hh)
      exact bK hf hd ⟨r, z, by simp only [execOp, cI]; exact aV h1, h2, h3, h4⟩
     ·rename_i m0 AQ
      have hm3 := b8 (a := a) hf hm
      rw [AQ] at hm3
      obtain ⟨r, z, h1, h2, h3, h4⟩ := AX (P := P) ht he h (hf.eval mi) (b8 hf hl) (b8 hf hh) hm3
      exact bK hf hd ⟨r, z, by simp only [execOp, cI]; exact aV h1, h2, h3, h4⟩
    obtain ⟨ad, k, c, own, ys, h1, h2, h3, h4⟩ := uf (P := P) hf.st ht he h0 h.2 (hf.eval mi) h.1 (b8 hf hl) (b8 hf hh) (b8 hf hm)
    by_cases s6 : own = 0
    ·subst s6
     exact bK hf hd ⟨_, _, by simp only [execOp, cI]; exact aV h1, h2, h3, by intro _ _ e; cases e; rfl⟩
    ·obtain ⟨rfl, h5⟩ := h4 s6
     obtain ⟨O', oQ⟩ := hf.EK (dst := o.dst) hd h2 (fun _ => h5)
     exact c9 (by simp only [execOp, cI]; exact aV h1) ⟨M, L, H, _, O', h3, oQ, Ext.refl A M w, List.prefix_refl L⟩
   ·rename_i i l h' ht mi hl hh hm
    simp only [bt] at h
    have S8 : mx = none := by
     cases mx with
     | none => rfl
     | some q => simp only [jQ] at hm; obtain ⟨_, _, hz⟩ := Option.map_eq_some_iff.1 hm; cases hz
    subst S8
    obtain ⟨r, z, h1, h2, h3, h4⟩ := wz (P := P) (w := w) ht h (hf.eval mi) (b8 hf hl) (b8 hf hh)
    exact bK hf hd ⟨r, z, by simp only [execOp, cI]; exact aV h1, h2, h3, h4⟩
 | fieldAddr s x f =>
   simp only [cj, cI] at hc
   split at hc <;> cases hc
   rename_i off sz j ht hj
   simp only [bt] at h
   obtain ⟨r, z, h1, h2, h3, h4⟩ := tZ (P := P) (w := w) ht h (hf.eval hj)
   exact bK hf hd ⟨r, z, by simp only [execOp, cI]; exact aV h1, h2, h3, h4⟩
 | field s x f =>
   simp only [cj, cI] at hc
   split at hc <;> cases hc
   rename_i off sz j ht hj
   simp only [bt] at h
   obtain ⟨r, z, h1, h2, h3, h4⟩ := C7 (P := P) (w := w) ht h (hf.eval hj)
   exact bK hf hd ⟨r, z, by simp only [execOp, cI]; exact aV h1, h2, h3, h4⟩
 | indexAddr t x i =>
   simp only [cj, cI] at hc
   split at hc <;> try cases hc
   rename_i e j k ht hj hk
   obtain ⟨esz, he, rfl⟩ := Option.map_eq_some_iff.1 hc
   simp only [bt] at h
   obtain ⟨r, z, h1, h2, h3, h4⟩ := ua (P := P) (w := w) ht he h.2 h.1 (hf.eval hj) (hf.eval hk)
   exact bK hf hd ⟨r, z, by simp only [execOp, cI]; exact aV h1, h2, h3, h4⟩
 | index t x i =>
   simp only [cj, cI] at hc
   split at hc <;> try cases hc
   ·rename_i j k ht hj hk
    simp only [bt] at h
    obtain ⟨r, z, h1, h2, h3, h4⟩ := wo (P := P) (w := w) ht h (hf.eval hj) (hf.eval hk)
    exact bK hf hd ⟨r, z, by simp only [execOp, cI]; exact aV h1, h2, h3, h4⟩
   ·rename_i m e j k ht hj hk
    split at hc <;> cases hc
    rename_i he
    simp only [bt] at h
    obtain ⟨r, z, h1, h2, h3, h4⟩ := wm (P := P) (w := w) ht he h (hf.eval hj) (hf.eval hk)
    exact bK hf hd ⟨r, z, by simp only [execOp, cI]; exact aV h1, h2, h3, h4⟩
 | lookup t m k ok =>
   simp only [cj, cI] at hc
   split at hc <;> try cases hc
   rename_i kt et i j ht hi hj
   split at hc <;> cases hc
   rename_i kd z hk hz
   simp only [bt] at h
   obtain ⟨r, z, h1, h2, h3, h4⟩ := AT (P := P) hf.st ht hk hz h (hf.eval hi) (hf.eval hj)
   exact bK hf hd ⟨r, z, by simp only [execOp, cI]; exact aV h1, h2, h3, h4⟩
 | mapUpdate t m k x =>
   simp only [cI] at hnone
   simp only [cj, cI] at hc
   split at hc <;> try cases hc
   rename_i kt et i j y ht hi hj hy
   obtain ⟨kd, hk, rfl⟩ := Option.map_eq_some_iff.1 hc
   simp only [bt] at h
   obtain ⟨w', H', h1, h2, h3, h4⟩ := AU (P := P) hf.st ht hk h (hf.eval hi) (hf.eval hj) (hf.eval hy)
   refine lf (by simp only [execOp, cI]; exact pF h1) ⟨M, L, H', env, O, h2, ?_, h4, List.prefix_refl L⟩
   rw [hnone]; exact ⟨h3, hf.size, hf.defers.ext h4⟩
 | extract x i =>
   simp only [cj, cI] at hc
   obtain ⟨j, hj, rfl⟩ := Option.map_eq_some_iff.1 hc
   simp only [bt] at h
   obtain ⟨r, z, h1, h2, h3, h4⟩ := yF (P := P) (w := w) h (hf.eval hj)
   exact bK hf hd ⟨r, z, by simp only [execOp, cI]; exact aV h1, h2, h3, h4⟩
 | call c =>
   simp only [cj, cI] at hc
   split at hc
   ·rename_i f mj
    split at hc <;> cases hc
    rename_i i js hi hj
    exact Dm cI mj hi hj hp hf hd h
   ·rename_i mj
    split at hc <;> try cases hc
    rename_i x t hargs yW
    have hcall : c = { callee := .builtin .len, args := #[x], argTypes := #[t] } := by
     obtain ⟨c1, c2, c3⟩ := c
     simp only at mj hargs yW
     subst mj
     rw [show c2 = #[x] from Array.ext' hargs, show c3 = #[t] from Array.ext' yW]
    subst hcall
    have fin : ∀ {d : TypeDesc} {kd : Nat} {j : IX}, P.underlying t = some d → aP x = some j → iG d (al env j) = true → (eW (al env j) H fun z => K (put o.dst z env) H) → o.wpIn (wf ro) 0 P a w (mw A n M L w K) Q := by
     intro d kd j ht hj hk h
     obtain ⟨r, z, h1, h2, h3, h4⟩ := Ic (P := P) ht hf.st hk h (hf.eval hj) o.type
     refine bK hf hd ⟨r, z, ?_, h2, h3, h4⟩
     simp only [execOp, cI, resolve, invoke, builtin, Sem.run_bind, Sem.run_pure, Result.andThen_ok, List.map_toArray, List.map_cons, List.map_nil, h1]
    split at hc <;> cases hc
    ·rename_i j ht hj; exact fin (kd := 0) ht hj (Gb h.1) h.2
    ·rename_i e j ht hj; exact fin (kd := 0) ht hj (A4 h.1 e) h.2
    ·rename_i k e j ht hj; exact fin (kd := 0) ht hj (Gc h.1 k e) h.2
   ·rename_i mj
    split at hc <;> try cases hc
    rename_i s x t t' hargs yW
    split at hc <;> try cases hc
    rename_i htt
    subst htt
    split at hc <;> try cases hc
    rename_i e i j ht hi hj
    split at hc <;> try cases hc
    rename_i esz z bytes hz hb
    split at hc <;> try cases hc
    rename_i ue
    have hcall : c = { callee := .builtin .append, args := #[s, x], argTypes := #[t, t] } := by
     obtain ⟨c1, c2, c3⟩ := c
     simp only at mj hargs yW
     subst mj
     rw [show c2 = #[s, x] from Array.ext' hargs, show c3 = #[t, t] from Array.ext' yW]
    subst hcall
    split at hc
    ·split at hc <;> cases hc
     rename_i Iu
     exact wE cI ht hz hb ue Iu hi hj hf hd h
    cases hc
    exact yU cI ht hz hb ue hi hj hf hd h
   ·rename_i mj
    split at hc <;> try cases hc
    rename_i x y hargs
    split at hc <;> cases hc
    rename_i i j hi hj
    simp only [bt] at h
    obtain ⟨r, z, h1, h2, h3, h4⟩ := EL (P := P) (w := w) (big := true) h (hf.eval hi) (hf.eval hj) c.argTypes o.type
    refine bK hf hd ⟨r, z, ?_, h2, h3, h4⟩
    have hargs' : c.args = #[x, y] := Array.ext' hargs
    simp only [if_true] at h1
    simp only [execOp, cI, resolve, mj, invoke, builtin, Sem.run_bind, Sem.run_pure, Result.andThen_ok, hargs', List.map_toArray, List.map_cons, List.map_nil, h1]
   ·rename_i mj
    split at hc <;> try cases hc
    rename_i x y hargs
    split at hc <;> cases hc
    rename_i i j hi hj
    simp only [bt] at h
    obtain ⟨r, z, h1, h2, h3, h4⟩ := EL (P := P) (w := w) (big := false) h (hf.eval hi) (hf.eval hj) c.argTypes o.type
    refine bK hf hd ⟨r, z, ?_, h2, h3, h4⟩
    have hargs' : c.args = #[x, y] := Array.ext' hargs
    simp only [Bool.false_eq_true, if_false] at h1
    simp only [execOp, cI, resolve, mj, invoke, builtin, Sem.run_bind, Sem.run_pure, Result.andThen_ok, hargs', List.map_toArray, List.map_cons, List.map_nil, h1]
   ·cases hc
 | _ => simp [cj, cI] at hc
theorem Dn (o : Oper) (hf : Fr A n M L w H env O a) (hd : ∀ d, o.dst = some d → d < n) (h : bt ⟨P, lo⟩ (pE P o) o.dst env H K) : o.wpIn (wf ro) 0 P a w (mw A n M L w K) Q := by
 cases cI : o.op with
 | call c =>
   simp only [pE, cI] at h
   split at h <;> try exact h.elim
   rotate_left
   ·rename_i mj
    split at h <;> try exact h.elim
    rename_i s t hargs yW
    split at h <;> try exact h.elim
    rename_i e i ht hi
    split at h <;> try exact h.elim
    rename_i esz z hz
    simp only [bt] at h
    unfold cQ at hz
    split at hz <;> try cases hz
    rename_i esz' z' Ow oo
    split at hz <;> cases hz
    rename_i hcond
    obtain ⟨h0, iH, si⟩ := hcond
    obtain ⟨inf, iF, cT⟩ := Option.map_eq_some_iff.1 Ow
    unfold ft at oo
    simp only [iF] at oo
    split at oo <;> try cases oo
    rename_i zv uc
    obtain ⟨w', H', O', h1, h2, h3, h4⟩ := AZ (P := P) hf.st ht iF uc h0 oo si iH h (hf.eval hi) o.type
    obtain ⟨O'', oQ⟩ := (hf.mono h3 h4).ol (dst := o.dst) hd (.tuple [] [] .nil) (by intro _ _ e; cases e)
    have hargs' : c.args = #[s] := Array.ext' hargs
    have Iw : c.argTypes = #[t] := Array.ext' yW
    refine c9 (v := .tuple #[]) ?_ ⟨M, L, H', _, O'', h2, oQ, h4, List.prefix_refl L⟩
    simp only [execOp, cI, resolve, mj, invoke, builtin, Sem.run_bind, Sem.run_pure, Result.andThen_ok, hargs', Iw, List.map_toArray, List.map_cons, List.map_nil, h1]
   rename_i mj
   split at h <;> try exact h.elim
   rename_i s x t t' hargs yW
   split at h <;> try exact h.elim
   rename_i e i j ht hi hj
   split at h <;> try exact h.elim
   rename_i esz he
   simp only [bt] at h
   obtain ⟨r, z, w', H', O', h1, h2, h3, h4, h5, h6⟩ := F6 (P := P) hf.st ht he h (hf.eval hi) (hf.eval hj) t' o.type
   obtain ⟨O'', oQ⟩ := (hf.mono h4 h5).ol (dst := o.dst) hd h2 h6
   have hargs' : c.args = #[s, x] := Array.ext' hargs
   have Iw : c.argTypes = #[t, t'] := Array.ext' yW
   refine c9 (v := r) ?_ ⟨M, L, H', _, O'', h3, oQ, h5, List.prefix_refl L⟩
   simp only [execOp, cI, resolve, mj, invoke, builtin, Sem.run_bind, Sem.run_pure, Result.andThen_ok, hargs', Iw, List.map_toArray, List.map_cons, List.map_nil, h1]
 | _ => simp only [pE, cI] at h; exact h.elim
theorem Dp (o : Oper) (hf : Fr A n M L w H env O a) (hd : ∀ d, o.dst = some d → d < n) (h : bt ⟨P, lo⟩ (mN P o) o.dst env H K) : o.wpIn (wf ro) 0 P a w (mw A n M L w K) Q := by
 have key : ∀ {x : Operand}, (o.op = .move x ∨ o.op = .assign x) → ∀ {i : IX} {esz : Nat}, aP x = some i → (ff esz (al env i) H fun z H' => K (put o.dst z env) H') → o.wpIn (wf ro) 0 P a w (mw A n M L w K) Q := by
  intro x ho i esz hi h
  obtain ⟨z, M', H', O', h1, h2, h3, h4, h5⟩ := qW hf.st h (hf.eval hi)
  have bG : (execOp a.eval o).run P w = .ok (.value (a.eval x)) w := by
   rcases ho with ho | ho <;> simp [execOp, ho]
  obtain ⟨O'', oQ⟩ := (hf.mono h3 h4).ol (dst := o.dst) hd h1 h5
  exact c9 bG ⟨M', L, H', _, O'', h2, oQ, h4, List.prefix_refl L⟩
 cases cI : o.op with
 | move x =>
   simp only [mN, cI] at h
   split at h <;> try exact h.elim
   rename_i hi ht
   split at h <;> try exact h.elim
   exact key (.inl cI) hi h
 | assign x =>
   simp only [mN, cI] at h
   split at h <;> try exact h.elim
   rename_i hi ht
   split at h <;> try exact h.elim
   exact key (.inr cI) hi h
 | _ => simp only [mN, cI] at h; exact h.elim
theorem A5 (o : Oper) (esz : Nat) (hf : Fr A n M L w H env O a) (hd : ∀ d, o.dst = some d → d < n) (h : bt ⟨P, lo⟩ (kB esz o) o.dst env H K) : o.wpIn (wf ro) 0 P a w (mw A n M L w K) Q := by
 have key : ∀ {x : Operand}, (o.op = .move x ∨ o.op = .assign x) → ∀ {i : IX}, aP x = some i → (ff esz (al env i) H fun z H' => K (put o.dst z env) H') → o.wpIn (wf ro) 0 P a w (mw A n M L w K) Q := by
  intro x ho i hi h
  obtain ⟨z, M', H', O', h1, h2, h3, h4, h5⟩ := qW hf.st h (hf.eval hi)
  have bG : (execOp a.eval o).run P w = .ok (.value (a.eval x)) w := by
   rcases ho with ho | ho <;> simp [execOp, ho]
  obtain ⟨O'', oQ⟩ := (hf.mono h3 h4).ol (dst := o.dst) hd h1 h5
  exact c9 bG ⟨M', L, H', _, O'', h2, oQ, h4, List.prefix_refl L⟩
 cases cI : o.op with
 | move x =>
   simp only [kB, cI] at h
   split at h <;> try exact h.elim
   rename_i hi
   exact key (.inl cI) hi h
 | assign x =>
   simp only [kB, cI] at h
   split at h <;> try exact h.elim
   rename_i hi
   exact key (.inr cI) hi h
 | _ => simp only [kB, cI] at h; exact h.elim
theorem sw (o : Oper) {fl : Nat} (hp : ∀ l, lo = some l → ∀ id, l ≤ id → A.top id = none) (hf : Fr A n M L w H env O a) (hd : ∀ d, o.dst = some d → d < n) (hnone : (match o.op with | .store .. | .mapUpdate .. => o.dst = none | _ => True))
 (h : bt ⟨P, lo⟩ (A0 P o fl) o.dst env H K) : o.wpIn (wf ro) 0 P a w (mw A n M L w K) Q := by
 unfold A0 at h
 split at h
 ·exact Dp o hf hd h
 split at h
 ·exact A5 o _ hf hd h
 cases hc : cj P o fl with
 | none => rw [hc] at h; exact Dn o hf hd h
 | some i => rw [hc] at h; exact Iv o hc hp hf hd hnone h
end
end Go.aK
end
section
namespace Go.aK
open Go
section
variable {M : Mem} {L : List Nat}
theorem pJ {n : Nat} : ∀ {xs : List AV}, (∀ x ∈ xs, x.cells.length ≠ 0) → aj n (flat xs) = true → aj n xs = true
 | [], _, _ => rfl
 | x :: xs, hx, h => by
   rw [a9] at h ⊢
   intro y hy
   rcases List.mem_cons.1 hy with rfl | hy
   ·cases y with
    | agg ys =>
      simp only [AV.a7]
      rw [a9]
      intro z hz
      exact h z (by simp [flat, AV.cells, hz])
    | _ => exact h _ (by simp [flat, AV.cells])
   ·have := pJ (xs := xs) (n := n) (fun x we => hx x (List.mem_cons_of_mem _ we)) (by
     rw [a9]
     intro z hz
     exact h z (by simp only [flat, List.flatMap_cons, List.mem_append] at hz ⊢; exact .inr hz))
    rw [a9] at this
    exact this y hy
theorem Ge {n : Nat} {x : AV} (h : aj n x.cells = true) : x.a7 n = true := by
 cases x <;> simp_all [AV.cells, AV.a7, aj]
theorem aR.LJ {v : Value} {x : AV} (h : aR M L v x) : x.a7 L.length = true := by
 induction h using aR.rec (motive_2 := fun vs xs _ => aj L.length xs = true) with
 | ap b off c own e cs xs he hx hn hle hc hr hm ih => exact pJ (fun x we => by rw [hx x we]; omega) ih
 | bf b off len cap id hl hc => simp only [AV.a7, decide_eq_true_eq]; exact aN hl
 | agg cs xs hr ih => exact ih
 | tuple cs xs hr ih => exact ih
 | ptr b off id hl => simp only [AV.a7, decide_eq_true_eq]; exact aN hl
 | ai b off cs x hr hm ih => simp only [AV.a7]; exact Ge ih
 | map b id hl => simp only [AV.a7, decide_eq_true_eq]; exact aN hl
 | mC b id hl => simp only [AV.a7, decide_eq_true_eq]; exact aN hl
 | fn f fs cs xs ys h1 h2 i1 i2 => simp only [AV.a7, Bool.and_eq_true]; exact ⟨i1, i2⟩
 | iface t v x h ih => exact ih
 | cons v x vs xs h t i1 i2 => simp only [aj, Bool.and_eq_true]; exact ⟨i1, i2⟩
 | nil => rfl
 | _ => rfl
theorem aJ.LJ : ∀ {vs : List Value} {xs : List AV}, aJ M L vs xs → aj L.length xs = true
 | _, _, .nil => rfl
 | _, _, .cons _ _ _ _ h t => by simp only [aj, Bool.and_eq_true]; exact ⟨h.LJ, t.LJ⟩
end
section
variable {A : Perm} {M : Mem} {L : List Nat} {w : World} {H : List aa} {ev : Nat → Value} {ea : Nat → AV} {O : Pos → Option Nat}
theorem St.nL (h : St A M L w H ev ea O) {id b : Nat} {st st' : S6} {lc : ij} {es : List AV} {r' : Loop} (bm : H[id]? = some (.loop st lc es)) (hL : L[id]? = some b)
 (hr : ∀ r, w.heap[b]? = some (.loop r) → r'.params = r.params ∧ r'.assign = r.assign ∧ r'.body = r.body ∧ r'.tmps = r.tmps ∧ r'.defers = r.defers ∧ st'.ok r') :
 St A M L (w.putObj b (.loop r')) (H.set id (.loop st' lc es)) ev ea O ∧ Ext A M w M (w.putObj b (.loop r')) := by
 have w9 : b ∈ L := List.mem_of_getElem? hL
 have PN := h.lt b w9
 obtain ⟨r0, hc, p1, p2, p3, p4, p5⟩ := h.obj id _ b bm hL
 obtain ⟨q1, q2, q3, q4, q5, q6⟩ := hr r0 hc
 have fH : ∀ k, k ≠ b → (w.putObj b (.loop r')).heap[k]? = w.heap[k]? := fun k hk => World.putObj_heap_other hk
 have mh : (w.putObj b (.loop r')).heap[b]? = some (.loop r') := World.putObj_heap_same PN
 have S7 : ∀ o, M b o = none := by
  intro o
  cases hm : M b o with
  | none => rfl
  | some v =>
    have := h.mem b o v hm
    simp [World.cell?, hc] at this
 have py : id < H.length := aN bm
 refine ⟨{ len := by simp [h.len], nodup := h.nodup, env := h.env, mem := ?_, obj := ?_, bB := ?_, lt := ?_, gH := ?_, gE := ?_, bY := h.bY, cc := h.cc, eT := ?_, La := h.La, Oa := h.Oa, fresh := ?_ }, ?_⟩
 ·intro k o v hv
  have hk : k ≠ b := by rintro rfl; rw [S7 o] at hv; cases hv
  have := h.mem k o v hv
  simp only [World.cell?] at this ⊢
  rw [fH k hk]; exact this
 ·intro id' o k ho hk
  by_cases e0 : id' = id
  ·subst e0
   rw [hL] at hk; cases hk
   rw [List.getElem?_set_self py] at ho
   cases ho
   exact ⟨r', mh, q1.trans p1, q2.trans p2, q3.trans p3, by rw [q4]; exact p4, q6⟩
  ·rw [List.getElem?_set_ne (fun h' => e0 h'.symm)] at ho
   have CX : k ≠ b := by
    rintro rfl
    exact e0 ((List.getElem?_inj (aN hk) h.nodup).1 (hk.trans hL.symm))
   exact (h.obj id' o k ho hk).mono (Mem.bM M) (List.prefix_refl _) (fH k CX) (fun _ => rfl)
 ·intro id' o ho
  rw [List.length_set]
  by_cases e0 : id' = id
  ·subst e0
   rw [List.getElem?_set_self py] at ho
   cases ho
   exact h.bB id' (.loop st lc es) bm
  ·rw [List.getElem?_set_ne (fun h' => e0 h'.symm)] at ho
   exact h.bB id' o ho
 ·intro k hk; simpa using h.lt k hk
 ·intro t
  exact (h.gH t).mono fun k hk => ⟨fH k (fun e3 => h.cc _ k hk (e3 ▸ w9)), fun _ => rfl⟩
 ·intro id' j
  by_cases e0 : id' = id
  ·subst e0
   have hn : O (.c id' j) = none := by
    have := h.gE id' j
    simp only [bp, bm] at this
    exact this
   have e2 : bp (H.set id' (.loop st' lc es)) id' j = .any := by
    unfold bp
    rw [List.getElem?_set_self py]
   rw [e2, hn]; rfl
  ·have e1 : bJ L (w.putObj b (.loop r')) id' j = bJ L w id' j := by
    unfold bJ
    split
    ·rename_i k hk
     have CX : k ≠ b := by
      rintro rfl
      exact e0 ((List.getElem?_inj (aN hk) h.nodup).1 (hk.trans hL.symm))
     simp only [World.cell?]
     rw [fH k CX]
    ·rfl
   have e2 : bp (H.set id (.loop st' lc es)) id' j = bp H id' j := by
    unfold bp
    rw [List.getElem?_set_ne (fun h' => e0 h'.symm)]
   rw [e1, e2]
   exact (h.gE id' j).mono fun k hk => ⟨fH k (fun e3 => h.cc _ k hk (e3 ▸ w9)), fun _ => rfl⟩
 ·intro p k hp; simpa using h.eT p k hp
 ·intro k hk; simp at hk; exact h.fresh k hk
 ·exact ⟨Mem.bM M, by simp, rfl, rfl, rfl, fun k hk hA => ⟨fH k (fun e0 => hA (e0 ▸ h.La b w9)), fun _ => rfl⟩, fun k r hk => by
   by_cases e0 : k = b
   ·subst e0
    rw [hc] at hk; cases hk
    exact ⟨r', mh, q5⟩
   ·exact ⟨r, (fH k e0).trans hk, rfl⟩⟩
def Perm.TR (A : Perm) (D : Nat) : Perm := ⟨fun b => A b ∧ b ≠ D, A.top, A.ok, A.base⟩
def Perm.Le (A' A : Perm) : Prop := A'.top = A.top ∧ (∀ b, A' b → A b) ∧ A'.base = A.base
theorem Perm.Le.refl (A : Perm) : A.Le A := ⟨rfl, fun _ h => h, rfl⟩
theorem Perm.Le.trans {A B C : Perm} (h : A.Le B) (k : B.Le C) : A.Le C := ⟨h.1.trans k.1, fun b hb => k.2.1 b (h.2.1 b hb), h.2.2.trans k.2.2⟩
theorem Perm.yX (A : Perm) (D : Nat) : (A.TR D).Le A := ⟨rfl, fun _ h => h.1, rfl⟩
theorem Perm.Le.jc {A' A : Perm} (h : A'.Le A) (len id : Nat) : A'.jc len id = A.jc len id := by unfold Perm.jc; rw [h.1]
theorem Ext.le {A' : Perm} {M' : Mem} {w' : World} (h : Ext A' M w M' w') (hl : A'.Le A) : Ext A M w M' w' :=
 ⟨h.kw, h.size, h.os, h.tape, h.output, fun b hb hA => h.jX b hb fun h' => hA (hl.2.1 b h'), h.loops⟩
theorem St.le {A' : Perm} (h : St A' M L w H ev ea O) (hl : A'.Le A) : St A M L w H ev ea O :=
 { h with bB := fun id o ho => by rw [← hl.jc]; exact h.bB id o ho, La := fun b hb => hl.2.1 b (h.La b hb), Oa := fun p b hp => hl.2.1 b (h.Oa p b hp), fresh := fun b hb => hl.2.1 b (h.fresh b hb) }
theorem St.TR (h : St A M L w H ev ea O) {D : Nat} (h1 : D ∉ L) (h2 : ∀ p, O p ≠ some D) (h3 : D < w.heap.size) : St (A.TR D) M L w H ev ea O :=
 { h with
   bB := fun id o ho => by rw [(A.yX D).jc]; exact h.bB id o ho
   La := fun b hb => ⟨h.La b hb, fun e => h1 (e ▸ hb)⟩
   Oa := fun p b hp => ⟨h.Oa p b hp, fun e => h2 p (e ▸ hp)⟩
   fresh := fun b hb => ⟨h.fresh b hb, fun e => by omega⟩ }
theorem Ot.le {A' : Perm} {ds : List Deferred} (h : Ot A w ds) (hl : A'.Le A) : Ot A' w ds := ⟨by rw [hl.2.2]; exact h.1, h.2.1, fun d hd => by
 obtain ⟨D, h1, h2, h3, h4⟩ := h.2.2 d hd
 exact ⟨D, h1, h2, fun h' => h3 (hl.2.1 D h'), by rw [hl.2.2]; exact h4⟩⟩
end
end Go.aK
end
section
namespace Go.aK
open Go
structure bu where
 g : Option (Nat × Bool)
 dst : Option Nat
 op : bW
 deriving Inhabited
inductive DT where
 | done
 | take (st : Bool) (o : bu) (r : DT)
 | br (o : bu) (t rest : DT)
 | nil
 deriving Inhabited
def inst (il : List bu) : wi → DT
 | .done => .done
 | .take i st r => .take st (il.getD i default) (inst il r)
 | .br i t rest => .br (il.getD i default) (inst il t) (inst il rest)
 | .nil => .nil
inductive IR where
 | skip
 | region (ops : List bu) (live : Option (List Nat))
 | draw (t : DT) (live : Option (List Nat))
 | seq (a b : IR)
 | cond (x : IX) (a b : IR)
 | block (id : Nat) (a : IR)
 | loop (a : IR)
 | exit (id : Nat)
 | ret
 | never
 | iK (f : IX) (lc : ij)
 deriving Inhabited
def eo (live : Option (List Nat)) (env : Env) : Env :=
 match live with
 | none => env
 | some l => l.map fun t => (t, get env t)
def gR (env : Env) (g : Nat) (want : Bool) (yes no : Env → Prop) : Prop :=
 match get env g with
 | .bool b => (b = want → yes ((g, .bool want) :: env)) ∧ (b = (!want) → no ((g, .bool (!want)) :: env))
 | .tuple [] => no env
 | _ => False
def qY (P : Px) (o : bu) (env : Env) (H : List aa) (K : Env → List aa → Prop) : Prop :=
 match o.g with
 | none => bt P o.op o.dst env H K
 | some (g, want) => gR env g want (fun env => bt P o.op o.dst env H K) (fun env => K (put o.dst (.tuple []) env) H)
def iZ (P : Px) : List bu → Env → List aa → (Env → List aa → Prop) → Prop
 | [], env, H, K => K env H
 | o :: r, env, H, K => qY P o env H fun env H => iZ P r env H K
def cS (P : Px) (o : bW) (ρ : IX → AV) (H : List aa) (x : AV) : Prop :=
 match o with
 | .set i false => (ρ i).ab = x
 | .pick c a b => eI (ρ c) fun q => (q = true → (ρ a).ab = x) ∧ (q = false → (ρ b).ab = x)
 | .bin op i j => cV op (ρ i) (ρ j) fun z => z = x
 | .shift op i j => dN op (ρ i) (ρ j) fun z => z = x
 | .gO neq i j => cM neq (ρ i) (ρ j) fun z => z = x
 | .iT kd neq i => dc kd neq (ρ i) fun z => z = x
 | .un op i => yE op (ρ i) fun z => z = x
 | .k9 i => (ρ i).val = true ∧ .ai (ρ i) = x
 | .build z ps => cC z.cells (ps.map fun q => (q.1, q.2.1, ρ q.2.2)) fun v => v = x
 | .buildSlice own esz z len ps => bh (List.replicate len (aT z)) esz (ps.map fun q => (q.1, ρ q.2)) fun xs => .ap own xs = x
 | .load sz i => aS sz (ρ i) H fun z => z = x
 | .nilCheck i => bR (ρ i) fun z => z = x
 | .fieldAddr off sz i => ak off sz (ρ i) fun z => z = x
 | .field off sz i => eJ off sz (ρ i) fun z => z = x
 | .indexAddr esz i j => (∀ own xs, ρ i = .ap own xs → ∀ z ∈ xs, z.cells.length = esz) ∧ ay esz (ρ i) (ρ j) fun z => z = x
 | .c8 i j => bH (ρ i) (ρ j) fun z => z = x
 | .dL n i j => bQ n (ρ i) (ρ j) fun z => z = x
 | .slice esz i lo hi mx => bn esz (ρ i) (lo.map ρ) (hi.map ρ) (mx.map ρ) fun z => z = x
 | .dM i lo hi => b7 (ρ i) (lo.map ρ) (hi.map ρ) fun z => z = x
 | .len kd i => aL kd (ρ i) ∧ eW (ρ i) H fun z => z = x
 | .lookup kd z m k ok => cb kd z (ρ m) (ρ k) ok H fun v => v = x
 | .fn f first cap => .fn f (first.map fun x => (ρ x).ab) (cap.map fun x => (ρ x).ab) = x
 | .extract i k => bC (ρ i) k fun z => z = x
 | .call f args none => match ρ f with
   | .fn (.func g) first cap => ∃ bO, xk (first.map AV.ab ++ (args.map fun x => (ρ x).ab) ++ cap.map AV.ab) bO ∧ aq P.prog g bO H (fun r H' => r = x ∧ H' = H)
   | _ => False
 | .eC k i => cq k (ρ i) fun z => z = x
 | .gg i => fw (ρ i) fun z => z = x
 | .bytesOf i => eN 1 (ρ i) fun z => z = x
 | .mF esz bytes i => iI esz bytes (ρ i) fun z => z = x
 | .strOf i => jo (ρ i) fun z => z = x
 | .mx big i j => wj big (ρ i) (ρ j) fun z => z = x
 | _ => False
def dv (P : Px) (st : Bool) (o : bW) (ρ : IX → AV) (H : List aa) (x : AV) : Prop :=
 match st with
 | true => cS P o ρ H x
 | false => ∀ H', cS P o ρ H' x
def sx (P : Px) (st : Bool) (o : bu) (env : Env) (H : List aa) (K : Env → Prop) : Prop :=
 match o.g with
 | none => ∃ x, dv P st o.op (al env) H x ∧ K (put o.dst x env)
 | some (g, want) => gR env g want (fun _ => ∃ x, dv P st o.op (al env) H x ∧ K (put o.dst x env)) (fun _ => K (put o.dst (.tuple []) env))
def tA (P : Px) : DT → Env → List aa → (Env → List aa → Prop) → Prop
 | .done, env, H, K => K env H
 | .take st o r, env, H, K => sx P st o env H fun env => tA P r env H K
 | .br o t rest, env, H, K => qY P o env H (fun env H => tA P t env H K) ∧ tA P rest env H K
 | .nil, _, _, _ => True
def sle (n0 : Nat) (env : Env) (H : List aa) (aD : Env) (H' : List aa) : Prop :=
 (∀ t, (get env t).le (get aD t)) ∧ (H' = H ∨ ∃ m, n0 ≤ m ∧ H' = H.take m ∧ ∀ t, (get aD t).a7 m = true)
def Gf (n0 : Nat) (env : Env) (H : List aa) (aD : Env) (H' : List aa) : Prop :=
 (∀ t, (get env t).le (get aD t)) ∧ (H' = H ∨ ∃ m, n0 ≤ m ∧ H' = H.take m ∧ (∀ id o, n0 ≤ id → id < m → H[id]? = some o → o.a7 m = true) ∧ ∀ t, (get aD t).a7 m = true)
def Gg (lo : Option Nat) (n0 : Nat) (env : Env) (H : List aa) (aD : Env) (H' : List aa) : Prop :=
 match lo with
 | none => sle n0 env H aD H'
 | some _ => Gf n0 env H aD H'
def kg (n : Nat) (env : Env) : List AV := (List.range n).map fun t => (get env t).ab
def behind (id : Nat) (H' : List aa) (K : Option Code → List aa → Prop) : Prop :=
 match H'[id]? with
 | some (.loop .ready lc es) => K none (H'.set id (.loop .ew lc es))
 | some (.loop (.jump c) lc es) => K (some c) (H'.set id (.loop .ew lc es))
 | _ => False
def oR (j : Option Code) (Q : Exit → Env → List aa → Prop) (env : Env) (H : List aa) : Prop :=
 match j with
 | none => Q .normal env H
 | some .ret => Q .ret env H
 | some (.exit id) => Q (.exit id) env H
 | _ => False
def mb (P : Px) (n0 : Nat) : IR → Env → List aa → (Exit → Env → List aa → Prop) → Prop
 | .skip, env, H, Q => Q .normal env H
 | .region ops live, env, H, Q => iZ P ops env H fun aD H' => Q .normal (eo live aD) H'
 | .draw t live, env, H, Q => tA P t env H fun aD H' => Q .normal (eo live aD) H'
 | .seq a b, env, H, Q => mb P n0 a env H fun e aD H' => match e with
   | .normal => mb P n0 b aD H' Q
   | e => Q e aD H'
 | .cond x a b, env, H, Q => eI (al env x) fun q => (q = true → mb P n0 a env H Q) ∧ (q = false → mb P n0 b env H Q)
 | .block id a, env, H, Q => mb P n0 a env H fun e aD H' => match e with
   | .exit id' => if id' = id then Q .normal aD H' else Q (.exit id') aD H'
   | e => Q e aD H'
 | .loop a, env, H, Q => ∃ (ι : Type) (I : ι → Prop) (se : ι → Env) (sh : ι → List aa) (μ : ι → Nat), (∃ i, I i ∧ Gg P.lo n0 env H (se i) (sh i)) ∧
    ∀ i, I i → mb P n0 a (se i) (sh i) fun e aD H' => match e with
     | .normal => ∃ j, I j ∧ μ j < μ i ∧ Gg P.lo n0 aD H' (se j) (sh j)
     | e => Q e aD H'
 | .exit id, env, H, Q => Q (.exit id) env H
 | .ret, env, H, Q => Q .ret env H
 | .never, env, H, Q => False
 | .iK f lc, env, H, Q => match al env f with
   | .fn (.func g) first cap => (∀ (as : Array Value) (w : World), (callFunc g as).run P.prog w = .ok (.enter g as) w) ∧
     ∃ bO, xk (first.map AV.ab ++ [.mC H.length] ++ cap.map AV.ab) bO ∧ dY P g bO (H ++ [.loop .ready lc (kg lc.n env)]) fun _ H' => behind H.length H' fun j H'' => oR j Q env H''
   | _ => False
def AD.at_ (an : AD) (r i : Nat) : Nat := match an.find? fun x => x.1 == r && x.2.1 == i with | some x => x.2.2 | none => 0
def l7.at_ (lv : l7) (r : Nat) : Option (List Nat) := (lv.find? fun x => x.1 == r).map (·.2)
def ES (n : Nat) (o : Oper) : Bool := (match o.dst with | some d => d < n | none => true) && (match o.op with | .store .. | .mapUpdate .. => o.dst.isNone | _ => true)
def ET (ops : Array Oper) (o : Oper) : Option (Option (Nat × Bool)) :=
 match o.guard with
 | none => some none
 | some (j, want) => match (ops[j]?).bind (·.dst) with
   | some g => some (some (g, want))
   | none => none
def EU (i : IX) (d : Nat) : Bool := match i with | .t s => decide (s ≠ d) | _ => true
def P1 (P : Program) (ops : Array Oper) (n : Nat) (fl : Nat) (o o' : Oper) : Option bu :=
 match fl, o.op, o.dst, o.guard, o'.op, o'.dst, o'.guard with
 | 2, .alloc e, some d, none, .store t (.tmp d') x, none, none =>
   if d = d' ∧ d < n ∧ t = e then (match aP x, dB P t, ft P e with
    | some i, some m, some z => if EU i d = true ∧ z.cells.length = m ∧ z.val = true ∧ m ≠ 0 then some ⟨none, some d, .qQ m i⟩ else none
    | _, _, _ => none) else none
 | _, _, _, _, _, _, _ => none
def eD (P : Program) (ops : Array Oper) (an : AD) (n rid : Nat) (fu : Bool) : Nat → Nat → List Oper → Option (List bu)
 | _, _, [] => some []
 | 0, _, _ => none
 | fuel + 1, k, o :: r =>
   if an.at_ rid k = 1000 ∧ fu = true then
    match r with
    | o' :: r' => match P1 P ops n 2 o o', eD P ops an n rid fu fuel (k + 2) r' with
      | some x, some xs => some (x :: xs)
      | _, _ => none
    | [] => none
   else
    match ET ops o, eD P ops an n rid fu fuel (k + 1) r with
    | some g, some xs => if ES n o = true then some (⟨g, o.dst, A0 P o (an.at_ rid k)⟩ :: xs) else none
    | _, _ => none
def bW.all : bW → List IX
 | .set i _ => [i]
 | .pick c a b => [c, a, b]
 | .bin _ i j | .shift _ i j | .gO _ i j | .indexAddr _ i j | .c8 i j | .dL _ i j | .lookup _ _ i j _ | .mx _ i j | .store _ i j | .mE _ i j | .append _ _ i j | .iV _ _ _ i j | .copy _ i j => [i, j]
 | .mH _ _ i | .yC _ i | .iT _ _ i | .un _ i | .box i | .k9 i | .qQ _ i | .load _ i | .sc _ _ i | .eh i | .nilCheck i | .fieldAddr _ _ i | .field _ _ i | .len _ i | .sd _ _ _ i | .mF _ _ i | .extract i _ | .eC _ i | .gg i | .bytesOf i | .strOf i => [i]
 | .eV i s => [i, .t s]
 | .jY _ i j k => [i, j, k]
 | .build _ ps => ps.map fun q => q.2.2
 | .buildSlice _ _ _ _ ps | .AG _ _ _ ps => ps.map fun q => q.2
 | .slice _ i lo hi m | .oM _ i lo hi m => i :: (lo.toList ++ hi.toList ++ m.toList)
 | .dM i lo hi => i :: (lo.toList ++ hi.toList)
 | .fn _ first cap => first ++ cap
 | .call f args _ => f :: args
 | .alloc _ | .mG | .never => []
def IX.Oy : List IX → List Nat := fun l => l.filterMap fun i => match i with | .t s => some s | .c _ => none
def bW.kill : bW → List Nat
 | .set (.t s) true => [s]
 | .eV _ s => [s]
 | .append _ _ (.t s) _ => [s]
 | .call _ args pass => (match pass with | some j => (match args[j]? with | some (.t s) => [s] | _ => []) | none => [])
 | _ => []
def bW.P2 : bW → Bool
 | .box _ | .alloc _ | .eh _ | .store .. | .mE .. | .sc .. | .eV .. | .sd .. | .mG | .jY .. | .call .. | .copy .. | .yC .. | .AG .. | .iV .. | .mH .. | .never => true
 | _ => false
def bu.lk (o : bu) : List Nat := IX.Oy o.op.all ++ (match o.g with | some (g, _) => [g] | none => [])
def bW.Td (o : bW) (pure : Bool) : Bool :=
 match o with
 | .set _ take => !take
 | .call _ _ none => pure
 | .never | .call .. | .append .. => false
 | .qQ .. => false
 | o => !o.P2
def bW.xm : bW → Bool
 | .box _ | .alloc _ | .mG => true
 | _ => false
def bW.stays : bW → Bool
 | .call .. => false
 | _ => true
def qZ (st : Bool) (oi oj : bu) : Bool :=
 (match oi.dst with | some d => !oj.lk.contains d && oj.dst != some d && !oj.op.kill.contains d | none => true) &&
 (match oj.dst with | some d => !oi.lk.contains d | none => true) &&
 oj.op.kill.all (fun s => !oi.lk.contains s) && (!st || !oj.op.P2 || (oj.op.xm && oi.op.stays))
def dg (ops : Array Oper) : Nat → Nat → Nat → Bool
 | 0, _, _ => false
 | f + 1, j, i => match ops[j]? with
   | some o => o.after.any fun e => Region.binds .any e && (e.on == i || dg ops f e.on i)
   | none => false
def mO (ops : Array Oper) (il : List bu) (listed : Array Bool) (i : Nat) (st : Bool) : Bool :=
 (List.range ops.size).all fun j => j == i || listed.getD j true || dg ops ops.size j i || qZ st (il.getD i default) (il.getD j default)
def ta (ops : Array Oper) (il : List bu) : Nat → Array Bool → Option (List Nat) → wi → Bool
 | _, listed, none, .done => (Region.ready .any ops listed).isEmpty
 | f + 1, listed, none, .take i st r => (Region.ready .any ops listed).contains i && (il.getD i default).op.Td true && mO ops il listed i st && ta ops il f (listed.setIfInBounds i true) none r
 | f + 1, listed, none, .br i t rest => (match Region.ready .any ops listed with | k :: ks => k == i && ta ops il f (listed.setIfInBounds i true) none t && ta ops il (f + 1) listed (some ks) rest | [] => false)
 | f + 1, listed, some (k :: ks), .br i t rest => k == i && ta ops il f (listed.setIfInBounds i true) none t && ta ops il (f + 1) listed (some ks) rest
 | _, _, some [], .nil => true
 | _, _, _, _ => false
def ju : List Edge → Nat
 | [] => 0
 | e :: r => if Region.binds .any e = true then (1 <<< e.on) ||| ju r else ju r
def gl (rs : List Nat) : List Edge → Nat
 | [] => 0
 | e :: r => if Region.binds .any e = true ∧ e.on < rs.length then ((1 <<< e.on) ||| rs.getD e.on 0) ||| gl rs r else gl rs r
def eO : List Oper → List Nat → List Nat
 | [], acc => acc
 | o :: r, acc => eO r (acc ++ [gl acc o.after.toList])
def lr (m : Nat) : Nat → List Nat → List Nat
 | _, [] => []
 | i, a :: r => if m.testBit i = false ∧ a &&& m = a then i :: lr m (i + 1) r else lr m (i + 1) r
def A6 (m i : Nat) (st : Bool) (oi : bu) : Nat → List Nat → List bu → Bool
 | j, r :: rs, o :: os => (j == i || m.testBit j || r.testBit i || qZ st oi o) && A6 m i st oi (j + 1) rs os
 | _, _, [] => true
 | _, [], _ :: _ => false
def kD (am rm : List Nat) (il : List bu) : Nat → Nat → Option (List Nat) → wi → Bool
 | _, m, none, .done => (lr m 0 am).isEmpty
 | f + 1, m, none, .take i st r => (lr m 0 am).contains i && (il.getD i default).op.Td true && A6 m i st (il.getD i default) 0 rm il && kD am rm il f (m ||| (1 <<< i)) none r
 | f + 1, m, none, .br i t rest => (match lr m 0 am with | k :: ks => k == i && kD am rm il f (m ||| (1 <<< i)) none t && kD am rm il (f + 1) m (some ks) rest | [] => false)
 | f + 1, m, some (k :: ks), .br i t rest => k == i && kD am rm il f (m ||| (1 <<< i)) none t && kD am rm il (f + 1) m (some ks) rest
 | _, _, some [], .nil => true
 | _, _, _, _ => false
def l8.at_ (pl : l8) (r : Nat) : wi := match pl.find? fun x => x.1 == r with | some x => x.2 | none => .done
def comp (P : Program) (an : AD) (lv : l7) (pl : l8) (n : Nat) : Code → Option IR
 | .skip => some .skip
 | .region id ops false => (eD P ops an n id true (ops.size + 1) 0 ops.toList).map fun l => .region l (lv.at_ id)
 | .region id ops true => match eD P ops an n id false (ops.size + 1) 0 ops.toList with
   | some il => if P.follows .mixedOrders = true ∧ kD (ops.toList.map fun o => ju o.after.toList) (eO ops.toList []) il ops.size 0 none (pl.at_ id) = true then some (.draw (inst il (pl.at_ id)) (lv.at_ id)) else none
   | none => none
 | .seq a b => match comp P an lv pl n a, comp P an lv pl n b with
   | some x, some y => some (.seq x y)
   | _, _ => none
 | .cond c a b => match aP c, comp P an lv pl n a, comp P an lv pl n b with
   | some i, some x, some y => some (.cond i x y)
   | _, _, _ => none
 | .block id a => (comp P an lv pl n a).map (.block id)
 | .loop a => (comp P an lv pl n a).map .loop
 | .exit id => some (.exit id)
 | .ret => some .ret
 | .rangeFunc f ps as bd => (aP f).map fun i => .iK i ⟨n, ps.toList, as, bd, an, lv, pl⟩
 | _ => some .never
theorem iL (n k : Nat) : (1 <<< n).testBit k = decide (n = k) := by
 rw [Nat.shiftLeft_eq, Nat.one_mul, Nat.testBit_two_pow]
theorem Dq (m : Nat) : ∀ (es : List Edge), (ju es &&& m = ju es) ↔ ∀ e ∈ es, Region.binds .any e = true → m.testBit e.on = true := by
 have key : ∀ a : Nat, (a &&& m = a) ↔ ∀ i, a.testBit i = true → m.testBit i = true := by
  intro a
  constructor
  ·intro h i hi
   rw [← h] at hi
   simp only [Nat.testBit_and, Bool.and_eq_true] at hi
   exact hi.2
  ·intro h
   apply Nat.eq_of_testBit_eq
   intro i
   rw [Nat.testBit_and]
   cases ha : a.testBit i with
   | false => simp
   | true => simp [h i ha]
 intro es
 rw [key]
 induction es with
 | nil => simp [ju]
 | cons e r ih =>
   simp only [ju]
   split
   ·rename_i hb
    constructor
    ·intro h e' CZ dV
     rcases List.mem_cons.1 CZ with rfl | CZ
     ·exact h _ (by simp [])
     ·exact ih.1 (fun i hi => h i (by simp [hi])) e' CZ dV
    ·intro h i hi
     simp only [Nat.testBit_or, Bool.or_eq_true, iL, decide_eq_true_eq] at hi
     rcases hi with rfl | hi
     ·exact h e (by simp) hb
     ·exact ih.2 (fun e' CZ dV => h e' (List.mem_cons_of_mem _ CZ) dV) i hi
   ·rename_i hb
    constructor
    ·intro h e' CZ dV
     rcases List.mem_cons.1 CZ with rfl | CZ
     ·exact absurd dV hb
     ·exact ih.1 h e' CZ dV
    ·intro h
     exact ih.2 (fun e' CZ dV => h e' (List.mem_cons_of_mem _ CZ) dV)
theorem lz {rs : List Nat} {i : Nat} : ∀ {es : List Edge}, (gl rs es).testBit i = true → ∃ e ∈ es, Region.binds .any e = true ∧ e.on < rs.length ∧ (e.on = i ∨ (rs.getD e.on 0).testBit i = true)
 | [], h => by simp [gl] at h
 | e :: r, h => by
   simp only [gl] at h
   split at h
   ·rename_i hb
    simp only [Nat.testBit_or, Bool.or_eq_true, iL, decide_eq_true_eq] at h
    rcases h with h | h
    ·exact ⟨e, by simp, hb.1, hb.2, h⟩
    ·obtain ⟨e', CZ, h'⟩ := lz h
     exact ⟨e', List.mem_cons_of_mem _ CZ, h'⟩
   ·obtain ⟨e', CZ, h'⟩ := lz h
    exact ⟨e', List.mem_cons_of_mem _ CZ, h'⟩
theorem uq : ∀ (l : List Oper) (acc : List Nat), ∃ r, eO l acc = acc ++ r ∧ r.length = l.length
 | [], acc => ⟨[], by simp [eO], rfl⟩
 | o :: l, acc => by
   obtain ⟨r, h1, h2⟩ := uq l (acc ++ [gl acc o.after.toList])
   exact ⟨gl acc o.after.toList :: r, by simp [eO, h1], by simp [h2]⟩
theorem ur : ∀ (l : List Oper) (acc : List Nat) (j : Nat) (o : Oper), l[j]? = some o → (eO l acc)[acc.length + j]? = some (gl ((eO l acc).take (acc.length + j)) o.after.toList)
 | [], acc, j, o, h => by simp at h
 | x :: l, acc, 0, o, h => by
   simp at h
   subst h
   simp only [eO]
   obtain ⟨r, h1, h2⟩ := uq l (acc ++ [gl acc x.after.toList])
   rw [h1]
   simp
 | x :: l, acc, j + 1, o, h => by
   have ih := ur l (acc ++ [gl acc x.after.toList]) j o (by simpa using h)
   simp only [eO]
   simp only [List.length_append, List.length_cons, List.length_nil] at ih
   rw [show acc.length + (j + 1) = acc.length + (0 + 1) + j by omega]
   exact ih
theorem Dr {ops : Array Oper} {i : Nat} : ∀ (j f : Nat), j < f → j < ops.size → ((eO ops.toList []).getD j 0).testBit i = true → dg ops f j i = true := by
 intro j
 induction j using Nat.strongRecOn with
 | _ j ih =>
   intro f hf hj h
   have P3 : ops[j]? = some ops[j] := by simp [hj]
   have hg := ur ops.toList [] j ops[j] (by simp [hj])
   simp only [List.length_nil, Nat.zero_add] at hg
   rw [List.getD_eq_getElem?_getD, hg, Option.getD_some] at h
   obtain ⟨e, he, hb, aX, TC⟩ := lz h
   have mn : e.on < j := by simp at aX; omega
   cases f with
   | zero => omega
   | succ f =>
     simp only [dg, P3]
     rw [Array.any_eq_true']
     refine ⟨e, by simpa using he, ?_⟩
     simp only [Bool.and_eq_true, Bool.or_eq_true, beq_iff_eq]
     refine ⟨hb, ?_⟩
     rcases TC with h1 | h1
     ·exact .inl h1
     ·refine .inr (ih e.on mn f (by omega) (by omega) ?_)
      have : ((eO ops.toList []).take j).getD e.on 0 = (eO ops.toList []).getD e.on 0 := by
       simp [List.getD_eq_getElem?_getD, mn]
      rw [this] at h1
      exact h1
def bitsOf (n : Nat) (listed : Array Bool) (m : Nat) : Prop := listed.size = n ∧ ∀ k, m.testBit k = listed.getD k false
theorem uv {n : Nat} {listed : Array Bool} {m i : Nat} (h : bitsOf n listed m) (hi : i < n) : bitsOf n (listed.setIfInBounds i true) (m ||| (1 <<< i)) := by
 obtain ⟨h1, h2⟩ := h
 refine ⟨by simp [h1], fun k => ?_⟩
 rw [Nat.testBit_or, h2 k, iL]
 simp only [Array.getD_eq_getD_getElem?, Array.getElem?_setIfInBounds]
 by_cases hk : i = k
 ·subst hk
  simp [h1, hi]
 ·simp [hk]
theorem uw {ops : Array Oper} {listed : Array Bool} {m : Nat} (hb : bitsOf ops.size listed m) : ∀ (l : List Oper) (i : Nat), (∀ j, l[j]? = ops[i + j]?) →
 lr m i (l.map fun o => ju o.after.toList) = (List.range' i l.length).filter fun i => !listed.getD i true && ((ops[i]?).map (·.after.all fun e => !Region.binds .any e || listed.getD e.on false)).getD false
 | [], i, _ => by simp [lr]
 | o :: l, i, h => by
   have h0 : ops[i]? = some o := by simpa using (h 0).symm
   have hi : i < ops.size := (Array.getElem?_eq_some_iff.1 h0).1
   have ih := uw hb l (i + 1) (fun j => by have := h (j + 1); simpa [Nat.add_assoc, Nat.add_comm 1 j] using this)
   simp only [List.map_cons, lr, List.length_cons, List.range'_succ, List.filter_cons]
   have e1 : (m.testBit i = false) ↔ (listed.getD i true = false) := by
    rw [hb.2 i]
    have : i < listed.size := by rw [hb.1]; exact hi
    simp [Array.getD, this]
   have e2 : (ju o.after.toList &&& m = ju o.after.toList) ↔ (o.after.all fun e => !Region.binds .any e || listed.getD e.on false) = true := by
    rw [Dq, Array.all_eq_true']
    simp only [Array.mem_toList_iff, Bool.or_eq_true, Bool.not_eq_true', hb.2]
    constructor
    ·intro h e he
     cases Yl : Region.binds .any e with
     | false => exact .inl rfl
     | true => exact .inr (h e he Yl)
    ·intro h e he Yl
     rcases h e he with h | h
     ·rw [Yl] at h; cases h
     ·exact h
   by_cases hc : m.testBit i = false ∧ ju o.after.toList &&& m = ju o.after.toList
   ·rw [if_pos hc, if_pos (by rw [h0]; simp only [Option.map_some, Option.getD_some, e1.1 hc.1, e2.1 hc.2, Bool.not_false, Bool.and_self]), ih]
   ·rw [if_neg hc, if_neg (by
     rw [h0]
     simp only [Option.map_some, Option.getD_some, Bool.and_eq_true, Bool.not_eq_true']
     intro h'
     exact hc ⟨e1.2 h'.1, e2.2 h'.2⟩), ih]
theorem ra {ops : Array Oper} {listed : Array Bool} {m : Nat} (hb : bitsOf ops.size listed m) : lr m 0 (ops.toList.map fun o => ju o.after.toList) = Region.ready .any ops listed := by
 rw [uw hb ops.toList 0 (by simp)]
 unfold Region.ready
 simp [List.range_eq_range']
theorem ux {ops : Array Oper} {il : List bu} {listed : Array Bool} {m i : Nat} {st : Bool} {oi : bu} (hb : bitsOf ops.size listed m) : ∀ (rs : List Nat) (os : List bu) (j : Nat), (∀ k, os[k]? = il[j + k]?) → (∀ k, rs[k]? = (eO ops.toList [])[j + k]?) → A6 m i st oi j rs os = true →
 ∀ k, j ≤ k → k < ops.size → k < il.length → (k == i || listed.getD k true || dg ops ops.size k i || qZ st oi (il.getD k default)) = true
 | rs, [], j, h1, _, _, k, Ox, _, hk => by
   have := h1 (k - j)
   rw [show j + (k - j) = k by omega] at this
   simp at this
   omega
 | [], o :: os, j, h1, h2, h, _, _, _, _ => by simp [A6] at h
 | r :: rs, o :: os, j, h1, h2, h, k, Ox, Di, EP => by
   simp only [A6, Bool.and_eq_true] at h
   by_cases hk : k = j
   ·subst hk
    have ho : il.getD k default = o := by
     have := h1 0
     simp at this
     rw [List.getD_eq_getElem?_getD, ← this]; rfl
    have hr : (eO ops.toList []).getD k 0 = r := by
     have := h2 0
     simp at this
     rw [List.getD_eq_getElem?_getD, ← this]; rfl
    have h := h.1
    simp only [Bool.or_eq_true] at h ⊢
    rcases h with ((h | h) | h) | h
    ·exact .inl (.inl (.inl h))
    ·refine .inl (.inl (.inr ?_))
     rw [hb.2 k] at h
     have : k < listed.size := by rw [hb.1]; exact Di
     simpa [Array.getD, this] using h
    ·exact .inl (.inr (Dr k _ Di Di (by rw [hr]; exact h)))
    ·rw [ho]; exact .inr h
   ·exact ux hb rs os (j + 1) (fun q => by have := h1 (q + 1); simpa [Nat.add_assoc, Nat.add_comm 1 q] using this) (fun q => by have := h2 (q + 1); simpa [Nat.add_assoc, Nat.add_comm 1 q] using this) h.2 k (by omega) Di EP
theorem pK {ops : Array Oper} {listed : Array Bool} {i : Nat} (h : i ∈ Region.ready .any ops listed) : i < ops.size := by
 unfold Region.ready at h
 simp at h
 exact h.1
theorem Ix {ops : Array Oper} {il : List bu} (cT : il.length = ops.size) : ∀ (p : wi) (f m : Nat) (listed : Array Bool) (rem : Option (List Nat)), bitsOf ops.size listed m → (∀ ks, rem = some ks → ∀ k ∈ ks, k < ops.size) →
 kD (ops.toList.map fun o => ju o.after.toList) (eO ops.toList []) il f m rem p = true → ta ops il f listed rem p = true := by
 intro p
 induction p with
 | done =>
   intro f m listed rem hb _ h
   cases rem with
   | none => cases f <;> (simp only [kD, ra hb] at h; simpa [ta] using h)
   | some ks => cases ks <;> cases f <;> simp [kD] at h
 | nil =>
   intro f m listed rem hb _ h
   cases rem with
   | none => cases f <;> simp [kD] at h
   | some ks => cases ks <;> cases f <;> simp [kD] at h <;> simp [ta]
 | take i st r ih =>
   intro f m listed rem hb _ h
   cases rem with
   | some ks => cases ks <;> cases f <;> simp [kD] at h
   | none =>
     cases f with
     | zero => simp [kD] at h
     | succ f =>
       simp only [kD, ra hb, Bool.and_eq_true] at h
       obtain ⟨⟨⟨h1, h2⟩, h3⟩, h4⟩ := h
       have hi : i < ops.size := pK (by simpa using h1)
       simp only [ta, Bool.and_eq_true]
       refine ⟨⟨⟨h1, h2⟩, ?_⟩, ih _ _ _ _ (uv hb hi) (by simp) h4⟩
       unfold mO
       refine List.all_eq_true.2 fun k hk => ?_
       have PL : k < ops.size := List.mem_range.1 hk
       exact ux hb (eO ops.toList []) il 0 (fun k => by rw [Nat.zero_add]) (fun k => by rw [Nat.zero_add]) h3 k (Nat.zero_le _) PL (by omega)
 | br i t rest Iy HM =>
   intro f m listed rem hb Ym h
   cases f with
   | zero => cases rem with
     | none => simp [kD] at h
     | some ks => cases ks <;> simp [kD] at h
   | succ f =>
     cases rem with
     | none =>
       simp only [kD, ra hb] at h
       simp only [ta]
       split at h
       ·rename_i k ks hr
        simp only [Bool.and_eq_true, beq_iff_eq] at h
        obtain ⟨⟨rfl, h1⟩, h2⟩ := h
        have hk : ∀ q ∈ k :: ks, q < ops.size := fun q hq => pK (by rw [hr]; exact hq)
        simp only [Bool.and_eq_true, beq_iff_eq, true_and]
        exact ⟨Iy _ _ _ _ (uv hb (hk k (by simp))) (by simp) h1, HM _ _ _ _ hb (fun ks' e q hq => by cases e; exact hk q (by simp [hq])) h2⟩
       ·cases h
     | some ks =>
       cases ks with
       | nil => simp [kD] at h
       | cons k ks =>
         simp only [kD, Bool.and_eq_true, beq_iff_eq] at h
         obtain ⟨⟨rfl, h1⟩, h2⟩ := h
         have hk := Ym _ rfl
         simp only [ta, Bool.and_eq_true, beq_iff_eq, true_and]
         exact ⟨Iy _ _ _ _ (uv hb (hk k (by simp))) (by simp) h1, HM _ _ _ _ hb (fun ks' e q hq => by cases e; exact hk q (by simp [hq])) h2⟩
theorem Gh (n : Nat) : bitsOf n (Array.replicate n false) 0 := ⟨by simp, fun k => by
 simp only [Nat.zero_testBit, Array.getD_eq_getD_getElem?, Array.getElem?_replicate]
 split <;> rfl⟩
section
variable {ro : Option Nat} {P : Program} {lo : Option Nat} {A : Perm} {n : Nat} {M : Mem} {L : List Nat} {w : World} {H : List aa} {env : Env} {O : Pos → Option Nat} {a : Act} {ev : Nat → Value} {ea : Nat → AV}
def Ds (A : Perm) (n : Nat) (M0 : Mem) (L0 : List Nat) (w0 : World) (Q : Exit → Env → List aa → Prop) (e : Exit) (a : Act) (w : World) : Prop :=
 ∃ A' M L H env O, A'.Le A ∧ Q e env H ∧ Fr A' n M L w H env O a ∧ Ext A M0 w0 M w ∧ L0 <+: L
theorem Fr.Dt (h : Fr A n M L w H env O a) {aD : Env} (he : get aD = get env) : Fr A n M L w H aD O a := ⟨by rw [he]; exact h.st, h.size, h.defers⟩
theorem Fr.weaken (h : Fr A n M L w H env O a) {aD : Env} (hl : ∀ t, (get env t).le (get aD t)) : ∃ O', Fr A n M L w H aD O' a := by
 obtain ⟨O', h'⟩ := h.st.weaken hl
 exact ⟨O', h', h.size, h.defers⟩
theorem le_refl (x : AV) : x.le x := .inl rfl
theorem P4 (x : AV) : x.le .any := .inr (.inl rfl)
theorem xn (live : Option (List Nat)) (env : Env) (t : Nat) : (get env t).le (get (eo live env) t) := by
 cases live with
 | none => exact le_refl _
 | some l =>
   simp only [eo]
   induction l with
   | nil => exact P4 _
   | cons s l ih =>
     simp only [List.map_cons, get]
     split
     ·rename_i e; subst e; exact le_refl _
     ·exact ih
theorem get_mem {env : Env} {t : Nat} {x : AV} (h : get env t = x) : x = .any ∨ (t, x) ∈ env := by
 induction env with
 | nil => left; exact h.symm
 | cons p r ih =>
   obtain ⟨k, v⟩ := p
   simp only [get] at h
   split at h
   ·rename_i e; subst e; subst h; right; simp
   ·rcases ih h with h' | h'
    ·exact .inl h'
    ·exact .inr (List.mem_cons_of_mem _ h')
theorem aA (n0 : Nat) (env : Env) (H : List aa) : sle n0 env H env H := ⟨fun t => le_refl _, .inl rfl⟩
def fz (lo : Option Nat) (n0 : Nat) (A : Perm) : Prop := (∀ id, id < n0 → ∃ m, m ≤ n0 ∧ A.top id = some m) ∧ match lo with
 | none => ∀ id, n0 ≤ id → A.top id = some (id + 1)
 | some l => l = n0 ∧ ∀ id, n0 ≤ id → A.top id = none
theorem fz.opens {n0 : Nat} (h : fz lo n0 A) : ∀ l, lo = some l → ∀ id, l ≤ id → A.top id = none := by
 rintro l rfl id bm
 obtain ⟨_, rfl, h⟩ := h
 exact h id bm
theorem fz.low {n0 m : Nat} (h : fz lo n0 A) (hm : n0 ≤ m) (hs : St A M L w H ev ea O) : ∀ id o, id < n0 → H[id]? = some o → o.a7 m = true := by
 intro id o bm ho
 obtain ⟨k, hk, e⟩ := h.1 id bm
 have := hs.bB id o ho
 refine aa.cE ?_ o this
 unfold Perm.jc
 rw [e]
 exact Nat.le_trans (Nat.min_le_left _ _) (by omega)
theorem fz.closed {n0 m : Nat} (h : fz none n0 A) (hm : n0 ≤ m) (hs : St A M L w H ev ea O) : ∀ id o, id < m → H[id]? = some o → o.a7 m = true := by
 intro id o bm ho
 by_cases e : id < n0
 ·exact h.low hm hs id o e ho
 ·have e1 := h.2 id (by omega)
  have := hs.bB id o ho
  refine aa.cE ?_ o this
  unfold Perm.jc
  rw [e1]
  exact Nat.le_trans (Nat.min_le_left _ _) (by omega)
theorem Fr.sle (h : Fr A n M L w H env O a) {aD : Env} {H' : List aa} {L0 : List Nat} (hA : fz lo L0.length A) (hL : L0 <+: L) (hl : Gg lo L0.length env H aD H') : ∃ L' O', Fr A n M L' w H' aD O' a ∧ L0 <+: L' := by
 have wF : Gf L0.length env H aD H' := by
  unfold Gg at hl
  split at hl
  ·obtain ⟨h1, h2⟩ := hl
   refine ⟨h1, ?_⟩
   rcases h2 with rfl | ⟨m, hm, rfl, hb⟩
   ·exact .inl rfl
   ·exact .inr ⟨m, hm, rfl, fun id o _ bm ho => hA.closed hm h.st id o bm ho, hb⟩
  ·exact hl
 obtain ⟨h1, h2⟩ := wF
 obtain ⟨O', hf⟩ := h.weaken h1
 rcases h2 with rfl | ⟨m, hm, rfl, hc, hb⟩
 ·exact ⟨L, O', hf, hL⟩
 ·obtain ⟨O'', bP⟩ := hf.st.cut m (fun id o bm ho => by
   by_cases e : id < L0.length
   ·exact hA.low hm hf.st id o e ho
   ·exact hc id o (by omega) bm ho) hb
  refine ⟨L.take m, O'', ⟨bP, hf.size, hf.defers⟩, ?_⟩
  obtain ⟨r, rfl⟩ := hL
  exact ⟨r.take (m - L0.length), by rw [List.take_append, List.take_of_length_le hm]⟩
theorem yY {ops : Array Oper} {j g : Nat} (hg : (ops[j]?).bind (·.dst) = some g) (hf : Fr A n M L w H env O a) {b : Bool} (hb : get env g = .bool b) : yielded ops a.tmps j = some b := by
 have hr := hf.st.env g
 rw [hb] at hr
 generalize hv : a.tmps.getD g undef = v at hr
 cases hr
 have : a.tmps[g]? = some (.bool b) := by
  rw [Array.getD_eq_getD_getElem?] at hv
  cases h : a.tmps[g]? with
  | none => rw [h] at hv; cases hv
  | some v => rw [h] at hv; simp at hv; rw [hv]
 simp [yielded, hg, this]
theorem wG {ops : Array Oper} {j g : Nat} (hg : (ops[j]?).bind (·.dst) = some g) (hf : Fr A n M L w H env O a) (hb : get env g = .tuple []) : yielded ops a.tmps j = none := by
 have hr := hf.st.env g
 rw [hb] at hr
 generalize hv : a.tmps.getD g undef = v at hr
 cases hr with
 | tuple cs _ h =>
 rw [Array.getD_eq_getD_getElem?] at hv
 simp only [yielded, hg, Option.bind_some]
 cases h : a.tmps[g]? with
 | none => rfl
 | some v => rw [h] at hv; simp at hv; rw [hv]
theorem xo {ops : Array Oper} {o : Oper} {fl : Nat} {g : Option (Nat × Bool)} (hg : ET ops o = some g) (fL : ES n o = true) (hp : ∀ l, lo = some l → ∀ id, l ≤ id → A.top id = none) (hf : Fr A n M L w H env O a) {K : Env → List aa → Prop} (h : qY ⟨P, lo⟩ ⟨g, o.dst, A0 P o fl⟩ env H K) (Q : Exit → Act → World → Prop) :
 if Region.wanted o (yielded ops a.tmps) then o.wpIn (wf ro) 0 P a w (mw A n M L w K) Q else mw A n M L w K (a.put o.dst undef) w := by
 simp only [ES, Bool.and_eq_true] at fL
 have hd : ∀ d, o.dst = some d → d < n := by
  intro d hd
  have := fL.1
  rw [hd] at this
  simpa using this
 have hn : (match o.op with | .store .. | .mapUpdate .. => o.dst = none | _ => True) := by
  have := fL.2
  split at this <;> first | trivial | skip
  ·simpa using this
  ·simpa using this
 unfold ET at hg
 split at hg
 ·rename_i K4
  cases hg
  rw [if_pos (by simp [Region.wanted, K4])]
  exact sw o hp hf hd hn h
 ·rename_i j want K4
  split at hg <;> cases hg
  rename_i g hgj
  simp only [qY, gR] at h
  split at h
  rotate_left
  ·rename_i hb
   have hy := wG hgj hf hb
   rw [if_neg (by simp [Region.wanted, K4, hy])]
   obtain ⟨O', oQ⟩ := hf.ol (dst := o.dst) (v := undef) (x := .tuple []) hd (.tuple [] [] .nil) (by intro _ _ e; cases e)
   exact ⟨M, L, H, _, O', h, oQ, Ext.refl A M w, List.prefix_refl L⟩
  ·exact h.elim
  rename_i b hb
  have hy := yY hgj hf hb
  have TS : get ((g, AV.bool b) :: env) = get env := by
   rw [H7]; funext t; simp only [fe]; split
   ·rename_i e; rw [e, hb]
   ·rfl
  by_cases hw : b = want
  ·subst hw
   rw [if_pos (by simp [Region.wanted, K4, hy])]
   exact sw o hp (hf.Dt TS) hd hn (h.1 rfl)
  ·have EV : b = !want := by cases b <;> cases want <;> simp_all
   subst EV
   rw [if_neg (by simp [Region.wanted, K4, hy])]
   obtain ⟨O', oQ⟩ := (hf.Dt TS).ol (dst := o.dst) (v := undef) (x := .tuple []) hd (.tuple [] [] .nil) (by intro _ _ e; cases e)
   exact ⟨M, L, H, _, O', h.2 rfl, oQ, Ext.refl A M w, List.prefix_refl L⟩
theorem mw.trans {K K' : Env → List aa → Prop} {M' : Mem} {L' : List Nat} {w' : World} {a' : Act} {w'' : World} (cr : Ext A M w M' w') (hL : L <+: L') (h : mw A n M' L' w' K a' w'') : mw A n M L w K a' w'' := by
 obtain ⟨M2, L2, H2, cH, O2, h1, h2, h3, h4⟩ := h
 exact ⟨M2, L2, H2, cH, O2, h1, h2, cr.trans h3, hL.trans h4⟩
theorem A7 (w : World) (c c' : Array Value) (e : TypeId) : ({ w with heap := w.heap.push (.cells c e) } : World).setRow w.heap.size c' = { w with heap := w.heap.push (.cells c' e) } := by
 simp only [World.setRow]
 congr 1
 apply Array.ext
 ·simp
 ·intro i h1 h2
  rw [Array.getElem_modify]
  by_cases hi : w.heap.size = i
  ·subst hi; simp
  ·simp only [hi, if_false]
   have : i < w.heap.size := by simp at h2; omega
   rw [Array.getElem_push_lt this, Array.getElem_push_lt this]
theorem Dv {ops : Array Oper} {o o' : Oper} {x : bu} (hx : P1 P ops n 2 o o' = some x) (hf : Fr A n M L w H env O a) {K : Env → List aa → Prop} (h : qY ⟨P, lo⟩ x env H K) (r : List Oper) (Q : Exit → Act → World → Prop)
 (hrest : ∀ a' w', mw A n M L w K a' w' → wpListIn (wf ro) 0 P ops Q r a' w') : wpListIn (wf ro) 0 P ops Q (o :: o' :: r) a w := by
 unfold P1 at hx
 split at hx <;> try cases hx
 rename_i e d t d' y _ cI fL K4 Yn TT Yo
 split at hx <;> try cases hx
 rename_i hcond
 obtain ⟨rfl, TN, rfl⟩ := hcond
 split at hx <;> try cases hx
 rename_i i m z hi hm hz
 split at hx <;> cases hx
 rename_i hcond
 obtain ⟨dG, iH, si, AQ⟩ := hcond
 simp only [qY, bt] at h
 obtain ⟨lh, gY, jZ, hK⟩ := h
 have hr := hf.eval hi
 have Lw := hr.fI lh
 have pB := Lw.length
 -- the zero value
 obtain ⟨inf, iF, cT⟩ := Option.map_eq_some_iff.1 hm
 unfold ft at hz
 simp only [iF] at hz
 split at hz <;> try cases hz
 rename_i zv uc
 have tu : zv.cells.size = m := by have := ((cz (M := M) (L := L) hz).fI si).length; rw [iH] at this; simpa using this
 have hrun1 : (execOp a.eval o).run P w = .ok (.value (.pointer (some ⟨w.heap.size, 0, none⟩))) { w with heap := w.heap.push (.cells zv.cells t) } := by
  simp only [execOp, cI]
  exact aV (by simp only [Instr.alloc, zeroValue, typeInfo, Sem.run_bind, run_program, Result.andThen_ok, iF, Sem.run_pure, uc]; rfl)
 have hsize : d < a.tmps.size := by rw [hf.size]; exact TN
 have PV : (a.put (some d) (.pointer (some ⟨w.heap.size, 0, none⟩))).eval (.tmp d) = .pointer (some ⟨w.heap.size, 0, none⟩) := by
  show (a.put (some d) _).tmps.getD d undef = _
  rw [tX a d _ hsize d]; simp [fe]
 have Yp : (a.put (some d) (.pointer (some ⟨w.heap.size, 0, none⟩))).eval y = a.eval y := by
  cases y with
  | tmp s =>
    simp [aP] at hi; subst hi
    simp [EU] at dG
    show (a.put (some d) _).tmps.getD s undef = a.tmps.getD s undef
    rw [tX a d _ hsize s]; simp [fe, dG]
  | _ => rfl
 have bP := run_storeCells_at P w.heap.size 0 t (a.eval y).cells.toList 0 zv.cells { w with heap := w.heap.push (.cells zv.cells t) } (dA w _) (by simp at pB ⊢; omega) (Lw.gf jZ)
 have hwhole : (zv.cells.toList.take (0 + 0) ++ (a.eval y).cells.toList ++ zv.cells.toList.drop (0 + 0 + (a.eval y).cells.toList.length)).toArray = (a.eval y).cells := by
  have : zv.cells.toList.drop (0 + 0 + (a.eval y).cells.toList.length) = [] := List.drop_eq_nil_of_le (by simp at pB ⊢; omega)
  rw [this]; simp
 rw [hwhole, A7] at bP
 have hrun2 : (execOp (a.put (some d) (.pointer (some ⟨w.heap.size, 0, none⟩))).eval o').run P { w with heap := w.heap.push (.cells zv.cells t) } = .ok .skip { w with heap := w.heap.push (.cells (a.eval y).cells t) } := by
  simp only [execOp, Yn, PV, Yp]
  refine pF ?_
  have hs : (sizeOf t).run P { w with heap := w.heap.push (.cells zv.cells t) } = .ok m { w with heap := w.heap.push (.cells zv.cells t) } := by simp [sizeOf, typeInfo, iF, cT]
  simp only [Instr.storeAt, Instr.sureAddr, storeVar, Sem.run_bind, Sem.run_pure, Result.andThen_ok, hs, ne_eq]
  rw [if_neg (by simp at pB; omega)]
  exact bP
 obtain ⟨g1, g2, g3⟩ := hf.st.C4 (a.eval y).cells t
 have fo : aR (M.add w.heap.size (a.eval y).cells.toList) L (.pointer (some ⟨w.heap.size, 0, none⟩)) (.ai (al env i)) := .ai _ _ _ _ (Lw.mono g2.kw (List.prefix_refl _)) g3
 obtain ⟨O', oQ⟩ := (hf.mono g1 g2).ol (dst := some d) (fun d' e => by cases e; exact TN) fo (by intro _ _ e; cases e)
 have kE := hrest _ _ ⟨_, L, H, _, O', hK, oQ, g2, List.prefix_refl L⟩
 unfold wpListIn
 rw [if_pos (by simp [Region.wanted, K4])]
 refine kx hrun1 (by intro d e; cases e) ?_
 rw [Oper.uponIn_value, fL]
 unfold wpListIn
 rw [if_pos (by simp [Region.wanted, Yo])]
 refine kx hrun2 (by intro d e; cases e) ?_
 rw [Oper.uponIn_skip, TT]
 exact kE
theorem oS {ops : Array Oper} {an : AD} {rid : Nat} {fu : Bool} (hp : ∀ l, lo = some l → ∀ id, l ≤ id → A.top id = none) (Q : Exit → Act → World → Prop) : ∀ (fuel k : Nat) (l : List Oper) (il : List bu), eD P ops an n rid fu fuel k l = some il → ∀ {M : Mem} {L : List Nat} {w : World} {H : List aa} {env : Env} {O : Pos → Option Nat} {a : Act} (K : Env → List aa → Prop),
 Fr A n M L w H env O a → iZ ⟨P, lo⟩ il env H K → (∀ a' w', mw A n M L w K a' w' → Q .normal a' w') → wpListIn (wf ro) 0 P ops Q l a w
 | _, _, [], il, hc, M, L, w, H, env, O, a, K, hf, h, hQ => by
   unfold eD at hc
   cases hc
   exact hQ a w ⟨M, L, H, env, O, h, hf, Ext.refl A M w, List.prefix_refl L⟩
 | 0, _, o :: r, il, hc, _, _, _, _, _, _, _, _, _, _, _ => by simp [eD] at hc
 | fuel + 1, k, o :: r, il, hc, M, L, w, H, env, O, a, K, hf, h, hQ => by
   unfold eD at hc
   split at hc
   ·-- a new variable with its first value
    split at hc <;> try cases hc
    rename_i o' r'
    split at hc <;> cases hc
    rename_i x xs hx fp
    simp only [iZ] at h
    refine Dv hx hf h r' Q ?_
    rintro a' w' ⟨M', L', H', aD, O', k1, k2, k3, k4⟩
    exact oS hp Q fuel (k + 2) r' xs fp K k2 k1 (fun a2 w2 h2 => hQ a2 w2 (mw.trans (K' := K) k3 k4 h2))
   ·split at hc <;> try cases hc
    rename_i g xs hg fp
    split at hc <;> cases hc
    rename_i fL
    simp only [iZ] at h
    have h1 := xo (ro := ro) (ops := ops) hg fL hp hf h Q
    have hrest : ∀ a' w', mw A n M L w (fun env H => iZ ⟨P, lo⟩ xs env H K) a' w' → wpListIn (wf ro) 0 P ops Q r a' w' := by
     rintro a' w' ⟨M', L', H', aD, O', k1, k2, k3, k4⟩
     exact oS hp Q fuel (k + 1) r xs fp K k2 k1 (fun a2 w2 h2 => hQ a2 w2 (mw.trans (K' := K) k3 k4 h2))
    unfold wpListIn
    split
    ·rename_i hw
     rw [if_pos hw] at h1
     exact Oper.wpIn_mono hrest h1
    ·rename_i hw
     rw [if_neg hw] at h1
     exact ⟨fun _ _ => trivial, hrest _ _ h1⟩
theorem Ds.trans {A' : Perm} {M0 M1 : Mem} {L0 : List Nat} {w0 w1 : World} {Q : Exit → Env → List aa → Prop} {e : Exit} {a : Act} {w : World} (hl : A'.Le A) (hx : Ext A M0 w0 M1 w1) (hp : Ds A' n M1 L0 w1 Q e a w) : Ds A n M0 L0 w0 Q e a w := by
 obtain ⟨A2, M, L, H, env, O, hA, h1, h2, h3, h4⟩ := hp
 exact ⟨A2, M, L, H, env, O, hA.trans hl, h1, h2, hx.trans (h3.le hl), h4⟩
theorem fz.le {n0 : Nat} {A' : Perm} (h : fz lo n0 A) (hl : A'.Le A) : fz lo n0 A' := by
 unfold fz at *
 rw [hl.1]
 exact h
def Own (ro : Option Nat) (w : World) : Prop := ∀ l, ro = some l → ∃ r, w.heap[l]? = some (.loop r)
theorem Own.ext {M' : Mem} {w' : World} (h : Own ro w) (hx : Ext A M w M' w') : Own ro w' := fun l hl => by
 obtain ⟨r, hr⟩ := h l hl
 obtain ⟨r', Yq, _⟩ := hx.loops l r hr
 exact ⟨r', Yq⟩
theorem Gi (p : Nat → Prop) (h : ∃ k, p k) : ∃ k, p k ∧ ∀ j, p j → k ≤ j := by
 obtain ⟨k, hk⟩ := h
 induction k using Nat.strongRecOn with
 | _ k ih =>
   by_cases hl : ∃ j, j < k ∧ p j
   ·obtain ⟨j, hj, hp⟩ := hl
    exact ih j hj hp
   ·exact ⟨k, hk, fun j hj => by
     rcases Nat.lt_or_ge j k with h' | h'
     ·exact absurd ⟨j, h', hj⟩ hl
     ·exact h'⟩
theorem yZ {F : Fence} {k : Nat} {c : Code} {Q : Exit → Act → World → Prop} {w : World} {a : Act} {ι : Type} (I : ι → Act → World → Prop) (μ : ι → Nat)
 (round : ∀ i a w, I i a w → c.wpIn F k P (Exit.then (fun a' w' => ∃ j, I j a' w' ∧ μ j < μ i) Q) a w) (i0 : ι) (h0 : I i0 a w) : (Code.loop c).wpIn F k P Q a w := by
 let p : Act → World → Nat → Prop := fun a w k => ∃ i, I i a w ∧ μ i = k
 let ν : Act → World → Nat := fun a w => Classical.epsilon fun k => p a w k ∧ ∀ j, p a w j → k ≤ j
 have hν : ∀ a w, (∃ i, I i a w) → p a w (ν a w) ∧ ∀ j, p a w j → ν a w ≤ j := by
  rintro a w ⟨i, hi⟩
  exact Classical.epsilon_spec (Gi (p a w) ⟨μ i, i, hi, rfl⟩)
 refine wpIn_loop (fun a w => ∃ i, I i a w) ν ⟨i0, h0⟩ ?_
 intro a w hI
 obtain ⟨⟨i, hi, hμ⟩, _⟩ := hν a w hI
 refine Go.wpIn_mono (round i a w hi) ?_
 intro e a' w' h
 cases e with
 | normal =>
   obtain ⟨j, hj, aX⟩ := h
   refine ⟨⟨j, hj⟩, ?_⟩
   have := (hν a' w' ⟨j, hj⟩).2 (μ j) ⟨j, hj, rfl⟩
   omega
 | _ => exact h
def xp (P : Program) (ro lo : Option Nat) (A : Perm) (n : Nat) (L0 : List Nat) : Prop :=
 ∀ {id : Nat} {ops : Array Oper} {il : List bu} {p : wi} {live : Option (List Nat)} {an : AD} {M : Mem} {L : List Nat} {w : World} {H : List aa} {env : Env} {O : Pos → Option Nat} {a : Act} {M0 : Mem} {w0 : World} {Q : Exit → Env → List aa → Prop},
  P.follows .mixedOrders = true → kD (ops.toList.map fun o => ju o.after.toList) (eO ops.toList []) il ops.size 0 none p = true → eD P ops an n id false (ops.size + 1) 0 ops.toList = some il → mb ⟨P, lo⟩ L0.length (.draw (inst il p) live) env H Q → Fr A n M L w H env O a → Ext A M0 w0 M w → L0 <+: L → (Code.region id ops true).wpIn (wf ro) 0 P (Ds A n M0 L0 w0 Q) a w
theorem A8 {L0 : List Nat} (hA : fz lo L0.length A) {f : Operand} {ps : Array Tmp} {as bd : Code} {an : AD} {lv : l7} {pl : l8} {i : IX} (hi : aP f = some i) {Q : Exit → Env → List aa → Prop}
 (wg : Own ro w) (h : mb ⟨P, lo⟩ L0.length (.iK i ⟨n, ps.toList, as, bd, an, lv, pl⟩) env H Q) (hf : Fr A n M L w H env O a) (hL : L0 <+: L) : (Code.rangeFunc f ps as bd).wpIn (wf ro) 0 P (Ds A n M L0 w Q) a w := by
 have K3 := hf.eval hi
 simp only [mb] at h
 split at h <;> try exact h.elim
 rename_i g first cap TP
 obtain ⟨hcf, bO, hle, hcall⟩ := h
 rw [TP] at K3
 generalize hu : a.eval f = u at K3
 cases K3 with
 | fn _ fs cs _ _ yV qV =>
 refine wpIn_rangeFunc fun fn _ => ?_
 -- the record
 have enter : ∃ (l : Nat) (mark : List Deferred) (w1 : World) (A1 : Perm), (Instr.enterLoop fn a.tmps ps as bd ro).run P w = .ok (l, mark) w1 ∧ A1.Le A ∧
  Fr A1 n M (L ++ [l]) w1 (H ++ [.loop .ready ⟨n, ps.toList, as, bd, an, lv, pl⟩ (kg n env)]) env O { a with defers := mark ++ a.defers } ∧ Ext A M w M w1 := by
  have yO : aJ M L a.tmps.toList (kg n env) := by
   refine aJ.yz (by simp [kg, hf.size]) fun j x hx => ?_
   simp only [kg, List.getElem?_map] at hx
   obtain ⟨t, ht, rfl⟩ := Option.map_eq_some_iff.1 hx
   obtain ⟨mA, rfl⟩ := List.getElem?_eq_some_iff.1 ht
   simp only [List.length_range] at mA
   simp only [List.getElem_range]
   have := (hf.st.env j).ab
   refine ⟨a.tmps.getD j undef, ?_, this⟩
   rw [Array.getD_eq_getD_getElem?, Array.getElem?_toList, Array.getElem?_eq_getElem (by rw [hf.size]; exact mA)]
   rfl
  have nF : (aa.loop .ready ⟨n, ps.toList, as, bd, an, lv, pl⟩ (kg n env)).a7 (H.length + 1) = true := by
   simp only [aa.a7]
   have := yO.LJ
   rw [hf.st.len] at this
   exact bF (by omega) _ this
  cases ro with
  | none =>
    have hg := hf.st.grow (w' := { w with heap := w.heap.push (.deferred (some [])) }) (Mem.bM M) (fun b o v hv => by
     have h1 := hf.st.mem b o v hv
     simp only [World.cell?] at h1 ⊢
     cases hb : w.heap[b]? with
     | none => rw [hb] at h1; simp at h1
     | some ob => rw [dX w _ (Array.getElem?_eq_some_iff.1 hb).1]; exact h1) (by simp) (fun b hb => dX w _ hb) (fun _ _ _ => rfl)
    have sy : Ext A M w M { w with heap := w.heap.push (.deferred (some [])) } := Ext.grow (Mem.bM M) (by simp) rfl rfl rfl (fun b hb => dX w _ hb) (fun _ _ _ => rfl)
    have hb := hg.TR (D := w.heap.size) (fun hm => by have := hf.st.lt _ hm; omega) (fun p hp => by have := hf.st.eT _ _ hp; omega) (by simp)
    obtain ⟨g1, g2⟩ := hb.qP (.loop { state := .ready, pending := none, fn, tmps := a.tmps, params := ps, assign := as, body := bd, defers := w.heap.size }) (.loop .ready ⟨n, ps.toList, as, bd, an, lv, pl⟩ (kg n env))
     (fun w' Ij _ => ⟨_, Ij, (Array.toArray_toList).symm, rfl, rfl, yO.mono (Mem.bM M) ⟨_, rfl⟩, rfl, rfl⟩) nF (fun j => rfl)
    refine ⟨w.heap.size + 1, _, _, A.TR w.heap.size, run_enterLoop_outer _ _ _ _ _, A.yX _, ⟨?_, hf.size, ?_⟩, ?_⟩
    ·have e1 : ({ w with heap := w.heap.push (.deferred (some [])) } : World).heap.size = w.heap.size + 1 := by simp
     rw [e1] at g1
     exact g1
    ·have old := ((hf.defers.ext sy).le (A.yX w.heap.size)).ext g2
     refine ⟨old.1, ?_, fun d hd => ?_⟩
     ·show (_ :: a.defers).Nodup
      rw [List.nodup_cons]
      refine ⟨fun hm => ?_, old.2.1⟩
      obtain ⟨D, e, hD, _⟩ := hf.defers.2.2 _ hm
      cases e
      have := (Array.getElem?_eq_some_iff.1 hD).1
      omega
     rcases List.mem_append.1 hd with hd | hd
     ·rw [List.mem_singleton] at hd
      subst hd
      refine ⟨w.heap.size, rfl, ?_, (fun h => h.2 rfl), (show A.base ≤ w.heap.size from hf.defers.1)⟩
      show ((w.heap.push _).push _)[w.heap.size]? = _
      rw [Array.getElem?_push_lt (by simp)]
      simp
     ·exact old.2.2 d hd
    ·exact sy.trans (g2.le (A.yX _))
  | some l0 =>
    obtain ⟨r0, Yr⟩ := wg l0 rfl
    obtain ⟨g1, g2⟩ := hf.st.qP (.loop { state := .ready, pending := none, fn, tmps := a.tmps, params := ps, assign := as, body := bd, defers := r0.defers }) (.loop .ready ⟨n, ps.toList, as, bd, an, lv, pl⟩ (kg n env))
     (fun w' Ij _ => ⟨_, Ij, (Array.toArray_toList).symm, rfl, rfl, yO.mono (Mem.bM M) ⟨_, rfl⟩, rfl, rfl⟩) nF (fun j => rfl)
    exact ⟨w.heap.size, [], _, A, run_enterLoop_inner Yr _ _ _ _ _, Perm.Le.refl A, ⟨g1, hf.size, by simpa using hf.defers.ext g2⟩, g2⟩
 obtain ⟨l, mark, w1, A1, he, Dw, EN, sy⟩ := enter
 have K5 : L.length = H.length := hf.st.len
 have tb : (L ++ [l])[H.length]? = some l := by rw [← K5]; simp
 have P5 : fz lo L0.length A1 := hA.le Dw
 obtain ⟨loose, ud, hcall⟩ : ∃ loose : Bool, (loose = true → ∀ id, (H ++ [aa.loop .ready ⟨n, ps.toList, as, bd, an, lv, pl⟩ (kg n env)]).length ≤ id → A1.top id = none) ∧
  kc loose P g bO (H ++ [.loop .ready ⟨n, ps.toList, as, bd, an, lv, pl⟩ (kg n env)]) fun _ H' => behind H.length H' fun j H'' => oR j Q env H'' := by
  unfold dY at hcall
  split at hcall
  ·exact ⟨false, by simp, hcall⟩
  ·rename_i l' wF
   rcases hcall with hcall | ⟨h1, hcall⟩
   ·exact ⟨false, by simp, hcall⟩
   ·exact ⟨true, fun _ id bm => P5.opens l' wF id (by omega), hcall⟩
 have hry : aJ M (L ++ [l]) (fs ++ [.func (.yield l) #[] #[]]) (first ++ [.mC H.length]) :=
  (yV.mono (Mem.bM M) ⟨_, rfl⟩).append (.one (.mC l _ tb))
 obtain ⟨Oc, pB, bP, fin⟩ := qX (o := (⟨none, .move f, 0, "", #[], none⟩ : Oper)) (K := fun aD H' => aD = env ∧ behind H.length H' fun j H'' => oR j Q env H'') (xs := []) (js := []) rfl (pass := none) hry (qV.mono (Mem.bM M) ⟨[l], rfl⟩)
  (by simpa [aH, AV.ab] using hle) EN (fun d e => by cases e) ud
 obtain ⟨vs, wv⟩ : ∃ vs : List Value, vs = fs ++ [.func (.yield l) #[] #[]] ++ cs := ⟨_, rfl⟩
 simp only [List.map_nil, List.append_nil] at pB bP
 rw [← wv] at pB bP
 refine ⟨l, mark, w1, { target := .fn (.func g) cs.toArray, args := fs.toArray ++ #[.func (.yield l) #[] #[]] }, w1, g, vs.toArray, w1, he, ?_, fun _ _ => trivial, ?_, (fun h => by cases h), ?_⟩
 ·have ec : a.eval (.const (.func (.yield l) #[] #[])) = .func (.yield l) #[] #[] := rfl
  simp [resolve, hu, Deferred.ofValue, ec]
 ·have e1 : (fs.toArray ++ #[.func (.yield l) #[] #[]] ++ cs.toArray : Array Value) = vs.toArray := by
   apply Array.ext'; simp [wv]
  simp only [invoke]
  rw [e1]
  exact hcf _ _
 ·rcases hcall (dk A1 loose (H ++ [aa.loop .ready ⟨n, ps.toList, as, bd, an, lv, pl⟩ (kg n env)]) (L ++ [l]) Oc w1) M (L ++ [l]) w1 vs.toArray Oc (ke A1 loose _ _ Oc w1) (by simpa using pB) bP with ⟨_, hc⟩ | ⟨v, w', r, H', M', L', O', h1, _⟩
  ·have oo : CallsIn (wf ro) (0 - 1) P g vs.toArray w1 _ := callsIn_wide.2 hc
   refine CallsIn.mono oo fun e w' he => ?_
   obtain ⟨v, r, H', M', L', O', rfl, hK, lm, cr, TU⟩ := he
   obtain ⟨M2, L2, H2, cH, O2, ⟨rfl, hb⟩, sq, Oz, P6⟩ := fin v r H' M' L' O' w' ⟨rfl, hK⟩ lm cr TU
   have nI : L2[H.length]? = some l := fF P6 tb
   have k8 : L0 <+: L2 := hL.trans ((List.prefix_append L [l]).trans P6)
   unfold behind at hb
   split at hb
   ·rename_i lc es Dx
    obtain ⟨r, q1, q2, q3, q4, q5, q6⟩ := sq.st.obj _ _ l Dx nI
    obtain ⟨k1, k2⟩ := sq.st.nL (st' := .ew) (r' := { r with state := .exhausted }) Dx nI (fun r2 qV => by rw [q1] at qV; cases qV; exact ⟨rfl, rfl, rfl, rfl, rfl, trivial⟩)
    exact ⟨none, _, (run_endLoop q1 (by rw [q6.1]; simp)).trans (congrArg (fun p => Result.ok p _) q6.2), A1, M2, L2, _, cH, O2, Dw, hb, ⟨k1, sq.size, sq.defers.ext k2⟩, sy.trans ((Oz.trans k2).le Dw), k8⟩
   ·rename_i c lc es Dx
    obtain ⟨r, q1, q2, q3, q4, q5, q6⟩ := sq.st.obj _ _ l Dx nI
    obtain ⟨k1, k2⟩ := sq.st.nL (st' := .ew) (r' := { r with state := .exhausted }) Dx nI (fun r2 qV => by rw [q1] at qV; cases qV; exact ⟨rfl, rfl, rfl, rfl, rfl, trivial⟩)
    refine ⟨some c, _, (run_endLoop q1 (by rw [q6.1]; simp)).trans (congrArg (fun p => Result.ok p _) q6.2), ?_⟩
    unfold oR at hb
    split at hb
    ·rename_i e; cases e
    ·rename_i e; cases e
     exact wpIn_ret ⟨A1, M2, L2, _, cH, O2, Dw, hb, ⟨k1, sq.size, sq.defers.ext k2⟩, sy.trans ((Oz.trans k2).le Dw), k8⟩
    ·rename_i e; cases e
     exact wpIn_exit ⟨A1, M2, L2, _, cH, O2, Dw, hb, ⟨k1, sq.size, sq.defers.ext k2⟩, sy.trans ((Oz.trans k2).le Dw), k8⟩
    ·exact hb.elim
   ·exact hb.elim
  ·rw [hcf] at h1; cases h1
theorem sound {L0 : List Nat} (hdraw : ∀ A, fz lo L0.length A → xp P ro lo A n L0) {an : AD} {lv : l7} {pl : l8} : ∀ (c : Code) (ir : IR), comp P an lv pl n c = some ir → ∀ {A : Perm} {M : Mem} {L : List Nat} {w : World} {H : List aa} {env : Env} {O : Pos → Option Nat} {a : Act} {Q : Exit → Env → List aa → Prop},
 fz lo L0.length A → Own ro w → mb ⟨P, lo⟩ L0.length ir env H Q → Fr A n M L w H env O a → L0 <+: L → c.wpIn (wf ro) 0 P (Ds A n M L0 w Q) a w := by
 intro c
 induction c with
 | skip =>
   intro ir hc A M L w H env O a Q hA wg h hf hL
   simp only [comp] at hc; cases hc
   exact wpIn_skip ⟨A, M, L, H, env, O, .refl A, h, hf, Ext.refl A M w, hL⟩
 | exit id =>
   intro ir hc A M L w H env O a Q hA wg h hf hL
   simp only [comp] at hc; cases hc
   exact wpIn_exit ⟨A, M, L, H, env, O, .refl A, h, hf, Ext.refl A M w, hL⟩
 | ret =>
   intro ir hc A M L w H env O a Q hA wg h hf hL
   simp only [comp] at hc; cases hc
   exact wpIn_ret ⟨A, M, L, H, env, O, .refl A, h, hf, Ext.refl A M w, hL⟩
 | region id ops draw =>
   intro ir hc A M L w H env O a Q hA wg h hf hL
   cases draw with
   | true =>
     simp only [comp] at hc
     split at hc <;> try cases hc
     rename_i il Aw
     split at hc <;> cases hc
     rename_i hm
     exact hdraw A hA hm.1 hm.2 Aw h hf (Ext.refl A M w) hL
   | false =>
     simp only [comp] at hc
     obtain ⟨il, Aw, rfl⟩ := Option.map_eq_some_iff.1 hc
     simp only [mb] at h
     refine wpIn_region_list (oS hA.opens _ _ _ _ _ Aw _ hf h ?_)
     rintro a' w' ⟨M', L', H', aD, O', h1, h2, h3, h4⟩
     obtain ⟨O'', h5⟩ := h2.weaken (xn (lv.at_ id) aD)
     exact ⟨A, M', L', H', _, O'', .refl A, h1, h5, h3, hL.trans h4⟩
 | seq x y ihx ihy =>
   intro ir hc A M L w H env O a Q hA wg h hf hL
   simp only [comp] at hc
   split at hc <;> cases hc
   rename_i x' y' hx hy
   simp only [mb] at h
   refine wpIn_seq (Go.wpIn_mono (ihx _ hx hA wg h hf hL) ?_)
   rintro e a' w' ⟨A', M', L', H', aD, O', hl, h1, h2, h3, h4⟩
   cases e with
   | normal => exact Go.wpIn_mono (ihy _ hy (hA.le hl) (wg.ext h3) h1 h2 h4) fun e a w hp => hp.trans hl h3
   | _ => exact ⟨A', M', L', H', aD, O', hl, h1, h2, h3, h4⟩
 | cond x c d ihc Ys =>
   intro ir hc A M L w H env O a Q hA wg h hf hL
   simp only [comp] at hc
   split at hc <;> cases hc
   rename_i i c' d' hi Gj Xz
   simp only [mb] at h
   obtain ⟨q, hq, h⟩ := nK h
   have hr := hf.eval hi
   rw [hq] at hr
   generalize hu : a.eval x = u at hr
   cases hr
   refine wpIn_cond_split hu (fun e => ihc _ Gj hA wg (h.1 e) hf hL) (fun e => Ys _ Xz hA wg (h.2 e) hf hL)
 | block id c ih =>
   intro ir hc A M L w H env O a Q hA wg h hf hL
   simp only [comp] at hc
   obtain ⟨c', Gj, rfl⟩ := Option.map_eq_some_iff.1 hc
   simp only [mb] at h
   refine wpIn_block (Go.wpIn_mono (ih _ Gj hA wg h hf hL) ?_)
   rintro e a' w' ⟨A', M', L', H', aD, O', hl, h1, h2, h3, h4⟩
   cases e with
   | exit id' =>
     simp only [Exit.inBlock]
     simp only at h1
     split at h1
     ·rename_i e; rw [if_pos e]; exact ⟨A', M', L', H', aD, O', hl, h1, h2, h3, h4⟩
     ·rename_i e; rw [if_neg e]; exact ⟨A', M', L', H', aD, O', hl, h1, h2, h3, h4⟩
   | _ => exact ⟨A', M', L', H', aD, O', hl, h1, h2, h3, h4⟩
 | loop c ih =>
   intro ir hc A M L w H env O a Q hA wg h hf hL
   simp only [comp] at hc
   obtain ⟨c', Gj, rfl⟩ := Option.map_eq_some_iff.1 hc
   simp only [mb] at h
   obtain ⟨ι, I, se, sh, μ, ⟨i0, tw, Yt⟩, hround⟩ := h
   obtain ⟨L', O', oQ, TU⟩ := hf.sle hA hL Yt
   refine yZ (fun i a' w' => I i ∧ ∃ A' M' L' O', A'.Le A ∧ Fr A' n M' L' w' (sh i) (se i) O' a' ∧ Ext A M w M' w' ∧ L0 <+: L') μ ?_ i0 ⟨tw, A, M, L', O', .refl A, oQ, Ext.refl A M w, TU⟩
   rintro i a1 w1 ⟨hi, A1, M1, L1, O1, tb, EN, sy, XA⟩
   refine Go.wpIn_mono (ih _ Gj (hA.le tb) (wg.ext sy) (hround i hi) EN XA) ?_
   rintro e a' w' ⟨A', M', L', H', aD, O', hl, h1, h2, h3, h4⟩
   cases e with
   | normal =>
     obtain ⟨j, hj, aX, hs⟩ := h1
     obtain ⟨L2, O2, sq, P6⟩ := h2.sle ((hA.le tb).le hl) h4 hs
     exact ⟨j, ⟨hj, A', M', L2, O2, hl.trans tb, sq, sy.trans (h3.le tb), P6⟩, aX⟩
   | _ => exact ⟨A', M', L', H', aD, O', hl.trans tb, h1, h2, sy.trans (h3.le tb), h4⟩
 | rangeFunc f ps as bd =>
   intro ir hc A M L w H env O a Q hA wg h hf hL
   simp only [comp] at hc
   obtain ⟨i, hi, rfl⟩ := Option.map_eq_some_iff.1 hc
   exact A8 hA hi wg h hf hL
 | _ =>
   intro ir hc A M L w H env O a Q hA wg h
   simp only [comp] at hc
   cases hc
   exact h.elim
end
end Go.aK
end
section
namespace Go.aK
open Go
section
variable {φ ψ : AV → Prop} (hm : ∀ z, φ z → ψ z)
include hm
theorem rb {op : BinOp} {x y : AV} (h : cV op x y φ) : cV op x y ψ := by
 unfold cV at *
 split at h <;> (try exact h.elim)
 ·obtain ⟨h0, h⟩ := h
  refine ⟨h0, ?_⟩
  split at h <;> first | exact hm _ h | exact ⟨h.1, hm _ h.2⟩ | exact h.elim
 ·split at h <;> first | exact hm _ h | exact ⟨h.1, hm _ h.2⟩ | exact h.elim
theorem mP {op : BinOp} {x y : AV} (h : dN op x y φ) : dN op x y ψ := by
 unfold dN at *
 split at h <;> (try exact h.elim)
 obtain ⟨h0, h⟩ := h
 refine ⟨h0, ?_⟩
 split at h <;> first | exact hm _ h | exact h.elim
theorem lA {neq : Bool} {x y : AV} (h : cM neq x y φ) : cM neq x y ψ := by
 unfold cM at *
 split at h <;> first | exact hm _ h | exact h.elim
theorem sA {kd : Nat} {neq : Bool} {x : AV} (h : dc kd neq x φ) : dc kd neq x ψ := by
 unfold dc at *
 split at h
 ·exact hm _ h
 ·split at h
  ·exact ⟨hm _ h.1, hm _ h.2⟩
  ·exact h.elim
theorem uy {op : UnOp} {x : AV} (h : yE op x φ) : yE op x ψ := by
 unfold yE at *
 split at h <;> first | exact hm _ h | exact h.elim
theorem jv {sz : Option Nat} {x : AV} {H : List aa} (h : aS sz x H φ) : aS sz x H ψ := by
 unfold aS at *
 split at h <;> (try exact h.elim) <;> (split at h <;> (try exact h.elim)) <;> first | exact ⟨h.1, hm _ h.2⟩ | (split at h <;> exact ⟨h.1, hm _ h.2⟩)
theorem mQ {off : Nat} {sz : Option Nat} {x : AV} (h : eJ off sz x φ) : eJ off sz x ψ := by
 unfold eJ apart at *
 split at h <;> (try exact h.elim)
 split at h <;> first | exact ⟨h.1, hm _ h.2⟩ | exact ⟨h.1, h.2.1, hm _ h.2.2⟩
theorem iM {off : Nat} {sz : Option Nat} {x : AV} (h : ak off sz x φ) : ak off sz x ψ := by
 unfold ak apart at *
 split at h <;> (try exact h.elim)
 ·exact hm _ h
 ·split at h <;> first | exact ⟨h.1, hm _ h.2⟩ | exact ⟨h.1, h.2.1, hm _ h.2.2⟩
theorem iN {esz : Nat} {x i : AV} (h : ay esz x i φ) : ay esz x i ψ := by
 unfold ay at *
 split at h <;> first | exact ⟨h.1, h.2.1, hm _ h.2.2⟩ | exact h.elim
theorem jw {x i : AV} (h : bH x i φ) : bH x i ψ := by
 unfold bH at *
 split at h <;> first | exact ⟨h.1, h.2.1, hm _ h.2.2⟩ | exact h.elim
theorem jy {n : Nat} {x i : AV} (h : bQ n x i φ) : bQ n x i ψ := by
 unfold bQ at *
 split at h <;> first | exact ⟨h.1, h.2.1, h.2.2.1, hm _ h.2.2.2⟩ | exact h.elim
theorem rc {x : AV} {H : List aa} (h : eW x H φ) : eW x H ψ := by
 unfold eW at *
 split at h <;> (try exact h.elim) <;> (try exact hm _ h)
 ·exact fun hl => hm _ (h hl)
 ·split at h <;> first | exact hm _ h | exact h.elim
theorem kh {x : AV} {i : Nat} (h : bC x i φ) : bC x i ψ := by
 unfold bC at *
 split at h <;> first | exact ⟨h.1, hm _ h.2⟩ | exact h.elim
theorem jz {x : AV} (h : bR x φ) : bR x ψ := by
 unfold bR at *
 split at h <;> first | exact hm _ h | exact h.elim
theorem kj {k : IntKind} {x : AV} (h : cq k x φ) : cq k x ψ := by
 unfold cq at *
 split at h <;> first | exact hm _ h | exact h.elim
theorem uz {big : Bool} {x y : AV} (h : wj big x y φ) : wj big x y ψ := by
 unfold wj at *
 split at h <;> first | exact hm _ h | exact h.elim
theorem oA {x : AV} (h : fw x φ) : fw x ψ := by
 unfold fw at *
 split at h <;> first | exact hm _ h | exact h.elim
theorem oB {own : Nat} {x : AV} (h : eN own x φ) : eN own x ψ := by
 unfold eN at *
 split at h <;> first | exact ⟨h.1, hm _ h.2⟩ | exact h.elim
theorem sB {x : AV} (h : jo x φ) : jo x ψ := by
 unfold jo at *
 split at h <;> first | exact hm _ h | exact ⟨_, h.choose_spec.1, hm _ h.choose_spec.2⟩ | (obtain ⟨l, h1, h2⟩ := h; exact ⟨l, h1, hm _ h2⟩) | exact ⟨h.1, hm _ h.2⟩ | exact h.elim
theorem sC {esz bytes : Nat} {n : AV} (h : iI esz bytes n φ) : iI esz bytes n ψ := by
 unfold iI at *
 split at h <;> first | exact ⟨h.1, h.2.1, hm _ h.2.2⟩ | exact h.elim
theorem lB {kd : Nat} {z m k : AV} {ok : Bool} {H : List aa} (h : cb kd z m k ok H φ) : cb kd z m k ok H ψ := by
 unfold cb at *
 split at h <;> (try exact h.elim) <;> first | exact hm _ h | exact ⟨h.1, hm _ h.2⟩ | (split at h <;> (try exact h.elim) <;> first | exact hm _ h | exact ⟨h.1, hm _ h.2⟩ | (split at h <;> (try exact h.elim) <;> first | exact hm _ h | exact ⟨h.1, hm _ h.2⟩))
end
theorem eu {x : Option AV} {d : Nat} {φ ψ : Nat → Prop} (hm : ∀ k, φ k → ψ k) (h : dH x d φ) : dH x d ψ := by
 unfold dH at *
 split at h <;> first | exact hm _ h | exact ⟨h.1, hm _ h.2⟩ | exact h.elim
theorem sD {esz : Nat} {x : AV} {lo hi mx : Option AV} {φ ψ : AV → Prop} (hm : ∀ z, φ z → ψ z) (h : eM esz x lo hi mx φ) : eM esz x lo hi mx ψ := by
 unfold eM at *
 split at h <;> (try exact h.elim)
 refine eu (fun k h => eu (fun l h => ⟨h.1, h.2.1, ?_⟩) h) h
 obtain ⟨_, _, h⟩ := h
 split at h
 ·exact hm _ h
 ·exact ⟨h.1, eu (fun m h => ⟨h.1, h.2.1, hm _ h.2.2⟩) h.2⟩
theorem lC {esz : Nat} {x : AV} {lo hi mx : Option AV} {φ ψ : AV → Prop} (hm : ∀ z, φ z → ψ z) (h : bn esz x lo hi mx φ) : bn esz x lo hi mx ψ := by
 unfold bn gk nH at *
 split at h
 ·split at h
  ·exact eu (fun k h => eu (fun l h => ⟨h.1, h.2.1, hm _ h.2.2⟩) h) h
  ·exact ⟨h.1, eu (fun m h => eu (fun k h => eu (fun l h => ⟨h.1, h.2.1, h.2.2.1, hm _ h.2.2.2⟩) h) h) h.2⟩
 ·exact ⟨h.1, sD hm h.2⟩
theorem jA {x : AV} {lo hi : Option AV} {φ ψ : AV → Prop} (hm : ∀ z, φ z → ψ z) (h : b7 x lo hi φ) : b7 x lo hi ψ := by
 unfold b7 at *
 split at h <;> (try exact h.elim)
 exact eu (fun k h => eu (fun l h => ⟨h.1, h.2.1, hm _ h.2.2⟩) h) h
theorem lD {φ ψ : List AV → Prop} (hm : ∀ z, φ z → ψ z) : ∀ {ps : List (Nat × Nat × AV)} {zs : List AV}, gI zs ps φ → gI zs ps ψ
 | [], zs, h => hm _ h
 | (off, sz, x) :: r, zs, h => ⟨h.1, h.2.1, h.2.2.1, lD hm h.2.2.2⟩
theorem gn {esz : Nat} {φ ψ : List AV → Prop} (hm : ∀ z, φ z → ψ z) : ∀ {ps : List (Nat × AV)} {zs : List AV}, bh zs esz ps φ → bh zs esz ps ψ
 | [], zs, h => hm _ h
 | (i, x) :: r, zs, h => ⟨h.1, h.2.1, h.2.2.1, gn hm h.2.2.2⟩
def P7 (τ : Nat → AV) (dst : Option Nat) (x : AV) : Nat → AV := match dst with | some d => fe τ d x | none => τ
theorem jR (env : Env) (dst : Option Nat) (x : AV) : get (put dst x env) = P7 (get env) dst x := by cases dst <;> rfl
theorem mR {lo : Option IX} {env : Env} {ρ : IX → AV} (h : ∀ i ∈ lo.toList, al env i = ρ i) : lo.map ρ = fX env lo := by
 cases lo with
 | none => rfl
 | some i => simp [fX, h i (by simp)]
theorem mS {is : List IX} {env : Env} {ρ : IX → AV} (h : ∀ i ∈ is, al env i = ρ i) (g : AV → AV) : (is.map fun x => g (al env x)) = is.map fun x => g (ρ x) := by
 apply List.map_congr_left
 intro i hi
 rw [h i hi]
theorem mT (env : Env) : ∀ (is : List IX) (j : Nat), aH env none j is = is.map fun x => (al env x).ab
 | [], _ => rfl
 | .t s :: r, j => by simp [aH, mT env r, al]
 | .c v :: r, j => by simp [aH, mT env r, al]
theorem A9 {P : Px} {o : bW} {dst : Option Nat} {ρ : IX → AV} {env : Env} {H : List aa} {x : AV} (h : cS P o ρ H x) (hρ : ∀ i ∈ o.all, al env i = ρ i) :
 bt P o dst env H fun e h => h = H ∧ get e = get (put dst x env) := by
 have key : ∀ z, z = x → (H = H ∧ get (put dst z env) = get (put dst x env)) := fun z e => ⟨rfl, e ▸ rfl⟩
 cases o with
 | set i take =>
   cases take with
   | true => exact h.elim
   | false =>
     simp only [cS, bW.all, List.mem_singleton, forall_eq] at h hρ
     rw [← hρ] at h
     unfold bt
     cases dst with
     | none => exact ⟨rfl, rfl⟩
     | some d =>
       subst h
       refine ⟨rfl, ?_⟩
       cases i <;> rfl
 | pick c a b =>
   simp only [cS, bW.all, List.mem_cons, List.not_mem_nil, or_false, forall_eq_or_imp, forall_eq] at h hρ
   obtain ⟨h1, h2, h3⟩ := hρ
   rw [← h1, ← h2, ← h3] at h
   obtain ⟨q, hq, h⟩ := nK h
   show eI (al env c) _
   rw [hq]
   exact ⟨fun e => key _ (h.1 e), fun e => key _ (h.2 e)⟩
 | bin op i j =>
   simp only [cS, bW.all, List.mem_cons, List.not_mem_nil, or_false, forall_eq_or_imp, forall_eq] at h hρ
   obtain ⟨h1, h2⟩ := hρ
   rw [← h1, ← h2] at h
   exact rb key h
 | shift op i j =>
   simp only [cS, bW.all, List.mem_cons, List.not_mem_nil, or_false, forall_eq_or_imp, forall_eq] at h hρ
   obtain ⟨h1, h2⟩ := hρ
   rw [← h1, ← h2] at h
   exact mP key h
 | gO neq i j =>
   simp only [cS, bW.all, List.mem_cons, List.not_mem_nil, or_false, forall_eq_or_imp, forall_eq] at h hρ
   obtain ⟨h1, h2⟩ := hρ
   rw [← h1, ← h2] at h
   exact lA key h
 | mx big i j =>
   simp only [cS, bW.all, List.mem_cons, List.not_mem_nil, or_false, forall_eq_or_imp, forall_eq] at h hρ
   obtain ⟨h1, h2⟩ := hρ
   rw [← h1, ← h2] at h
   exact uz key h
 | indexAddr esz i j =>
   simp only [cS, bW.all, List.mem_cons, List.not_mem_nil, or_false, forall_eq_or_imp, forall_eq] at h hρ
   obtain ⟨h1, h2⟩ := hρ
   rw [← h1, ← h2] at h
   exact ⟨h.1, iN key h.2⟩
 | c8 i j =>
   simp only [cS, bW.all, List.mem_cons, List.not_mem_nil, or_false, forall_eq_or_imp, forall_eq] at h hρ
   obtain ⟨h1, h2⟩ := hρ
   rw [← h1, ← h2] at h
   exact jw key h
 | dL n i j =>
   simp only [cS, bW.all, List.mem_cons, List.not_mem_nil, or_false, forall_eq_or_imp, forall_eq] at h hρ
   obtain ⟨h1, h2⟩ := hρ
   rw [← h1, ← h2] at h
   exact jy key h
 | lookup kd z i j ok =>
   simp only [cS, bW.all, List.mem_cons, List.not_mem_nil, or_false, forall_eq_or_imp, forall_eq] at h hρ
   obtain ⟨h1, h2⟩ := hρ
   rw [← h1, ← h2] at h
   exact lB key h
 | iT kd neq i =>
   simp only [cS, bW.all, List.mem_singleton, forall_eq] at h hρ
   rw [← hρ] at h
   exact sA key h
 | un op i =>
   simp only [cS, bW.all, List.mem_singleton, forall_eq] at h hρ
   rw [← hρ] at h
   exact uy key h
 | k9 i =>
   simp only [cS, bW.all, List.mem_singleton, forall_eq] at h hρ
   rw [← hρ] at h
   exact ⟨h.1, key _ h.2⟩
 | load sz i =>
   simp only [cS, bW.all, List.mem_singleton, forall_eq] at h hρ
   rw [← hρ] at h
   exact jv key h
 | nilCheck i =>
   simp only [cS, bW.all, List.mem_singleton, forall_eq] at h hρ
   rw [← hρ] at h
   exact jz key h
 | fieldAddr off sz i =>
   simp only [cS, bW.all, List.mem_singleton, forall_eq] at h hρ
   rw [← hρ] at h
   exact iM key h
 | field off sz i =>
   simp only [cS, bW.all, List.mem_singleton, forall_eq] at h hρ
   rw [← hρ] at h
   exact mQ key h
 | len kd i =>
   simp only [cS, bW.all, List.mem_singleton, forall_eq] at h hρ
   rw [← hρ] at h
   exact ⟨h.1, rc key h.2⟩
 | extract i k =>
   simp only [cS, bW.all, List.mem_singleton, forall_eq] at h hρ
   rw [← hρ] at h
   exact kh key h
 | eC k i =>
   simp only [cS, bW.all, List.mem_singleton, forall_eq] at h hρ
   rw [← hρ] at h
   exact kj key h
 | gg i =>
   simp only [cS, bW.all, List.mem_singleton, forall_eq] at h hρ
   rw [← hρ] at h
   exact oA key h
 | bytesOf i =>
   simp only [cS, bW.all, List.mem_singleton, forall_eq] at h hρ
   rw [← hρ] at h
   exact oB key h
 | mF esz bytes i =>
   simp only [cS, bW.all, List.mem_singleton, forall_eq] at h hρ
   rw [← hρ] at h
   exact sC key h
 | strOf i =>
   simp only [cS, bW.all, List.mem_singleton, forall_eq] at h hρ
   rw [← hρ] at h
   exact sB key h
 | build z ps =>
   simp only [cS, bW.all] at h hρ
   have : (ps.map fun q => (q.1, q.2.1, al env q.2.2)) = ps.map fun q => (q.1, q.2.1, ρ q.2.2) :=
    List.map_congr_left fun q hq => by rw [hρ _ (List.mem_map.2 ⟨q, hq, rfl⟩)]
   show cC z.cells (ps.map fun q => (q.1, q.2.1, al env q.2.2)) (fun v => H = H ∧ get (put dst v env) = get (put dst x env))
   rw [this]
   exact lD (fun v h => key _ h) h
 | buildSlice own esz z len ps =>
   simp only [cS, bW.all] at h hρ
   have : (ps.map fun q => (q.1, al env q.2)) = ps.map fun q => (q.1, ρ q.2) :=
    List.map_congr_left fun q hq => by rw [hρ _ (List.mem_map.2 ⟨q, hq, rfl⟩)]
   show bh _ _ (ps.map fun q => (q.1, al env q.2)) _
   rw [this]
   exact gn (fun v h => key (.ap own v) h) h
 | slice esz i lo hi mx =>
   simp only [cS, bW.all, List.mem_cons, List.mem_append, forall_eq_or_imp] at h hρ
   obtain ⟨h1, h2⟩ := hρ
   rw [← h1, mR (fun i hi => h2 i (.inl (.inl hi))), mR (fun i hi => h2 i (.inl (.inr hi))), mR (fun i hi => h2 i (.inr hi))] at h
   exact lC key h
 | dM i lo hi =>
   simp only [cS, bW.all, List.mem_cons, List.mem_append, forall_eq_or_imp] at h hρ
   obtain ⟨h1, h2⟩ := hρ
   rw [← h1, mR (fun i hi => h2 i (.inl hi)), mR (fun i hi => h2 i (.inr hi))] at h
   exact jA key h
 | fn f first cap =>
   simp only [cS, bW.all, List.mem_append] at h hρ
   refine key _ ?_
   rw [mS (fun i hi => hρ i (.inl hi)) AV.ab, mS (fun i hi => hρ i (.inr hi)) AV.ab]
   exact h
 | call f args pass =>
   cases pass with
   | some _ => exact h.elim
   | none =>
     simp only [cS, bW.all, List.mem_cons, forall_eq_or_imp] at h hρ
     obtain ⟨h1, h2⟩ := hρ
     rw [← h1] at h
     split at h <;> try exact h.elim
     rename_i g first cap hg
     show oz P (al env f) args none env H (fun r aD H' => H' = H ∧ get (put dst r aD) = get (put dst x env))
     rw [hg]
     obtain ⟨bO, hl, hcall⟩ := h
     refine ⟨bO, ?_, dY.of <| hcall.mono ?_⟩
     ·rw [mT, mS h2 AV.ab]; exact hl
     ·rintro r H' ⟨hr, rfl⟩
      exact key r hr
 | _ => exact h.elim
end Go.aK
end
section
namespace Go.aK
open Go
theorem Ba {m : Nat} {p x : AV} {H : List aa} {K K' : List aa → Prop} (hm : ∀ H', K H' → K' H') (h : gQ m p x H K) : gQ m p x H K' := by
 unfold gQ at *
 split at h <;> (try exact h.elim)
 split at h <;> (try exact h.elim)
 exact ⟨h.1, h.2.1, h.2.2.1, h.2.2.2.1, h.2.2.2.2.1, hm _ h.2.2.2.2.2⟩
theorem wH {p x : AV} {H : List aa} {K K' : List aa → Prop} (hm : ∀ H', K H' → K' H') (h : dO p x H K) : dO p x H K' := by
 unfold dO at *
 split at h <;> (try exact h.elim)
 split at h <;> (try exact h.elim)
 exact ⟨h.1, h.2.1, h.2.2.1, hm _ h.2.2.2⟩
theorem y0 {esz bytes : Nat} {s x : AV} {φ ψ : List AV → Prop} (hm : ∀ z, φ z → ψ z) (h : bE esz bytes s x φ) : bE esz bytes s x ψ := by
 unfold bE at *
 split at h <;> (try exact h.elim)
 exact ⟨h.1, h.2.1, hm _ h.2.2⟩
theorem wI {esz bytes : Nat} {z s x : AV} {H : List aa} {K K' : AV → List aa → Prop} (hm : ∀ v H', K v H' → K' v H') (h : cG esz bytes z s x H K) : cG esz bytes z s x H K' := by
 unfold cG at *
 cases hr : dz x with
 | none =>
   rw [hr] at h
   simp only at h ⊢
   split at h <;> try exact h.elim
   rename_i id off len cap n ys wB
   cases hi : H[id]? with
   | none => rw [hi] at h; exact h.elim
   | some ob =>
     rw [hi] at h
     cases ob with
     | cells es =>
       obtain ⟨a, b, c, d, e, f⟩ := h
       exact ⟨a, b, c, d, e, hm _ _ f⟩
     | _ => exact h.elim
 | some ys =>
   rw [hr] at h
   obtain ⟨h1, h⟩ := h
   refine ⟨h1, ?_⟩
   cases s with
   | ah =>
     obtain ⟨a, b, c⟩ := h
     exact ⟨a, fun e => hm _ _ (b e), fun e cap h1 h2 => ⟨(c e cap h1 h2).1, hm _ _ (c e cap h1 h2).2⟩⟩
   | oh =>
     obtain ⟨a, b, c⟩ := h
     exact ⟨a, fun e => hm _ _ (b e), fun e cap h1 h2 => ⟨(c e cap h1 h2).1, hm _ _ (c e cap h1 h2).2⟩⟩
   | bf id off len cap =>
     simp only at h ⊢
     cases hi : H[id]? with
     | none => rw [hi] at h; exact h.elim
     | some ob =>
       rw [hi] at h
       cases ob with
       | cells es =>
         obtain ⟨a, b, c, d, f⟩ := h
         exact ⟨a, b, c, fun e => ⟨(d e).1, hm _ _ (d e).2⟩, fun e fW h1 h2 => ⟨(f e fW h1 h2).1, hm _ _ (f e fW h1 h2).2⟩⟩
       | _ => exact h.elim
   | _ => exact h.elim
theorem y7 {esz : Nat} {z x : AV} {H : List aa} {K K' : List aa → Prop} (hm : ∀ H', K H' → K' H') (h : gZ esz z x H K) : gZ esz z x H K' := by
 unfold gZ at *
 split at h <;> (try exact h.elim)
 split at h <;> (try exact h.elim)
 exact ⟨h.1, h.2.1, h.2.2.1, hm _ h.2.2.2⟩
theorem Bb {esz bytes : Nat} {z n : AV} {H : List aa} {K K' : AV → List aa → Prop} (hm : ∀ v H', K v H' → K' v H') (h : fK esz bytes z n H K) : fK esz bytes z n H K' := by
 unfold fK at *
 split at h <;> (try exact h.elim)
 exact ⟨h.1, h.2.1, h.2.2.1, hm _ _ h.2.2.2⟩
theorem y8 {kd : Nat} {m k x : AV} {H : List aa} {K K' : List aa → Prop} (hm : ∀ H', K H' → K' H') (h : eZ kd m k x H K) : eZ kd m k x H K' := by
 unfold eZ at *
 split at h <;> (try exact h.elim)
 split at h <;> (try exact h.elim)
 refine ⟨h.1, h.2.1, h.2.2.1, ?_⟩
 obtain ⟨_, _, _, h⟩ := h
 split at h
 ·exact hm _ h
 ·exact ⟨h.1, hm _ h.2⟩
 ·exact h.elim
theorem Dy {esz : Nat} {d s : AV} {H : List aa} {K K' : AV → List aa → Prop} (hm : ∀ v H', K v H' → K' v H') (h : jq esz d s H K) : jq esz d s H K' := by
 unfold jq at *
 split at h <;> (try exact h.elim)
 split at h <;> (try exact h.elim)
 exact ⟨h.1, h.2.1, h.2.2.1, hm _ _ h.2.2.2⟩
theorem jS {esz : Nat} {x : AV} {H : List aa} {K K' : AV → List aa → Prop} (hm : ∀ v H', K v H' → K' v H') (h : dD esz x H K) : dD esz x H K' := by
 unfold dD at *
 split at h
 ·split at h <;> (try exact h.elim)
  exact ⟨h.1, h.2.1, h.2.2.1, h.2.2.2.1, hm _ _ h.2.2.2.2⟩
 ·exact h.elim
 ·exact hm _ _ h
 ·exact hm _ _ h
theorem sE {esz : Nat} : ∀ {xs : List AV} {H : List aa} {K K' : List AV → List aa → Prop} (hm : ∀ v H', K v H' → K' v H') (h : jr esz xs H K), jr esz xs H K'
 | [], H, K, K', hm, h => hm _ _ h
 | x :: r, H, K, K', hm, h => jS (fun v H' hk => sE (fun vs H'' h2 => hm _ _ h2) hk) h
theorem Gk {e id c : Nat} {H : List aa} {K K' : List aa → Prop} (hm : ∀ H', K H' → K' H') (h : yR e id c H K) : yR e id c H K' := by
 unfold yR at *
 split at h <;> (try exact h.elim)
 split at h <;> (try exact h.elim)
 ·exact jS (fun v H' hk => ⟨hk.1, hk.2.1, hm _ hk.2.2⟩) h
 ·exact hm _ h
theorem uA {esz : Nat} {x : AV} {H : List aa} {K K' : AV → List aa → Prop} (hm : ∀ v H', K v H' → K' v H') (h : ff esz x H K) : ff esz x H K' := by
 unfold ff at *
 split at h
 ·exact sE (fun v H' hk => hm _ _ hk) h
 ·split at h
  ·rename_i hc; rw [if_pos hc]; exact Gk (hm _) h
  ·rename_i hc; rw [if_neg hc]; exact jS hm h
 ·exact jS hm h
theorem y9 {l m : Nat} {p x : AV} {H : List aa} {K K' : List aa → Prop} (hm : ∀ H', K H' → K' H') (h : gh l m p x H K) : gh l m p x H K' := by
 unfold gh at *
 split at h <;> (try exact h.elim)
 split at h <;> (try exact h.elim)
 exact ⟨h.1, h.2.1, h.2.2.1, h.2.2.2.1, h.2.2.2.2.1, h.2.2.2.2.2.1, hm _ h.2.2.2.2.2.2⟩
theorem mU {env1 cH : Env} {pass : Option Nat} : ∀ {is : List IX} {j : Nat}, (∀ i ∈ is, al cH i = al env1 i) → aH cH pass j is = aH env1 pass j is
 | [], _, _ => rfl
 | .t s :: r, j, h => by
   have h1 : get cH s = get env1 s := h (.t s) (by simp)
   simp only [aH, h1, mU (fun i hi => h i (List.mem_cons_of_mem _ hi))]
 | .c v :: r, j, h => by
   simp only [aH, mU (fun i hi => h i (List.mem_cons_of_mem _ hi))]
theorem fQ {lo : Option IX} {env1 cH : Env} (h : ∀ i ∈ lo.toList, al cH i = al env1 i) : fX cH lo = fX env1 lo := by
 cases lo with
 | none => rfl
 | some i => simp [fX, h i (by simp)]
theorem nM {P : Px} {o : bW} {dst : Option Nat} {env1 cH : Env} {H : List aa} {K1 K2 : Env → List aa → Prop} (hl : ∀ i ∈ o.all, al cH i = al env1 i) (h : bt P o dst env1 H K1)
 (hK : ∀ (mods : List (Nat × AV)) H', (∀ p ∈ mods, dst = some p.1 ∨ p.1 ∈ o.kill) → (o.P2 = false → H' = H) → (o.xm = true → ∃ e, H' = H ++ e) → K1 (mods ++ env1) H' → K2 (mods ++ cH) H') : bt P o dst cH H K2 := by
 have kput : ∀ z H', (o.P2 = false → H' = H) → (o.xm = true → ∃ e, H' = H ++ e) → K1 (put dst z env1) H' → K2 (put dst z cH) H' := by
  intro z H' hc hg
  cases hd : dst with
  | none => exact hK [] H' (by simp) hc hg
  | some d => exact hK [(d, z)] H' (by simp [hd]) hc hg
 have kput0 : ∀ z, K1 (put dst z env1) H → K2 (put dst z cH) H := fun z => kput z H (fun _ => rfl) (fun _ => ⟨[], by simp⟩)
 have kenv : ∀ H', (o.P2 = false → H' = H) → (o.xm = true → ∃ e, H' = H ++ e) → K1 env1 H' → K2 cH H' := fun H' hc hg => hK [] H' (by simp) hc hg
 cases o with
 | set i take =>
   simp only [bW.all, List.mem_singleton, forall_eq] at hl
   simp only [bt] at h ⊢
   cases dst with
   | none => exact kenv H (fun _ => rfl) (fun _ => ⟨[], by simp⟩) h
   | some d =>
     simp only at h ⊢
     cases i with
     | c v => cases take <;> exact kput0 _ h
     | t s =>
       have hs : get cH s = get env1 s := hl
       cases take with
       | false =>
         have e1 : sW env1 d (.t s) false = put (some d) (get env1 s).ab env1 := rfl
         have e2 : sW cH d (.t s) false = put (some d) (get env1 s).ab cH := by simp only [sW, put, al, hs]
         rw [e2]; rw [e1] at h
         exact kput0 _ h
       | true =>
         have e1 : sW env1 d (.t s) true = [(d, get env1 s), (s, (get env1 s).ab)] ++ env1 := rfl
         have e2 : sW cH d (.t s) true = [(d, get env1 s), (s, (get env1 s).ab)] ++ cH := by simp only [sW, hs]; rfl
         rw [e2]; rw [e1] at h
         exact hK _ H (by simp [bW.kill]) (fun _ => rfl) (fun _ => ⟨[], by simp⟩) h
 | pick c a b =>
   simp only [bW.all, List.mem_cons, List.not_mem_nil, or_false, forall_eq_or_imp, forall_eq] at hl
   obtain ⟨h1, h2, h3⟩ := hl
   simp only [bt] at h ⊢
   rw [h1, h2, h3]
   obtain ⟨q, hq, h⟩ := nK h
   rw [hq]
   exact ⟨fun e => kput0 _ (h.1 e), fun e => kput0 _ (h.2 e)⟩
 | bin op i j =>
   simp only [bW.all, List.mem_cons, List.not_mem_nil, or_false, forall_eq_or_imp, forall_eq] at hl
   simp only [bt] at h ⊢
   rw [hl.1, hl.2]
   exact rb kput0 h
 | shift op i j =>
   simp only [bW.all, List.mem_cons, List.not_mem_nil, or_false, forall_eq_or_imp, forall_eq] at hl
   simp only [bt] at h ⊢
   rw [hl.1, hl.2]
   exact mP kput0 h
 | gO neq i j =>
   simp only [bW.all, List.mem_cons, List.not_mem_nil, or_false, forall_eq_or_imp, forall_eq] at hl
   simp only [bt] at h ⊢
   rw [hl.1, hl.2]
   exact lA kput0 h
 | indexAddr esz i j =>
   simp only [bW.all, List.mem_cons, List.not_mem_nil, or_false, forall_eq_or_imp, forall_eq] at hl
   simp only [bt] at h ⊢
   rw [hl.1, hl.2]
   exact ⟨h.1, iN kput0 h.2⟩
 | c8 i j =>
   simp only [bW.all, List.mem_cons, List.not_mem_nil, or_false, forall_eq_or_imp, forall_eq] at hl
   simp only [bt] at h ⊢
   rw [hl.1, hl.2]
   exact jw kput0 h
 | dL n i j =>
   simp only [bW.all, List.mem_cons, List.not_mem_nil, or_false, forall_eq_or_imp, forall_eq] at hl
   simp only [bt] at h ⊢
   rw [hl.1, hl.2]
   exact jy kput0 h
 | lookup kd z i j ok =>
   simp only [bW.all, List.mem_cons, List.not_mem_nil, or_false, forall_eq_or_imp, forall_eq] at hl
   simp only [bt] at h ⊢
   rw [hl.1, hl.2]
   exact lB kput0 h
 | mx big i j =>
   simp only [bW.all, List.mem_cons, List.not_mem_nil, or_false, forall_eq_or_imp, forall_eq] at hl
   simp only [bt] at h ⊢
   rw [hl.1, hl.2]
   exact uz kput0 h
 | store m i j =>
   simp only [bW.all, List.mem_cons, List.not_mem_nil, or_false, forall_eq_or_imp, forall_eq] at hl
   simp only [bt] at h ⊢
   rw [hl.1, hl.2]
   exact Ba (fun H' hk => kenv H' (fun e => by cases e) (fun e => by cases e) hk) h
 | mE m i j =>
   simp only [bW.all, List.mem_cons, List.not_mem_nil, or_false, forall_eq_or_imp, forall_eq] at hl
   simp only [bt] at h ⊢
   rw [hl.1, hl.2]
   split at h <;> (try exact h.elim)
   exact y9 (fun H' hk => kenv H' (fun e => by cases e) (fun e => by cases e) hk) h
 | append esz bytes i j =>
   simp only [bW.all, List.mem_cons, List.not_mem_nil, or_false, forall_eq_or_imp, forall_eq] at hl
   simp only [bt] at h ⊢
   rw [hl.1, hl.2]
   refine y0 (fun zs hk => ?_) h
   cases i with
   | c v => exact kput0 _ hk
   | t s =>
     have hs : get cH s = get env1 s := hl.1
     have e : ∀ env : Env, get env s = get env1 s → put dst (.ap esz zs) (cD env (IX.t s).slot) = (put dst (.ap esz zs) [(s, (get env1 s).ab)]) ++ env := by
      intro env he
      cases dst <;> simp [put, cD, IX.slot, he]
     rw [e env1 rfl] at hk
     rw [e cH hs]
     refine hK _ H ?_ (fun _ => rfl) (fun _ => ⟨[], by simp⟩) hk
     intro p hp
     cases dst with
     | none => simp [put] at hp; subst hp; right; simp [bW.kill]
     | some d =>
       simp [put] at hp
       rcases hp with rfl | rfl
       ·left; rfl
       ·right; simp [bW.kill]
 | copy esz i j =>
   simp only [bW.all, List.mem_cons, List.not_mem_nil, or_false, forall_eq_or_imp, forall_eq] at hl
   simp only [bt] at h ⊢
   rw [hl.1, hl.2]
   exact Dy (fun v H' hk => kput v H' (fun e => by cases e) (fun e => by cases e) hk) h
 | jY kd i j k =>
   simp only [bW.all, List.mem_cons, List.not_mem_nil, or_false, forall_eq_or_imp, forall_eq] at hl
   simp only [bt] at h ⊢
   rw [hl.1, hl.2.1, hl.2.2]
   exact y8 (fun H' hk => kenv H' (fun e => by cases e) (fun e => by cases e) hk) h
 | eV i s =>
   simp only [bW.all, List.mem_cons, List.not_mem_nil, or_false, forall_eq_or_imp, forall_eq] at hl
   simp only [bt] at h ⊢
   have hs : get cH s = get env1 s := hl.2
   rw [hl.1, hs]
   exact wH (fun H' hk => hK [(s, (get env1 s).ab)] H' (by simp [bW.kill]) (fun e => by cases e) (fun e => by cases e) hk) h
 | iT kd neq i =>
   simp only [bW.all, List.mem_singleton, forall_eq] at hl
   simp only [bt] at h ⊢
   rw [hl]
   exact sA kput0 h
 | un op i =>
   simp only [bW.all, List.mem_singleton, forall_eq] at hl
   simp only [bt] at h ⊢
   rw [hl]
   exact uy kput0 h
 | box i =>
   simp only [bW.all, List.mem_singleton, forall_eq] at hl
   simp only [bt] at h ⊢
   rw [hl]
   exact ⟨h.1, h.2.1, kput _ _ (fun e => by cases e) (fun _ => ⟨_, rfl⟩) h.2.2⟩
 | k9 i =>
   simp only [bW.all, List.mem_singleton, forall_eq] at hl
   simp only [bt] at h ⊢
   rw [hl]
   exact ⟨h.1, kput0 _ h.2⟩
 | qQ m i =>
   simp only [bW.all, List.mem_singleton, forall_eq] at hl
   simp only [bt] at h ⊢
   rw [hl]
   exact ⟨h.1, h.2.1, h.2.2.1, kput0 _ h.2.2.2⟩
 | alloc z =>
   simp only [bt] at h ⊢
   exact ⟨h.1, kput _ _ (fun e => by cases e) (fun _ => ⟨_, rfl⟩) h.2⟩
 | mG =>
   simp only [bt] at h ⊢
   exact kput _ _ (fun e => by cases e) (fun _ => ⟨_, rfl⟩) h
 | load sz i =>
   simp only [bW.all, List.mem_singleton, forall_eq] at hl
   simp only [bt] at h ⊢
   rw [hl]
   exact jv kput0 h
 | sc sz esz i =>
   simp only [bW.all, List.mem_singleton, forall_eq] at hl
   simp only [bt] at h ⊢
   rw [hl]
   exact jv (fun z hz => uA (fun v H' hk => kput v H' (fun e => by cases e) (fun e => by cases e) hk) hz) h
 | eh i =>
   simp only [bW.all, List.mem_singleton, forall_eq] at hl
   simp only [bt] at h ⊢
   rw [hl]
   cases dst with
   | none => exact h.elim
   | some d =>
     cases hv : al env1 i with
     | ptr id off =>
       rw [hv] at h
       simp only at h ⊢
       cases bm : H[id]? with
       | none => rw [bm] at h; exact h.elim
       | some ob =>
         rw [bm] at h
         cases ob with
         | cells es => exact ⟨h.1, hK [(d, es.getD off .any)] _ (by simp) (fun e => by cases e) (fun e => by cases e) h.2⟩
         | _ => exact h.elim
     | _ => rw [hv] at h; exact h.elim
 | yC esz i =>
   simp only [bW.all, List.mem_singleton, forall_eq] at hl
   simp only [bt] at h ⊢
   rw [hl]
   exact uA (fun v H' hk => kput v H' (fun e => by cases e) (fun e => by cases e) hk) h
 | nilCheck i =>
   simp only [bW.all, List.mem_singleton, forall_eq] at hl
   simp only [bt] at h ⊢
   rw [hl]
   exact jz kput0 h
 | fieldAddr off sz i =>
   simp only [bW.all, List.mem_singleton, forall_eq] at hl
   simp only [bt] at h ⊢
   rw [hl]
   exact iM kput0 h
 | field off sz i =>
   simp only [bW.all, List.mem_singleton, forall_eq] at hl
   simp only [bt] at h ⊢
   rw [hl]
   exact mQ kput0 h
 | len kd i =>
   simp only [bW.all, List.mem_singleton, forall_eq] at hl
   simp only [bt] at h ⊢
   rw [hl]
   exact ⟨h.1, rc kput0 h.2⟩
 | sd esz bytes z i =>
   simp only [bW.all, List.mem_singleton, forall_eq] at hl
   simp only [bt] at h ⊢
   rw [hl]
   exact Bb (fun v H' hk => kput v H' (fun e => by cases e) (fun e => by cases e) hk) h
 | mF esz bytes i =>
   simp only [bW.all, List.mem_singleton, forall_eq] at hl
   simp only [bt] at h ⊢
   rw [hl]
   exact sC kput0 h
 | extract i k =>
   simp only [bW.all, List.mem_singleton, forall_eq] at hl
   simp only [bt] at h ⊢
   rw [hl]
   exact kh kput0 h
 | eC k i =>
   simp only [bW.all, List.mem_singleton, forall_eq] at hl
   simp only [bt] at h ⊢
   rw [hl]
   exact kj kput0 h
 | gg i =>
   simp only [bW.all, List.mem_singleton, forall_eq] at hl
   simp only [bt] at h ⊢
   rw [hl]
   exact oA kput0 h
 | bytesOf i =>
   simp only [bW.all, List.mem_singleton, forall_eq] at hl
   simp only [bt] at h ⊢
   rw [hl]
   exact oB kput0 h
 | strOf i =>
   simp only [bW.all, List.mem_singleton, forall_eq] at hl
   simp only [bt] at h ⊢
   rw [hl]
   exact sB kput0 h
 | build z ps =>
   simp only [bW.all] at hl
   simp only [bt] at h ⊢
   have : (ps.map fun q => (q.1, q.2.1, al cH q.2.2)) = ps.map fun q => (q.1, q.2.1, al env1 q.2.2) :=
    List.map_congr_left fun q hq => by rw [hl _ (List.mem_map.2 ⟨q, hq, rfl⟩)]
   rw [this]
   exact lD (fun v hk => kput0 _ hk) h
 | AG esz z len ps =>
   simp only [bW.all] at hl
   simp only [bt] at h ⊢
   have : (ps.map fun q => (q.1, al cH q.2)) = ps.map fun q => (q.1, al env1 q.2) :=
    List.map_congr_left fun q hq => by rw [hl _ (List.mem_map.2 ⟨q, hq, rfl⟩)]
   rw [this]
   exact gn (fun v hk => ⟨hk.1, kput _ _ (fun e => by cases e) (fun e => by cases e) hk.2⟩) h
 | iV esz bytes z i j =>
   simp only [bW.all, List.mem_cons, List.not_mem_nil, or_false, forall_eq_or_imp, forall_eq] at hl
   simp only [bt] at h ⊢
   rw [hl.1, hl.2]
   exact wI (fun v H' hk => kput v H' (fun e => by cases e) (fun e => by cases e) hk) h
 | mH esz z i =>
   simp only [bW.all, List.mem_singleton, forall_eq] at hl
   simp only [bt] at h ⊢
   rw [hl]
   exact y7 (fun H' hk => kput _ H' (fun e => by cases e) (fun e => by cases e) hk) h
 | buildSlice own esz z len ps =>
   simp only [bW.all] at hl
   simp only [bt] at h ⊢
   have : (ps.map fun q => (q.1, al cH q.2)) = ps.map fun q => (q.1, al env1 q.2) :=
    List.map_congr_left fun q hq => by rw [hl _ (List.mem_map.2 ⟨q, hq, rfl⟩)]
   rw [this]
   exact gn (fun v hk => kput0 _ hk) h
 | slice esz i lo hi m =>
   simp only [bW.all, List.mem_cons, List.mem_append, forall_eq_or_imp] at hl
   obtain ⟨h1, h2⟩ := hl
   simp only [bt] at h ⊢
   rw [h1, fQ (fun i hi => h2 i (.inl (.inl hi))), fQ (fun i hi => h2 i (.inl (.inr hi))), fQ (fun i hi => h2 i (.inr hi))]
   exact lC kput0 h
 | oM esz i lo hi m =>
   simp only [bW.all, List.mem_cons, List.mem_append, forall_eq_or_imp] at hl
   obtain ⟨h1, h2⟩ := hl
   simp only [bt] at h ⊢
   rw [h1, fQ (fun i hi => h2 i (.inl (.inl hi))), fQ (fun i hi => h2 i (.inl (.inr hi))), fQ (fun i hi => h2 i (.inr hi))]
   exact ⟨h.1, sD (fun z hz => ⟨hz.1, kput0 _ hz.2⟩) h.2⟩
 | dM i lo hi =>
   simp only [bW.all, List.mem_cons, List.mem_append, forall_eq_or_imp] at hl
   obtain ⟨h1, h2⟩ := hl
   simp only [bt] at h ⊢
   rw [h1, fQ (fun i hi => h2 i (.inl hi)), fQ (fun i hi => h2 i (.inr hi))]
   exact jA kput0 h
 | fn f first cap =>
   simp only [bW.all, List.mem_append] at hl
   simp only [bt] at h ⊢
   rw [mS (fun i hi => hl i (.inl hi)) AV.ab, mS (fun i hi => hl i (.inr hi)) AV.ab]
   exact kput0 _ h
 | call f args pass =>
   simp only [bW.all, List.mem_cons, forall_eq_or_imp] at hl
   obtain ⟨h1, h2⟩ := hl
   simp only [bt, oz] at h ⊢
   rw [h1]
   split at h <;> try exact h.elim
   all_goals
   obtain ⟨bO, hle, hcall⟩ := h
   refine ⟨bO, ?_, hcall.mono fun r H' hk => ?_⟩
   ·rw [mU h2]; exact hle
   ·cases hp : bc args pass with
    | none =>
      rw [hp] at hk
      exact kput r H' (fun e => by cases e) (fun e => by cases e) hk
    | some s =>
      rw [hp] at hk
      have iE : IX.t s ∈ args ∧ s ∈ (bW.call f args pass).kill := by
       unfold bc at hp
       simp only [bW.kill]
       split at hp
       ·rename_i j
        split at hp <;> cases hp
        rename_i hj
        try simp only [hj]
        exact ⟨List.mem_of_getElem? hj, by simp⟩
       ·cases hp
      have hs : get cH s = get env1 s := h2 _ iE.1
      have e : ∀ env : Env, get env s = get env1 s → put dst r (cD env (some s)) = (put dst r [(s, (get env1 s).ab)]) ++ env := by
       intro env he
       cases dst <;> simp [put, cD, he]
      rw [e env1 rfl] at hk
      rw [e cH hs]
      refine hK _ H' ?_ (fun e => by cases e) (fun e => by cases e) hk
      intro p Te
      cases dst with
      | none => simp [put] at Te; subst Te; exact .inr iE.2
      | some d =>
        simp [put] at Te
        rcases Te with rfl | rfl
        ·left; rfl
        ·exact .inr iE.2
 | never => exact h.elim
end Go.aK
end
section
namespace Go.aK
open Go
theorem cJ {env1 cH : Env} (h : get env1 = get cH) : ∀ mods : List (Nat × AV), get (mods ++ env1) = get (mods ++ cH)
 | [] => h
 | (k, v) :: r => by
   funext t
   simp only [List.cons_append, get]
   split
   ·rfl
   ·rw [cJ h r]
theorem oC {env1 cH : Env} {t : Nat} (h : get env1 t = get cH t) : ∀ mods : List (Nat × AV), get (mods ++ env1) t = get (mods ++ cH) t
 | [] => h
 | (k, v) :: r => by
   simp only [List.cons_append, get]
   split
   ·rfl
   ·rw [oC h r]
theorem km {env : Env} {t : Nat} : ∀ {mods : List (Nat × AV)}, (∀ p ∈ mods, p.1 ≠ t) → get (mods ++ env) t = get env t
 | [], _ => rfl
 | (k, v) :: r, h => by
   simp only [List.cons_append, get]
   rw [if_neg (fun e => h (k, v) (by simp) e.symm), km (fun p hp => h p (by simp [hp]))]
theorem Gl {l : List IX} {s : Nat} (h : IX.t s ∈ l) : s ∈ IX.Oy l := List.mem_filterMap.2 ⟨_, h, rfl⟩
theorem Dz {o : bu} {env1 cH : Env} (hl : ∀ s ∈ o.lk, get cH s = get env1 s) : ∀ i ∈ o.op.all, al cH i = al env1 i := by
 intro i hi
 cases i with
 | c v => rfl
 | t s => exact hl s (List.mem_append_left _ (Gl hi))
theorem get_guard {env : Env} {g : Nat} {b : Bool} (h : get env g = .bool b) : get ((g, AV.bool b) :: env) = get env := by
 funext t
 simp only [get]
 split
 ·rename_i e; rw [e, h]
 ·rfl
theorem nN {P : Px} {o : bu} {env1 cH : Env} {H : List aa} {K1 K2 : Env → List aa → Prop} (hl : ∀ s ∈ o.lk, get cH s = get env1 s) (h : qY P o env1 H K1)
 (hK : ∀ e1 e2 H', (∃ mods : List (Nat × AV), (∀ p ∈ mods, o.dst = some p.1 ∨ p.1 ∈ o.op.kill) ∧ get e1 = get (mods ++ env1) ∧ get e2 = get (mods ++ cH)) → (o.op.P2 = false → H' = H) → (o.op.xm = true → ∃ e, H' = H ++ e) → K1 e1 H' → K2 e2 H') : qY P o cH H K2 := by
 unfold qY at *
 cases hg : o.g with
 | none =>
   simp only [hg] at h ⊢
   exact nM (Dz hl) h fun mods H' hm hc hg hk => hK _ _ H' ⟨mods, hm, rfl, rfl⟩ hc hg hk
 | some p =>
   obtain ⟨g, want⟩ := p
   simp only [hg] at h ⊢
   unfold gR at *
   have xq : get cH g = get env1 g := hl g (by simp [bu.lk, hg])
   rw [xq]
   split at h
   rotate_left
   ·rename_i hb
    refine hK _ _ H ⟨(match o.dst with | some d => [(d, .tuple [])] | none => []), ?_, ?_, ?_⟩ (fun _ => rfl) (fun _ => ⟨[], by simp⟩) h
    ·cases hd : o.dst <;> simp
    ·cases hd : o.dst <;> rfl
    ·cases hd : o.dst <;> rfl
   ·exact h.elim
   rename_i b hb
   have pv : get cH g = .bool b := by rw [xq, hb]
   refine ⟨fun e => ?_, fun e => ?_⟩
   ·subst e
    refine nM (env1 := (g, .bool b) :: env1) (Dz (o := o) fun s hs => ?_) (h.1 rfl) fun mods H' hm hc hg hk => hK _ _ H' ⟨mods, hm, cJ (get_guard hb) mods, cJ (get_guard pv) mods⟩ hc hg hk
    rw [get_guard hb, get_guard pv]
    exact hl s hs
   ·have h2 := h.2 e
    subst e
    refine hK _ _ H ⟨(match o.dst with | some d => [(d, .tuple [])] | none => []), ?_, ?_, ?_⟩ (fun _ => rfl) (fun _ => ⟨[], by simp⟩) h2
    ·cases hd : o.dst <;> simp
    ·cases hd : o.dst with
     | none => exact get_guard hb
     | some d => exact cJ (get_guard hb) [(d, .tuple [])]
    ·cases hd : o.dst with
     | none => exact get_guard pv
     | some d => exact cJ (get_guard pv) [(d, .tuple [])]
theorem pL {P : Px} {o : bu} {env : Env} {H : List aa} {K1 K2 : Env → List aa → Prop} (h : qY P o env H K1)
 (hK : ∀ e1 e2 H', get e1 = get e2 → K1 e1 H' → K2 e2 H') : qY P o env H K2 :=
 nN (fun _ _ => rfl) h fun e1 e2 H' ⟨mods, _, h1, h2⟩ _ _ hk => hK e1 e2 H' (h1.trans h2.symm) hk
section
variable {P : Px} {ops : Array Oper} {il : List bu} {K : Env → List aa → Prop}
def qA (P : Px) (il : List bu) (i : Nat) (env : Env) (H : List aa) (K : Env → List aa → Prop) : Prop :=
 match il[i]? with
 | none => K env H
 | some o => qY P o env H K
def uB (P : Px) (ops : Array Oper) (il : List bu) (K : Env → List aa → Prop) : Nat → Array Bool → Env → List aa → Prop
 | 0, listed, env, H => Region.ready .any ops listed = [] ∧ K env H
 | f + 1, listed, env, H => (Region.ready .any ops listed = [] → K env H) ∧ ∀ i ∈ Region.ready .any ops listed, qA P il i env H (uB P ops il K f (listed.setIfInBounds i true))
def Inv (K : Env → List aa → Prop) : Prop := ∀ e1 e2 H, get e1 = get e2 → K e1 H → K e2 H
theorem gS (hK : Inv K) : ∀ (f : Nat) (listed : Array Bool) {e1 e2 : Env} {H : List aa}, get e1 = get e2 → uB P ops il K f listed e1 H → uB P ops il K f listed e2 H
 | 0, _, _, _, _, he, h => ⟨h.1, hK _ _ _ he h.2⟩
 | f + 1, listed, e1, e2, H, he, h => by
   refine ⟨fun h0 => hK _ _ _ he (h.1 h0), fun i hi => ?_⟩
   have hq := h.2 i hi
   unfold qA at *
   split
   ·rename_i hn; simp only [hn] at hq; exact gS hK f _ he hq
   ·rename_i o ho
    simp only [ho] at hq
    exact nN (fun s _ => by rw [he]) hq fun a b H' ⟨mods, _, h1, h2⟩ _ _ hk => gS hK f _ (by rw [h1, h2, cJ he]) hk
def TV (P : Px) (st : Bool) (o : bu) (env : Env) (H : List aa) (x : AV) : Prop :=
 ∃ ρ : IX → AV, (∀ i ∈ o.op.all, al env i = ρ i) ∧ match o.g with
  | none => dv P st o.op ρ H x
  | some (g, want) => (∃ b, get env g = .bool b ∧ (b = want → dv P st o.op ρ H x) ∧ (b ≠ want → x = .tuple [])) ∨ (get env g = .tuple [] ∧ x = .tuple [])
theorem EW {st : Bool} {o : bW} {ρ : IX → AV} {H : List aa} {x : AV} (h : dv P st o ρ H x) : cS P o ρ H x := by
 cases st
 ·exact h H
 ·exact h
theorem uC {H e : List aa} {id : Nat} {o : aa} (h : H[id]? = some o) : (H ++ e)[id]? = some o := by
 rw [List.getElem?_append_left (List.getElem?_eq_some_iff.1 h).1, h]
theorem DA {sz : Option Nat} {x : AV} {H e : List aa} {φ : AV → Prop} (h : aS sz x H φ) : aS sz x (H ++ e) φ := by
 unfold aS at *
 split at h
 ·split at h
  ·rename_i bm; rw [uC bm]; exact h
  ·exact h.elim
 ·exact h
 ·exact h.elim
theorem Gm {x : AV} {H e : List aa} {φ : AV → Prop} (h : eW x H φ) : eW x (H ++ e) φ := by
 unfold eW at *
 split at h <;> (try exact h)
 split at h
 ·rename_i bm; rw [uC bm]; exact h
 ·exact h.elim
theorem za {kd : Nat} {z m k : AV} {ok : Bool} {H e : List aa} {φ : AV → Prop} (h : cb kd z m k ok H φ) : cb kd z m k ok (H ++ e) φ := by
 unfold cb at *
 split at h <;> (try exact h)
 split at h
 ·rename_i bm; rw [uC bm]; exact h
 ·exact h.elim
theorem xr {o : bW} {ρ : IX → AV} {H e : List aa} {x : AV} (hs : o.stays = true) (h : cS P o ρ H x) : cS P o ρ (H ++ e) x := by
 cases o with
 | call f args pass => cases hs
 | load sz i =>
   unfold cS at h ⊢
   exact DA h
 | len kd i =>
   unfold cS at h ⊢
   exact ⟨h.1, Gm h.2⟩
 | lookup kd z m k ok =>
   unfold cS at h ⊢
   exact za h
 | set i t => cases t <;> exact h
 | _ => exact h
theorem Bc {st : Bool} {o : bW} {ρ : IX → AV} {H H' : List aa} {x : AV} (hH : st = true → H' = H ∨ (o.stays = true ∧ ∃ e, H' = H ++ e)) (h : dv P st o ρ H x) : dv P st o ρ H' x := by
 cases st
 ·exact h
 ·rcases hH rfl with e | ⟨h1, e, he⟩
  ·rw [e]; exact h
  ·rw [he]; exact xr h1 h
theorem Gn {st : Bool} {o : bu} {env1 cH : Env} {H1 H2 : List aa} {x : AV} (hl : ∀ s ∈ o.lk, get cH s = get env1 s) (hH : st = true → H2 = H1 ∨ (o.op.stays = true ∧ ∃ e, H2 = H1 ++ e)) (h : TV P st o env1 H1 x) : TV P st o cH H2 x := by
 obtain ⟨ρ, h1, h2⟩ := h
 refine ⟨ρ, fun i hi => (Dz hl i hi).trans (h1 i hi), ?_⟩
 cases hg : o.g with
 | none => simp only [hg] at h2 ⊢; exact Bc hH h2
 | some p =>
   obtain ⟨g, want⟩ := p
   simp only [hg] at h2 ⊢
   rcases h2 with ⟨b, k1, k2, k3⟩ | ⟨k1, k2⟩
   ·exact .inl ⟨b, (hl g (by simp [bu.lk, hg])).trans k1, fun e => Bc hH (k2 e), k3⟩
   ·exact .inr ⟨(hl g (by simp [bu.lk, hg])).trans k1, k2⟩
theorem EX {st : Bool} {o : bu} {env : Env} {H : List aa} {x : AV} (h : TV P st o env H x) : qY P o env H fun e H' => H' = H ∧ get e = get (put o.dst x env) := by
 obtain ⟨ρ, h1, h2⟩ := h
 unfold qY
 cases hg : o.g with
 | none => simp only [hg] at h2 ⊢; exact A9 (EW h2) h1
 | some p =>
   obtain ⟨g, want⟩ := p
   simp only [hg] at h2 ⊢
   rcases h2 with ⟨b, k1, k2, k3⟩ | ⟨k1, k2⟩
   rotate_left
   ·unfold gR
    rw [k1]
    subst k2
    exact ⟨by simp, rfl⟩
   unfold gR
   rw [k1]
   refine ⟨fun e => ?_, fun e => ?_⟩
   ·subst e
    have K4 := get_guard k1
    have := A9 (dst := o.dst) (env := (g, .bool b) :: env) (EW (k2 rfl)) (fun i hi => by
     rw [← h1 i hi]
     cases i with
     | c v => rfl
     | t s => show get _ s = get _ s; rw [K4])
    refine nM (fun _ _ => rfl) this ?_
    intro mods H' _ _ _ hk
    refine ⟨hk.1, hk.2.trans ?_⟩
    rw [jR, jR, K4]
   ·have dG : b ≠ want := by intro e2; subst e2; cases b <;> cases e
    have hx := k3 dG
    subst hx
    subst e
    exact ⟨by simp, by rw [jR, jR, get_guard k1]⟩
def closed (ops : Array Oper) (listed : Array Bool) : Prop := ∀ k o, ops[k]? = some o → listed.getD k false = true → ∀ e ∈ o.after, Region.binds .any e = true → listed.getD e.on false = true
theorem kF {listed : Array Bool} (hc : closed ops listed) {i : Nat} : ∀ (f j : Nat) (oj : Oper), ops[j]? = some oj → (∀ e ∈ oj.after, Region.binds .any e = true → listed.getD e.on false = true) → dg ops f j i = true → listed.getD i false = true
 | 0, _, _, _, _, h => by simp [dg] at h
 | f + 1, j, oj, hj, jn, h => by
   simp only [dg, hj] at h
   obtain ⟨k, hk, he⟩ := Array.any_eq_true.1 h
   simp only [Bool.and_eq_true, Bool.or_eq_true, beq_iff_eq] at he
   have iE : oj.after[k] ∈ oj.after := Array.getElem_mem hk
   have hl := jn _ iE he.1
   rcases he.2 with e | e
   ·rw [← e]; exact hl
   ·have hso : ∃ o', ops[(oj.after[k]).on]? = some o' := by
     cases f with
     | zero => simp [dg] at e
     | succ f =>
       cases ho : ops[(oj.after[k]).on]? with
       | none => simp [dg, ho] at e
       | some o' => exact ⟨o', rfl⟩
    obtain ⟨o', P8⟩ := hso
    exact kF hc f _ o' P8 (hc _ _ P8 hl) e
theorem oU {listed : Array Bool} {i : Nat} (h : listed.getD i true = false) : listed.getD i false = false := by
 simp only [Array.getD_eq_getD_getElem?] at *
 cases hx : listed[i]? with
 | none => rfl
 | some b => rw [hx] at h; simpa using h
theorem oV {listed : Array Bool} (hc : closed ops listed) {j : Nat} (hj : j ∈ Region.ready .any ops listed) : closed ops (listed.setIfInBounds j true) := by
 obtain ⟨_, oj, P3, jn⟩ := mem_ready.1 hj
 intro k o ho hk e he hb
 refine getD_set_true ?_
 by_cases hkj : k = j
 ·subst hkj
  rw [P3] at ho
  cases ho
  exact jn e he hb
 ·rw [getD_set_ne false (Ne.symm hkj)] at hk
  exact hc k o ho hk e he hb
theorem Bd {listed : Array Bool} {i j : Nat} {st : Bool} (h : mO ops il listed i st = true) (hj : j < ops.size) (EY : j ≠ i) (XB : listed.getD j true = false) (jK : dg ops ops.size j i = false) : qZ st (il.getD i default) (il.getD j default) = true := by
 unfold mO at h
 have := List.all_eq_true.1 h j (List.mem_range.2 hj)
 simp only [Bool.or_eq_true, beq_iff_eq, XB, jK, Bool.false_eq_true, or_false] at this
 rcases this with e | e
 ·exact absurd e EY
 ·exact e
theorem Be {listed : Array Bool} {i j : Nat} {st : Bool} (h : mO ops il listed i st = true) : mO ops il (listed.setIfInBounds j true) i st = true := by
 unfold mO at *
 refine List.all_eq_true.2 fun k hk => ?_
 have := List.all_eq_true.1 h k hk
 simp only [Bool.or_eq_true] at this ⊢
 rcases this with ((e | e) | e) | e
 ·exact .inl (.inl (.inl e))
 ·refine .inl (.inl (.inr ?_))
  by_cases Ox : j = k
  ·subst Ox
   simp only [Array.getD_eq_getD_getElem?, Array.getElem?_setIfInBounds]
   split
   ·split <;> simp
   ·rename_i dG; exact absurd trivial dG
  ·rw [getD_set_ne true Ox]; exact e
 ·exact .inl (.inr e)
 ·exact .inr e
theorem Bf {st : Bool} {oi oj : bu} (h : qZ st oi oj = true) :
 (∀ d, oi.dst = some d → d ∉ oj.lk ∧ oj.dst ≠ some d ∧ d ∉ oj.op.kill) ∧ (∀ d, oj.dst = some d → d ∉ oi.lk) ∧ (∀ s ∈ oj.op.kill, s ∉ oi.lk) ∧ (st = true → oj.op.P2 = false ∨ (oj.op.xm = true ∧ oi.op.stays = true)) := by
 unfold qZ at h
 simp only [Bool.and_eq_true, Bool.or_eq_true, Bool.not_eq_true'] at h
 obtain ⟨⟨⟨h1, h2⟩, h3⟩, h4⟩ := h
 refine ⟨fun d hd => ?_, fun d hd => ?_, fun s hs => ?_, fun e => ?_⟩
 ·rw [hd] at h1
  simpa [and_assoc] using h1
 ·rw [hd] at h2
  simpa using h2
 ·have := List.all_eq_true.1 h3 s hs
  simpa using this
 ·rcases h4 with (e2 | e2) | e2
  ·rw [e] at e2; cases e2
  ·exact .inl e2
  ·exact .inr e2
theorem pM {l : List bu} {i : Nat} {o : bu} (h : l[i]? = some o) : l.getD i default = o := by
 rw [List.getD_eq_getElem?_getD, h]; rfl
theorem Gp (hK : Inv K) (cT : il.length = ops.size) {i : Nat} {oi : bu} {x : AV} {st : Bool} (hi : il[i]? = some oi) : ∀ (f : Nat) (listed : Array Bool) {env : Env} {H : List aa}, closed ops listed → mO ops il listed i st = true → i ∈ Region.ready .any ops listed →
 TV P st oi env H x → uB P ops il K f (listed.setIfInBounds i true) (put oi.dst x env) H → uB P ops il K (f + 1) listed env H := by
 intro f
 induction f with
 | zero =>
   intro listed env H gY CY hr ht hD
   refine ⟨fun h => (by rw [h] at hr; cases hr), fun j hj => ?_⟩
   by_cases EY : j = i
   ·subst EY
    unfold qA
    simp only [hi]
    exact pL (EX ht) fun e1 e2 H' he ⟨h1, h2⟩ => by
     subst h1
     exact gS hK 0 _ (h2.symm.trans he) hD
   ·have := ready_mono hj EY
    rw [hD.1] at this
    cases this
 | succ f ih =>
   intro listed env H gY CY hr ht hD
   refine ⟨fun h => (by rw [h] at hr; cases hr), fun j hj => ?_⟩
   by_cases EY : j = i
   ·subst EY
    unfold qA
    simp only [hi]
    exact pL (EX ht) fun e1 e2 H' he ⟨h1, h2⟩ => by
     subst h1
     exact gS hK (f + 1) _ (h2.symm.trans he) hD
   ·have h1 := hD.2 j (ready_mono hj EY)
    obtain ⟨Yu, oj', TW, jn⟩ := mem_ready.1 hj
    have hjs : j < ops.size := (Array.getElem?_eq_some_iff.1 TW).1
    have jK : dg ops ops.size j i = false := by
     cases hma : dg ops ops.size j i with
     | false => rfl
     | true =>
       have := kF gY _ j oj' TW jn hma
       rw [oU (mem_ready.1 hr).1] at this
       cases this
    have TX := Bd CY hjs EY Yu jK
    rw [pM hi] at TX
    unfold qA at *
    cases P3 : il[j]? with
    | none =>
      rw [List.getElem?_eq_none_iff] at P3
      omega
    | some oj =>
      rw [pM P3] at TX
      obtain ⟨a1, a2, a3, a4⟩ := Bf TX
      simp only [P3] at h1 ⊢
      refine nN (env1 := put oi.dst x env) (fun s hs => ?_) h1 fun e1 e2 H' ⟨mods, hm, g1, g2⟩ hch hgr hk => ?_
      ·rw [jR]
       cases hd : oi.dst with
       | none => rfl
       | some d =>
         simp only [P7, fe]
         rw [if_neg]
         intro e
         exact (a1 d hd).1 (e ▸ hs)
      ·have HN : ∀ s ∈ oi.lk, ∀ p ∈ mods, p.1 ≠ s := by
        intro s hs p hp e
        rcases hm p hp with h | h
        ·exact a2 _ h (e ▸ hs)
        ·exact a3 _ h (e ▸ hs)
       have Yv : ∀ d, oi.dst = some d → ∀ p ∈ mods, p.1 ≠ d := by
        intro d hd p hp e
        rcases hm p hp with h | h
        ·exact (a1 d hd).2.1 (e ▸ h)
        ·exact (a1 d hd).2.2 (e ▸ h)
       refine ih (listed.setIfInBounds j true) (oV gY hj) (Be CY) (ready_mono hr (Ne.symm EY)) ?_ ?_
       ·refine Gn (fun s hs => ?_) (fun e => (a4 e).imp hch fun ⟨q1, q2⟩ => ⟨q2, hgr q1⟩) ht
        rw [g2]
        exact km (HN s hs)
       ·rw [Array.setIfInBounds_comm _ _ EY]
        refine gS hK f _ ?_ hk
        rw [g1, jR, g2]
        cases hd : oi.dst with
        | none => rfl
        | some d =>
          funext t
          simp only [P7, fe, put]
          by_cases Yw : t = d
          ·subst Yw
           rw [if_pos rfl, km (Yv t hd)]
           simp [get]
          ·rw [if_neg Yw]
           refine oC ?_ mods
           simp [get, Yw]
theorem LK (hK : Inv K) (cT : il.length = ops.size) : ∀ (p : wi) (f : Nat) (listed : Array Bool) {env : Env} {H : List aa}, closed ops listed →
 (ta ops il f listed none p = true → tA P (inst il p) env H K → uB P ops il K f listed env H) ∧
 (∀ ks, (∀ i ∈ ks, i ∈ Region.ready .any ops listed) → ta ops il (f + 1) listed (some ks) p = true → tA P (inst il p) env H K → ∀ i ∈ ks, qA P il i env H (uB P ops il K f (listed.setIfInBounds i true))) := by
 intro p
 induction p with
 | done =>
   intro f listed env H gY
   refine ⟨fun h hd => ?_, fun ks _ h _ i hi => ?_⟩
   ·have : Region.ready .any ops listed = [] := by
     cases f <;> simpa [ta, List.isEmpty_iff] using h
    simp only [inst, tA] at hd
    cases f with
    | zero => exact ⟨this, hd⟩
    | succ f => exact ⟨fun _ => hd, fun i hi => by rw [this] at hi; cases hi⟩
   ·cases ks with
    | nil => cases hi
    | cons k ks => simp [ta] at h
 | nil =>
   intro f listed env H gY
   refine ⟨fun h _ => by cases f <;> simp [ta] at h, fun ks _ h _ i hi => ?_⟩
   cases ks with
   | nil => cases hi
   | cons k ks => simp [ta] at h
 | take k st r ih =>
   intro f listed env H gY
   refine ⟨fun h hd => ?_, fun ks _ h _ i hi => ?_⟩
   ·cases f with
    | zero => simp [ta] at h
    | succ f =>
      simp only [ta, Bool.and_eq_true, List.contains_iff_mem] at h
      obtain ⟨⟨⟨hr, adi⟩, CY⟩, hp⟩ := h
      obtain ⟨_, ok, jL, _⟩ := mem_ready.1 hr
      have Di : k < il.length := by rw [cT]; exact (Array.getElem?_eq_some_iff.1 jL).1
      have Lu : il[k]? = some (il.getD k default) := by rw [List.getD_eq_getElem?_getD, List.getElem?_eq_getElem Di]; rfl
      simp only [inst, tA, sx] at hd
      have fin : ∀ x, TV P st (il.getD k default) env H x → tA P (inst il r) (put (il.getD k default).dst x env) H K → uB P ops il K (f + 1) listed env H := by
       intro x hx hrest
       exact Gp hK cT Lu f listed gY CY hr hx ((ih f _ (oV gY hr)).1 hp hrest)
      cases hg : (il.getD k default).g with
      | none =>
        simp only [hg] at hd
        obtain ⟨x, hx, hrest⟩ := hd
        exact fin x ⟨al env, fun _ _ => rfl, by simp only [hg]; exact hx⟩ hrest
      | some gw =>
        obtain ⟨g, want⟩ := gw
        simp only [hg, gR] at hd
        split at hd
        rotate_left
        ·rename_i hb
         exact fin (.tuple []) ⟨al env, fun _ _ => rfl, by simp only [hg]; exact .inr ⟨hb, by trivial⟩⟩ hd
        ·exact hd.elim
        rename_i b hb
        by_cases EV : b = want
        ·obtain ⟨x, hx, hrest⟩ := hd.1 EV
         exact fin x ⟨al env, fun _ _ => rfl, by simp only [hg]; exact .inl ⟨b, hb, fun _ => hx, fun e => absurd EV e⟩⟩ hrest
        ·have hrest := hd.2 (by cases b <;> cases want <;> first | rfl | exact absurd rfl EV)
         exact fin (.tuple []) ⟨al env, fun _ _ => rfl, by simp only [hg]; exact .inl ⟨b, hb, fun e => absurd e EV, fun _ => by trivial⟩⟩ hrest
   ·cases ks with
    | nil => cases hi
    | cons k ks => simp [ta] at h
 | br k t rest Iy HM =>
   intro f listed env H gY
   have key : ∀ (f : Nat) (ks : List Nat), (∀ i ∈ k :: ks, i ∈ Region.ready .any ops listed) → ta ops il f (listed.setIfInBounds k true) none t = true → ta ops il (f + 1) listed (some ks) rest = true → tA P (inst il (.br k t rest)) env H K →
    ∀ i ∈ k :: ks, qA P il i env H (uB P ops il K f (listed.setIfInBounds i true)) := by
    intro f ks Di h1 h2 hd i hi
    simp only [inst, tA] at hd
    rcases List.mem_cons.1 hi with rfl | hi
    ·have hr := Di i (by simp)
     obtain ⟨_, ok, jL, _⟩ := mem_ready.1 hr
     have aX : i < il.length := by rw [cT]; exact (Array.getElem?_eq_some_iff.1 jL).1
     have Lu : il[i]? = some (il.getD i default) := by rw [List.getD_eq_getElem?_getD, List.getElem?_eq_getElem aX]; rfl
     unfold qA
     rw [Lu]
     exact pL hd.1 fun e1 e2 H' he hk => gS hK f _ he ((Iy f _ (oV gY hr)).1 h1 hk)
    ·exact (HM f listed gY).2 ks (fun j hj => Di j (by simp [hj])) h2 hd.2 i hi
   refine ⟨fun h hd => ?_, fun ks Di h hd i hi => ?_⟩
   ·cases f with
    | zero => simp [ta] at h
    | succ f =>
      simp only [ta] at h
      split at h
      ·rename_i k' ks XC
       simp only [Bool.and_eq_true, beq_iff_eq] at h
       obtain ⟨⟨rfl, h1⟩, h2⟩ := h
       have := key f ks (fun i hi => by rw [XC]; exact hi) h1 h2 hd
       exact ⟨(fun e => by rw [e] at XC; cases XC), fun i hi => this i (by rw [XC] at hi; exact hi)⟩
      ·cases h
   ·cases ks with
    | nil => cases hi
    | cons k' ks =>
      simp only [ta, Bool.and_eq_true, beq_iff_eq] at h
      obtain ⟨⟨rfl, h1⟩, h2⟩ := h
      exact key f ks Di h1 h2 hd i hi
end
end Go.aK
end
section
namespace Go.aK
open Go
section
variable {ro : Option Nat} {P : Program} {lo : Option Nat} {A : Perm} {n : Nat}
theorem mV {ops : Array Oper} {an : AD} {rid : Nat} : ∀ (fuel k : Nat) (l : List Oper) (il : List bu), eD P ops an n rid false fuel k l = some il →
 il.length = l.length ∧ ∀ (j : Nat) (o : Oper), l[j]? = some o → ∃ g, ET ops o = some g ∧ ES n o = true ∧ il[j]? = some ⟨g, o.dst, A0 P o (an.at_ rid (k + j))⟩
 | _, _, [], il, hc => by
   unfold eD at hc
   cases hc
   exact ⟨rfl, fun j o h => by simp at h⟩
 | 0, _, o :: r, il, hc => by simp [eD] at hc
 | fuel + 1, k, o :: r, il, hc => by
   unfold eD at hc
   simp only [Bool.false_eq_true, and_false, if_false] at hc
   split at hc <;> try cases hc
   rename_i g xs hg fp
   split at hc <;> cases hc
   rename_i fL
   obtain ⟨h1, h2⟩ := mV fuel (k + 1) r xs fp
   refine ⟨by simp [h1], fun j o' hj => ?_⟩
   cases j with
   | zero =>
     simp at hj
     subst hj
     exact ⟨g, hg, fL, by simp⟩
   | succ j =>
     simp at hj
     obtain ⟨g', e1, e2, e3⟩ := h2 j o' hj
     exact ⟨g', e1, e2, by simp [e3, Nat.add_assoc, Nat.add_comm 1 j]⟩
theorem sF {ops : Array Oper} {il : List bu} {an : AD} {rid : Nat} {L0 : List Nat} {M0 : Mem} {w0 : World} {K : Env → List aa → Prop} {Q : Exit → Act → World → Prop}
 (hp : ∀ l, lo = some l → ∀ id, l ≤ id → A.top id = none) (hc : eD P ops an n rid false (ops.size + 1) 0 ops.toList = some il)
 (hF : ∀ (M : Mem) (L : List Nat) (w : World) (H : List aa) (env : Env) (O : Pos → Option Nat) (a : Act), K env H → Fr A n M L w H env O a → Ext A M0 w0 M w → L0 <+: L → Q .normal a w) :
 ∀ (f : Nat) (listed : Array Bool) {M : Mem} {L : List Nat} {w : World} {H : List aa} {env : Env} {O : Pos → Option Nat} {a : Act}, Fr A n M L w H env O a → Ext A M0 w0 M w → L0 <+: L → uB ⟨P, lo⟩ ops il K f listed env H → wpAnyIn (wf ro) 0 P .any ops Q f listed a w
 | 0, _, _, _, _, _, _, _, _, hf, cr, hL, h => ⟨h.1, hF _ _ _ _ _ _ _ h.2 hf cr hL⟩
 | f + 1, listed, M, L, w, H, env, O, a, hf, cr, hL, h => by
   refine ⟨fun h0 => hF _ _ _ _ _ _ _ (h.1 h0) hf cr hL, fun i hi => ?_⟩
   have hq := h.2 i hi
   unfold wpOpIn
   cases ho : ops[i]? with
   | none =>
     obtain ⟨_, o, P8, _⟩ := mem_ready.1 hi
     rw [ho] at P8; cases P8
   | some o =>
     obtain ⟨g, hg, fL, Aw⟩ := (mV _ _ _ _ hc).2 i o (by simpa using ho)
     unfold qA at hq
     rw [Aw] at hq
     have hs := xo (ro := ro) (ops := ops) hg fL hp hf hq Q
     have hrest : ∀ a' w', mw A n M L w (uB ⟨P, lo⟩ ops il K f (listed.setIfInBounds i true)) a' w' → wpAnyIn (wf ro) 0 P .any ops Q f (listed.setIfInBounds i true) a' w' := by
      rintro a' w' ⟨M', L', H', aD, O', k1, k2, k3, k4⟩
      exact sF hp hc hF f _ k2 (cr.trans k3) (hL.trans k4) k1
     simp only
     split
     ·rename_i hw
      rw [if_pos hw] at hs
      exact Oper.wpIn_mono hrest hs
     ·rename_i hw
      rw [if_neg hw] at hs
      exact ⟨fun _ _ => trivial, hrest _ _ hs⟩
theorem Gq (L0 : List Nat) (hp : ∀ l, lo = some l → ∀ id, l ≤ id → A.top id = none) : xp P ro lo A n L0 := by
 intro id ops il p live an M L w H env O a M0 w0 Q hm hB hc h hf cr hL
 simp only [mb] at h
 have hK : Inv (fun (aD : Env) (H' : List aa) => ∃ e, get e = get aD ∧ Q .normal (eo live e) H') := fun e1 e2 H he ⟨e, h1, h2⟩ => ⟨e, h1.trans he, h2⟩
 have cT : il.length = ops.size := by simpa using (mV _ _ _ _ hc).1
 have hB := Ix cT p _ _ _ _ (Gh _) (by simp) hB
 have gY : closed ops (Array.replicate ops.size false) := by
  intro k o _ hk
  simp only [Array.getD_eq_getD_getElem?, Array.getElem?_replicate] at hk
  split at hk <;> cases hk
 have hd : tA ⟨P, lo⟩ (inst il p) env H (fun (aD : Env) (H' : List aa) => ∃ e, get e = get aD ∧ Q .normal (eo live e) H') := by
  have mono : ∀ (t : DT) (env : Env) (H : List aa) (K1 K2 : Env → List aa → Prop), (∀ e H, K1 e H → K2 e H) → Inv K2 → tA ⟨P, lo⟩ t env H K1 → tA ⟨P, lo⟩ t env H K2 := by
   intro t
   induction t with
   | done => intro env H K1 K2 hk _ h; exact hk _ _ h
   | nil => intro _ _ _ _ _ _ _; trivial
   | take st o r ih =>
     intro env H K1 K2 hk hi h
     simp only [tA, sx] at h ⊢
     cases hg : o.g with
     | none =>
       simp only [hg] at h ⊢
       obtain ⟨x, hx, h⟩ := h
       exact ⟨x, hx, ih _ _ _ _ hk hi h⟩
     | some gw =>
       obtain ⟨g, want⟩ := gw
       simp only [hg, gR] at h ⊢
       split at h
       rotate_left
       ·exact ih _ _ _ _ hk hi h
       ·exact h.elim
       exact ⟨fun e => let ⟨x, hx, h⟩ := h.1 e; ⟨x, hx, ih _ _ _ _ hk hi h⟩, fun e => ih _ _ _ _ hk hi (h.2 e)⟩
   | br o t rest Iy HM =>
     intro env H K1 K2 hk hi h
     have hinv : ∀ K : Env → List aa → Prop, Inv K → ∀ t, Inv fun env H => tA ⟨P, lo⟩ t env H K := by
      intro K hK t
      induction t with
      | done => exact hK
      | nil => intro _ _ _ _ _; trivial
      | take st o r ih =>
        intro e1 e2 H he h
        simp only [tA, sx] at h ⊢
        have hav : al e2 = al e1 := by
         funext i
         cases i with
         | c v => rfl
         | t s => show get e2 s = get e1 s; rw [he]
        have mL : ∀ x, get (put o.dst x e1) = get (put o.dst x e2) := fun x => by rw [jR, jR, he]
        cases hg : o.g with
        | none =>
          simp only [hg] at h ⊢
          obtain ⟨x, hx, h⟩ := h
          exact ⟨x, by rw [hav]; exact hx, ih _ _ _ (mL x) h⟩
        | some gw =>
          obtain ⟨g, want⟩ := gw
          simp only [hg, gR] at h ⊢
          rw [← he]
          split at h
          rotate_left
          ·exact ih _ _ _ (mL _) h
          ·exact h.elim
          exact ⟨fun e => let ⟨x, hx, h⟩ := h.1 e; ⟨x, by rw [hav]; exact hx, ih _ _ _ (mL x) h⟩, fun e => ih _ _ _ (mL _) (h.2 e)⟩
      | br o t rest Iy HM =>
        intro e1 e2 H he h
        exact ⟨nN (fun s _ => by rw [he]) h.1 fun a b H' ⟨mods, _, g1, g2⟩ _ _ hk => Iy _ _ _ (by rw [g1, g2, cJ he]) hk, HM _ _ _ he h.2⟩
     exact ⟨pL h.1 fun e1 e2 H' he HO => hinv K2 hi t _ _ _ he (Iy _ _ _ _ hk hi HO), HM _ _ _ _ hk hi h.2⟩
  exact mono _ _ _ _ _ (fun e H hq => ⟨e, rfl, hq⟩) hK h
 have hA := (LK (P := ⟨P, lo⟩) hK cT p ops.size (Array.replicate ops.size false) (env := env) (H := H) gY).1 hB hd
 refine wpIn_region_any hm (sF (M0 := M0) (w0 := w0) (L0 := L0) hp hc ?_ ops.size _ (M := M) (L := L) (H := H) (env := env) (O := O) ⟨hf.st.drew, hf.size, hf.defers.ext (Ext.drew (M := M))⟩ (cr.trans Ext.drew) hL hA)
 rintro M' L' w' H' aD O' a' ⟨e, he, hq⟩ h2 h3 h4
 obtain ⟨O'', h5⟩ := (h2.Dt he).weaken (xn live e)
 exact ⟨A, M', L', H', _, O'', .refl A, hq, h5, h3, h4⟩
theorem DB {L0 : List Nat} {an : AD} {lv : l7} {pl : l8} (c : Code) (ir : IR) (hc : comp P an lv pl n c = some ir) {M : Mem} {L : List Nat} {w : World} {H : List aa} {env : Env} {O : Pos → Option Nat} {a : Act} {Q : Exit → Env → List aa → Prop}
 (hA : fz lo L0.length A) (wg : Own ro w) (h : mb ⟨P, lo⟩ L0.length ir env H Q) (hf : Fr A n M L w H env O a) (hL : L0 <+: L) : c.wpIn (wf ro) 0 P (Ds A n M L0 w Q) a w :=
 sound (fun A hA => Gq L0 hA.opens) c ir hc hA wg h hf hL
end
end Go.aK
end
section
namespace Go.aK
open Go
inductive RX where
 | t (s : Nat)
 | c (s : Nat) (sz : Option Nat)
 deriving Inhabited
def Iz (P : Program) : ResultVar → Option RX
 | .tmp t => some (.t t)
 | .cell a t => (HL P t).map (.c a)
def gT (P : Program) : List ResultVar → Option (List RX)
 | [] => some []
 | r :: rs => match Iz P r, gT P rs with
   | some x, some xs => some (x :: xs)
   | _, _ => none
def rf : List RX → Env → List aa → (List AV → Prop) → Prop
 | [], _, _, φ => φ []
 | .t s :: r, env, H, φ => rf r env H fun xs => φ (get env s :: xs)
 | .c s sz :: r, env, H, φ => aS sz (get env s) H fun x => rf r env H fun xs => φ (x :: xs)
def bT (n0 : Nat) (rs : List RX) (env : Env) (H : List aa) (R : AV → List aa → Prop) : Prop :=
 rf rs env H fun xs => ∃ m, n0 ≤ m ∧ match xs with
  | [x] => ∃ r, x.le r ∧ r.a7 m = true ∧ R r (H.take m)
  | xs => ∃ ys, xk (xs.map AV.ab) ys ∧ aj m ys = true ∧ R (.tuple ys) (H.take m)
def kG (C : List aa → Nat → List aa → Prop) (n0 : Nat) (rs : List RX) (env : Env) (H : List aa) (R : AV → List aa → Prop) : Prop :=
 rf rs env H fun xs => ∃ m H', n0 ≤ m ∧ C H m H' ∧ match xs with
  | [x] => ∃ r, x.le r ∧ r.a7 m = true ∧ R r H'
  | xs => ∃ ys, xk (xs.map AV.ab) ys ∧ aj m ys = true ∧ R (.tuple ys) H'
theorem rh : ∀ {rs : List RX} {env : Env} {H : List aa} {φ ψ : List AV → Prop}, (∀ xs, φ xs → ψ xs) → rf rs env H φ → rf rs env H ψ
 | [], env, H, φ, ψ, hm, h => hm _ h
 | .t s :: r, env, H, φ, ψ, hm, h => rh (rs := r) (fun xs hx => hm _ hx) h
 | .c s sz :: r, env, H, φ, ψ, hm, h => jv (fun x hx => rh (rs := r) (fun xs hx => hm _ hx) hx) h
theorem P9 {n0 : Nat} {rs : List RX} {env : Env} {H : List aa} {R : AV → List aa → Prop} (h : bT n0 rs env H R) : kG (fun H m H' => H' = H.take m) n0 rs env H R :=
 rh (fun xs ⟨m, h1, h2⟩ => ⟨m, H.take m, h1, rfl, h2⟩) h
def bV : Nat → List AV → Env
 | _, [] => []
 | k, x :: xs => (k, x) :: bV (k + 1) xs
theorem lE : ∀ (xs : List AV) (k t : Nat), get (bV k xs) t = if k ≤ t then xs.getD (t - k) .any else .any
 | [], k, t => by simp [bV, get]
 | x :: xs, k, t => by
   simp only [bV, get]
   split
   ·rename_i e; subst e; simp
   ·rename_i e
    rw [lE xs (k + 1) t]
    by_cases h : k + 1 ≤ t
    ·have : t - k = (t - (k + 1)) + 1 := by omega
     rw [if_pos h, if_pos (by omega), this]; simp
    ·rw [if_neg h, if_neg (by omega)]
section
variable {P : Program} {A : Perm} {n : Nat} {M : Mem} {L : List Nat} {w : World} {H : List aa} {env : Env} {O : Pos → Option Nat} {a : Act}
def zc (tmps : Array Value) : ResultVar → Sem Value := fun
 | .tmp t => pure (tmps.getD t undef)
 | .cell a t => do loadVar t (← asAddr (tmps.getD a undef))
theorem Bg {fn : Func} {tmps : Array Value} {vs : List Value} (h : (fn.results.toList.mapM (zc tmps)).run P w = .ok vs w) :
 (results fn tmps).run P w = .ok (if h : vs.toArray.size = 1 then vs.toArray[0] else .tuple vs.toArray) w := by
 have e : (results fn tmps) = (do
  let vs ← fn.results.mapM (zc tmps)
  pure (if h : vs.size = 1 then vs[0] else .tuple vs)) := rfl
 rw [e, Array.mapM_eq_mapM_toList]
 simp only [Sem.run_bind, Sem.run_map, h]
 rfl
theorem zd (hf : Fr A n M L w H env O a) : ∀ (rs : List ResultVar) (is : List RX), gT P rs = some is → ∀ {φ : List AV → Prop}, rf is env H φ →
 ∃ vs xs, (rs.mapM (zc a.tmps)).run P w = .ok vs w ∧ φ xs ∧ aJ M L vs xs ∧ (∀ s, is = [.t s] → xs = [get env s] ∧ vs = [a.tmps.getD s undef]) ∧ (∀ s sz, is = [.c s sz] → ∀ x, xs = [x] → ∀ own ys, x = .ap own ys → own = 0)
 | [], is, hc, φ, h => by
   simp only [gT] at hc; cases hc
   exact ⟨[], [], by simp, h, .nil, (by intro s e; cases e), (by intro s sz e; cases e)⟩
 | r :: rs, is, hc, φ, h => by
   unfold gT at hc
   split at hc <;> cases hc
   rename_i x xs hx fp
   cases r with
   | tmp t =>
     simp only [Iz] at hx; cases hx
     simp only [rf] at h
     obtain ⟨vs, ys, h1, h2, h3, _⟩ := zd hf rs xs fp h
     refine ⟨a.tmps.getD t undef :: vs, get env t :: ys, ?_, h2, .cons _ _ _ _ (hf.st.env t) h3, ?_, ?_⟩
     ·simp only [List.mapM_cons, Sem.run_bind, zc, Sem.run_pure, Result.andThen_ok, h1]
     ·intro s e
      cases e
      cases rs with
      | nil =>
        cases h3 with
        | nil => exact ⟨rfl, rfl⟩
        | cons v x vs xs hh tt =>
          simp at h1
      | cons r rs =>
        unfold gT at fp
        split at fp <;> cases fp
     ·intro s sz e; cases e
   | cell p t =>
     simp only [Iz, Option.map_eq_some_iff] at hx
     obtain ⟨sz, cT, rfl⟩ := hx
     simp only [rf] at h
     obtain ⟨r, z, k1, k2, k3, k4⟩ := qR (P := P) cT hf.st h (hf.st.env p)
     obtain ⟨vs, ys, h1, h2, h3, _⟩ := zd hf rs xs fp k3
     refine ⟨r :: vs, z :: ys, ?_, h2, .cons _ _ _ _ k2 h3, ?_, ?_⟩
     ·have hl : (do loadVar t (← asAddr (a.tmps.getD p undef)) : Sem Value).run P w = .ok r w := by
       have fo := hf.st.env p
       revert k1 fo
       generalize a.tmps.getD p undef = u
       intro k1 fo
       unfold aS at h
       split at h
       ·rename_i id off e
        rw [e] at fo
        cases fo
        exact k1
       ·rename_i y e
        rw [e] at fo
        cases fo
        exact k1
       ·exact h.elim
      have Yx : (List.mapM (zc a.tmps) rs).run P w = .ok vs w := h1
      simp only [List.mapM_cons, Sem.run_bind, zc] at hl ⊢
      rw [hl]
      simp only [Result.andThen_ok, Yx]
      rfl
     ·intro s e; cases e
     ·intro s sz e x hx
      cases hx
      exact k4
theorem St.aY {ev : Nat → Value} {ea : Nat → AV} (h : St A M L w H ev ea O) {v : Value} {x : AV} (hr : aR M L v x) (ob : Option Nat) (hs : bb M w v x ob)
 (h1 : ∀ id j b, ob = some b → O (.c id j) ≠ some b) (h2 : ∀ b, ob = some b → b ∉ L ∧ b < w.heap.size ∧ A b) :
 ∃ O', St A M L w H (fe (fun _ => undef) 0 v) (fe (fun _ => .any) 0 x) O' := by
 have k1 := h.pG (fun _ => undef) (fun _ => .any) (fun _ => .any _) (fun _ _ _ e => by cases e)
 exact ⟨_, k1.put 0 hr ob hs (fun p b hob hp => by
  cases p with
  | t t => cases hp
  | c id j => exact absurd hp (h1 id j b hob)) h2⟩
theorem EZ {x : AV} {m : Nat} (hb : x.a7 m = true) (t : Nat) : (fe (fun _ => AV.any) 0 x t).a7 m = true := by
 simp only [fe]
 split
 ·exact hb
 ·rfl
theorem St.Qa {ev : Nat → Value} {ea : Nat → AV} (h : St A M L w H ev ea O) (A2 : Perm) (Yy : A2.wr = A.wr) (n : Nat) {H' : List aa} (hlen : H'.length = min n H.length)
 (hc : ∀ (id : Nat) (o : aa), H'[id]? = some o → o = .dead ∨ (H[id]? = some o ∧ o.a7 (A2.jc H'.length id) = true)) (hb : ∀ t, (ea t).a7 n = true) : ∃ O', St A2 M (L.take n) w H' ev ea O' := by
 let O' : Pos → Option Nat := fun p => match p with | .t t => O (.t t) | .c id j => match H'[id]? with | some .dead => none | some _ => O (.c id j) | none => none
 have hO : ∀ p b, O' p = some b → O p = some b := by
  intro p b hp
  cases p with
  | t t => exact hp
  | c id j =>
    simp only [O'] at hp
    split at hp <;> first | exact hp | cases hp
 have jj : ∀ {α : Type} {l : List α} {i : Nat} {a : α}, (l.take n)[i]? = some a → i < n ∧ l[i]? = some a := by
  intro α l i a hi
  rw [List.getElem?_take] at hi
  split at hi
  ·exact ⟨by assumption, hi⟩
  ·cases hi
 have iE : ∀ b, b ∈ L.take n → b ∈ L := fun b hb => List.mem_of_mem_take hb
 refine ⟨O', { len := by simp [h.len, hlen], nodup := (List.take_sublist n L).nodup h.nodup, env := fun t => (h.env t).fP (hb t), mem := h.mem, obj := ?_, bB := ?_, lt := fun b hb => h.lt b (iE b hb), gH := h.gH, gE := ?_, bY := fun p q b hp hq => h.bY p q b (hO p b hp) (hO q b hq), cc := fun p b hp hm => h.cc p b (hO p b hp) (iE b hm), eT := fun p b hp => h.eT p b (hO p b hp), La := fun b hb => by rw [Yy]; exact h.La b (iE b hb), Oa := fun p b hp => by rw [Yy]; exact h.Oa p b (hO p b hp), fresh := fun b hb => by rw [Yy]; exact h.fresh b hb }⟩
 ·intro id o b ho dV
  obtain ⟨hn, dV⟩ := jj dV
  rcases hc id o ho with rfl | ⟨h1, h2⟩
  ·trivial
  ·refine (h.obj id o b h1 dV).fP (aa.cE ?_ o h2)
   have := A2.tV H'.length id
   omega
 ·intro id o ho
  rcases hc id o ho with rfl | ⟨h1, h2⟩
  ·rfl
  ·exact h2
 ·intro id j
  have dead : ∀ x : Option aa, H'[id]? = x → (x = none ∨ x = some .dead) → bb M w (bJ (L.take n) w id j) (bp H' id j) (O' (.c id j)) := by
   intro x hx Oz
   have e2 : bp H' id j = .any := by
    unfold bp
    rw [hx]
    rcases Oz with rfl | rfl <;> rfl
   have e3 : O' (.c id j) = none := by
    simp only [O', hx]
    rcases Oz with rfl | rfl <;> rfl
   rw [e2, e3]
   rfl
  cases hx : H'[id]? with
  | none => exact dead none hx (.inl rfl)
  | some o =>
    by_cases ed : o = .dead
    ·subst ed; exact dead _ hx (.inr rfl)
    ·rcases hc id o hx with h' | ⟨h1, h2⟩
     ·exact absurd h' ed
     have hl := aN hx
     have e1 : bJ (L.take n) w id j = bJ L w id j := by
      unfold bJ
      rw [List.getElem?_take, if_pos (by omega)]
     have e2 : bp H' id j = bp H id j := by
      unfold bp
      rw [hx, h1]
     have e3 : O' (.c id j) = O (.c id j) := by
      simp only [O', hx]
     rw [e1, e2, e3]
     exact h.gE id j
theorem E0 : ∀ {vs : List Value} {xs ys : List AV}, aJ M L vs xs → xk (xs.map AV.ab) ys → aJ M L vs ys
 | _, _, [], .nil, h => .nil
 | _, _, y :: ys, .nil, h => by simp [xk] at h
 | _, _, [], .cons _ _ _ _ _ _, h => by simp [xk] at h
 | _, _, y :: ys, .cons _ _ _ _ h1 h2, h => by
   simp only [List.map_cons, xk] at h
   exact .cons _ _ _ _ (h1.ab.le h.1) (E0 h2 h.2)
def Marks (A : Perm) (w w2 : World) : Prop := w2.heap.size = w.heap.size ∧ w2.os = w.os ∧ w2.tape = w.tape ∧ w2.output = w.output ∧
 ∀ b, w2.heap[b]? = w.heap[b]? ∨ (A.base ≤ b ∧ ¬ A b ∧ (∃ x, w.heap[b]? = some (.deferred x)) ∧ ∃ x, w2.heap[b]? = some (.deferred x))
theorem Marks.refl (A : Perm) (w : World) : Marks A w w := ⟨rfl, rfl, rfl, rfl, fun b => .inl rfl⟩
theorem Marks.trans {A : Perm} {w w1 w2 : World} (h : Marks A w w1) (k : Marks A w1 w2) : Marks A w w2 := by
 refine ⟨k.1.trans h.1, k.2.1.trans h.2.1, k.2.2.1.trans h.2.2.1, k.2.2.2.1.trans h.2.2.2.1, fun b => ?_⟩
 rcases h.2.2.2.2 b with h1 | ⟨h1, h2, h3, x, h4⟩ <;> rcases k.2.2.2.2 b with k1 | ⟨k1, k2, ⟨y, k3⟩, k4⟩
 ·exact .inl (k1.trans h1)
 ·exact .inr ⟨k1, k2, ⟨y, by rw [← h1]; exact k3⟩, k4⟩
 ·exact .inr ⟨h1, h2, h3, x, by rw [k1]; exact h4⟩
 ·exact .inr ⟨h1, h2, h3, k4⟩
theorem pN {A : Perm} {F : Fence} {m : Nat} {fn : Func} {tmps : Array Value} {R : Ending → World → Prop} : ∀ (ds : List Deferred) {w : World}, Ot A w ds → (∀ w2, Marks A w w2 → LeavesIn F m P fn tmps R [] .returning w2) → LeavesInM F m P fn tmps R ds .returning w
 | [], w, _, h => h w (.refl A w)
 | d :: ds, w, hd, h => by
   obtain ⟨D, rfl, h2, h3, h4⟩ := hd.2.2 _ List.mem_cons_self
   have hm : Marks A w (w.putObj D (.deferred none)) := ⟨World.putObj_size, rfl, rfl, rfl, fun b => by
    by_cases e : b = D
    ·subst e
     exact .inr ⟨h4, h3, ⟨_, h2⟩, _, World.putObj_heap_same (Array.getElem?_eq_some_iff.1 h2).1⟩
    ·exact .inl (World.putObj_heap_other e)⟩
   refine ⟨by simp, .inl ⟨D, _, rfl, run_takeDeferred h2, pN ds ⟨by rw [World.putObj_size]; exact hd.1, (List.nodup_cons.1 hd.2.1).2, fun d' Xz => ?_⟩ fun w2 hm2 => h w2 (hm.trans hm2)⟩⟩
   obtain ⟨D', e', k2, k3⟩ := hd.2.2 d' (List.mem_cons_of_mem _ Xz)
   refine ⟨D', e', ?_, k3⟩
   rw [World.putObj_heap_other]
   ·exact k2
   ·rintro rfl
    exact (List.nodup_cons.1 hd.2.1).1 (e' ▸ Xz)
theorem St.marks {ev : Nat → Value} {ea : Nat → AV} (h : St A M L w H ev ea O) {w2 : World} (hm : Marks A w w2) : St A M L w2 H ev ea O := by
 obtain ⟨h1, _, _, _, h5⟩ := hm
 have same : ∀ b, A b → w2.heap[b]? = w.heap[b]? := fun b hb => by
  rcases h5 b with h | ⟨_, h, _⟩
  ·exact h
  ·exact absurd hb h
 exact { len := h.len, nodup := h.nodup, env := h.env, bB := h.bB, bY := h.bY, cc := h.cc, La := h.La, Oa := h.Oa
         mem := fun b o v hv => by
          have hc := h.mem b o v hv
          rcases h5 b with e | ⟨_, _, ⟨x, e⟩, _⟩
          ·simp only [World.cell?] at hc ⊢; rw [e]; exact hc
          ·simp [World.cell?, e] at hc
         obj := fun id o b ho hb => (h.obj id o b ho hb).mono (Mem.bM M) (List.prefix_refl L) (same b (h.La b (List.mem_of_getElem? hb))) (fun _ => rfl)
         lt := fun b hb => by rw [h1]; exact h.lt b hb
         gH := fun t => (h.gH t).mono fun b hb => ⟨same b (h.Oa _ b hb), fun _ => rfl⟩
         gE := fun id j => by
          have e : bJ L w2 id j = bJ L w id j := by
           unfold bJ
           split
           ·rename_i b hb
            simp only [World.cell?]
            rw [same b (h.La b (List.mem_of_getElem? hb))]
           ·rfl
          rw [e]
          exact (h.gE id j).mono fun b hb => ⟨same b (h.Oa _ b hb), fun _ => rfl⟩
         eT := fun p b hp => by rw [h1]; exact h.eT p b hp
         fresh := fun b hb => h.fresh b (by rw [← h1]; exact hb) }
theorem Ext.marks {A A' : Perm} {M M' : Mem} {w w' w2 : World} (h : Ext A M w M' w') (hm : Marks A' w' w2) (hb : w.heap.size ≤ A'.base) : Ext A M w M' w2 := by
 obtain ⟨h1, h2, h3, h4, h5⟩ := hm
 refine ⟨h.kw, by rw [h1]; exact h.size, h2.trans h.os, h3.trans h.tape, h4.trans h.output, fun b aX hA => ?_, fun b r hr => ?_⟩
 ·obtain ⟨k1, k2⟩ := h.jX b aX hA
  refine ⟨?_, k2⟩
  rcases h5 b with e | ⟨e, _⟩
  ·exact e.trans k1
  ·omega
 ·obtain ⟨r', k1, k2⟩ := h.loops b r hr
  rcases h5 b with e | ⟨_, _, ⟨x, e⟩, _⟩
  ·exact ⟨r', e.trans k1, k2⟩
  ·rw [k1] at e; cases e
theorem uD {lo : Option Nat} {b : Bool} (A1 : Perm → Perm) (C : List aa → Nat → List aa → Prop) {f : FuncId} {fn : Func} {c : Code} {an : AD} {lv : l7} {pl : l8} {ir : IR} {rs : List RX} {args : List AV} {R : AV → List aa → Prop}
 (hf : P.funcs[f]? = some fn) (hcall : ∀ (as : Array Value) (w : World), (callFunc f as).run P w = .ok (.enter f as) w) (hb : fn.body = some c) (hc : comp P an lv pl fn.ntmps c = some ir) (wD : gT P fn.results.toList = some rs)
 (h1 : ∀ A : Perm, A.entry b H.length → fz lo H.length (A1 A)) (h2 : ∀ A : Perm, (A1 A).wr = A.wr) (h3 : ∀ (A : Perm) {M : Mem} {L : List Nat} {w : World} {ev : Nat → Value} {ea : Nat → AV} {O : Pos → Option Nat}, A.entry b H.length → St A M L w H ev ea O → St (A1 A) M L w H ev ea O)
 (h4 : ∀ (A : Perm) {M : Mem} {L : List Nat} {w : World} {H' : List aa} {ev : Nat → Value} {ea : Nat → AV} {O : Pos → Option Nat} {m : Nat} {H'' : List aa}, A.entry b H.length → H.length ≤ m → H.length ≤ H'.length → C H' m H'' → St (A1 A) M L w H' ev ea O → (∀ t, (ea t).a7 m = true) → ∃ O', St A M (L.take m) w H'' ev ea O')
 (hn : args.length ≤ fn.ntmps) (Rt : Env → List aa → Prop) (hRt : ∀ env H', Rt env H' → kG C H.length rs env H' R) (h : mb ⟨P, lo⟩ H.length ir (bV 0 args) H fun e env H' => (e = .normal ∨ e = .ret) ∧ Rt env H') : kc b P f args H R := by
 refine fun A M L w vs O hA hs TY => .inl ⟨hcall _ _, callsIn_wide.1 (callsIn_of_wp_marks (F := Fence.wide) (n := 0) hf hb trivial ?_ rfl)⟩
 obtain ⟨A2, DC⟩ : ∃ A2 : Perm, A2 = { A1 A with base := w.heap.size } := ⟨_, rfl⟩
 have a2w : A2.wr = A.wr := by rw [DC]; exact h2 A
 have st12 : ∀ {M : Mem} {L : List Nat} {w : World} {H : List aa} {ev : Nat → Value} {ea : Nat → AV} {O : Pos → Option Nat}, St (A1 A) M L w H ev ea O → St A2 M L w H ev ea O := by
  intro M L w H ev ea O h; subst DC
  exact { len := h.len, nodup := h.nodup, env := h.env, mem := h.mem, obj := h.obj, bB := h.bB, lt := h.lt, gH := h.gH, gE := h.gE, bY := h.bY, cc := h.cc, eT := h.eT, La := h.La, Oa := h.Oa, fresh := h.fresh }
 have st21 : ∀ {M : Mem} {L : List Nat} {w : World} {H : List aa} {ev : Nat → Value} {ea : Nat → AV} {O : Pos → Option Nat}, St A2 M L w H ev ea O → St (A1 A) M L w H ev ea O := by
  intro M L w H ev ea O h; subst DC
  exact { len := h.len, nodup := h.nodup, env := h.env, mem := h.mem, obj := h.obj, bB := h.bB, lt := h.lt, gH := h.gH, gE := h.gE, bY := h.bY, cc := h.cc, eT := h.eT, La := h.La, Oa := h.Oa, fresh := h.fresh }
 have bP := st12 (h3 A hA TY)
 have hfits : fz lo H.length A2 := by rw [DC]; exact h1 A hA
 have K5 : L.length = H.length := TY.len
 have CY : Fr A2 fn.ntmps M L w H (bV 0 args) O { tmps := vs ++ Array.replicate (fn.ntmps - vs.size) undef, defers := [] } := by
  refine ⟨bP.congr ?_ ?_, by simp; omega, ⟨by rw [DC]; exact Nat.le_refl _, List.nodup_nil, fun d h => by cases h⟩⟩
  ·intro t
   simp only [Array.getD_eq_getD_getElem?]
   by_cases ht : t < vs.size
   ·rw [Array.getElem?_append_left ht]
   ·rw [Array.getElem?_append_right (by omega), Array.getElem?_eq_none (xs := vs) (by omega), Array.getElem?_replicate]
    split <;> rfl
  ·intro t
   rw [lE]; simp
 rw [← bP.len] at h hfits
 refine Go.wpIn_mono (DB (ro := none) (L0 := L) c ir hc hfits (fun l e => by cases e) h CY (List.prefix_refl L)) ?_
 rintro e a w1 ⟨A', M', L', H', env, O', hle, ⟨he, Gs⟩, LL, hext1, hL⟩
 have base : A'.base = w.heap.size := by rw [hle.2.2, DC]
 have done : (∀ w', Marks A' w1 w' → LeavesIn Fence.wide 0 P fn a.tmps (fun e w' => ∃ v r H' M' L' O', e = .returned v ∧ R r H' ∧ St A M' L' w' H' (fe (fun _ => undef) 0 v) (fe (fun _ => .any) 0 r) O' ∧ Ext A M w M' w' ∧ L <+: L') [] .returning w') →
  bodyPostM Fence.wide 0 P fn (fun e w' => ∃ v r H' M' L' O', e = .returned v ∧ R r H' ∧ St A M' L' w' H' (fe (fun _ => undef) 0 v) (fe (fun _ => .any) 0 r) O' ∧ Ext A M w M' w' ∧ L <+: L') e a w1 := by
  intro hd
  rcases he with rfl | rfl <;> exact pN _ LL.defers hd
 refine done fun w' hm => ?_
 have ze : Fr A2 fn.ntmps M' L' w' H' env O' { a with defers := [] } :=
  ⟨(LL.st.marks hm).le hle, LL.size, ⟨by rw [hm.1, ← hle.2.2]; exact LL.defers.1, List.nodup_nil, fun d h => by cases h⟩⟩
 have cr : Ext A M w M' w' := by
  have := hext1.marks hm (Nat.le_of_eq base.symm)
  exact ⟨this.kw, this.size, this.os, this.tape, this.output, fun b hb hA => this.jX b hb (by rw [a2w]; exact hA), this.loops⟩
 have hlen2 : H.length ≤ H'.length := by have := hL.length_le; rw [K5, ze.st.len] at this; exact this
 have goal : ∃ v, (results fn a.tmps).run P w' = .ok v w' ∧ ∃ v' r H'' M'' L'' O'', Ending.returned v = .returned v' ∧ R r H'' ∧ St A M'' L'' w' H'' (fe (fun _ => undef) 0 v') (fe (fun _ => .any) 0 r) O'' ∧ Ext A M w M'' w' ∧ L <+: L'' := by
  replace Gs := hRt _ _ Gs
  unfold kG at Gs
  obtain ⟨us, xs, k1, ⟨m, H2, hm, hC, k2⟩, k3, k4, k5⟩ := zd (P := P) ze _ _ wD Gs
  have k8 : L <+: L'.take m := by
   obtain ⟨r, rfl⟩ := hL
   exact ⟨r.take (m - L.length), by rw [List.take_append, List.take_of_length_le (show L.length ≤ m by omega)]⟩
  have bG := Bg k1
  split at k2
  ·rename_i x
   obtain ⟨r, hle, hb, hR⟩ := k2
   cases k3 with
   | cons v _ _ _ hv ht =>
   cases ht
   refine ⟨v, by simpa using bG, v, r, H2, M', L'.take m, ?_⟩
   have s6 : ∃ ob, bb M' w' v x ob ∧ (∀ id j b, ob = some b → O' (.c id j) ≠ some b) ∧ (∀ b, ob = some b → b ∉ L' ∧ b < w'.heap.size ∧ A2 b) := by
    match rs, wD, k4, k5 with
    | [], wD, _, _ =>
      unfold gT at wD
      split at wD
      ·rename_i e
       rw [e] at k1
       simp at k1
      ·split at wD <;> cases wD
    | [.t s], _, k4, _ =>
      obtain ⟨e1, e2⟩ := k4 s rfl
      cases e1; cases e2
      refine ⟨O' (.t s), ze.st.gH s, fun id j b hb hc => ?_, fun b hb => ⟨ze.st.cc _ b hb, ze.st.eT _ b hb, ze.st.Oa _ b hb⟩⟩
      exact absurd (ze.st.bY _ _ b hb hc) (by intro e; cases e)
    | [.c s sz], _, _, k5 =>
      exact ⟨none, bb.free (k5 s sz rfl x rfl), (fun _ _ _ e => by cases e), (fun _ e => by cases e)⟩
    | r1 :: r2 :: rs, wD, _, _ =>
      unfold gT at wD
      split at wD
      ·cases wD
      ·split at wD <;> cases wD
       rename_i h1 h2
       unfold gT at h2
       split at h2
       ·cases h2
       ·rename_i e
        rw [e] at k1
        simp only [List.mapM_cons, Sem.run_bind] at k1
        revert k1
        generalize HP : (zc a.tmps _).run P w' = g1
        cases g1 <;> simp
        generalize hg2 : (zc a.tmps _).run P _ = g2
        cases g2 <;> simp
        generalize hg3 : (List.mapM (zc a.tmps) _).run P _ = g3
        cases g3 <;> simp
   obtain ⟨ob, o1, o2, o3⟩ := s6
   obtain ⟨ob', p1, p2⟩ := o1.le hv hle
   obtain ⟨O'', lm⟩ := ze.st.aY (hv.le hle) ob' p1 (fun id j b hb => by
    rcases p2 with rfl | rfl
    ·cases hb
    ·exact o2 id j b hb) (fun b hb => by
    rcases p2 with rfl | rfl
    ·cases hb
    ·exact o3 b hb)
   obtain ⟨O3, IA⟩ := h4 A hA (by omega) hlen2 hC (st21 lm) (EZ hb)
   exact ⟨O3, rfl, hR, IA, cr, k8⟩
  ·rename_i dG
   obtain ⟨ys, hle, hb, hR⟩ := k2
   have hlen : us.toArray.size ≠ 1 := by
    have := k3.length
    intro e
    simp at e
    rw [e] at this
    match xs, this with
    | [x], _ => exact dG x rfl
   rw [dif_neg hlen] at bG
   refine ⟨.tuple us.toArray, bG, .tuple us.toArray, .tuple ys, H2, M', L'.take m, ?_⟩
   obtain ⟨O'', lm⟩ := ze.st.aY (.tuple _ _ (E0 k3 hle)) none (bb.free (by intro _ _ e; cases e)) (fun _ _ _ e => by cases e) (fun _ e => by cases e)
   obtain ⟨O3, IA⟩ := h4 A hA (by omega) hlen2 hC (st21 lm) (EZ (x := .tuple ys) hb)
   exact ⟨O3, rfl, hR, IA, cr, k8⟩
 exact goal
theorem oW {A : Perm} {k : Nat} (h : A.entry false k) : fz none k A := ⟨h.1, fun id bm => by rw [h.2 id bm]; rfl⟩
theorem Gu {f : FuncId} {fn : Func} {c : Code} {an : AD} {lv : l7} {pl : l8} {ir : IR} {rs : List RX} {args : List AV} {R : AV → List aa → Prop}
 (hf : P.funcs[f]? = some fn) (hcall : ∀ (as : Array Value) (w : World), (callFunc f as).run P w = .ok (.enter f as) w) (hb : fn.body = some c) (hc : comp P an lv pl fn.ntmps c = some ir) (wD : gT P fn.results.toList = some rs)
 (hn : args.length ≤ fn.ntmps) (h : mb P H.length ir (bV 0 args) H fun e env H' => (e = .normal ∨ e = .ret) ∧ bT H.length rs env H' R) : aq P f args H R := by
 refine uD (lo := none) (b := false) (fun A => A) (fun H m H' => H' = H.take m) hf hcall hb hc wD (fun A => oW) (fun A => rfl) (fun A _ _ _ _ _ _ _ h => h) ?_ hn (fun env H' => bT H.length rs env H' R) (fun env H' => P9) h
 intro A M L w H' ev ea O m H'' hA hm hl e bP Lr
 subst e
 exact bP.cut m (fun id o => (oW hA).closed hm bP id o) Lr
def mW (k : Nat) (A : Perm) : Perm where
 wr := A.wr
 top := fun id => if id < k then A.top id else none
 ok := fun id n h => by
  split at h
  ·exact A.ok id n h
  ·cases h
theorem Bh {A : Perm} {k : Nat} {b : Bool} (h : A.entry b k) : fz (some k) k (mW k A) :=
 ⟨fun id bm => by obtain ⟨m, h1, h2⟩ := h.1 id bm; exact ⟨m, h1, by simp only [mW, if_pos bm]; exact h2⟩, rfl, fun id bm => by simp only [mW]; rw [if_neg (by omega)]⟩
def mc (n0 : Nat) (H : List aa) (m : Nat) (H' : List aa) : Prop :=
 H'.length = min m H.length ∧ ∀ (id : Nat) (o : aa), H'[id]? = some o → o = .dead ∨ (H[id]? = some o ∧ (n0 ≤ id → o.a7 (id + 1) = true))
theorem DD {f : FuncId} {fn : Func} {c : Code} {an : AD} {lv : l7} {pl : l8} {ir : IR} {rs : List RX} {args : List AV} {R : AV → List aa → Prop}
 (hf : P.funcs[f]? = some fn) (hcall : ∀ (as : Array Value) (w : World), (callFunc f as).run P w = .ok (.enter f as) w) (hb : fn.body = some c) (hc : comp P an lv pl fn.ntmps c = some ir) (wD : gT P fn.results.toList = some rs)
 (hn : args.length ≤ fn.ntmps) (h : mb ⟨P, some H.length⟩ H.length ir (bV 0 args) H fun e env H' => (e = .normal ∨ e = .ret) ∧ kG (mc H.length) H.length rs env H' R) : aq P f args H R := by
 refine uD (lo := some H.length) (b := false) (mW H.length) (mc H.length) hf hcall hb hc wD (fun A hA => Bh hA) (fun A => rfl) (fun A M L w ev ea O hA bP => ?_) ?_ hn (fun env H' => kG (mc H.length) H.length rs env H' R) (fun env H' h => h) h
 ·exact { len := bP.len, nodup := bP.nodup, env := bP.env, mem := bP.mem, obj := bP.obj, lt := bP.lt, gH := bP.gH, gE := bP.gE, bY := bP.bY, cc := bP.cc, eT := bP.eT, La := bP.La, Oa := bP.Oa, fresh := bP.fresh
          bB := fun id o ho => by
           have := bP.bB id o ho
           have e : (mW H.length A).jc H.length id = A.jc H.length id := by unfold Perm.jc; simp only [mW, if_pos (aN ho)]
           rw [e]; exact this }
 ·intro A M L w H' ev ea O m H'' hA hm hl hC bP Lr
  obtain ⟨hlen, hC⟩ := hC
  refine bP.Qa A rfl m hlen (fun id o ho => ?_) Lr
  rcases hC id o ho with h' | ⟨h1, h2⟩
  ·exact .inl h'
  ·refine .inr ⟨h1, ?_⟩
   by_cases bm : id < H.length
   ·obtain ⟨k, hk, ek⟩ := hA.1 id bm
    have := bP.bB id o h1
    have e1 : (mW H.length A).jc H'.length id = min k H'.length := by unfold Perm.jc; simp only [mW, if_pos bm, ek]
    have e2 : A.jc H''.length id = min k H''.length := by unfold Perm.jc; simp only [ek]
    rw [e1] at this
    rw [e2]
    exact aa.cE (by omega) o this
   ·have e2 : A.jc H''.length id = min (id + 1) H''.length := by unfold Perm.jc; rw [hA.2 id (by omega)]; rfl
    have := aN ho
    rw [e2]
    exact aa.cE (by omega) o (h2 (by omega))
end
end Go.aK
end
