/- Part 2 of 18 of the proof. -/
import Derived.Test.YtljchnfgjdjobaaGreatUaa
import Derived.RangeFuncNested
set_option linter.unusedVariables false
set_option linter.unusedSimpArgs false
set_option linter.defProp false
set_option linter.unusedSectionVars false
section
namespace Go.aK
open Go
def Perm.entry (A : Perm) (loose : Bool) (n : Nat) : Prop := (∀ id, id < n → ∃ m, m ≤ n ∧ A.top id = some m) ∧ ∀ id, n ≤ id → A.top id = if loose = true then none else some (id + 1)
def kc (loose : Bool) (P : Program) (f : FuncId) (args : List AV) (H : List aa) (R : AV → List aa → Prop) : Prop :=
 ∀ A M L w (vs : Array Value) O, A.entry loose H.length → vs.size = args.length → St A M L w H (fun t => vs.getD t undef) (fun t => args.getD t .any) O →
  ((callFunc f vs).run P w = .ok (.enter f vs) w ∧ Calls P f vs w fun e w' => ∃ v r H' M' L' O', e = .returned v ∧ R r H' ∧ St A M' L' w' H' (fe (fun _ => undef) 0 v) (fe (fun _ => .any) 0 r) O' ∧ Ext A M w M' w' ∧ L <+: L') ∨
  (∃ v w' r H' M' L' O', (callFunc f vs).run P w = .ok (.value v) w' ∧ R r H' ∧ St A M' L' w' H' (fe (fun _ => undef) 0 v) (fe (fun _ => .any) 0 r) O' ∧ Ext A M w M' w' ∧ L <+: L')
def aq (P : Program) (f : FuncId) (args : List AV) (H : List aa) (R : AV → List aa → Prop) : Prop := kc false P f args H R
def tE (P : Program) (f : FuncId) (args : List AV) (H : List aa) (R : AV → List aa → Prop) : Prop := kc true P f args H R
theorem kc.mono {b : Bool} {P : Program} {f : FuncId} {args : List AV} {H : List aa} {R R' : AV → List aa → Prop} (h : kc b P f args H R) (hr : ∀ r H', R r H' → R' r H') : kc b P f args H R' := by
 intro A M L w vs O hA hs bP
 rcases h A M L w vs O hA hs bP with ⟨h1, h2⟩ | ⟨v, w', r, H', M', L', O', h1, h2, h3⟩
 ·exact .inl ⟨h1, h2.mono fun e w' ⟨v, r, H', M', L', O', h1, h2, h3⟩ => ⟨v, r, H', M', L', O', h1, hr _ _ h2, h3⟩⟩
 ·exact .inr ⟨v, w', r, H', M', L', O', h1, hr _ _ h2, h3⟩
theorem aq.mono {P : Program} {f : FuncId} {args : List AV} {H : List aa} {R R' : AV → List aa → Prop} (h : aq P f args H R) (hr : ∀ r H', R r H' → R' r H') : aq P f args H R' := kc.mono h hr
theorem tE.mono {P : Program} {f : FuncId} {args : List AV} {H : List aa} {R R' : AV → List aa → Prop} (h : tE P f args H R) (hr : ∀ r H', R r H' → R' r H') : tE P f args H R' := kc.mono h hr
theorem aq.body {P : Program} {f : FuncId} {args : List AV} {H : List aa} {R : AV → List aa → Prop} (h : aq P f args H R) (he : ∀ (as : Array Value) (w : World), (callFunc f as).run P w = .ok (.enter f as) w)
 {A : Perm} {M : Mem} {L : List Nat} {w : World} {vs : Array Value} {O : Pos → Option Nat} (hA : A.entry false H.length) (hs : vs.size = args.length) (bP : St A M L w H (fun t => vs.getD t undef) (fun t => args.getD t .any) O) :
 Calls P f vs w fun e w' => ∃ v r H' M' L' O', e = .returned v ∧ R r H' ∧ St A M' L' w' H' (fe (fun _ => undef) 0 v) (fe (fun _ => .any) 0 r) O' ∧ Ext A M w M' w' ∧ L <+: L' := by
 rcases h A M L w vs O hA hs bP with ⟨h1, h2⟩ | ⟨v, w', r, H', M', L', O', h1, h2, h3⟩
 ·exact h2
 ·rw [he] at h1; cases h1
structure Px where
 prog : Program
 lo : Option Nat
instance : Coe Program Px := ⟨fun P => ⟨P, none⟩⟩
def dX (P : Px) (f : FuncId) (args : List AV) (H : List aa) (R : AV → List aa → Prop) : Prop :=
 match P.lo with
 | none => aq P.prog f args H R
 | some l => aq P.prog f args H R ∨ (l ≤ H.length ∧ tE P.prog f args H R)
theorem dX.of {P : Px} {f : FuncId} {args : List AV} {H : List aa} {R : AV → List aa → Prop} (h : aq P.prog f args H R) : dX P f args H R := by
 unfold dX; split
 ·exact h
 ·exact .inl h
theorem dX.mono {P : Px} {f : FuncId} {args : List AV} {H : List aa} {R R' : AV → List aa → Prop} (h : dX P f args H R) (hr : ∀ r H', R r H' → R' r H') : dX P f args H R' := by
 unfold dX at *; split at h
 ·exact h.mono hr
 ·rcases h with h | ⟨h1, h2⟩
  ·exact .inl (h.mono hr)
  ·exact .inr ⟨h1, h2.mono hr⟩
def fa (loose : Bool) (P : Program) (id : Nat) (args : List AV) (H : List aa) (R : AV → List aa → Prop) : Prop :=
 ∀ A M L w (vs : Array Value) O b, A.entry loose H.length → vs.size = args.length → L[id]? = some b → St A M L w H (fun t => vs.getD t undef) (fun t => args.getD t .any) O →
  ∃ fn tmps as bd, (Instr.yield b vs).run P w = .ok (.round b fn tmps as bd) w ∧ RoundIn Fence.wide 0 P b fn tmps as bd w fun e w' =>
   ∃ v r H' M' L' O', e = .returned v ∧ R r H' ∧ St A M' L' w' H' (fe (fun _ => undef) 0 v) (fe (fun _ => .any) 0 r) O' ∧ Ext A M w M' w' ∧ L <+: L'
theorem fa.mono {b : Bool} {P : Program} {id : Nat} {args : List AV} {H : List aa} {R R' : AV → List aa → Prop} (h : fa b P id args H R) (hr : ∀ r H', R r H' → R' r H') : fa b P id args H R' := by
 intro A M L w vs O c hA hs hc bP
 obtain ⟨fn, tmps, as, bd, h1, h2⟩ := h A M L w vs O c hA hs hc bP
 exact ⟨fn, tmps, as, bd, h1, h2.mono fun e w' ⟨v, r, H', M', L', O', h1, h2, h3⟩ => ⟨v, r, H', M', L', O', h1, hr _ _ h2, h3⟩⟩
def jr (P : Program) (id : Nat) (args : List AV) (H : List aa) (R : AV → List aa → Prop) : Prop := fa false P id args H R
def LN (P : Program) (id : Nat) (args : List AV) (H : List aa) (R : AV → List aa → Prop) : Prop := fa true P id args H R
def lq (P : Px) (id : Nat) (args : List AV) (H : List aa) (R : AV → List aa → Prop) : Prop :=
 match P.lo with
 | none => jr P.prog id args H R
 | some l => jr P.prog id args H R ∨ (l ≤ H.length ∧ LN P.prog id args H R)
theorem lq.mono {P : Px} {id : Nat} {args : List AV} {H : List aa} {R R' : AV → List aa → Prop} (h : lq P id args H R) (hr : ∀ r H', R r H' → R' r H') : lq P id args H R' := by
 unfold lq at *; split at h
 ·exact fa.mono h hr
 ·rcases h with h | ⟨h1, h2⟩
  ·exact .inl (fa.mono h hr)
  ·exact .inr ⟨h1, fa.mono h2 hr⟩
def xp : List AV → List AV → Prop
 | [], [] => True
 | x :: xs, y :: ys => x.le y ∧ xp xs ys
 | _, _ => False
def aF (env : Env) (pass : Option Nat) : Nat → List IX → List AV
 | _, [] => []
 | j, .t s :: xs => (if pass = some j then get env s else (get env s).ab) :: aF env pass (j + 1) xs
 | j, .c v :: xs => v.ab :: aF env pass (j + 1) xs
def bc (args : List IX) (pass : Option Nat) : Option Nat :=
 match pass with
 | some j => match args[j]? with
   | some (.t s) => some s
   | _ => none
 | none => none
def cD (env : Env) (s : Option Nat) : Env := match s with | some d => (d, (get env d).ab) :: env | none => env
def oA (P : Px) (f : AV) (args : List IX) (pass : Option Nat) (env : Env) (H : List aa) (K : AV → Env → List aa → Prop) : Prop :=
 match f with
 | .fn (.func g) first cap => ∃ bO, xp (first.map AV.ab ++ aF env pass 0 args ++ cap.map AV.ab) bO ∧ dX P g bO H (fun r H' => K r (cD env (bc args pass)) H')
 | .mC id => ∃ bO, xp (aF env pass 0 args) bO ∧ lq P id bO H (fun r H' => K r (cD env (bc args pass)) H')
 | _ => False
def aL (kd : Nat) (x : AV) : Prop :=
 match kd, x with
 | 0, .str _ => True
 | 1, .ah => True
 | 1, .ap _ _ => True
 | 1, .bf _ _ _ _ => True
 | 1, .oh => True
 | 2, .iD => True
 | 2, .map _ => True
 | _, _ => False
def fX (env : Env) (x : Option IX) : Option AV := x.map (al env)
def bt (P : Px) (o : bW) (dst : Option Nat) (env : Env) (H : List aa) (K : Env → List aa → Prop) : Prop :=
 match o with
 | .set x take => match dst with | some d => K (s7 env d x take) H | none => K env H
 | .pick c a b => eH (al env c) fun q => (q = true → K (put dst (al env a).ab env) H) ∧ (q = false → K (put dst (al env b).ab env) H)
 | .bin op x y => cV op (al env x) (al env y) fun z => K (put dst z env) H
 | .shift op x y => dL op (al env x) (al env y) fun z => K (put dst z env) H
 | .gO neq x y => cM neq (al env x) (al env y) fun z => K (put dst z env) H
 | .iT kd neq x => dc kd neq (al env x) fun z => K (put dst z env) H
 | .un op x => yH op (al env x) fun z => K (put dst z env) H
 | .box x => (al env x).val = true ∧ aj (H.length + 1) ((al env x).cells.map AV.ab) = true ∧ K (put dst (.ptr H.length 0) env) (H ++ [.cells ((al env x).cells.map AV.ab)])
 | .k9 x => (al env x).val = true ∧ K (put dst (.ai (al env x)) env) H
 | .qT m x => (al env x).val = true ∧ (al env x).cells.length = m ∧ (al env x).cells.all AV.one = true ∧ K (put dst (.ai (al env x)) env) H
 | .alloc z => aj (H.length + 1) (z.cells.map AV.ab) = true ∧ K (put dst (.ptr H.length 0) env) (H ++ [.cells (z.cells.map AV.ab)])
 | .build z ps => cC z.cells (ps.map fun q => (q.1, q.2.1, al env q.2.2)) fun v => K (put dst v env) H
 | .buildSlice own esz z len ps => bh (List.replicate len (aT z)) esz (ps.map fun q => (q.1, al env q.2)) fun xs => K (put dst (.ap own xs) env) H
 | .load sz a => aS sz (al env a) H fun z => K (put dst z env) H
 | .sj sz esz a => aS sz (al env a) H fun z => ff esz z H fun y H' => K (put dst y env) H'
 | .eh a => match dst, al env a with
   | some d, .ptr id off => match H[id]? with
     | some (.cells es) => off < es.length ∧ K ((d, es.getD off .any) :: env) (H.set id (.cells (es.set off (es.getD off .any).ab)))
     | _ => False
   | _, _ => False
 | .store m a x => gQ m (al env a) (al env x) H fun H' => K env H'
 | .mE m a x => match P.lo with | some l => gh l m (al env a) (al env x) H fun H' => K env H' | none => False
 | .eV a s => dM (al env a) (get env s) H fun H' => K ((s, (get env s).ab) :: env) H'
 | .nilCheck x => bR (al env x) fun z => K (put dst z env) H
 | .fieldAddr off sz x => ak off sz (al env x) fun z => K (put dst z env) H
 | .field off sz x => eI off sz (al env x) fun z => K (put dst z env) H
 | .indexAddr esz x i => (∀ own xs, al env x = .ap own xs → ∀ z ∈ xs, z.cells.length = esz) ∧ ay esz (al env x) (al env i) fun z => K (put dst z env) H
 | .c8 x i => bH (al env x) (al env i) fun z => K (put dst z env) H
 | .dJ n x i => bQ n (al env x) (al env i) fun z => K (put dst z env) H
 | .oN esz x lo hi mx => (∀ own xs, al env x = .ap own xs → ∀ z ∈ xs, z.cells.length = esz) ∧ eL esz (al env x) (fX env lo) (fX env hi) (fX env mx) fun z => z = .ap esz [] ∧ K (put dst .oh env) H
 | .slice esz x lo hi mx => bn esz (al env x) (fX env lo) (fX env hi) (fX env mx) fun z => K (put dst z env) H
 | .copy esz d s => jo esz (al env d) (al env s) H fun z H' => K (put dst z env) H'
 | .dK x lo hi => b7 (al env x) (fX env lo) (fX env hi) fun z => K (put dst z env) H
 | .len kd x => aL kd (al env x) ∧ eW (al env x) H fun z => K (put dst z env) H
 | .append esz bytes s x => bE esz bytes (al env s) (al env x) fun zs => K (put dst (.ap esz zs) (cD env s.slot)) H
 | .sk esz bytes z n => fK esz bytes z (al env n) H fun v H' => K (put dst v env) H'
 | .mF esz bytes n => iI esz bytes (al env n) fun v => K (put dst v env) H
 | .mG => K (put dst (.map H.length) env) (H ++ [.map []])
 | .lookup kd z m k ok => cb kd z (al env m) (al env k) ok H fun v => K (put dst v env) H
 | .jY kd m k x => eZ kd (al env m) (al env k) (al env x) H fun H' => K env H'
 | .fn f first cap => K (put dst (.fn f (first.map fun x => (al env x).ab) (cap.map fun x => (al env x).ab)) env) H
 | .extract x i => bC (al env x) i fun z => K (put dst z env) H
 | .call f args pass => oA P (al env f) args pass env H fun r aD H' => K (put dst r aD) H'
 | .eC k x => cp k (al env x) fun z => K (put dst z env) H
 | .gg x => fx (al env x) fun z => K (put dst z env) H
 | .bytesOf x => eM 1 (al env x) fun z => K (put dst z env) H
 | .strOf x => jn (al env x) fun z => K (put dst z env) H
 | .mx big a b => wy big (al env a) (al env b) fun z => K (put dst z env) H
 | .yF esz x => ff esz (al env x) H fun z H' => K (put dst z env) H'
 | .AI esz z len ps => bh (List.replicate len (aT z)) esz (ps.map fun q => (q.1, al env q.2)) fun xs => sx xs H fun v H' => K (put dst v env) H'
 | .iV esz bytes z s x => cG esz bytes z (al env s) (al env x) H fun v H' => K (put dst v env) H'
 | .mH esz z x => gY esz z (al env x) H fun H' => K (put dst (.tuple []) env) H'
 | .never => False
def cQ (P : Program) (e : TypeId) : Option (Nat × AV) :=
 match dB P e, fw P e with
 | some esz, some z => if 0 < esz ∧ z.cells.length = esz ∧ z.val = true then some (esz, z) else none
 | _, _ => none
def yW (P : Program) (e : TypeId) : Option Nat := (P.info? e).map (·.bytes)
def Dk (z : AV) : Bool := z.cells.all fun y => match y with | .ap own _ => own == 0 | _ => true
def jP : Option Operand → Option (Option IX)
 | none => some none
 | some x => (aP x).map some
def Iw (x y : Operand) : Bool := match x, y with | .tmp a, .tmp b => a == b | .const (.int .i64 a), .const (.int .i64 b) => a == b | _, _ => false
def ch (P : Program) (o : Oper) (fl : Nat) : Option bW :=
 match o.op with
 | .move x | .assign x => (aP x).map fun i => .set i (fl == 1)
 | .pick c a b => match aP c, aP a, aP b with
   | some c, some a, some b => some (.pick c a b)
   | _, _, _ => none
 | .binOp op t x y _ => match aP x, aP y with
   | some i, some j => match op with
     | .shl | .shr => some (.shift op i j)
     | .eql | .neq => match P.underlying t with
       | some .bool => some (.gO (op matches .neq) i j)
       | some (.int _) | some .string => some (.bin op i j)
       | some (.slice _) => match y with | .const (.slice none 0 0) => some (.iT 0 (op matches .neq) i) | _ => none
       | some (.pointer _) => match y with | .const (.pointer none) => some (.iT 1 (op matches .neq) i) | _ => none
       | some (.map _ _) => match y with | .const (.map none) => some (.iT 2 (op matches .neq) i) | _ => none
       | some (.func _ _ _) => match y with | .const .nilFunc => some (.iT 3 (op matches .neq) i) | _ => none
       | _ => none
     | _ => some (.bin op i j)
   | _, _ => none
 | .unOp op _ x => (aP x).map fun i => .un op i
 | .box _ x => (aP x).map fun i => if fl = 1 then .k9 i else .box i
 | .alloc e => match fw P e with
   | some z => if z.val = true then some (.alloc z) else none
   | none => none
 | .build t ps => match C9 P t with
   | some (z, places) => match eY places ps.toList with
     | some qs => if z.val = true then some (.build z qs) else none
     | none => none
   | none => none
 | .buildSlice t len ps => match P.underlying t with
   | some (.slice e) => match cQ P e, jk ps.toList with
     | some (esz, z), some qs => if len * esz ≤ 16777216 then some (if fl = 2 then .AI esz z len qs else .buildSlice (if fl = 1 then esz else 0) esz z len qs) else none
     | _, _ => none
   | _ => none
 | .load t a => match HP P t, aP a with
   | some sz, some i => if fl = 1 then (if sz = none then some (.eh i) else none) else if 3000 < fl then some (.sj sz (fl - 3000) i) else some (.load sz i)
   | _, _ => none
 | .store t a x => match dB P t, aP a, aP x with
   | some m, some i, some j => if fl = 1 then (match j with | .t s => if m = 1 then some (.eV i s) else none | _ => none) else if fl = 2 then some (.mE m i j) else some (.store m i j)
   | _, _, _ => none
 | .nilCheck x => (aP x).map .nilCheck
 | .fieldAddr s x f => match qV P s f, aP x with
   | some (off, sz), some i => some (.fieldAddr off sz i)
   | _, _ => none
 | .field s x f => match qV P s f, aP x with
   | some (off, sz), some i => some (.field off sz i)
   | _, _ => none
 | .indexAddr t x i => match P.underlying t, aP x, aP i with
   | some (.slice e), some j, some k => (dB P e).map fun esz => .indexAddr esz j k
   | _, _, _ => none
 | .index t x i => match P.underlying t, aP x, aP i with
   | some .string, some j, some k => some (.c8 j k)
   | some (.array n e), some j, some k => if HP P e = some none then some (.dJ n j k) else none
   | _, _, _ => none
 | .slice t x lo hi mx => match P.underlying t, aP x, jP lo, jP hi, jP mx with
   | some (.slice e), some i, some l, some h, some m => match dB P e with
     | some esz => if 0 < esz then some (if fl = 4 then .oN esz i l h m else .slice esz i l h m) else none
     | none => none
   | some .string, some i, some l, some h, some none => some (.dK i l h)
   | _, _, _, _, _ => none
 | .makeSlice t l c => match P.underlying t, aP c with
   | some (.slice e), some k => match cQ P e, yW P e with
     | some (esz, z), some bytes => if 0 < bytes ∧ Dk z = true then (match l with
        | .const (.int .i64 0) => some (.mF esz bytes k)
        | _ => if Iw l c = true then some (.sk esz bytes z k) else none) else none
     | _, _ => none
   | _, _ => none
 | .makeMap _ none => some .mG
 | .lookup t m k ok => match P.underlying t, aP m, aP k with
   | some (.map kt et), some i, some j => match nH P kt, fw P et with
     | some kd, some z => some (.lookup kd z i j ok)
     | _, _ => none
   | _, _, _ => none
 | .mapUpdate t m k x => match P.underlying t, aP m, aP k, aP x with
   | some (.map kt _), some i, some j, some y => (nH P kt).map fun kd => .jY kd i j y
   | _, _, _, _ => none
 | .makeFunc f first cap => match fm first.toList, fm cap.toList with
   | some i, some j => some (.fn f i j)
   | _, _ => none
 | .extract x i => (aP x).map fun j => .extract j i
 | .convert src dst x => match P.underlying src, P.underlying dst, aP x with
   | some (.int _), some (.int k), some i => some (.eC k i)
   | some .string, some .string, some i => some (.gg i)
   | some .string, some (.slice e), some i => match P.underlying e with
     | some (.int .u8) => some (.bytesOf i)
     | _ => none
   | some (.slice e), some .string, some i => match P.underlying e with
     | some (.int .u8) => some (.strOf i)
     | _ => none
   | _, _, _ => none
 | .call c => match c.callee with
   | .value f => match aP f, fm c.args.toList with
     | some i, some js => some (.call i js (if fl = 0 then none else some (fl - 1)))
     | _, _ => none
   | .builtin .len => match c.args.toList, c.argTypes.toList with
     | [x], [t] => match P.underlying t, aP x with
       | some .string, some i => some (.len 0 i)
       | some (.slice _), some i => some (.len 1 i)
       | some (.map _ _), some i => some (.len 2 i)
       | _, _ => none
     | _, _ => none
   | .builtin .append => match c.args.toList, c.argTypes.toList with
     | [s, x], [t, t'] => if t = t' then (match P.underlying t, aP s, aP x with
        | some (.slice e), some i, some j => match cQ P e, yW P e with
          | some (esz, z), some bytes => if 0 < bytes then (if fl = 2 then (if Dk z = true then some (.iV esz bytes z i j) else none) else some (.append esz bytes i j)) else none
          | _, _ => none
        | _, _, _ => none) else none
     | _, _ => none
   | .builtin .max => match c.args.toList with
     | [x, y] => match aP x, aP y with
       | some i, some j => some (.mx true i j)
       | _, _ => none
     | _ => none
   | .builtin .min => match c.args.toList with
     | [x, y] => match aP x, aP y with
       | some i, some j => some (.mx false i j)
       | _, _ => none
     | _ => none
   | _ => none
 | _ => none
def pG (P : Program) (o : Oper) : bW :=
 match o.op with
 | .call c => match c.callee with
   | .builtin .copy => match c.args.toList, c.argTypes.toList with
     | [s, x], [t, _] => match P.underlying t, aP s, aP x with
        | some (.slice e), some i, some j => match dB P e with
          | some esz => .copy esz i j
          | none => .never
        | _, _, _ => .never
     | _, _ => .never
   | .builtin .clear => match c.args.toList, c.argTypes.toList with
     | [s], [t] => match P.underlying t, aP s with
        | some (.slice e), some i => match cQ P e with
          | some (esz, z) => .mH esz z i
          | none => .never
        | _, _ => .never
     | _, _ => .never
   | _ => .never
 | _ => .never
def mN (P : Program) (o : Oper) : bW :=
 match o.op with
 | .move x | .assign x => match aP x, P.underlying o.type with
   | some i, some (.slice e) => match dB P e with
     | some esz => .yF esz i
     | none => .never
   | _, _ => .never
 | _ => .never
def kA (esz : Nat) (o : Oper) : bW :=
 match o.op with
 | .move x | .assign x => match aP x with
   | some i => .yF esz i
   | none => .never
 | _ => .never
def LO (o : Oper) : Bool := match o.op with | .load _ _ => false | _ => true
def A5 (P : Program) (o : Oper) (fl : Nat) : bW := if fl = 3000 then mN P o else if 3000 < fl ∧ LO o = true then kA (fl - 3000) o else (ch P o fl).getD (pG P o)
end Go.aK
end
section
namespace Go.aK
open Go
section
variable {ro : Option Nat} {P : Program} {lo : Option Nat} {A : Perm} {n : Nat} {M : Mem} {L : List Nat} {w : World} {H : List aa} {env : Env} {O : Pos → Option Nat} {a : Act} {Q : Exit → Act → World → Prop} {K : Env → List aa → Prop}
theorem bK {o : Oper} (hf : Fr A n M L w H env O a) (hd : ∀ d, o.dst = some d → d < n)
 (h : ∃ r z, (execOp a.eval o).run P w = .ok (.value r) w ∧ aR M L r z ∧ K (put o.dst z env) H ∧ ∀ own xs, z = .ap own xs → own = 0) : o.wpIn (wf ro) 0 P a w (mA A n M L w K) Q := by
 obtain ⟨r, z, h1, h2, h3, h4⟩ := h
 exact wp_pure hf hd h1 h2 h4 h3
theorem aV {s : Sem Value} {r : Value} {w' : World} (h : s.run P w = .ok r w') : (do pure (Next.value (← s)) : Sem Next).run P w = .ok (.value r) w' := by
 simp only [Sem.run_bind, h, Result.andThen_ok, Sem.run_pure]
theorem pH {s : Sem Unit} {w' : World} (h : s.run P w = .ok () w') : (do s; pure Next.skip : Sem Next).run P w = .ok .skip w' := by
 simp only [Sem.run_bind, h, Result.andThen_ok, Sem.run_pure]
theorem nK {o : Oper} (hf : Fr A n M L w H env O a) (hd : ∀ d, o.dst = some d → d < n) {r : Value} {z : AV} {w' : World} {M' : Mem} {L' : List Nat} {H' : List aa} (bG : (execOp a.eval o).run P w = .ok (.value r) w')
 (hr : aR M' L' r z) (hz : ∀ own xs, z = .ap own xs → own = 0) (bP : St A M' L' w' H' (fun t => a.tmps.getD t undef) (get env) O) (cq : Ext A M w M' w') (hL : L <+: L') (hK : K (put o.dst z env) H') : o.wpIn (wf ro) 0 P a w (mA A n M L w K) Q := by
 obtain ⟨O', oR⟩ := (hf.mono bP cq).ol hd hr hz
 exact c9 bG ⟨M', L', H', _, O', hK, oR, cq, hL⟩
theorem ur {o : Oper} {aD : Env} {O' : Pos → Option Nat} (hf : Fr A n M L w H env O a) (hd : ∀ d, o.dst = some d → d < n) {r : Value} {z : AV} {w' : World} {M' : Mem} {ob : Option Nat} (bG : (execOp a.eval o).run P w = .ok (.value r) w')
 (hr : aR M' L r z) (K6 : bb M' w' r z ob) (bP : St A M' L w' H (fun t => a.tmps.getD t undef) (get aD) O') (cq : Ext A M w M' w') (h1 : ∀ q b, ob = some b → O' q ≠ some b) (h2 : ∀ b, ob = some b → b ∉ L ∧ b < w'.heap.size ∧ A b) (hK : K (put o.dst z aD) H) : o.wpIn (wf ro) 0 P a w (mA A n M L w K) Q := by
 have oR : Fr A n M' L w' H aD O' a := ⟨bP, hf.size, hf.defers.ext cq⟩
 refine c9 bG ?_
 cases fL : o.dst with
 | none => rw [fL] at hK; exact ⟨M', L, H, _, O', hK, oR, cq, List.prefix_refl L⟩
 | some d =>
   rw [fL] at hK
   exact ⟨M', L, H, _, _, hK, oR.C5 (hd d fL) hr ob K6 (fun q b hb hq => absurd hq (h1 q b hb)) h2, cq, List.prefix_refl L⟩
theorem xq {o : Oper} {x : Operand} (ho : o.op = .move x ∨ o.op = .assign x) {i : IX} (hc : aP x = some i) {take : Bool} (hf : Fr A n M L w H env O a) (hd : ∀ d, o.dst = some d → d < n)
 (h : bt ⟨P, lo⟩ (.set i take) o.dst env H K) : o.wpIn (wf ro) 0 P a w (mA A n M L w K) Q := by
 have bG : (execOp a.eval o).run P w = .ok (.value (a.eval x)) w := by
  rcases ho with ho | ho <;> simp [execOp, ho]
 have hr := hf.eval hc
 simp only [bt] at h
 cases fL : o.dst with
 | none =>
   rw [fL] at h
   refine c9 bG ⟨M, L, H, env, O, h, ?_, Ext.refl A M w, List.prefix_refl L⟩
   rw [fL]; exact hf
 | some d =>
   rw [fL] at h
   have TP := hd d fL
   have h : K (s7 env d i take) H := h
   unfold s7 at h
   split at h
   ·rename_i s _
    -- the list moves
    cases x with
    | tmp t =>
      have hts : t = s := by simpa [aP] using hc
      subst hts
      have mL := hf.st.ol t (v := a.tmps.getD t undef) (x := (get env t).ab) (hf.st.env t).ab (AV.bI _)
      have TC : fe (fun t => a.tmps.getD t undef) t (a.tmps.getD t undef) = fun t => a.tmps.getD t undef := by funext t'; simp only [fe]; split; rename_i e0; rw [e0]; rfl
      rw [TC] at mL
      have EO : Fr A n M L w H ((t, (get env t).ab) :: env) (dV O (.t t) none) a := ⟨mL, hf.size, hf.defers⟩
      have sy := EO.C5 TP (v := a.tmps.getD t undef) (x := get env t) (hf.st.env t) (O (.t t)) (hf.st.gH t) (fun p b hb hp => by
       simp only [dV] at hp
       split at hp
       ·cases hp
       ·rename_i n'; exact absurd (hf.st.bY _ _ b hp hb) n') (fun b hb => ⟨hf.st.cc _ b hb, hf.st.eT _ b hb, hf.st.Oa _ b hb⟩)
      rw [← fL] at sy
      exact c9 bG ⟨M, L, H, _, _, h, sy, Ext.refl A M w, List.prefix_refl L⟩
    | const v => simp only [aP] at hc; obtain ⟨y, _, hy⟩ := Option.map_eq_some_iff.1 hc; cases hy
    | func f => simp [aP] at hc
    | global g => simp [aP] at hc
   ·have sy := hf.C5 TP hr.ab none (bb.free (AV.bI _)) (fun p b e => by cases e) (fun b e => by cases e)
    rw [← fL] at sy
    exact c9 bG ⟨M, L, H, _, _, h, sy, Ext.refl A M w, List.prefix_refl L⟩
theorem uv {o : Oper} {t : TypeId} {x : Operand} (ho : o.op = .load t x) (ht : HP P t = some none) {i : IX} (hc : aP x = some i) (hf : Fr A n M L w H env O a) (hd : ∀ d, o.dst = some d → d < n)
 (h : bt ⟨P, lo⟩ (.eh i) o.dst env H K) : o.wpIn (wf ro) 0 P a w (mA A n M L w K) Q := by
 have hr := hf.eval hc
 simp only [bt] at h
 split at h <;> try exact h.elim
 rename_i d id off fL hx
 split at h <;> try exact h.elim
 rename_i es bm
 obtain ⟨om, hK⟩ := h
 rw [hx] at hr
 generalize hu : a.eval x = u at hr
 cases hr with
 | ptr b _ _ hl =>
 obtain ⟨cs, e, h1, h2, h3⟩ := eX hf.st bm hl
 have hlen := h2.length
 obtain ⟨r1, r2⟩ := ej (w := w) (m := 0) ht
 have yK : off < cs.toList.length := by omega
 have hcell := h3 off cs.toList[off] (by simp)
 have fo := h2.getD off
 have e0 : cs.toList.getD off undef = cs.toList[off] := by rw [List.getD_eq_getElem?_getD, List.getElem?_eq_getElem yK]; rfl
 rw [e0] at fo
 have bG : (execOp a.eval o).run P w = .ok (.value cs.toList[off]) w := by
  simp only [execOp, ho, hu]
  exact aV (by simp only [Instr.loadAt, Instr.sureAddr, loadVar, Sem.run_bind, Sem.run_pure, Result.andThen_ok, r1, Bool.false_eq_true, if_false, run_load, hcell])
 have bP := hf.st.F3 bm hl om
 have EO : Fr A n M L w (H.set id (.cells (es.set off (es.getD off .any).ab))) env (dV O (.c id off) none) a := ⟨bP, hf.size, hf.defers⟩
 have K6 : bb M w cs.toList[off] (es.getD off .any) (O (.c id off)) := by
  have h0 := hf.st.gE id off
  have e3 : bJ L w id off = cs.toList[off] := by unfold bJ; simp only [hl, hcell]; rfl
  have e4 : bp H id off = es.getD off .any := by unfold bp; simp [bm]
  rwa [e3, e4] at h0
 have sy := EO.C5 (hd d fL) fo (O (.c id off)) K6 (fun p b hb hp => by
  simp only [dV] at hp
  split at hp
  ·cases hp
  ·rename_i n'; exact absurd (hf.st.bY _ _ b hp hb) n') (fun b hb => ⟨hf.st.cc _ b hb, hf.st.eT _ b hb, hf.st.Oa _ b hb⟩)
 rw [← fL] at sy
 exact c9 bG ⟨M, L, _, _, _, hK, sy, Ext.refl A M w, List.prefix_refl L⟩
theorem wI {o : Oper} {t : TypeId} {x y : Operand} (ho : o.op = .store t x y) (ht : dB P t = some 1) {i : IX} {s : Nat} (hc : aP x = some i) (hy : aP y = some (.t s)) (hf : Fr A n M L w H env O a)
 (fL : o.dst = none) (h : bt ⟨P, lo⟩ (.eV i s) o.dst env H K) : o.wpIn (wf ro) 0 P a w (mA A n M L w K) Q := by
 have hr := hf.eval hc
 simp only [bt] at h
 have pv : y = .tmp s := by
  cases y with
  | tmp t => simp [aP] at hy; rw [hy]
  | const v => simp only [aP] at hy; obtain ⟨z, _, hz⟩ := Option.map_eq_some_iff.1 hy; cases hz
  | func f => simp [aP] at hy
  | global g => simp [aP] at hy
 subst pv
 obtain ⟨w', H', O', h1, h2, h3, h4⟩ := yL (P := P) hf.st ht h hr s rfl rfl
 have bG : (execOp a.eval o).run P w = .ok .skip w' := by
  simp only [execOp, ho]
  exact pH h1
 have sy : Fr A n M L w' H' ((s, (get env s).ab) :: env) O' (a.put o.dst undef) := by
  rw [fL]; exact ⟨h3, hf.size, hf.defers.ext h4⟩
 exact lf bG ⟨M, L, H', _, O', h2, sy, h4, List.prefix_refl L⟩
theorem yX {o : Oper} {t e : TypeId} {s x : Operand} (ho : o.op = .call { callee := .builtin .append, args := #[s, x], argTypes := #[t, t] }) (ht : P.underlying t = some (.slice e)) {esz bytes : Nat} {z : AV} (hz : cQ P e = some (esz, z)) (hb : yW P e = some bytes) (uj : 0 < bytes)
 {i j : IX} (hi : aP s = some i) (hj : aP x = some j) (hf : Fr A n M L w H env O a) (hd : ∀ d, o.dst = some d → d < n)
 (h : bt ⟨P, lo⟩ (.append esz bytes i j) o.dst env H K) : o.wpIn (wf ro) 0 P a w (mA A n M L w K) Q := by
 simp only [bt] at h
 have wJ := hf.eval hi
 have Yi := hf.eval hj
 unfold cQ at hz
 split at hz <;> try cases hz
 rename_i esz' z' OA oo
 split at hz <;> cases hz
 rename_i hcond
 obtain ⟨h0, iH, so⟩ := hcond
 obtain ⟨inf, iF, cT⟩ := Option.map_eq_some_iff.1 OA
 obtain ⟨inf', sA, xi⟩ := Option.map_eq_some_iff.1 hb
 rw [iF] at sA; cases sA
 unfold fw at oo
 simp only [iF] at oo
 split at oo <;> try cases oo
 rename_i zv uh
 have tB : zv.cells.size = esz := by have := ((cA (M := M) (L := L) oo).fI so).length; rw [iH] at this; simpa using this
 have LF : match i.slot with | some d => (fun t => a.tmps.getD t undef) d = a.eval s ∧ get env d = al env i | none => al env i = .ah := by
  cases s with
  | tmp t => simp [aP] at hi; subst hi; exact ⟨rfl, rfl⟩
  | const v =>
    simp only [aP] at hi
    obtain ⟨y, hy, rfl⟩ := Option.map_eq_some_iff.1 hi
    simp only [IX.slot, al]
    have h2 := h
    simp only [al, bE] at h2
    split at h2 <;> try exact h2.elim
    rename_i fp _
    unfold ma at fp
    split at fp
    ·rfl
    ·-- a constant is never an owned list
     exfalso
     unfold ofValue at hy
     split at hy
     ·obtain ⟨_, _, hq⟩ := Option.map_eq_some_iff.1 hy; cases hq
     ·unfold Tz at hy; split at hy <;> cases hy
    ·cases fp
  | func f =>
    simp [aP] at hi; subst hi
    simp only [al, bE, ma] at h
  | global g => simp [aP] at hi
 obtain ⟨r, w', M', O', ob, zs, g1, g2, g3, g4, g5, g6, g7, g8⟩ := AR (P := P) (ty := o.type) hf.st ht iF uh cT xi tB h0 uj h i.slot wJ LF Yi
 have bG : (execOp a.eval o).run P w = .ok (.value r) w' := by
  simp only [execOp, ho, resolve, invoke, builtin, Sem.run_bind, Sem.run_pure, Result.andThen_ok, List.map_toArray, List.map_cons, List.map_nil, g1]
 have C4 : j3 (get env) i.slot = get (cD env i.slot) := by
  cases i.slot with
  | none => rfl
  | some d => rfl
 rw [C4] at g5
 exact ur hf hd bG g3 g4 g5 g6 g7 g8 g2
theorem wK {o : Oper} {t e : TypeId} {s x : Operand} (ho : o.op = .call { callee := .builtin .append, args := #[s, x], argTypes := #[t, t] }) (ht : P.underlying t = some (.slice e)) {esz bytes : Nat} {z : AV} (hz : cQ P e = some (esz, z)) (hb : yW P e = some bytes) (uj : 0 < bytes) (Ix : Dk z = true)
 {i j : IX} (hi : aP s = some i) (hj : aP x = some j) (hf : Fr A n M L w H env O a) (hd : ∀ d, o.dst = some d → d < n)
 (h : bt ⟨P, lo⟩ (.iV esz bytes z i j) o.dst env H K) : o.wpIn (wf ro) 0 P a w (mA A n M L w K) Q := by
 simp only [bt] at h
 have wJ := hf.eval hi
 have Yi := hf.eval hj
 unfold cQ at hz
 split at hz <;> try cases hz
 rename_i esz' z' OA oo
 split at hz <;> cases hz
 rename_i hcond
 obtain ⟨h0, iH, so⟩ := hcond
 obtain ⟨inf, iF, cT⟩ := Option.map_eq_some_iff.1 OA
 obtain ⟨inf', sA, xi⟩ := Option.map_eq_some_iff.1 hb
 rw [iF] at sA; cases sA
 unfold fw at oo
 simp only [iF] at oo
 split at oo <;> try cases oo
 rename_i zv uh
 have Iq : ∀ y ∈ z.cells, ∀ own xs, y = .ap own xs → own = 0 := by
  intro y hy own xs e
  have := List.all_eq_true.1 Ix y hy
  subst e
  simpa using this
 obtain ⟨r, y, L', w', H', O', g1, g2, g3, g4, g5, g6, g7⟩ := yV (P := P) (ty := o.type) hf.st ht iF uh cT xi h0 uj oo so iH Iq h wJ Yi
 have bG : (execOp a.eval o).run P w = .ok (.value r) w' := by
  simp only [execOp, ho, resolve, invoke, builtin, Sem.run_bind, Sem.run_pure, Result.andThen_ok, List.map_toArray, List.map_cons, List.map_nil, g1]
 have EO : Fr A n M L' w' H' env O' a := ⟨g5, hf.size, hf.defers.ext g6⟩
 obtain ⟨O'', oR⟩ := EO.ol hd g2 g3
 exact c9 bG ⟨M, L', H', _, O'', g4, oR, g6, g7⟩
theorem EP : ∀ {xs ys : List AV}, xp xs ys → xs.length = ys.length ∧ ∀ t, (xs.getD t .any).le (ys.getD t .any)
 | [], [], _ => ⟨rfl, fun t => .inl rfl⟩
 | [], _ :: _, h => h.elim
 | _ :: _, [], h => h.elim
 | x :: xs, y :: ys, h => by
   obtain ⟨h1, h2⟩ := h
   obtain ⟨i1, i2⟩ := EP h2
   refine ⟨by simp [i1], fun t => ?_⟩
   cases t with
   | zero => simpa using h1
   | succ t => simpa using i2 t
theorem dw (env : Env) (pass : Option Nat) : ∀ (j : Nat) (xs : List IX), (aF env pass j xs).length = xs.length
 | _, [] => rfl
 | j, .t s :: xs => by simp [aF, dw env pass (j + 1) xs]
 | j, .c v :: xs => by simp [aF, dw env pass (j + 1) xs]
theorem iY (hf : Fr A n M L w H env O a) (pass : Option Nat) : ∀ {xs : List Operand} {is : List IX} (j : Nat), fm xs = some is → aJ M L (xs.map a.eval) (aF env pass j is)
 | [], is, j, hc => by simp [fm] at hc; subst hc; exact .nil
 | x :: xs, is, j, hc => by
   unfold fm at hc
   split at hc
   ·rename_i i is' h1 h2
    cases hc
    have hr := hf.eval h1
    cases i with
    | t s =>
      refine .cons _ _ _ _ ?_ (iY hf pass (j + 1) h2)
      split
      ·exact hr
      ·exact hr.ab
    | c v => exact .cons _ _ _ _ hr.ab (iY hf pass (j + 1) h2)
   ·cases hc
def dk (A : Perm) (loose : Bool) (H : List aa) (L : List Nat) (O : Pos → Option Nat) (w : World) : Perm where
 wr := fun b => b ∈ L ∨ (∃ p, O p = some b) ∨ w.heap.size ≤ b
 top := fun id => if id < H.length then some (A.jb H.length id) else if loose = true then none else some (id + 1)
 ok := by
  intro id n h
  split at h
  ·rename_i h1
   cases h
   have := A.k7 h1
   omega
  ·split at h
   ·cases h
   ·cases h; omega
theorem ke (A : Perm) (loose : Bool) (H : List aa) (L : List Nat) (O : Pos → Option Nat) (w : World) : (dk A loose H L O w).entry loose H.length :=
 ⟨fun id h => ⟨A.jb H.length id, A.ua _ _, by simp only [dk, if_pos h]⟩, fun id h => by simp only [dk]; rw [if_neg (by omega)]⟩
theorem sB (A : Perm) (loose : Bool) (H : List aa) (L : List Nat) (O : Pos → Option Nat) (w : World) {id : Nat} (h : id < H.length) (len : Nat) : (dk A loose H L O w).jb len id = min (A.jb H.length id) len := by
 unfold Perm.jb
 simp only [dk, if_pos h]
 rfl
theorem St.narrow {ev : Nat → Value} {ea : Nat → AV} (loose : Bool) (h : St A M L w H ev ea O) : St (dk A loose H L O w) M L w H ev ea O :=
 { len := h.len, nodup := h.nodup, env := h.env, mem := h.mem, obj := h.obj, lt := h.lt, gH := h.gH, gE := h.gE, bY := h.bY, cc := h.cc, eT := h.eT,
   bB := fun id o ho => by
    rw [sB A loose H L O w (aM ho), Nat.min_eq_left (A.ua _ _)]
    exact h.bB id o ho
   La := fun b hb => .inl hb, Oa := fun p b hp => .inr (.inl ⟨p, hp⟩), fresh := fun b hb => .inr (.inr hb) }
theorem St.pI {ev : Nat → Value} {ea : Nat → AV} (h : St A M L w H ev ea O) (ev' : Nat → Value) (ea' : Nat → AV) (hr : ∀ t, aR M L (ev' t) (ea' t)) (hx : ∀ t own xs, ea' t = .ap own xs → own = 0) :
 St A M L w H ev' ea' (fun p => match p with | .t _ => none | .c id j => O (.c id j)) := by
 have hO : ∀ (p : Pos) (b : Nat), (match p with | .t _ => none | .c id j => O (.c id j)) = some b → O p = some b := by
  intro p b hp
  cases p with
  | t t => cases hp
  | c id j => exact hp
 exact { len := h.len, nodup := h.nodup, env := hr, mem := h.mem, obj := h.obj, bB := h.bB, lt := h.lt, gH := fun t => bb.free (hx t), gE := h.gE, bY := fun p q b hp hq => h.bY p q b (hO p b hp) (hO q b hq),
         cc := fun p b hp => h.cc p b (hO p b hp), eT := fun p b hp => h.eT p b (hO p b hp), La := h.La, Oa := fun p b hp => h.Oa p b (hO p b hp), fresh := h.fresh }
theorem St.Gb {ev : Nat → Value} {ea : Nat → AV} (h : St A M L w H ev ea O) {Oc : Pos → Option Nat} (pt : Option Nat) (loose : Bool) (ui : loose = true → ∀ id, H.length ≤ id → A.top id = none) (XC : ∀ b, (∃ p, Oc p = some b) → (∃ id j, O (.c id j) = some b) ∨ ∃ s, pt = some s ∧ O (.t s) = some b)
 {M' : Mem} {L' : List Nat} {w' : World} {H' : List aa} {v : Value} {r : AV} {O' : Pos → Option Nat}
 (h' : St (dk A loose H L Oc w) M' L' w' H' (fe (fun _ => undef) 0 v) (fe (fun _ => .any) 0 r) O') (cq : Ext (dk A loose H L Oc w) M w M' w') (hL : L <+: L') :
 ∃ O'', St A M' L' w' H' ev (j3 ea pt) O'' ∧ Ext A M w M' w' ∧ aR M' L' v r ∧ bb M' w' v r (O' (.t 0)) ∧ (∀ q b, O' (.t 0) = some b → O'' q ≠ some b) ∧ (∀ b, O' (.t 0) = some b → b ∉ L' ∧ b < w'.heap.size ∧ A b) := by
 have hlen : H.length ≤ H'.length := by
  have := hL.length_le
  rw [h.len, h'.len] at this
  exact this
 have XD : ∀ b, dk A loose H L Oc w b → A b := by
  rintro b (hb | hb | hb)
  ·exact h.La b hb
  ·rcases XC b hb with ⟨id, j, hq⟩ | ⟨s, _, hq⟩
   ·exact h.Oa _ b hq
   ·exact h.Oa _ b hq
  ·exact h.fresh b hb
 let O'' : Pos → Option Nat := fun p => match p with
  | .t i => if pt = some i then none else O (.t i)
  | .c id j => O' (.c id j)
 -- what the caller keeps is not the callee's to write
 have jX : ∀ i b, pt ≠ some i → O (.t i) = some b → ¬ dk A loose H L Oc w b := by
  rintro i b hi hb (hc | hc | hc)
  ·exact h.cc _ b hb hc
  ·rcases XC b hc with ⟨id, j, hq⟩ | ⟨s, hs, hq⟩
   ·have := h.bY _ _ b hb hq; cases this
   ·have := h.bY _ _ b hb hq; cases this; exact hi hs
  ·have := h.eT _ b hb; omega
 have Gc : ∀ i b, O'' (.t i) = some b → pt ≠ some i ∧ O (.t i) = some b := by
  intro i b hb
  simp only [O''] at hb
  split at hb
  ·cases hb
  ·rename_i hi; exact ⟨hi, hb⟩
 have P2 : ∀ i b p, O'' (.t i) = some b → O' p ≠ some b := by
  intro i b p hb hp
  obtain ⟨h1, h2⟩ := Gc i b hb
  exact jX i b h1 h2 (h'.Oa p b hp)
 refine ⟨O'', { len := h'.len, nodup := h'.nodup, env := ?_, mem := h'.mem, obj := h'.obj, bB := ?_, lt := h'.lt, gH := ?_, gE := h'.gE, bY := ?_, cc := ?_, eT := ?_, La := fun b hb => XD b (h'.La b hb), Oa := ?_, fresh := fun b hb => h.fresh b (Nat.le_trans cq.size hb) }, ?_, ?_, ?_, ?_, ?_⟩
 ·intro t
  have := (h.env t).mono cq.kw hL
  cases pt with
  | none => exact this
  | some d =>
    simp only [j3, fe]
    split
    ·rename_i e0; subst e0; exact this.ab
    ·exact this
 ·intro id o ho
  have h1 := h'.bB id o ho
  have hl := aM ho
  by_cases e : id < H.length
  ·rw [sB A loose H L Oc w e] at h1
   exact aa.cE (Nat.le_trans (Nat.min_le_left _ _) (A.AG hlen id)) o h1
  ·by_cases hx : loose = true
   ·have e1 : A.jb H'.length id = H'.length := by unfold Perm.jb; rw [ui hx id (by omega)]
    rw [e1]
    exact aa.cE (Perm.ua _ _ _) o h1
   ·have e1 : (dk A loose H L Oc w).jb H'.length id = min (id + 1) H'.length := by
     unfold Perm.jb
     simp only [dk, if_neg e, if_neg hx]
    rw [e1] at h1
    exact aa.cE (Nat.le_trans (Nat.min_le_left _ _) (A.k7 hl)) o h1
 ·intro t
  have h1 := h.gH t
  cases pt with
  | none =>
    exact h1.mono fun b hb => cq.jX b (h.eT _ b hb) (jX t b (by simp) hb)
  | some d =>
    simp only [j3, fe, O'']
    by_cases e0 : t = d
    ·subst e0
     simp only [if_true]
     exact bb.free (AV.bI _)
    ·have : ¬ (some d = some t) := fun e => e0 (by cases e; rfl)
     simp only [e0, this, if_false]
     exact h1.mono fun b hb => cq.jX b (h.eT _ b hb) (jX t b this hb)
 ·intro p q b hp hq
  cases p with
  | t i =>
    cases q with
    | t j => exact h.bY _ _ b (Gc i b hp).2 (Gc j b hq).2
    | c id j => exact absurd hq (P2 i b _ hp)
  | c id j =>
    cases q with
    | t i => exact absurd hp (P2 i b _ hq)
    | c id' j' => exact h'.bY _ _ b hp hq
 ·intro p b hp hm
  cases p with
  | t i => exact jX i b (Gc i b hp).1 (Gc i b hp).2 (h'.La b hm)
  | c id j => exact h'.cc _ b hp hm
 ·intro p b hp
  cases p with
  | t i => exact Nat.lt_of_lt_of_le (h.eT _ b (Gc i b hp).2) cq.size
  | c id j => exact h'.eT _ b hp
 ·intro p b hp
  cases p with
  | t i => exact h.Oa _ b (Gc i b hp).2
  | c id j => exact XD b (h'.Oa _ b hp)
 ·exact ⟨cq.kw, cq.size, cq.os, cq.tape, cq.output, fun b hb hA => cq.jX b hb (fun hc => hA (XD b hc)), cq.loops⟩
 ·simpa [fe] using h'.env 0
 ·simpa [fe] using h'.gH 0
 ·intro q b hb hq
  cases q with
  | t i => exact P2 i b _ hq hb
  | c id j => have := h'.bY _ _ b hb hq; cases this
 ·intro b hb
  exact ⟨h'.cc _ b hb, h'.eT _ b hb, XD b (h'.Oa _ b hb)⟩
theorem fy (env : Env) : ∀ (xs : List IX) (j t : Nat), (aF env none j xs).getD t .any = (match xs[t]? with | some x => (al env x).ab | none => .any)
 | [], j, t => by simp [aF]
 | .t s :: xs, j, 0 => by simp [aF, al]
 | .c v :: xs, j, 0 => by simp [aF, al]
 | .t s :: xs, j, t + 1 => by
   simp only [aF, List.getD_cons_succ, List.getElem?_cons_succ]
   exact fy env xs (j + 1) t
 | .c v :: xs, j, t + 1 => by
   simp only [aF, List.getD_cons_succ, List.getElem?_cons_succ]
   exact fy env xs (j + 1) t
theorem fz (env : Env) (k : Nat) : ∀ (xs : List IX) (j t : Nat), (aF env (some k) j xs).getD t .any = (match xs[t]? with | some (.t s) => if k = j + t then get env s else (get env s).ab | some (.c v) => v.ab | none => .any)
 | [], j, t => by simp [aF]
 | .t s :: xs, j, 0 => by simp [aF]
 | .c v :: xs, j, 0 => by simp [aF]
 | .t s :: xs, j, t + 1 => by
   simp only [aF, List.getD_cons_succ, List.getElem?_cons_succ]
   rw [fz env k xs (j + 1) t, show j + 1 + t = j + (t + 1) by omega]
 | .c v :: xs, j, t + 1 => by
   simp only [aF, List.getD_cons_succ, List.getElem?_cons_succ]
   rw [fz env k xs (j + 1) t, show j + 1 + t = j + (t + 1) by omega]
theorem pJ (vs : List Value) (t : Nat) : vs.toArray.getD t undef = vs.getD t undef := by
 simp [List.getD_eq_getElem?_getD]
theorem kB (xs ys zs : List AV) (t : Nat) : (xs ++ ys ++ zs).getD t .any = if t < xs.length then xs.getD t .any else if t < xs.length + ys.length then ys.getD (t - xs.length) .any else zs.getD (t - xs.length - ys.length) .any := by
 simp only [List.getD_eq_getElem?_getD, List.getElem?_append, List.length_append]
 by_cases h1 : t < xs.length
 ·rw [if_pos (by omega), if_pos h1, if_pos h1]
 ·by_cases h2 : t < xs.length + ys.length
  ·rw [if_pos h2, if_neg h1, if_neg h1, if_pos h2]
  ·rw [if_neg h2, if_neg h1, if_neg h2, Nat.sub_sub]
theorem ra {o : Oper} {xs : List Operand} {js : List IX} (Td : fm xs = some js) {pass : Option Nat} {fs cs : List Value} {first cap : List AV} (yY : aJ M L fs first) (qY : aJ M L cs cap) {bO : List AV}
 (hle : xp (first.map AV.ab ++ aF env pass 0 js ++ cap.map AV.ab) bO) (hf : Fr A n M L w H env O a) (hd : ∀ d, o.dst = some d → d < n) {loose : Bool} (ui : loose = true → ∀ id, H.length ≤ id → A.top id = none) :
 ∃ Oc, (fs ++ xs.map a.eval ++ cs).length = bO.length ∧ St (dk A loose H L Oc w) M L w H (fun t => (fs ++ xs.map a.eval ++ cs).toArray.getD t undef) (fun t => bO.getD t .any) Oc ∧
  ∀ (v : Value) (r : AV) (H' : List aa) (M' : Mem) (L' : List Nat) (O' : Pos → Option Nat) (w' : World), K (put o.dst r (cD env (bc js pass))) H' → St (dk A loose H L Oc w) M' L' w' H' (fe (fun _ => undef) 0 v) (fe (fun _ => .any) 0 r) O' → Ext (dk A loose H L Oc w) M w M' w' → L <+: L' →
   mA A n M L w K (a.put o.dst v) w' := by
 have hrb := iY hf pass 0 Td
 have Yj := iY hf none 0 Td
 obtain ⟨hlen, Yk⟩ := EP hle
 obtain ⟨vs, wC⟩ : ∃ vs : List Value, vs = fs ++ xs.map a.eval ++ cs := ⟨_, rfl⟩
 have hrv : aJ M L vs (first.map AV.ab ++ aF env pass 0 js ++ cap.map AV.ab) := by rw [wC]; exact (yY.cU.append hrb).append qY.cU
 have Yl : aJ M L vs (first.map AV.ab ++ aF env none 0 js ++ cap.map AV.ab) := by rw [wC]; exact (yY.cU.append Yj).append qY.cU
 have pD : vs.length = bO.length := by rw [hrv.length]; exact hlen
 -- the callee's state
 have Ym : ∃ Oc, St A M L w H (fun t => vs.toArray.getD t undef) (fun t => bO.getD t .any) Oc ∧ (∀ b, (∃ p, Oc p = some b) → (∃ id j, O (.c id j) = some b) ∨ ∃ s, bc js pass = some s ∧ O (.t s) = some b) := by
  have hfree : ∀ t own zs, (first.map AV.ab ++ aF env none 0 js ++ cap.map AV.ab).getD t .any = .ap own zs → own = 0 := by
   intro t own zs he
   have hm : ∀ (l : List AV) q, (l.map AV.ab).getD q .any = .ap own zs → own = 0 := by
    intro l q hq
    rw [List.getD_eq_getElem?_getD, List.getElem?_map] at hq
    cases hx : l[q]? with
    | none => simp [hx] at hq
    | some y => simp [hx] at hq; exact AV.bI y own zs hq
   rw [kB] at he
   split at he
   ·exact hm _ _ he
   ·split at he
    ·rw [fy] at he
     split at he
     ·exact AV.bI _ own zs he
     ·cases he
    ·exact hm _ _ he
  have h0 := hf.st.pI (fun t => vs.toArray.getD t undef) (fun t => (first.map AV.ab ++ aF env none 0 js ++ cap.map AV.ab).getD t .any) (fun t => by rw [pJ]; exact Yl.getD t) hfree
  -- then the one that is handed over
  have h1 : ∃ O1, St A M L w H (fun t => vs.toArray.getD t undef) (fun t => (first.map AV.ab ++ aF env pass 0 js ++ cap.map AV.ab).getD t .any) O1 ∧ (∀ b, (∃ p, O1 p = some b) → (∃ id j, O (.c id j) = some b) ∨ ∃ s, bc js pass = some s ∧ O (.t s) = some b) := by
   cases px : bc js pass with
   | none =>
     refine ⟨_, h0.congr (fun _ => rfl) (fun t => ?_), ?_⟩
     ·rw [kB, kB, dw, dw]
      split
      ·rfl
      ·split
       ·cases pass with
        | none => rfl
        | some k =>
          rw [fy, fz]
          unfold bc at px
          simp only at px
          cases hx : js[t - (first.map AV.ab).length]? with
          | none => rfl
          | some x =>
            cases x with
            | c v => rfl
            | t s =>
              simp only
              rw [if_neg]
              ·rfl
              ·intro e
               rw [Nat.zero_add] at e
               rw [e, hx] at px
               simp at px
       ·rfl
     ·rintro b ⟨p, hp⟩
      cases p with
      | t t => cases hp
      | c id j => exact .inl ⟨id, j, hp⟩
   | some s =>
     -- where it stands
     obtain ⟨k, rfl, OB⟩ : ∃ k, pass = some k ∧ js[k]? = some (.t s) := by
      unfold bc at px
      split at px
      ·rename_i k
       split at px
       ·rename_i s' TQ; cases px; exact ⟨k, rfl, TQ⟩
       ·cases px
      ·cases px
     have EQ : k < js.length := aM OB
     have hargs : ∀ (xs : List Operand) (is : List IX), fm xs = some is → ∀ (q s : Nat), is[q]? = some (IX.t s) → xs[q]? = some (Operand.tmp s) := by
      intro xs
      induction xs with
      | nil => intro is hc q s hq; simp [fm] at hc; subst hc; simp at hq
      | cons x xs ih =>
        intro is hc q s hq
        unfold fm at hc
        split at hc
        ·rename_i i is' e1 e2
         cases hc
         cases q with
         | zero =>
           simp at hq; subst hq
           cases x with
           | tmp t => simp [aP] at e1; simp [e1]
           | const v => simp only [aP] at e1; obtain ⟨_, _, hz⟩ := Option.map_eq_some_iff.1 e1; cases hz
           | func f => simp [aP] at e1
           | global g => simp [aP] at e1
         | succ q => simpa using ih is' e2 q s (by simpa using hq)
        ·cases hc
     have cI := hargs _ _ Td k s OB
     have mi : vs[first.length + k]? = some (a.tmps.getD s undef) := by
      have LL : fs.length = first.length := yY.length
      rw [wC]
      rw [List.append_assoc, List.getElem?_append_right (by omega), LL, show first.length + k - first.length = k by omega, List.getElem?_append_left (by simpa using aM cI), List.getElem?_map, cI]
      rfl
     have mL := h0.put (first.length + k) (v := a.tmps.getD s undef) (x := get env s) (hf.st.env s) (O (.t s)) (hf.st.gH s) (fun p b hb hp => by
      cases p with
      | t t => cases hp
      | c id j => have := hf.st.bY _ _ b hb hp; cases this) (fun b hb => ⟨hf.st.cc _ b hb, hf.st.eT _ b hb, hf.st.Oa _ b hb⟩)
     refine ⟨_, mL.congr (fun t => ?_) (fun t => ?_), ?_⟩
     ·simp only [fe]
      split
      ·rename_i e; subst e
       rw [pJ, List.getD_eq_getElem?_getD, mi]; rfl
      ·rfl
     ·simp only [fe]
      rw [kB, kB, dw, dw]
      simp only [List.length_map]
      by_cases e : t = first.length + k
      ·subst e
       rw [if_pos rfl, if_neg (by omega), if_pos (by omega), show first.length + k - first.length = k by omega, fz, OB]
       simp
      ·rw [if_neg e]
       split
       ·rfl
       ·split
        ·rw [fy, fz]
         cases hx : js[t - first.length]? with
         | none => rfl
         | some x =>
           cases x with
           | c v => rfl
           | t s =>
             simp only
             rw [if_neg (by omega)]
             rfl
        ·rfl
     ·rintro b ⟨p, hp⟩
      simp only [dV] at hp
      split at hp
      ·exact .inr ⟨s, rfl, hp⟩
      ·cases p with
       | t t => cases hp
       | c id j => exact .inl ⟨id, j, hp⟩
  obtain ⟨O1, g1, g2⟩ := h1
  obtain ⟨O2, g3, g4⟩ := g1.EJ (ea' := fun t => bO.getD t .any) Yk
  exact ⟨O2, g3, fun b ⟨p, hp⟩ => g2 b ⟨p, g4 p b hp⟩⟩
 obtain ⟨Oc, bP, XC⟩ := Ym
 refine ⟨Oc, by rw [← wC]; exact pD, by rw [← wC]; exact bP.narrow loose, ?_⟩
 intro v r H' M' L' O' w' hK lm cq hL
 obtain ⟨O'', k1, k2, k3, k4, k5, k6⟩ := hf.st.Gb (bc js pass) loose ui XC lm cq hL
 have C4 : j3 (get env) (bc js pass) = get (cD env (bc js pass)) := by
  cases bc js pass <;> rfl
 rw [C4] at k1
 have oR : Fr A n M' L' w' H' (cD env (bc js pass)) O'' a := ⟨k1, hf.size, hf.defers.ext k2⟩
 show mA A n M L w K (a.put o.dst v) w'
 cases fL : o.dst with
 | none => rw [fL] at hK; exact ⟨M', L', H', _, O'', hK, oR, k2, hL⟩
 | some d =>
   rw [fL] at hK
   exact ⟨M', L', H', _, _, hK, oR.C5 (hd d fL) k3 (O' (.t 0)) k4 (fun q b hb hq => absurd hq (k5 q b hb)) k6, k2, hL⟩
theorem Dl {o : Oper} {c : Call} (ho : o.op = .call c) {f : Operand} (mn : c.callee = .value f) {i : IX} {js : List IX} (ER : aP f = some i) (Td : fm c.args.toList = some js) {pass : Option Nat}
 (hp : ∀ l, lo = some l → ∀ id, l ≤ id → A.top id = none) (hf : Fr A n M L w H env O a) (hd : ∀ d, o.dst = some d → d < n) (h : bt ⟨P, lo⟩ (.call i js pass) o.dst env H K) : o.wpIn (wf ro) 0 P a w (mA A n M L w K) Q := by
 simp only [bt] at h
 have K9 := hf.eval ER
 unfold oA at h
 split at h <;> try exact h.elim
 ·rename_i g first cap TR
  obtain ⟨bO, hle, hcall⟩ := h
  rw [TR] at K9
  generalize hu : a.eval f = u at K9
  cases K9 with
  | fn _ fs cs _ _ yY qY =>
  obtain ⟨loose, ui, hcall⟩ : ∃ loose : Bool, (loose = true → ∀ id, H.length ≤ id → A.top id = none) ∧ kc loose P g bO H fun r H' => K (put o.dst r (cD env (bc js pass))) H' := by
   unfold dX at hcall
   split at hcall
   ·exact ⟨false, by simp, hcall⟩
   ·rename_i l hl
    rcases hcall with hcall | ⟨h1, hcall⟩
    ·exact ⟨false, by simp, hcall⟩
    ·exact ⟨true, fun _ id bm => hp l hl id (by omega), hcall⟩
  obtain ⟨Oc, pD, bP, fin⟩ := ra (K := K) (o := o) Td yY qY hle hf hd ui
  obtain ⟨vs, wC⟩ : ∃ vs : List Value, vs = fs ++ c.args.toList.map a.eval ++ cs := ⟨_, rfl⟩
  rw [← wC] at pD bP
  have bG : (execOp a.eval o).run P w = (callFunc g vs.toArray).run P w := by
   simp only [execOp, ho, resolve, mn, Deferred.ofValue, hu, invoke, Sem.run_bind, Sem.run_pure, Result.andThen_ok]
   have e1 : (fs.toArray ++ c.args.map a.eval ++ cs.toArray) = vs.toArray := by
    apply Array.ext'; simp [wC]
   rw [e1]
  rcases hcall (dk A loose H L Oc w) M L w vs.toArray Oc (ke A loose H L Oc w) (by simpa using pD) bP with ⟨h1, hc⟩ | ⟨v, w', r, H', M', L', O', h1, hK, lm, cq, hL⟩
  ·refine kx (bG.trans h1) (by intro d e; cases e) ⟨(fun h => by cases h), ?_⟩
   have oo : CallsIn (wf ro) (0 - 1) P g vs.toArray w _ := callsIn_wide.2 hc
   refine CallsIn.mono oo fun e w' he => ?_
   obtain ⟨v, r, H', M', L', O', rfl, hK, lm, cq, hL⟩ := he
   exact fin v r H' M' L' O' w' hK lm cq hL
  ·exact c9 (bG.trans h1) (fin v r H' M' L' O' w' hK lm cq hL)
 ·rename_i id TR
  obtain ⟨bO, hle, hcall⟩ := h
  rw [TR] at K9
  generalize hu : a.eval f = u at K9
  cases K9 with
  | mC b _ hl =>
  obtain ⟨loose, ui, hcall⟩ : ∃ loose : Bool, (loose = true → ∀ id, H.length ≤ id → A.top id = none) ∧ fa loose P id bO H fun r H' => K (put o.dst r (cD env (bc js pass))) H' := by
   unfold lq at hcall
   split at hcall
   ·exact ⟨false, by simp, hcall⟩
   ·rename_i l hl
    rcases hcall with hcall | ⟨h1, hcall⟩
    ·exact ⟨false, by simp, hcall⟩
    ·exact ⟨true, fun _ id bm => hp l hl id (by omega), hcall⟩
  obtain ⟨Oc, pD, bP, fin⟩ := ra (K := K) (o := o) (fs := []) (cs := []) (first := []) (cap := []) Td .nil .nil (by simpa using hle) hf hd ui
  simp only [List.nil_append, List.append_nil] at pD bP
  obtain ⟨fn, tmps, as, bd, h1, h2⟩ := hcall (dk A loose H L Oc w) M L w (c.args.toList.map a.eval).toArray Oc b (ke A loose H L Oc w) (by simpa using pD) hl bP
  have bG : (execOp a.eval o).run P w = .ok (.round b fn tmps as bd) w := by
   simp only [execOp, ho, resolve, mn, Deferred.ofValue, hu, invoke, Sem.run_bind, Sem.run_pure, Result.andThen_ok]
   have e1 : (#[] ++ c.args.map a.eval : Array Value) = (c.args.toList.map a.eval).toArray := by
    apply Array.ext'; simp
   rw [e1]
   exact h1
  refine kx bG (by intro d e; cases e) ⟨(fun h => by cases h), ?_⟩
  have oo : RoundIn (wf ro) (0 - 1) P b fn tmps as bd w _ := h2
  refine RoundIn.mono oo fun e w' he => ?_
  obtain ⟨v, r, H', M', L', O', rfl, hK, lm, cq, hL⟩ := he
  exact fin v r H' M' L' O' w' hK lm cq hL
end
end Go.aK
end
section
namespace Go.aK
open Go
section
variable {ro : Option Nat} {P : Program} {lo : Option Nat} {A : Perm} {n : Nat} {M : Mem} {L : List Nat} {w : World} {H : List aa} {env : Env} {O : Pos → Option Nat} {a : Act} {Q : Exit → Act → World → Prop} {K : Env → List aa → Prop}
theorem nL {x : AV} {φ : Bool → Prop} (h : eH x φ) : ∃ b, x = .bool b ∧ φ b := by
 unfold eH at h
 split at h
 ·exact ⟨_, rfl, h⟩
 ·exact h.elim
def gJ (kd : Nat) : Value := match kd with | 0 => .slice none 0 0 | 1 => .pointer none | 2 => .map none | _ => .nilFunc
def pK (kd : Nat) (D : TypeDesc) : Bool := match kd, D with | 0, .slice _ => true | 1, .pointer _ => true | 2, .map _ _ => true | 3, .func _ _ _ => true | _, _ => false
theorem tf {d kd : Nat} {t : TypeId} {D : TypeDesc} (ht : P.underlying t = some D) (hD : pK kd D = true) {u : Value} {x : AV} {b : Bool} (hx : isNil kd x = some b) (hu : aR M L u x) : (Op.equalIn (d + 1) t u (gJ kd)).run P w = .ok b w := by
 unfold isNil at hx
 split at hx <;> cases hx <;> cases D <;> simp [pK] at hD <;> cases hu <;> simp [Op.equalIn, run_underlying ht, gJ]
theorem uw {kd : Nat} {neq : Bool} {t : TypeId} {D : TypeDesc} (ht : P.underlying t = some D) (hD : pK kd D = true) {u : Value} {x : AV} {φ : AV → Prop} (h : dc kd neq x φ) (hu : aR M L u x) (X Y : Operand) :
 ∃ r z, (do eqGuard (if neq then .neq else .eql) t X Y u (gJ kd); binOp (if neq then .neq else .eql) t u (gJ kd) : Sem Value).run P w = .ok r w ∧ aR M L r z ∧ φ z ∧ ∀ own xs, z = .ap own xs → own = 0 := by
 unfold dc at h
 split at h
 rotate_left
 ·split at h <;> try exact h.elim
  cases hu with
  | ap b off c own e cs xs he hx hn hle hc hr hm => simp at hn
  | gb ad c own hc =>
    have hDs : ∃ e, D = .slice e := by
     cases D <;> simp [pK] at hD
     exact ⟨_, rfl⟩
    obtain ⟨e, rfl⟩ := hDs
    have Yn : ∀ d, (Op.equalIn (d + 1) t (.slice ad 0 c) (gJ 0)).run P w = .ok (ad.isNone) w := by
     intro d
     cases ad <;> simp [Op.equalIn, run_underlying ht, gJ]
    have he : (Op.equal t (.slice ad 0 c) (gJ 0)).run P w = .ok (ad.isNone) w := Yn 9999
    have hg : ∀ op, (eqGuard op t X Y (.slice ad 0 c) (gJ 0)).run P w = .ok () w := by
     intro op
     unfold eqGuard; cases op <;> rfl
    have h1 : binOp .eql t (.slice ad 0 c) (gJ 0) = (Op.equal t (.slice ad 0 c) (gJ 0) >>= fun q => (pure (.bool q) : Sem Value)) := rfl
    have h2 : binOp .neq t (.slice ad 0 c) (gJ 0) = (Op.equal t (.slice ad 0 c) (gJ 0) >>= fun q => (pure (.bool (!q)) : Sem Value)) := rfl
    have hφ : ∀ b, φ (.bool b) := fun b => by cases b; exact h.2; exact h.1
    cases neq
    ·refine ⟨.bool ad.isNone, .bool ad.isNone, ?_, .bool _, hφ _, by intro _ _ e; cases e⟩
     simp only [Bool.false_eq_true, if_false, Sem.run_bind, hg, Result.andThen_ok, h1, he, Sem.run_pure]
    ·refine ⟨.bool (!ad.isNone), .bool (!ad.isNone), ?_, .bool _, hφ _, by intro _ _ e; cases e⟩
     simp only [if_true, Sem.run_bind, hg, Result.andThen_ok, h2, he, Sem.run_pure]
 rename_i b hb
 have he : (Op.equal t u (gJ kd)).run P w = .ok b w := tf (d := 9999) ht hD hb hu
 have hg : ∀ op, (eqGuard op t X Y u (gJ kd)).run P w = .ok () w := by
  intro op
  unfold isNil at hb
  split at hb <;> cases hb <;> cases hu <;> (unfold eqGuard; cases op <;> rfl)
 have h1 : binOp .eql t u (gJ kd) = (Op.equal t u (gJ kd) >>= fun q => (pure (.bool q) : Sem Value)) := by
  unfold isNil at hb
  split at hb <;> cases hb <;> cases hu <;> rfl
 have h2 : binOp .neq t u (gJ kd) = (Op.equal t u (gJ kd) >>= fun q => (pure (.bool (!q)) : Sem Value)) := by
  unfold isNil at hb
  split at hb <;> cases hb <;> cases hu <;> rfl
 cases neq
 ·refine ⟨.bool b, .bool b, ?_, .bool _, h, by intro _ _ e; cases e⟩
  simp only [Bool.false_eq_true, if_false, Sem.run_bind, hg, Result.andThen_ok, h1, he, Sem.run_pure]
 ·refine ⟨.bool (!b), .bool (!b), ?_, .bool _, h, by intro _ _ e; cases e⟩
  simp only [if_true, Sem.run_bind, hg, Result.andThen_ok, h2, he, Sem.run_pure]
theorem ux (hf : Fr A n M L w H env O a) {xs : List Operand} {is : List IX} (hc : fm xs = some is) : aJ M L (xs.map a.eval) (is.map fun x => (al env x).ab) := by
 have := (hf.Oy hc).cU
 rwa [List.map_map] at this
theorem b8 (hf : Fr A n M L w H env O a) {x : Option Operand} {i : Option IX} (hc : jP x = some i) : iJ M L (fX env i) (x.map a.eval) := by
 cases x with
 | none => simp [jP] at hc; subst hc; trivial
 | some x =>
   simp only [jP] at hc
   obtain ⟨j, hj, rfl⟩ := Option.map_eq_some_iff.1 hc
   exact hf.eval hj
theorem ES {e : TypeId} {esz : Nat} {z : AV} (h : cQ P e = some (esz, z)) : dB P e = some esz ∧ fw P e = some z ∧ 0 < esz ∧ z.cells.length = esz ∧ z.val = true := by
 unfold cQ at h
 split at h <;> try cases h
 rename_i h1 h2
 split at h <;> cases h
 rename_i hc
 exact ⟨h1, h2, hc⟩
theorem Ge {x : AV} (h : aL 0 x) : iG .string x = true := by
 cases x <;> first | rfl | exact (show False from h).elim
theorem A6 {x : AV} (h : aL 1 x) (e : TypeId) : iG (.slice e) x = true := by
 cases x <;> first | rfl | exact (show False from h).elim
theorem Gf {x : AV} (h : aL 2 x) (k e : TypeId) : iG (.map k e) x = true := by
 cases x <;> first | rfl | exact (show False from h).elim
theorem Iy (o : Oper) {fl : Nat} {i : bW} (hc : ch P o fl = some i) (hp : ∀ l, lo = some l → ∀ id, l ≤ id → A.top id = none) (hf : Fr A n M L w H env O a) (hd : ∀ d, o.dst = some d → d < n) (hnone : (match o.op with | .store .. | .mapUpdate .. => o.dst = none | _ => True))
 (h : bt ⟨P, lo⟩ i o.dst env H K) : o.wpIn (wf ro) 0 P a w (mA A n M L w K) Q := by
 cases cI : o.op with
 | move x =>
   simp only [ch, cI] at hc
   obtain ⟨j, hj, rfl⟩ := Option.map_eq_some_iff.1 hc
   exact xq (.inl cI) hj hf hd h
 | assign x =>
   simp only [ch, cI] at hc
   obtain ⟨j, hj, rfl⟩ := Option.map_eq_some_iff.1 hc
   exact xq (.inr cI) hj hf hd h
 | pick c x y =>
   simp only [ch, cI] at hc
   split at hc <;> cases hc
   rename_i c' x' y' h1 h2 h3
   simp only [bt] at h
   obtain ⟨b, hb, h⟩ := nL h
   have hr := hf.eval h1
   rw [hb] at hr
   generalize hu : a.eval c = u at hr
   cases hr
   cases b
   ·exact wp_pure hf hd (by simp [execOp, cI, hu, asBool]) (hf.eval h3).ab (AV.bI _) (h.2 rfl)
   ·exact wp_pure hf hd (by simp [execOp, cI, hu, asBool]) (hf.eval h2).ab (AV.bI _) (h.1 rfl)
 | alloc e =>
   simp only [ch, cI] at hc
   split at hc <;> try cases hc
   rename_i z hz
   split at hc <;> cases hc
   rename_i hv
   simp only [bt] at h
   obtain ⟨r, L', w', h1, h2, h3, h4, h5⟩ := C8 (P := P) hf.st hz hv h.1
   exact nK hf hd (by simp only [execOp, cI]; exact aV h1) h2 (by intro _ _ e; cases e) h3 h4 h5 h.2
 | box e x =>
   simp only [ch, cI] at hc
   obtain ⟨j, hj, hc⟩ := Option.map_eq_some_iff.1 hc
   split at hc <;> subst hc <;> simp only [bt] at h
   ·obtain ⟨r, M', w', h1, h2, h3, h4⟩ := F0 (P := P) hf.st e (hf.eval hj) h.1
    exact nK hf hd (by simp only [execOp, cI]; exact aV h1) h2 (by intro _ _ e; cases e) h3 h4 (List.prefix_refl L) h.2
   ·obtain ⟨r, L', w', h1, h2, h3, h4, h5⟩ := AL (P := P) hf.st e (hf.eval hj) h.1 h.2.1
    exact nK hf hd (by simp only [execOp, cI]; exact aV h1) h2 (by intro _ _ e; cases e) h3 h4 h5 h.2.2
 | build t ps =>
   simp only [ch, cI] at hc
   split at hc <;> try cases hc
   rename_i z places ht
   split at hc <;> try cases hc
   rename_i qs hq
   split at hc <;> cases hc
   rename_i hv
   simp only [bt] at h
   obtain ⟨r, x, h1, h2, h3, h4⟩ := Da (P := P) hf ht hq h hv
   exact wp_pure hf hd (by simp only [execOp, cI]; exact aV h1) h2 h4 h3
 | buildSlice t len ps =>
   simp only [ch, cI] at hc
   split at hc <;> try cases hc
   rename_i e ht
   split at hc <;> try cases hc
   rename_i esz z qs hz hq
   split at hc <;> cases hc
   rename_i hlen
   obtain ⟨p1, p2, p3, p4, p5⟩ := ES hz
   obtain ⟨q1, q2⟩ := l9 hf _ _ hq
   by_cases TS : fl = 2
   ·rw [if_pos TS] at h
    simp only [bt] at h
    obtain ⟨r, x, L', w', H', h1, h2, h3, h4, h5, h6, h7⟩ := Ga (P := P) hf.st ht p1 p3 p2 p4 p5 hlen (vs := ps.map fun (i, x) => (i, a.eval x)) (by
     intro j p hp
     obtain ⟨v, v1, v2⟩ := q1 j p hp
     exact ⟨v, by simpa using v1, v2⟩) (by simp [q2]) h
    exact nK hf hd (by simp only [execOp, cI]; exact aV h1) h2 h3 h5 h6 h7 h4
   rw [if_neg TS] at h
   simp only [bt] at h
   obtain ⟨m, xs, M', w', ad, h1, h2, h3, h4, h5, h6⟩ := s8 (P := P) hf.st ht p1 p3 p2 p4 p5 (if fl = 1 then esz else 0) hlen (vs := ps.map fun (i, x) => (i, a.eval x)) (by
    intro j p hp
    obtain ⟨v, v1, v2⟩ := q1 j p hp
    exact ⟨v, by simpa using v1, v2⟩) (by simp [q2]) h
   obtain ⟨O', oR⟩ := (hf.mono h5 h6).EL (dst := o.dst) hd h2 (fun dS y hy => by
    split at dS
    ·rename_i LL; rw [if_pos LL]; exact h3 y hy
    ·exact absurd rfl dS)
   exact c9 (by simp only [execOp, cI]; exact aV h1) ⟨M', L, H, _, O', h4, oR, h6, List.prefix_refl L⟩
 | load t x =>
   simp only [ch, cI] at hc
   split at hc <;> try cases hc
   rename_i sz j ht hj
   split at hc
   ·split at hc <;> cases hc
    rename_i hs
    subst hs
    exact uv cI ht hj hf hd h
   split at hc
   ·cases hc
    simp only [bt] at h
    obtain ⟨r, z, h1, h2, h3, h4⟩ := qU (P := P) ht hf.st h (hf.eval hj)
    obtain ⟨y, M', H', O', g1, g2, g3, g4, g5⟩ := qZ hf.st h3 h2
    obtain ⟨O'', oR⟩ := (hf.mono g3 g4).ol (dst := o.dst) hd g1 g5
    exact c9 (by simp only [execOp, cI]; exact aV h1) ⟨M', L, H', _, O'', g2, oR, g4, List.prefix_refl L⟩
   ·cases hc
    simp only [bt] at h
    obtain ⟨r, z, h1, h2, h3, h4⟩ := qU (P := P) ht hf.st h (hf.eval hj)
    exact bK hf hd ⟨r, z, by simp only [execOp, cI]; exact aV h1, h2, h3, h4⟩
 | store t x y =>
   simp only [cI] at hnone
   simp only [ch, cI] at hc
   split at hc <;> try cases hc
   rename_i m j k ht hj hk
   split at hc
   ·split at hc <;> try cases hc
    rename_i s
    split at hc <;> cases hc
    rename_i hm
    subst hm
    exact wI cI ht hj hk hf hnone h
   split at hc
   ·cases hc
    simp only [bt] at h
    obtain ⟨l, rfl⟩ : ∃ l, lo = some l := by cases lo with | none => exact h.elim | some l => exact ⟨l, rfl⟩
    obtain ⟨w', H', O', h1, h2, h3, h4⟩ := AP (P := P) hf.st (hp l rfl) ht h (hf.eval hj) (hf.eval hk)
    refine lf (by simp only [execOp, cI]; exact pH h1) ⟨M, L, H', env, O', h2, ?_, h4, List.prefix_refl L⟩
    rw [hnone]; exact ⟨h3, hf.size, hf.defers.ext h4⟩
   ·cases hc
    simp only [bt] at h
    obtain ⟨w', H', O', h1, h2, h3, h4⟩ := Db (P := P) hf.st ht h (hf.eval hj) (hf.eval hk)
    refine lf (by simp only [execOp, cI]; exact pH h1) ⟨M, L, H', env, O', h2, ?_, h4, List.prefix_refl L⟩
    rw [hnone]; exact ⟨h3, hf.size, hf.defers.ext h4⟩
 | nilCheck x =>
   simp only [ch, cI] at hc
   obtain ⟨j, hj, rfl⟩ := Option.map_eq_some_iff.1 hc
   simp only [bt] at h
   exact bK hf hd (wB cI h (hf.eval hj))
 | binOp op t x y yt =>
   simp only [ch, cI] at hc
   split at hc <;> try cases hc
   rename_i j k hj hk
   have hx := hf.eval hj
   have hy := hf.eval hk
   have plain : ∀ {op}, cV op (al env j) (al env k) (fun z => K (put o.dst z env) H) → o.op = .binOp op t x y yt → o.wpIn (wf ro) 0 P a w (mA A n M L w K) Q := by
    intro op h cI
    obtain ⟨r, z, h1, h2, h3, h4⟩ := Ic (P := P) (w := w) (t := t) h hx hy x y
    exact bK hf hd ⟨r, z, by simp only [execOp, cI]; exact aV h1, h2, h3, h4⟩
   split at hc
   ·cases hc
    simp only [bt] at h
    obtain ⟨r, z, h1, h2, h3, h4⟩ := ud (P := P) (w := w) (t := t) h hx hy x y
    exact bK hf hd ⟨r, z, by simp only [execOp, cI]; exact aV h1, h2, h3, h4⟩
   ·cases hc
    simp only [bt] at h
    obtain ⟨r, z, h1, h2, h3, h4⟩ := ud (P := P) (w := w) (t := t) h hx hy x y
    exact bK hf hd ⟨r, z, by simp only [execOp, cI]; exact aV h1, h2, h3, h4⟩
   ·split at hc <;> try cases hc
    ·rename_i ht
     simp only [bt] at h
     obtain ⟨r, z, h1, h2, h3, h4⟩ := sm (P := P) (w := w) (neq := false) ht h hx hy x y
     exact bK hf hd ⟨r, z, by simp only [execOp, cI]; exact aV h1, h2, h3, h4⟩
    ·exact plain (op := .eql) h cI
    ·exact plain (op := .eql) h cI
    all_goals
     rename_i ht
     split at hc <;> cases hc
     simp only [bt] at h
     obtain ⟨r, z, h1, h2, h3, h4⟩ := uw (P := P) (w := w) (neq := false) ht rfl h hx x (.const .nilFunc)
     exact bK hf hd ⟨r, z, by simp only [execOp, cI]; exact aV h1, h2, h3, h4⟩
   ·split at hc <;> try cases hc
    ·rename_i ht
     simp only [bt] at h
     obtain ⟨r, z, h1, h2, h3, h4⟩ := sm (P := P) (w := w) (neq := true) ht h hx hy x y
     exact bK hf hd ⟨r, z, by simp only [execOp, cI]; exact aV h1, h2, h3, h4⟩
    ·exact plain (op := .neq) h cI
    ·exact plain (op := .neq) h cI
    all_goals
     rename_i ht
     split at hc <;> cases hc
     simp only [bt] at h
     obtain ⟨r, z, h1, h2, h3, h4⟩ := uw (P := P) (w := w) (neq := true) ht rfl h hx x (.const .nilFunc)
     exact bK hf hd ⟨r, z, by simp only [execOp, cI]; exact aV h1, h2, h3, h4⟩
   ·cases hc; exact plain h cI
 | unOp op t x =>
   simp only [ch, cI] at hc
   obtain ⟨j, hj, rfl⟩ := Option.map_eq_some_iff.1 hc
   simp only [bt] at h
   obtain ⟨r, z, h1, h2, h3, h4⟩ := Lz (P := P) (w := w) h (hf.eval hj)
   exact bK hf hd ⟨r, z, by simp only [execOp, cI]; exact aV h1, h2, h3, h4⟩
 | convert src dst x =>
   simp only [ch, cI] at hc
   split at hc <;> try cases hc
   ·rename_i k1 k2 j hs P3 hj
    simp only [bt] at h
    obtain ⟨r, z, h1, h2, h3, h4⟩ := yJ (P := P) (w := w) hs P3 h (hf.eval hj)
    exact bK hf hd ⟨r, z, by simp only [execOp, cI]; exact aV h1, h2, h3, h4⟩
   ·rename_i j hs P3 hj
    simp only [bt] at h
    obtain ⟨r, z, h1, h2, h3, h4⟩ := yO (P := P) (w := w) hs P3 h (hf.eval hj)
    exact bK hf hd ⟨r, z, by simp only [execOp, cI]; exact aV h1, h2, h3, h4⟩
   ·rename_i e j hs P3 hj
    split at hc <;> cases hc
    rename_i he
    simp only [bt] at h
    obtain ⟨r, z, w', M', ob, h1, h2, h3, h4, h5, h6, h7, h8⟩ := yP (P := P) hf.st hs P3 he h (hf.eval hj)
    exact ur hf hd (by simp only [execOp, cI]; exact aV h1) h2 h4 h5 h6 h7 h8 h3
   ·rename_i e j hs P3 hj
    split at hc <;> cases hc
    rename_i he
    simp only [bt] at h
    obtain ⟨r, z, h1, h2, h3, h4⟩ := Df (P := P) hf.st hs he P3 h (hf.eval hj)
    exact bK hf hd ⟨r, z, by simp only [execOp, cI]; exact aV h1, h2, h3, h4⟩
 | makeFunc f first cap =>
   simp only [ch, cI] at hc
   split at hc <;> cases hc
   rename_i i j hi hj
   simp only [bt] at h
   refine bK hf hd ⟨.func f (first.map a.eval) (cap.map a.eval), _, ?_, ?_, h, by intro _ _ e; cases e⟩
   ·simp only [execOp, cI]; rfl
   ·have := aR.fn (M := M) (L := L) f (first.toList.map a.eval) (cap.toList.map a.eval) _ _ (ux hf hi) (ux hf hj)
    rw [show (first.toList.map a.eval).toArray = first.map a.eval by apply Array.ext'; simp, show (cap.toList.map a.eval).toArray = cap.map a.eval by apply Array.ext'; simp] at this
    exact this
 | makeMap t r =>
   cases r with
   | some r => simp [ch, cI] at hc
   | none =>
     simp only [ch, cI] at hc
     cases hc
     simp only [bt] at h
     obtain ⟨r, L', w', h1, h2, h3, h4, h5⟩ := Di (P := P) hf.st t
     exact nK hf hd (by simp only [execOp, cI]; exact aV h1) h2 (by intro _ _ e; cases e) h3 h4 h5 h
 | makeSlice t l c =>
   simp only [ch, cI] at hc
   split at hc <;> try cases hc
   rename_i e k ht hk
   split at hc <;> try cases hc
   rename_i esz z bytes hz hb
   split at hc <;> try cases hc
   rename_i hcond
   obtain ⟨uj, Ix⟩ := hcond
   obtain ⟨p1, p2, p3, p4, p5⟩ := ES hz
   obtain ⟨inf, iF, cT⟩ := Option.map_eq_some_iff.1 p1
   obtain ⟨inf', sA, xi⟩ := Option.map_eq_some_iff.1 hb
   rw [iF] at sA; cases sA
   unfold fw at p2
   simp only [iF] at p2
   split at p2 <;> try cases p2
   rename_i zv so
   split at hc
   ·cases hc
    simp only [bt] at h
    have tB : zv.cells.size = esz := by have := ((cA (M := M) (L := L) p2).fI p5).length; rw [p4] at this; simpa using this
    obtain ⟨r, w', M', b, h1, h2, h3, h4, h5, h6, h7, h8, h9, Yo⟩ := De (P := P) hf.st ht iF so cT xi p3 uj tB h (hf.eval hk)
    exact ur hf hd (by simp only [execOp, cI]; exact aV h1) h2 h4 h5 h6 (fun q b' dU => by cases dU; exact h7 q) (fun b' dU => by cases dU; exact ⟨h8, h9, Yo⟩) h3
   ·split at hc <;> cases hc
    rename_i hsame
    simp only [bt] at h
    have yK : a.eval l = a.eval c := by
     unfold Iw at hsame
     split at hsame
     ·simp at hsame; subst hsame; rfl
     ·simp at hsame; subst hsame; rfl
     ·cases hsame
    have Iq : ∀ y ∈ z.cells, ∀ own xs, y = .ap own xs → own = 0 := by
     intro y hy own xs e
     have := List.all_eq_true.1 Ix y hy
     subst e
     simpa using this
    obtain ⟨r, x, L', w', H', h1, h2, h3, h4, h5, h6, h7⟩ := Dd (P := P) hf.st ht iF so cT xi p3 uj p2 p5 p4 Iq h (hf.eval hk)
    exact nK hf hd (by simp only [execOp, cI, yK]; exact aV h1) h2 h3 h5 h6 h7 h4
 | slice t x lo hi mx =>
   simp only [ch, cI] at hc
   split at hc <;> try cases hc
   ·rename_i e i l h' m ht mj hl hh hm
    split at hc <;> try cases hc
    rename_i esz he
    split at hc <;> cases hc
    rename_i h0
    by_cases LL : fl = 4
    ·rw [if_pos LL] at h
     simp only [bt] at h
     obtain ⟨ad, k, c, own, ys, h1, h2, ⟨h3, Te⟩, h4⟩ := uk (P := P) hf.st ht he h0 h.2 (hf.eval mj) h.1 (b8 hf hl) (b8 hf hh) (b8 hf hm)
     cases h3
     obtain ⟨rfl, _⟩ := h4 (by omega)
     have hk : k = 0 := by
      cases h2 with
      | gb => rfl
      | ap b off c own e cs xs he hx hn => simp at hn
     subst hk
     exact bK hf hd ⟨_, _, by simp only [execOp, cI]; exact aV h1, .oh ad, Te, by intro _ _ e; cases e⟩
    rw [if_neg LL] at h
    simp only [bt] at h
    unfold bn at h
    split at h
    ·rename_i e0 a0 b0 c0 d0 Ip
     rw [← Ip] at h
     split at h
     ·rename_i AS
      have Ta : mx = none := by
       cases mx with
       | none => rfl
       | some q => simp only [jP] at hm; obtain ⟨_, _, rfl⟩ := Option.map_eq_some_iff.1 hm; cases AS
      subst Ta
      obtain ⟨r, z, h1, h2, h3, h4⟩ := AY (P := P) ht he h (hf.eval mj) (b8 hf hl) (b8 hf hh)
      exact bK hf hd ⟨r, z, by simp only [execOp, cI]; exact aV h1, h2, h3, h4⟩
     ·rename_i m0 AS
      have hm3 := b8 (a := a) hf hm
      rw [AS] at hm3
      obtain ⟨r, z, h1, h2, h3, h4⟩ := AZ (P := P) ht he h (hf.eval mj) (b8 hf hl) (b8 hf hh) hm3
      exact bK hf hd ⟨r, z, by simp only [execOp, cI]; exact aV h1, h2, h3, h4⟩
    obtain ⟨ad, k, c, own, ys, h1, h2, h3, h4⟩ := uk (P := P) hf.st ht he h0 h.2 (hf.eval mj) h.1 (b8 hf hl) (b8 hf hh) (b8 hf hm)
    by_cases tb : own = 0
    ·subst tb
     exact bK hf hd ⟨_, _, by simp only [execOp, cI]; exact aV h1, h2, h3, by intro _ _ e; cases e; rfl⟩
    ·obtain ⟨rfl, h5⟩ := h4 tb
     obtain ⟨O', oR⟩ := hf.EL (dst := o.dst) hd h2 (fun _ => h5)
     exact c9 (by simp only [execOp, cI]; exact aV h1) ⟨M, L, H, _, O', h3, oR, Ext.refl A M w, List.prefix_refl L⟩
   ·rename_i i l h' ht mj hl hh hm
    simp only [bt] at h
    have Ta : mx = none := by
     cases mx with
     | none => rfl
     | some q => simp only [jP] at hm; obtain ⟨_, _, hz⟩ := Option.map_eq_some_iff.1 hm; cases hz
    subst Ta
    obtain ⟨r, z, h1, h2, h3, h4⟩ := wF (P := P) (w := w) ht h (hf.eval mj) (b8 hf hl) (b8 hf hh)
    exact bK hf hd ⟨r, z, by simp only [execOp, cI]; exact aV h1, h2, h3, h4⟩
 | fieldAddr s x f =>
   simp only [ch, cI] at hc
   split at hc <;> cases hc
   rename_i off sz j ht hj
   simp only [bt] at h
   obtain ⟨r, z, h1, h2, h3, h4⟩ := ue (P := P) (w := w) ht h (hf.eval hj)
   exact bK hf hd ⟨r, z, by simp only [execOp, cI]; exact aV h1, h2, h3, h4⟩
 | field s x f =>
   simp only [ch, cI] at hc
   split at hc <;> cases hc
   rename_i off sz j ht hj
   simp only [bt] at h
   obtain ⟨r, z, h1, h2, h3, h4⟩ := C6 (P := P) (w := w) ht h (hf.eval hj)
   exact bK hf hd ⟨r, z, by simp only [execOp, cI]; exact aV h1, h2, h3, h4⟩
 | indexAddr t x i =>
   simp only [ch, cI] at hc
   split at hc <;> try cases hc
   rename_i e j k ht hj hk
   obtain ⟨esz, he, rfl⟩ := Option.map_eq_some_iff.1 hc
   simp only [bt] at h
   obtain ⟨r, z, h1, h2, h3, h4⟩ := uf (P := P) (w := w) ht he h.2 h.1 (hf.eval hj) (hf.eval hk)
   exact bK hf hd ⟨r, z, by simp only [execOp, cI]; exact aV h1, h2, h3, h4⟩
 | index t x i =>
   simp only [ch, cI] at hc
   split at hc <;> try cases hc
   ·rename_i j k ht hj hk
    simp only [bt] at h
    obtain ⟨r, z, h1, h2, h3, h4⟩ := wA (P := P) (w := w) ht h (hf.eval hj) (hf.eval hk)
    exact bK hf hd ⟨r, z, by simp only [execOp, cI]; exact aV h1, h2, h3, h4⟩
   ·rename_i m e j k ht hj hk
    split at hc <;> cases hc
    rename_i he
    simp only [bt] at h
    obtain ⟨r, z, h1, h2, h3, h4⟩ := wz (P := P) (w := w) ht he h (hf.eval hj) (hf.eval hk)
    exact bK hf hd ⟨r, z, by simp only [execOp, cI]; exact aV h1, h2, h3, h4⟩
 | lookup t m k ok =>
   simp only [ch, cI] at hc
   split at hc <;> try cases hc
   rename_i kt et i j ht hi hj
   split at hc <;> cases hc
   rename_i kd z hk hz
   simp only [bt] at h
   obtain ⟨r, z, h1, h2, h3, h4⟩ := AW (P := P) hf.st ht hk hz h (hf.eval hi) (hf.eval hj)
   exact bK hf hd ⟨r, z, by simp only [execOp, cI]; exact aV h1, h2, h3, h4⟩
 | mapUpdate t m k x =>
   simp only [cI] at hnone
   simp only [ch, cI] at hc
   split at hc <;> try cases hc
   rename_i kt et i j y ht hi hj hy
   obtain ⟨kd, hk, rfl⟩ := Option.map_eq_some_iff.1 hc
   simp only [bt] at h
   obtain ⟨w', H', h1, h2, h3, h4⟩ := AX (P := P) hf.st ht hk h (hf.eval hi) (hf.eval hj) (hf.eval hy)
   refine lf (by simp only [execOp, cI]; exact pH h1) ⟨M, L, H', env, O, h2, ?_, h4, List.prefix_refl L⟩
   rw [hnone]; exact ⟨h3, hf.size, hf.defers.ext h4⟩
 | extract x i =>
   simp only [ch, cI] at hc
   obtain ⟨j, hj, rfl⟩ := Option.map_eq_some_iff.1 hc
   simp only [bt] at h
   obtain ⟨r, z, h1, h2, h3, h4⟩ := yI (P := P) (w := w) h (hf.eval hj)
   exact bK hf hd ⟨r, z, by simp only [execOp, cI]; exact aV h1, h2, h3, h4⟩
 | call c =>
   simp only [ch, cI] at hc
   split at hc
   ·rename_i f mn
    split at hc <;> cases hc
    rename_i i js hi hj
    exact Dl cI mn hi hj hp hf hd h
   ·rename_i mn
    split at hc <;> try cases hc
    rename_i x t hargs yZ
    have hcall : c = { callee := .builtin .len, args := #[x], argTypes := #[t] } := by
     obtain ⟨c1, c2, c3⟩ := c
     simp only at mn hargs yZ
     subst mn
     rw [show c2 = #[x] from Array.ext' hargs, show c3 = #[t] from Array.ext' yZ]
    subst hcall
    have fin : ∀ {d : TypeDesc} {kd : Nat} {j : IX}, P.underlying t = some d → aP x = some j → iG d (al env j) = true → (eW (al env j) H fun z => K (put o.dst z env) H) → o.wpIn (wf ro) 0 P a w (mA A n M L w K) Q := by
     intro d kd j ht hj hk h
     obtain ⟨r, z, h1, h2, h3, h4⟩ := Ii (P := P) ht hf.st hk h (hf.eval hj) o.type
     refine bK hf hd ⟨r, z, ?_, h2, h3, h4⟩
     simp only [execOp, cI, resolve, invoke, builtin, Sem.run_bind, Sem.run_pure, Result.andThen_ok, List.map_toArray, List.map_cons, List.map_nil, h1]
    split at hc <;> cases hc
    ·rename_i j ht hj; exact fin (kd := 0) ht hj (Ge h.1) h.2
    ·rename_i e j ht hj; exact fin (kd := 0) ht hj (A6 h.1 e) h.2
    ·rename_i k e j ht hj; exact fin (kd := 0) ht hj (Gf h.1 k e) h.2
   ·rename_i mn
    split at hc <;> try cases hc
    rename_i s x t t' hargs yZ
    split at hc <;> try cases hc
    rename_i htt
    subst htt
    split at hc <;> try cases hc
    rename_i e i j ht hi hj
    split at hc <;> try cases hc
    rename_i esz z bytes hz hb
    split at hc <;> try cases hc
    rename_i uj
    have hcall : c = { callee := .builtin .append, args := #[s, x], argTypes := #[t, t] } := by
     obtain ⟨c1, c2, c3⟩ := c
     simp only at mn hargs yZ
     subst mn
     rw [show c2 = #[s, x] from Array.ext' hargs, show c3 = #[t, t] from Array.ext' yZ]
    subst hcall
    split at hc
    ·split at hc <;> cases hc
     rename_i Ix
     exact wK cI ht hz hb uj Ix hi hj hf hd h
    cases hc
    exact yX cI ht hz hb uj hi hj hf hd h
   ·rename_i mn
    split at hc <;> try cases hc
    rename_i x y hargs
    split at hc <;> cases hc
    rename_i i j hi hj
    simp only [bt] at h
    obtain ⟨r, z, h1, h2, h3, h4⟩ := EM (P := P) (w := w) (big := true) h (hf.eval hi) (hf.eval hj) c.argTypes o.type
    refine bK hf hd ⟨r, z, ?_, h2, h3, h4⟩
    have hargs' : c.args = #[x, y] := Array.ext' hargs
    simp only [if_true] at h1
    simp only [execOp, cI, resolve, mn, invoke, builtin, Sem.run_bind, Sem.run_pure, Result.andThen_ok, hargs', List.map_toArray, List.map_cons, List.map_nil, h1]
   ·rename_i mn
    split at hc <;> try cases hc
    rename_i x y hargs
    split at hc <;> cases hc
    rename_i i j hi hj
    simp only [bt] at h
    obtain ⟨r, z, h1, h2, h3, h4⟩ := EM (P := P) (w := w) (big := false) h (hf.eval hi) (hf.eval hj) c.argTypes o.type
    refine bK hf hd ⟨r, z, ?_, h2, h3, h4⟩
    have hargs' : c.args = #[x, y] := Array.ext' hargs
    simp only [Bool.false_eq_true, if_false] at h1
    simp only [execOp, cI, resolve, mn, invoke, builtin, Sem.run_bind, Sem.run_pure, Result.andThen_ok, hargs', List.map_toArray, List.map_cons, List.map_nil, h1]
   ·cases hc
 | _ => simp [ch, cI] at hc
theorem Dm (o : Oper) (hf : Fr A n M L w H env O a) (hd : ∀ d, o.dst = some d → d < n) (h : bt ⟨P, lo⟩ (pG P o) o.dst env H K) : o.wpIn (wf ro) 0 P a w (mA A n M L w K) Q := by
 cases cI : o.op with
 | call c =>
   simp only [pG, cI] at h
   split at h <;> try exact h.elim
   rotate_left
   ·rename_i mn
    split at h <;> try exact h.elim
    rename_i s t hargs yZ
    split at h <;> try exact h.elim
    rename_i e i ht hi
    split at h <;> try exact h.elim
    rename_i esz z hz
    simp only [bt] at h
    unfold cQ at hz
    split at hz <;> try cases hz
    rename_i esz' z' OA oo
    split at hz <;> cases hz
    rename_i hcond
    obtain ⟨h0, iH, so⟩ := hcond
    obtain ⟨inf, iF, cT⟩ := Option.map_eq_some_iff.1 OA
    unfold fw at oo
    simp only [iF] at oo
    split at oo <;> try cases oo
    rename_i zv uh
    obtain ⟨w', H', O', h1, h2, h3, h4⟩ := A4 (P := P) hf.st ht iF uh h0 oo so iH h (hf.eval hi) o.type
    obtain ⟨O'', oR⟩ := (hf.mono h3 h4).ol (dst := o.dst) hd (.tuple [] [] .nil) (by intro _ _ e; cases e)
    have hargs' : c.args = #[s] := Array.ext' hargs
    have Iz : c.argTypes = #[t] := Array.ext' yZ
    refine c9 (v := .tuple #[]) ?_ ⟨M, L, H', _, O'', h2, oR, h4, List.prefix_refl L⟩
    simp only [execOp, cI, resolve, mn, invoke, builtin, Sem.run_bind, Sem.run_pure, Result.andThen_ok, hargs', Iz, List.map_toArray, List.map_cons, List.map_nil, h1]
   rename_i mn
   split at h <;> try exact h.elim
   rename_i s x t t' hargs yZ
   split at h <;> try exact h.elim
   rename_i e i j ht hi hj
   split at h <;> try exact h.elim
   rename_i esz he
   simp only [bt] at h
   obtain ⟨r, z, w', H', O', h1, h2, h3, h4, h5, h6⟩ := F8 (P := P) hf.st ht he h (hf.eval hi) (hf.eval hj) t' o.type
   obtain ⟨O'', oR⟩ := (hf.mono h4 h5).ol (dst := o.dst) hd h2 h6
   have hargs' : c.args = #[s, x] := Array.ext' hargs
   have Iz : c.argTypes = #[t, t'] := Array.ext' yZ
   refine c9 (v := r) ?_ ⟨M, L, H', _, O'', h3, oR, h5, List.prefix_refl L⟩
   simp only [execOp, cI, resolve, mn, invoke, builtin, Sem.run_bind, Sem.run_pure, Result.andThen_ok, hargs', Iz, List.map_toArray, List.map_cons, List.map_nil, h1]
 | _ => simp only [pG, cI] at h; exact h.elim
theorem Dn (o : Oper) (hf : Fr A n M L w H env O a) (hd : ∀ d, o.dst = some d → d < n) (h : bt ⟨P, lo⟩ (mN P o) o.dst env H K) : o.wpIn (wf ro) 0 P a w (mA A n M L w K) Q := by
 have key : ∀ {x : Operand}, (o.op = .move x ∨ o.op = .assign x) → ∀ {i : IX} {esz : Nat}, aP x = some i → (ff esz (al env i) H fun z H' => K (put o.dst z env) H') → o.wpIn (wf ro) 0 P a w (mA A n M L w K) Q := by
  intro x ho i esz hi h
  obtain ⟨z, M', H', O', h1, h2, h3, h4, h5⟩ := qZ hf.st h (hf.eval hi)
  have bG : (execOp a.eval o).run P w = .ok (.value (a.eval x)) w := by
   rcases ho with ho | ho <;> simp [execOp, ho]
  obtain ⟨O'', oR⟩ := (hf.mono h3 h4).ol (dst := o.dst) hd h1 h5
  exact c9 bG ⟨M', L, H', _, O'', h2, oR, h4, List.prefix_refl L⟩
 cases cI : o.op with
 | move x =>
   simp only [mN, cI] at h
   split at h <;> try exact h.elim
   rename_i hi ht
   split at h <;> try exact h.elim
   exact key (.inl cI) hi h
 | assign x =>
   simp only [mN, cI] at h
   split at h <;> try exact h.elim
   rename_i hi ht
   split at h <;> try exact h.elim
   exact key (.inr cI) hi h
 | _ => simp only [mN, cI] at h; exact h.elim
theorem A7 (o : Oper) (esz : Nat) (hf : Fr A n M L w H env O a) (hd : ∀ d, o.dst = some d → d < n) (h : bt ⟨P, lo⟩ (kA esz o) o.dst env H K) : o.wpIn (wf ro) 0 P a w (mA A n M L w K) Q := by
 have key : ∀ {x : Operand}, (o.op = .move x ∨ o.op = .assign x) → ∀ {i : IX}, aP x = some i → (ff esz (al env i) H fun z H' => K (put o.dst z env) H') → o.wpIn (wf ro) 0 P a w (mA A n M L w K) Q := by
  intro x ho i hi h
  obtain ⟨z, M', H', O', h1, h2, h3, h4, h5⟩ := qZ hf.st h (hf.eval hi)
  have bG : (execOp a.eval o).run P w = .ok (.value (a.eval x)) w := by
   rcases ho with ho | ho <;> simp [execOp, ho]
  obtain ⟨O'', oR⟩ := (hf.mono h3 h4).ol (dst := o.dst) hd h1 h5
  exact c9 bG ⟨M', L, H', _, O'', h2, oR, h4, List.prefix_refl L⟩
 cases cI : o.op with
 | move x =>
   simp only [kA, cI] at h
   split at h <;> try exact h.elim
   rename_i hi
   exact key (.inl cI) hi h
 | assign x =>
   simp only [kA, cI] at h
   split at h <;> try exact h.elim
   rename_i hi
   exact key (.inr cI) hi h
 | _ => simp only [kA, cI] at h; exact h.elim
theorem sC (o : Oper) {fl : Nat} (hp : ∀ l, lo = some l → ∀ id, l ≤ id → A.top id = none) (hf : Fr A n M L w H env O a) (hd : ∀ d, o.dst = some d → d < n) (hnone : (match o.op with | .store .. | .mapUpdate .. => o.dst = none | _ => True))
 (h : bt ⟨P, lo⟩ (A5 P o fl) o.dst env H K) : o.wpIn (wf ro) 0 P a w (mA A n M L w K) Q := by
 unfold A5 at h
 split at h
 ·exact Dn o hf hd h
 split at h
 ·exact A7 o _ hf hd h
 cases hc : ch P o fl with
 | none => rw [hc] at h; exact Dm o hf hd h
 | some i => rw [hc] at h; exact Iy o hc hp hf hd hnone h
end
end Go.aK
end
section
namespace Go.aK
open Go
section
variable {M : Mem} {L : List Nat}
theorem pL {n : Nat} : ∀ {xs : List AV}, (∀ x ∈ xs, x.cells.length ≠ 0) → aj n (flat xs) = true → aj n xs = true
 | [], _, _ => rfl
 | x :: xs, hx, h => by
   rw [a9] at h ⊢
   intro y hy
   rcases List.mem_cons.1 hy with rfl | hy
   ·cases y with
    | agg ys =>
      simp only [AV.a7]
      rw [a9]
      intro z hz
      exact h z (by simp [flat, AV.cells, hz])
    | _ => exact h _ (by simp [flat, AV.cells])
   ·have := pL (xs := xs) (n := n) (fun x wo => hx x (List.mem_cons_of_mem _ wo)) (by
     rw [a9]
     intro z hz
     exact h z (by simp only [flat, List.flatMap_cons, List.mem_append] at hz ⊢; exact .inr hz))
    rw [a9] at this
    exact this y hy
theorem Gg {n : Nat} {x : AV} (h : aj n x.cells = true) : x.a7 n = true := by
 cases x <;> simp_all [AV.cells, AV.a7, aj]
theorem aR.LP {v : Value} {x : AV} (h : aR M L v x) : x.a7 L.length = true := by
 induction h using aR.rec (motive_2 := fun vs xs _ => aj L.length xs = true) with
 | ap b off c own e cs xs he hx hn hle hc hr hm ih => exact pL (fun x wo => by rw [hx x wo]; omega) ih
 | bf b off len cap id hl hc => simp only [AV.a7, decide_eq_true_eq]; exact aM hl
 | agg cs xs hr ih => exact ih
 | tuple cs xs hr ih => exact ih
 | ptr b off id hl => simp only [AV.a7, decide_eq_true_eq]; exact aM hl
 | ai b off cs x hr hm ih => simp only [AV.a7]; exact Gg ih
 | map b id hl => simp only [AV.a7, decide_eq_true_eq]; exact aM hl
 | mC b id hl => simp only [AV.a7, decide_eq_true_eq]; exact aM hl
 | fn f fs cs xs ys h1 h2 i1 i2 => simp only [AV.a7, Bool.and_eq_true]; exact ⟨i1, i2⟩
 | iface t v x h ih => exact ih
 | cons v x vs xs h t i1 i2 => simp only [aj, Bool.and_eq_true]; exact ⟨i1, i2⟩
 | nil => rfl
 | _ => rfl
theorem aJ.LP : ∀ {vs : List Value} {xs : List AV}, aJ M L vs xs → aj L.length xs = true
 | _, _, .nil => rfl
 | _, _, .cons _ _ _ _ h t => by simp only [aj, Bool.and_eq_true]; exact ⟨h.LP, t.LP⟩
end
section
variable {A : Perm} {M : Mem} {L : List Nat} {w : World} {H : List aa} {ev : Nat → Value} {ea : Nat → AV} {O : Pos → Option Nat}
theorem St.nM (h : St A M L w H ev ea O) {id b : Nat} {st st' : S8} {lc : ig} {es : List AV} {r' : Loop} (bm : H[id]? = some (.loop st lc es)) (hL : L[id]? = some b)
 (hr : ∀ r, w.heap[b]? = some (.loop r) → r'.params = r.params ∧ r'.assign = r.assign ∧ r'.body = r.body ∧ r'.tmps = r.tmps ∧ r'.defers = r.defers ∧ st'.ok r') :
 St A M L (w.putObj b (.loop r')) (H.set id (.loop st' lc es)) ev ea O ∧ Ext A M w M (w.putObj b (.loop r')) := by
 have xe : b ∈ L := List.mem_of_getElem? hL
 have PR := h.lt b xe
 obtain ⟨r0, hc, p1, p2, p3, p4, p5⟩ := h.obj id _ b bm hL
 obtain ⟨q1, q2, q3, q4, q5, q6⟩ := hr r0 hc
 have fH : ∀ k, k ≠ b → (w.putObj b (.loop r')).heap[k]? = w.heap[k]? := fun k hk => World.putObj_heap_other hk
 have mh : (w.putObj b (.loop r')).heap[b]? = some (.loop r') := World.putObj_heap_same PR
 have S9 : ∀ o, M b o = none := by
  intro o
  cases hm : M b o with
  | none => rfl
  | some v =>
    have := h.mem b o v hm
    simp [World.cell?, hc] at this
 have pB : id < H.length := aM bm
 refine ⟨{ len := by simp [h.len], nodup := h.nodup, env := h.env, mem := ?_, obj := ?_, bB := ?_, lt := ?_, gH := ?_, gE := ?_, bY := h.bY, cc := h.cc, eT := ?_, La := h.La, Oa := h.Oa, fresh := ?_ }, ?_⟩
 ·intro k o v hv
  have hk : k ≠ b := by rintro rfl; rw [S9 o] at hv; cases hv
  have := h.mem k o v hv
  simp only [World.cell?] at this ⊢
  rw [fH k hk]; exact this
 ·intro id' o k ho hk
  by_cases e0 : id' = id
  ·subst e0
   rw [hL] at hk; cases hk
   rw [List.getElem?_set_self pB] at ho
   cases ho
   exact ⟨r', mh, q1.trans p1, q2.trans p2, q3.trans p3, by rw [q4]; exact p4, q6⟩
  ·rw [List.getElem?_set_ne (fun h' => e0 h'.symm)] at ho
   have CW : k ≠ b := by
    rintro rfl
    exact e0 ((List.getElem?_inj (aM hk) h.nodup).1 (hk.trans hL.symm))
   exact (h.obj id' o k ho hk).mono (Mem.bM M) (List.prefix_refl _) (fH k CW) (fun _ => rfl)
 ·intro id' o ho
  rw [List.length_set]
  by_cases e0 : id' = id
  ·subst e0
   rw [List.getElem?_set_self pB] at ho
   cases ho
   exact h.bB id' (.loop st lc es) bm
  ·rw [List.getElem?_set_ne (fun h' => e0 h'.symm)] at ho
   exact h.bB id' o ho
 ·intro k hk; simpa using h.lt k hk
 ·intro t
  exact (h.gH t).mono fun k hk => ⟨fH k (fun e3 => h.cc _ k hk (e3 ▸ xe)), fun _ => rfl⟩
 ·intro id' j
  by_cases e0 : id' = id
  ·subst e0
   have hn : O (.c id' j) = none := by
    have := h.gE id' j
    simp only [bp, bm] at this
    exact this
   have e2 : bp (H.set id' (.loop st' lc es)) id' j = .any := by
    unfold bp
    rw [List.getElem?_set_self pB]
   rw [e2, hn]; rfl
  ·have e1 : bJ L (w.putObj b (.loop r')) id' j = bJ L w id' j := by
    unfold bJ
    split
    ·rename_i k hk
     have CW : k ≠ b := by
      rintro rfl
      exact e0 ((List.getElem?_inj (aM hk) h.nodup).1 (hk.trans hL.symm))
     simp only [World.cell?]
     rw [fH k CW]
    ·rfl
   have e2 : bp (H.set id (.loop st' lc es)) id' j = bp H id' j := by
    unfold bp
    rw [List.getElem?_set_ne (fun h' => e0 h'.symm)]
   rw [e1, e2]
   exact (h.gE id' j).mono fun k hk => ⟨fH k (fun e3 => h.cc _ k hk (e3 ▸ xe)), fun _ => rfl⟩
 ·intro p k hp; simpa using h.eT p k hp
 ·intro k hk; simp at hk; exact h.fresh k hk
 ·exact ⟨Mem.bM M, by simp, rfl, rfl, rfl, fun k hk hA => ⟨fH k (fun e0 => hA (e0 ▸ h.La b xe)), fun _ => rfl⟩, fun k r hk => by
   by_cases e0 : k = b
   ·subst e0
    rw [hc] at hk; cases hk
    exact ⟨r', mh, q5⟩
   ·exact ⟨r, (fH k e0).trans hk, rfl⟩⟩
def Perm.TT (A : Perm) (D : Nat) : Perm := ⟨fun b => A b ∧ b ≠ D, A.top, A.ok, A.base⟩
def Perm.Le (A' A : Perm) : Prop := A'.top = A.top ∧ (∀ b, A' b → A b) ∧ A'.base = A.base
theorem Perm.Le.refl (A : Perm) : A.Le A := ⟨rfl, fun _ h => h, rfl⟩
theorem Perm.Le.trans {A B C : Perm} (h : A.Le B) (k : B.Le C) : A.Le C := ⟨h.1.trans k.1, fun b hb => k.2.1 b (h.2.1 b hb), h.2.2.trans k.2.2⟩
theorem Perm.y0 (A : Perm) (D : Nat) : (A.TT D).Le A := ⟨rfl, fun _ h => h.1, rfl⟩
theorem Perm.Le.jb {A' A : Perm} (h : A'.Le A) (len id : Nat) : A'.jb len id = A.jb len id := by unfold Perm.jb; rw [h.1]
theorem Ext.le {A' : Perm} {M' : Mem} {w' : World} (h : Ext A' M w M' w') (hl : A'.Le A) : Ext A M w M' w' :=
 ⟨h.kw, h.size, h.os, h.tape, h.output, fun b hb hA => h.jX b hb fun h' => hA (hl.2.1 b h'), h.loops⟩
theorem St.le {A' : Perm} (h : St A' M L w H ev ea O) (hl : A'.Le A) : St A M L w H ev ea O :=
 { h with bB := fun id o ho => by rw [← hl.jb]; exact h.bB id o ho, La := fun b hb => hl.2.1 b (h.La b hb), Oa := fun p b hp => hl.2.1 b (h.Oa p b hp), fresh := fun b hb => hl.2.1 b (h.fresh b hb) }
theorem St.TT (h : St A M L w H ev ea O) {D : Nat} (h1 : D ∉ L) (h2 : ∀ p, O p ≠ some D) (h3 : D < w.heap.size) : St (A.TT D) M L w H ev ea O :=
 { h with
   bB := fun id o ho => by rw [(A.y0 D).jb]; exact h.bB id o ho
   La := fun b hb => ⟨h.La b hb, fun e => h1 (e ▸ hb)⟩
   Oa := fun p b hp => ⟨h.Oa p b hp, fun e => h2 p (e ▸ hp)⟩
   fresh := fun b hb => ⟨h.fresh b hb, fun e => by omega⟩ }
theorem Ox.le {A' : Perm} {ds : List Deferred} (h : Ox A w ds) (hl : A'.Le A) : Ox A' w ds := ⟨by rw [hl.2.2]; exact h.1, h.2.1, fun d hd => by
 obtain ⟨D, h1, h2, h3, h4⟩ := h.2.2 d hd
 exact ⟨D, h1, h2, fun h' => h3 (hl.2.1 D h'), by rw [hl.2.2]; exact h4⟩⟩
end
end Go.aK
end
section
namespace Go.aK
open Go
structure bu where
 g : Option (Nat × Bool)
 dst : Option Nat
 op : bW
 deriving Inhabited
inductive DT where
 | done
 | take (st : Bool) (o : bu) (r : DT)
 | br (o : bu) (t rest : DT)
 | nil
 deriving Inhabited
def inst (il : List bu) : wx → DT
 | .done => .done
 | .take i st r => .take st (il.getD i default) (inst il r)
 | .br i t rest => .br (il.getD i default) (inst il t) (inst il rest)
 | .nil => .nil
inductive IR where
 | skip
 | region (ops : List bu) (live : Option (List Nat))
 | draw (t : DT) (live : Option (List Nat))
 | seq (a b : IR)
 | cond (x : IX) (a b : IR)
 | block (id : Nat) (a : IR)
 | loop (a : IR)
 | exit (id : Nat)
 | ret
 | never
 | iK (f : IX) (lc : ig)
 deriving Inhabited
def eo (live : Option (List Nat)) (env : Env) : Env :=
 match live with
 | none => env
 | some l => l.map fun t => (t, get env t)
def gR (env : Env) (g : Nat) (want : Bool) (yes no : Env → Prop) : Prop :=
 match get env g with
 | .bool b => (b = want → yes ((g, .bool want) :: env)) ∧ (b = (!want) → no ((g, .bool (!want)) :: env))
 | .tuple [] => no env
 | _ => False
def rb (P : Px) (o : bu) (env : Env) (H : List aa) (K : Env → List aa → Prop) : Prop :=
 match o.g with
 | none => bt P o.op o.dst env H K
 | some (g, want) => gR env g want (fun env => bt P o.op o.dst env H K) (fun env => K (put o.dst (.tuple []) env) H)
def iZ (P : Px) : List bu → Env → List aa → (Env → List aa → Prop) → Prop
 | [], env, H, K => K env H
 | o :: r, env, H, K => rb P o env H fun env H => iZ P r env H K
def cS (P : Px) (o : bW) (ρ : IX → AV) (H : List aa) (x : AV) : Prop :=
 match o with
 | .set i false => (ρ i).ab = x
 | .pick c a b => eH (ρ c) fun q => (q = true → (ρ a).ab = x) ∧ (q = false → (ρ b).ab = x)
 | .bin op i j => cV op (ρ i) (ρ j) fun z => z = x
 | .shift op i j => dL op (ρ i) (ρ j) fun z => z = x
 | .gO neq i j => cM neq (ρ i) (ρ j) fun z => z = x
 | .iT kd neq i => dc kd neq (ρ i) fun z => z = x
 | .un op i => yH op (ρ i) fun z => z = x
 | .k9 i => (ρ i).val = true ∧ .ai (ρ i) = x
 | .build z ps => cC z.cells (ps.map fun q => (q.1, q.2.1, ρ q.2.2)) fun v => v = x
 | .buildSlice own esz z len ps => bh (List.replicate len (aT z)) esz (ps.map fun q => (q.1, ρ q.2)) fun xs => .ap own xs = x
 | .load sz i => aS sz (ρ i) H fun z => z = x
 | .nilCheck i => bR (ρ i) fun z => z = x
 | .fieldAddr off sz i => ak off sz (ρ i) fun z => z = x
 | .field off sz i => eI off sz (ρ i) fun z => z = x
 | .indexAddr esz i j => (∀ own xs, ρ i = .ap own xs → ∀ z ∈ xs, z.cells.length = esz) ∧ ay esz (ρ i) (ρ j) fun z => z = x
 | .c8 i j => bH (ρ i) (ρ j) fun z => z = x
 | .dJ n i j => bQ n (ρ i) (ρ j) fun z => z = x
 | .slice esz i lo hi mx => bn esz (ρ i) (lo.map ρ) (hi.map ρ) (mx.map ρ) fun z => z = x
 | .dK i lo hi => b7 (ρ i) (lo.map ρ) (hi.map ρ) fun z => z = x
 | .len kd i => aL kd (ρ i) ∧ eW (ρ i) H fun z => z = x
 | .lookup kd z m k ok => cb kd z (ρ m) (ρ k) ok H fun v => v = x
 | .fn f first cap => .fn f (first.map fun x => (ρ x).ab) (cap.map fun x => (ρ x).ab) = x
 | .extract i k => bC (ρ i) k fun z => z = x
 | .call f args none => match ρ f with
   | .fn (.func g) first cap => ∃ bO, xp (first.map AV.ab ++ (args.map fun x => (ρ x).ab) ++ cap.map AV.ab) bO ∧ aq P.prog g bO H (fun r H' => r = x ∧ H' = H)
   | _ => False
 | .eC k i => cp k (ρ i) fun z => z = x
 | .gg i => fx (ρ i) fun z => z = x
 | .bytesOf i => eM 1 (ρ i) fun z => z = x
 | .mF esz bytes i => iI esz bytes (ρ i) fun z => z = x
 | .strOf i => jn (ρ i) fun z => z = x
 | .mx big i j => wy big (ρ i) (ρ j) fun z => z = x
 | _ => False
def dv (P : Px) (st : Bool) (o : bW) (ρ : IX → AV) (H : List aa) (x : AV) : Prop :=
 match st with
 | true => cS P o ρ H x
 | false => ∀ H', cS P o ρ H' x
def sD (P : Px) (st : Bool) (o : bu) (env : Env) (H : List aa) (K : Env → Prop) : Prop :=
 match o.g with
 | none => ∃ x, dv P st o.op (al env) H x ∧ K (put o.dst x env)
 | some (g, want) => gR env g want (fun _ => ∃ x, dv P st o.op (al env) H x ∧ K (put o.dst x env)) (fun _ => K (put o.dst (.tuple []) env))
def tF (P : Px) : DT → Env → List aa → (Env → List aa → Prop) → Prop
 | .done, env, H, K => K env H
 | .take st o r, env, H, K => sD P st o env H fun env => tF P r env H K
 | .br o t rest, env, H, K => rb P o env H (fun env H => tF P t env H K) ∧ tF P rest env H K
 | .nil, _, _, _ => True
def sle (n0 : Nat) (env : Env) (H : List aa) (aD : Env) (H' : List aa) : Prop :=
 (∀ t, (get env t).le (get aD t)) ∧ (H' = H ∨ ∃ m, n0 ≤ m ∧ H' = H.take m ∧ ∀ t, (get aD t).a7 m = true)
def Gh (n0 : Nat) (env : Env) (H : List aa) (aD : Env) (H' : List aa) : Prop :=
 (∀ t, (get env t).le (get aD t)) ∧ (H' = H ∨ ∃ m, n0 ≤ m ∧ H' = H.take m ∧ (∀ id o, n0 ≤ id → id < m → H[id]? = some o → o.a7 m = true) ∧ ∀ t, (get aD t).a7 m = true)
def Gi (lo : Option Nat) (n0 : Nat) (env : Env) (H : List aa) (aD : Env) (H' : List aa) : Prop :=
 match lo with
 | none => sle n0 env H aD H'
 | some _ => Gh n0 env H aD H'
def kg (n : Nat) (env : Env) : List AV := (List.range n).map fun t => (get env t).ab
def behind (id : Nat) (H' : List aa) (K : Option Code → List aa → Prop) : Prop :=
 match H'[id]? with
 | some (.loop .ready lc es) => K none (H'.set id (.loop .ew lc es))
 | some (.loop (.jump c) lc es) => K (some c) (H'.set id (.loop .ew lc es))
 | _ => False
def oS (j : Option Code) (Q : Exit → Env → List aa → Prop) (env : Env) (H : List aa) : Prop :=
 match j with
 | none => Q .normal env H
 | some .ret => Q .ret env H
 | some (.exit id) => Q (.exit id) env H
 | _ => False
def mb (P : Px) (n0 : Nat) : IR → Env → List aa → (Exit → Env → List aa → Prop) → Prop
 | .skip, env, H, Q => Q .normal env H
 | .region ops live, env, H, Q => iZ P ops env H fun aD H' => Q .normal (eo live aD) H'
 | .draw t live, env, H, Q => tF P t env H fun aD H' => Q .normal (eo live aD) H'
 | .seq a b, env, H, Q => mb P n0 a env H fun e aD H' => match e with
   | .normal => mb P n0 b aD H' Q
   | e => Q e aD H'
 | .cond x a b, env, H, Q => eH (al env x) fun q => (q = true → mb P n0 a env H Q) ∧ (q = false → mb P n0 b env H Q)
 | .block id a, env, H, Q => mb P n0 a env H fun e aD H' => match e with
   | .exit id' => if id' = id then Q .normal aD H' else Q (.exit id') aD H'
   | e => Q e aD H'
 | .loop a, env, H, Q => ∃ (ι : Type) (I : ι → Prop) (se : ι → Env) (sh : ι → List aa) (μ : ι → Nat), (∃ i, I i ∧ Gi P.lo n0 env H (se i) (sh i)) ∧
    ∀ i, I i → mb P n0 a (se i) (sh i) fun e aD H' => match e with
     | .normal => ∃ j, I j ∧ μ j < μ i ∧ Gi P.lo n0 aD H' (se j) (sh j)
     | e => Q e aD H'
 | .exit id, env, H, Q => Q (.exit id) env H
 | .ret, env, H, Q => Q .ret env H
 | .never, env, H, Q => False
 | .iK f lc, env, H, Q => match al env f with
   | .fn (.func g) first cap => (∀ (as : Array Value) (w : World), (callFunc g as).run P.prog w = .ok (.enter g as) w) ∧
     ∃ bO, xp (first.map AV.ab ++ [.mC H.length] ++ cap.map AV.ab) bO ∧ dX P g bO (H ++ [.loop .ready lc (kg lc.n env)]) fun _ H' => behind H.length H' fun j H'' => oS j Q env H''
   | _ => False
def AF.at_ (an : AF) (r i : Nat) : Nat := match an.find? fun x => x.1 == r && x.2.1 == i with | some x => x.2.2 | none => 0
def l7.at_ (lv : l7) (r : Nat) : Option (List Nat) := (lv.find? fun x => x.1 == r).map (·.2)
def ET (n : Nat) (o : Oper) : Bool := (match o.dst with | some d => d < n | none => true) && (match o.op with | .store .. | .mapUpdate .. => o.dst.isNone | _ => true)
def EU (ops : Array Oper) (o : Oper) : Option (Option (Nat × Bool)) :=
 match o.guard with
 | none => some none
 | some (j, want) => match (ops[j]?).bind (·.dst) with
   | some g => some (some (g, want))
   | none => none
def EV (i : IX) (d : Nat) : Bool := match i with | .t s => decide (s ≠ d) | _ => true
def P4 (P : Program) (ops : Array Oper) (n : Nat) (fl : Nat) (o o' : Oper) : Option bu :=
 match fl, o.op, o.dst, o.guard, o'.op, o'.dst, o'.guard with
 | 2, .alloc e, some d, none, .store t (.tmp d') x, none, none =>
   if d = d' ∧ d < n ∧ t = e then (match aP x, dB P t, fw P e with
    | some i, some m, some z => if EV i d = true ∧ z.cells.length = m ∧ z.val = true ∧ m ≠ 0 then some ⟨none, some d, .qT m i⟩ else none
    | _, _, _ => none) else none
 | _, _, _, _, _, _, _ => none
def eD (P : Program) (ops : Array Oper) (an : AF) (n rid : Nat) (fu : Bool) : Nat → Nat → List Oper → Option (List bu)
 | _, _, [] => some []
 | 0, _, _ => none
 | fuel + 1, k, o :: r =>
   if an.at_ rid k = 1000 ∧ fu = true then
    match r with
    | o' :: r' => match P4 P ops n 2 o o', eD P ops an n rid fu fuel (k + 2) r' with
      | some x, some xs => some (x :: xs)
      | _, _ => none
    | [] => none
   else
    match EU ops o, eD P ops an n rid fu fuel (k + 1) r with
    | some g, some xs => if ET n o = true then some (⟨g, o.dst, A5 P o (an.at_ rid k)⟩ :: xs) else none
    | _, _ => none
def bW.all : bW → List IX
 | .set i _ => [i]
 | .pick c a b => [c, a, b]
 | .bin _ i j | .shift _ i j | .gO _ i j | .indexAddr _ i j | .c8 i j | .dJ _ i j | .lookup _ _ i j _ | .mx _ i j | .store _ i j | .mE _ i j | .append _ _ i j | .iV _ _ _ i j | .copy _ i j => [i, j]
 | .mH _ _ i | .yF _ i | .iT _ _ i | .un _ i | .box i | .k9 i | .qT _ i | .load _ i | .sj _ _ i | .eh i | .nilCheck i | .fieldAddr _ _ i | .field _ _ i | .len _ i | .sk _ _ _ i | .mF _ _ i | .extract i _ | .eC _ i | .gg i | .bytesOf i | .strOf i => [i]
 | .eV i s => [i, .t s]
 | .jY _ i j k => [i, j, k]
 | .build _ ps => ps.map fun q => q.2.2
 | .buildSlice _ _ _ _ ps | .AI _ _ _ ps => ps.map fun q => q.2
 | .slice _ i lo hi m | .oN _ i lo hi m => i :: (lo.toList ++ hi.toList ++ m.toList)
 | .dK i lo hi => i :: (lo.toList ++ hi.toList)
 | .fn _ first cap => first ++ cap
 | .call f args _ => f :: args
 | .alloc _ | .mG | .never => []
def IX.OC : List IX → List Nat := fun l => l.filterMap fun i => match i with | .t s => some s | .c _ => none
def bW.kill : bW → List Nat
 | .set (.t s) true => [s]
 | .eV _ s => [s]
 | .append _ _ (.t s) _ => [s]
 | .call _ args pass => (match pass with | some j => (match args[j]? with | some (.t s) => [s] | _ => []) | none => [])
 | _ => []
def bW.P5 : bW → Bool
 | .box _ | .alloc _ | .eh _ | .store .. | .mE .. | .sj .. | .eV .. | .sk .. | .mG | .jY .. | .call .. | .copy .. | .yF .. | .AI .. | .iV .. | .mH .. | .never => true
 | _ => false
def bu.lk (o : bu) : List Nat := IX.OC o.op.all ++ (match o.g with | some (g, _) => [g] | none => [])
def bW.Tf (o : bW) (pure : Bool) : Bool :=
 match o with
 | .set _ take => !take
 | .call _ _ none => pure
 | .never | .call .. | .append .. => false
 | .qT .. => false
 | o => !o.P5
def bW.xr : bW → Bool
 | .box _ | .alloc _ | .mG => true
 | _ => false
def bW.stays : bW → Bool
 | .call .. => false
 | _ => true
def rc (st : Bool) (oi oj : bu) : Bool :=
 (match oi.dst with | some d => !oj.lk.contains d && oj.dst != some d && !oj.op.kill.contains d | none => true) &&
 (match oj.dst with | some d => !oi.lk.contains d | none => true) &&
 oj.op.kill.all (fun s => !oi.lk.contains s) && (!st || !oj.op.P5 || (oj.op.xr && oi.op.stays))
def dg (ops : Array Oper) : Nat → Nat → Nat → Bool
 | 0, _, _ => false
 | f + 1, j, i => match ops[j]? with
   | some o => o.after.any fun e => Region.binds .any e && (e.on == i || dg ops f e.on i)
   | none => false
def mO (ops : Array Oper) (il : List bu) (listed : Array Bool) (i : Nat) (st : Bool) : Bool :=
 (List.range ops.size).all fun j => j == i || listed.getD j true || dg ops ops.size j i || rc st (il.getD i default) (il.getD j default)
def tg (ops : Array Oper) (il : List bu) : Nat → Array Bool → Option (List Nat) → wx → Bool
 | _, listed, none, .done => (Region.ready .any ops listed).isEmpty
 | f + 1, listed, none, .take i st r => (Region.ready .any ops listed).contains i && (il.getD i default).op.Tf true && mO ops il listed i st && tg ops il f (listed.setIfInBounds i true) none r
 | f + 1, listed, none, .br i t rest => (match Region.ready .any ops listed with | k :: ks => k == i && tg ops il f (listed.setIfInBounds i true) none t && tg ops il (f + 1) listed (some ks) rest | [] => false)
 | f + 1, listed, some (k :: ks), .br i t rest => k == i && tg ops il f (listed.setIfInBounds i true) none t && tg ops il (f + 1) listed (some ks) rest
 | _, _, some [], .nil => true
 | _, _, _, _ => false
def jt : List Edge → Nat
 | [] => 0
 | e :: r => if Region.binds .any e = true then (1 <<< e.on) ||| jt r else jt r
def gl (rs : List Nat) : List Edge → Nat
 | [] => 0
 | e :: r => if Region.binds .any e = true ∧ e.on < rs.length then ((1 <<< e.on) ||| rs.getD e.on 0) ||| gl rs r else gl rs r
def eN : List Oper → List Nat → List Nat
 | [], acc => acc
 | o :: r, acc => eN r (acc ++ [gl acc o.after.toList])
def lr (m : Nat) : Nat → List Nat → List Nat
 | _, [] => []
 | i, a :: r => if m.testBit i = false ∧ a &&& m = a then i :: lr m (i + 1) r else lr m (i + 1) r
def A8 (m i : Nat) (st : Bool) (oi : bu) : Nat → List Nat → List bu → Bool
 | j, r :: rs, o :: os => (j == i || m.testBit j || r.testBit i || rc st oi o) && A8 m i st oi (j + 1) rs os
 | _, _, [] => true
 | _, [], _ :: _ => false
def kC (am rm : List Nat) (il : List bu) : Nat → Nat → Option (List Nat) → wx → Bool
 | _, m, none, .done => (lr m 0 am).isEmpty
 | f + 1, m, none, .take i st r => (lr m 0 am).contains i && (il.getD i default).op.Tf true && A8 m i st (il.getD i default) 0 rm il && kC am rm il f (m ||| (1 <<< i)) none r
 | f + 1, m, none, .br i t rest => (match lr m 0 am with | k :: ks => k == i && kC am rm il f (m ||| (1 <<< i)) none t && kC am rm il (f + 1) m (some ks) rest | [] => false)
 | f + 1, m, some (k :: ks), .br i t rest => k == i && kC am rm il f (m ||| (1 <<< i)) none t && kC am rm il (f + 1) m (some ks) rest
 | _, _, some [], .nil => true
 | _, _, _, _ => false
def l8.at_ (pl : l8) (r : Nat) : wx := match pl.find? fun x => x.1 == r with | some x => x.2 | none => .done
def comp (P : Program) (an : AF) (lv : l7) (pl : l8) (n : Nat) : Code → Option IR
 | .skip => some .skip
 | .region id ops false => (eD P ops an n id true (ops.size + 1) 0 ops.toList).map fun l => .region l (lv.at_ id)
 | .region id ops true => match eD P ops an n id false (ops.size + 1) 0 ops.toList with
   | some il => if P.follows .mixedOrders = true ∧ kC (ops.toList.map fun o => jt o.after.toList) (eN ops.toList []) il ops.size 0 none (pl.at_ id) = true then some (.draw (inst il (pl.at_ id)) (lv.at_ id)) else none
   | none => none
 | .seq a b => match comp P an lv pl n a, comp P an lv pl n b with
   | some x, some y => some (.seq x y)
   | _, _ => none
 | .cond c a b => match aP c, comp P an lv pl n a, comp P an lv pl n b with
   | some i, some x, some y => some (.cond i x y)
   | _, _, _ => none
 | .block id a => (comp P an lv pl n a).map (.block id)
 | .loop a => (comp P an lv pl n a).map .loop
 | .exit id => some (.exit id)
 | .ret => some .ret
 | .rangeFunc f ps as bd => (aP f).map fun i => .iK i ⟨n, ps.toList, as, bd, an, lv, pl⟩
 | _ => some .never
theorem iL (n k : Nat) : (1 <<< n).testBit k = decide (n = k) := by
 rw [Nat.shiftLeft_eq, Nat.one_mul, Nat.testBit_two_pow]
theorem Dp (m : Nat) : ∀ (es : List Edge), (jt es &&& m = jt es) ↔ ∀ e ∈ es, Region.binds .any e = true → m.testBit e.on = true := by
 have key : ∀ a : Nat, (a &&& m = a) ↔ ∀ i, a.testBit i = true → m.testBit i = true := by
  intro a
  constructor
  ·intro h i hi
   rw [← h] at hi
   simp only [Nat.testBit_and, Bool.and_eq_true] at hi
   exact hi.2
  ·intro h
   apply Nat.eq_of_testBit_eq
   intro i
   rw [Nat.testBit_and]
   cases ha : a.testBit i with
   | false => simp
   | true => simp [h i ha]
 intro es
 rw [key]
 induction es with
 | nil => simp [jt]
 | cons e r ih =>
   simp only [jt]
   split
   ·rename_i hb
    constructor
    ·intro h e' CY dU
     rcases List.mem_cons.1 CY with rfl | CY
     ·exact h _ (by simp [])
     ·exact ih.1 (fun i hi => h i (by simp [hi])) e' CY dU
    ·intro h i hi
     simp only [Nat.testBit_or, Bool.or_eq_true, iL, decide_eq_true_eq] at hi
     rcases hi with rfl | hi
     ·exact h e (by simp) hb
     ·exact ih.2 (fun e' CY dU => h e' (List.mem_cons_of_mem _ CY) dU) i hi
   ·rename_i hb
    constructor
    ·intro h e' CY dU
     rcases List.mem_cons.1 CY with rfl | CY
     ·exact absurd dU hb
     ·exact ih.1 h e' CY dU
    ·intro h
     exact ih.2 (fun e' CY dU => h e' (List.mem_cons_of_mem _ CY) dU)
theorem lz {rs : List Nat} {i : Nat} : ∀ {es : List Edge}, (gl rs es).testBit i = true → ∃ e ∈ es, Region.binds .any e = true ∧ e.on < rs.length ∧ (e.on = i ∨ (rs.getD e.on 0).testBit i = true)
 | [], h => by simp [gl] at h
 | e :: r, h => by
   simp only [gl] at h
   split at h
   ·rename_i hb
    simp only [Nat.testBit_or, Bool.or_eq_true, iL, decide_eq_true_eq] at h
    rcases h with h | h
    ·exact ⟨e, by simp, hb.1, hb.2, h⟩
    ·obtain ⟨e', CY, h'⟩ := lz h
     exact ⟨e', List.mem_cons_of_mem _ CY, h'⟩
   ·obtain ⟨e', CY, h'⟩ := lz h
    exact ⟨e', List.mem_cons_of_mem _ CY, h'⟩
theorem uy : ∀ (l : List Oper) (acc : List Nat), ∃ r, eN l acc = acc ++ r ∧ r.length = l.length
 | [], acc => ⟨[], by simp [eN], rfl⟩
 | o :: l, acc => by
   obtain ⟨r, h1, h2⟩ := uy l (acc ++ [gl acc o.after.toList])
   exact ⟨gl acc o.after.toList :: r, by simp [eN, h1], by simp [h2]⟩
theorem uz : ∀ (l : List Oper) (acc : List Nat) (j : Nat) (o : Oper), l[j]? = some o → (eN l acc)[acc.length + j]? = some (gl ((eN l acc).take (acc.length + j)) o.after.toList)
 | [], acc, j, o, h => by simp at h
 | x :: l, acc, 0, o, h => by
   simp at h
   subst h
   simp only [eN]
   obtain ⟨r, h1, h2⟩ := uy l (acc ++ [gl acc x.after.toList])
   rw [h1]
   simp
 | x :: l, acc, j + 1, o, h => by
   have ih := uz l (acc ++ [gl acc x.after.toList]) j o (by simpa using h)
   simp only [eN]
   simp only [List.length_append, List.length_cons, List.length_nil] at ih
   rw [show acc.length + (j + 1) = acc.length + (0 + 1) + j by omega]
   exact ih
theorem Dq {ops : Array Oper} {i : Nat} : ∀ (j f : Nat), j < f → j < ops.size → ((eN ops.toList []).getD j 0).testBit i = true → dg ops f j i = true := by
 intro j
 induction j using Nat.strongRecOn with
 | _ j ih =>
   intro f hf hj h
   have P6 : ops[j]? = some ops[j] := by simp [hj]
   have hg := uz ops.toList [] j ops[j] (by simp [hj])
   simp only [List.length_nil, Nat.zero_add] at hg
   rw [List.getD_eq_getElem?_getD, hg, Option.getD_some] at h
   obtain ⟨e, he, hb, aY, TE⟩ := lz h
   have mq : e.on < j := by simp at aY; omega
   cases f with
   | zero => omega
   | succ f =>
     simp only [dg, P6]
     rw [Array.any_eq_true']
     refine ⟨e, by simpa using he, ?_⟩
     simp only [Bool.and_eq_true, Bool.or_eq_true, beq_iff_eq]
     refine ⟨hb, ?_⟩
     rcases TE with h1 | h1
     ·exact .inl h1
     ·refine .inr (ih e.on mq f (by omega) (by omega) ?_)
      have : ((eN ops.toList []).take j).getD e.on 0 = (eN ops.toList []).getD e.on 0 := by
       simp [List.getD_eq_getElem?_getD, mq]
      rw [this] at h1
      exact h1
def bitsOf (n : Nat) (listed : Array Bool) (m : Nat) : Prop := listed.size = n ∧ ∀ k, m.testBit k = listed.getD k false
theorem uA {n : Nat} {listed : Array Bool} {m i : Nat} (h : bitsOf n listed m) (hi : i < n) : bitsOf n (listed.setIfInBounds i true) (m ||| (1 <<< i)) := by
 obtain ⟨h1, h2⟩ := h
 refine ⟨by simp [h1], fun k => ?_⟩
 rw [Nat.testBit_or, h2 k, iL]
 simp only [Array.getD_eq_getD_getElem?, Array.getElem?_setIfInBounds]
 by_cases hk : i = k
 ·subst hk
  simp [h1, hi]
 ·simp [hk]
theorem uB {ops : Array Oper} {listed : Array Bool} {m : Nat} (hb : bitsOf ops.size listed m) : ∀ (l : List Oper) (i : Nat), (∀ j, l[j]? = ops[i + j]?) →
 lr m i (l.map fun o => jt o.after.toList) = (List.range' i l.length).filter fun i => !listed.getD i true && ((ops[i]?).map (·.after.all fun e => !Region.binds .any e || listed.getD e.on false)).getD false
 | [], i, _ => by simp [lr]
 | o :: l, i, h => by
   have h0 : ops[i]? = some o := by simpa using (h 0).symm
   have hi : i < ops.size := (Array.getElem?_eq_some_iff.1 h0).1
   have ih := uB hb l (i + 1) (fun j => by have := h (j + 1); simpa [Nat.add_assoc, Nat.add_comm 1 j] using this)
   simp only [List.map_cons, lr, List.length_cons, List.range'_succ, List.filter_cons]
   have e1 : (m.testBit i = false) ↔ (listed.getD i true = false) := by
    rw [hb.2 i]
    have : i < listed.size := by rw [hb.1]; exact hi
    simp [Array.getD, this]
   have e2 : (jt o.after.toList &&& m = jt o.after.toList) ↔ (o.after.all fun e => !Region.binds .any e || listed.getD e.on false) = true := by
    rw [Dp, Array.all_eq_true']
    simp only [Array.mem_toList_iff, Bool.or_eq_true, Bool.not_eq_true', hb.2]
    constructor
    ·intro h e he
     cases Yp : Region.binds .any e with
     | false => exact .inl rfl
     | true => exact .inr (h e he Yp)
    ·intro h e he Yp
     rcases h e he with h | h
     ·rw [Yp] at h; cases h
     ·exact h
   by_cases hc : m.testBit i = false ∧ jt o.after.toList &&& m = jt o.after.toList
   ·rw [if_pos hc, if_pos (by rw [h0]; simp only [Option.map_some, Option.getD_some, e1.1 hc.1, e2.1 hc.2, Bool.not_false, Bool.and_self]), ih]
   ·rw [if_neg hc, if_neg (by
     rw [h0]
     simp only [Option.map_some, Option.getD_some, Bool.and_eq_true, Bool.not_eq_true']
     intro h'
     exact hc ⟨e1.2 h'.1, e2.2 h'.2⟩), ih]
theorem rf {ops : Array Oper} {listed : Array Bool} {m : Nat} (hb : bitsOf ops.size listed m) : lr m 0 (ops.toList.map fun o => jt o.after.toList) = Region.ready .any ops listed := by
 rw [uB hb ops.toList 0 (by simp)]
 unfold Region.ready
 simp [List.range_eq_range']
theorem uC {ops : Array Oper} {il : List bu} {listed : Array Bool} {m i : Nat} {st : Bool} {oi : bu} (hb : bitsOf ops.size listed m) : ∀ (rs : List Nat) (os : List bu) (j : Nat), (∀ k, os[k]? = il[j + k]?) → (∀ k, rs[k]? = (eN ops.toList [])[j + k]?) → A8 m i st oi j rs os = true →
 ∀ k, j ≤ k → k < ops.size → k < il.length → (k == i || listed.getD k true || dg ops ops.size k i || rc st oi (il.getD k default)) = true
 | rs, [], j, h1, _, _, k, OB, _, hk => by
   have := h1 (k - j)
   rw [show j + (k - j) = k by omega] at this
   simp at this
   omega
 | [], o :: os, j, h1, h2, h, _, _, _, _ => by simp [A8] at h
 | r :: rs, o :: os, j, h1, h2, h, k, OB, Dh, EQ => by
   simp only [A8, Bool.and_eq_true] at h
   by_cases hk : k = j
   ·subst hk
    have ho : il.getD k default = o := by
     have := h1 0
     simp at this
     rw [List.getD_eq_getElem?_getD, ← this]; rfl
    have hr : (eN ops.toList []).getD k 0 = r := by
     have := h2 0
     simp at this
     rw [List.getD_eq_getElem?_getD, ← this]; rfl
    have h := h.1
    simp only [Bool.or_eq_true] at h ⊢
    rcases h with ((h | h) | h) | h
    ·exact .inl (.inl (.inl h))
    ·refine .inl (.inl (.inr ?_))
     rw [hb.2 k] at h
     have : k < listed.size := by rw [hb.1]; exact Dh
     simpa [Array.getD, this] using h
    ·exact .inl (.inr (Dq k _ Dh Dh (by rw [hr]; exact h)))
    ·rw [ho]; exact .inr h
   ·exact uC hb rs os (j + 1) (fun q => by have := h1 (q + 1); simpa [Nat.add_assoc, Nat.add_comm 1 q] using this) (fun q => by have := h2 (q + 1); simpa [Nat.add_assoc, Nat.add_comm 1 q] using this) h.2 k (by omega) Dh EQ
theorem pM {ops : Array Oper} {listed : Array Bool} {i : Nat} (h : i ∈ Region.ready .any ops listed) : i < ops.size := by
 unfold Region.ready at h
 simp at h
 exact h.1
theorem IA {ops : Array Oper} {il : List bu} (cT : il.length = ops.size) : ∀ (p : wx) (f m : Nat) (listed : Array Bool) (rem : Option (List Nat)), bitsOf ops.size listed m → (∀ ks, rem = some ks → ∀ k ∈ ks, k < ops.size) →
 kC (ops.toList.map fun o => jt o.after.toList) (eN ops.toList []) il f m rem p = true → tg ops il f listed rem p = true := by
 intro p
 induction p with
 | done =>
   intro f m listed rem hb _ h
   cases rem with
   | none => cases f <;> (simp only [kC, rf hb] at h; simpa [tg] using h)
   | some ks => cases ks <;> cases f <;> simp [kC] at h
 | nil =>
   intro f m listed rem hb _ h
   cases rem with
   | none => cases f <;> simp [kC] at h
   | some ks => cases ks <;> cases f <;> simp [kC] at h <;> simp [tg]
 | take i st r ih =>
   intro f m listed rem hb _ h
   cases rem with
   | some ks => cases ks <;> cases f <;> simp [kC] at h
   | none =>
     cases f with
     | zero => simp [kC] at h
     | succ f =>
       simp only [kC, rf hb, Bool.and_eq_true] at h
       obtain ⟨⟨⟨h1, h2⟩, h3⟩, h4⟩ := h
       have hi : i < ops.size := pM (by simpa using h1)
       simp only [tg, Bool.and_eq_true]
       refine ⟨⟨⟨h1, h2⟩, ?_⟩, ih _ _ _ _ (uA hb hi) (by simp) h4⟩
       unfold mO
       refine List.all_eq_true.2 fun k hk => ?_
       have PN : k < ops.size := List.mem_range.1 hk
       exact uC hb (eN ops.toList []) il 0 (fun k => by rw [Nat.zero_add]) (fun k => by rw [Nat.zero_add]) h3 k (Nat.zero_le _) PN (by omega)
 | br i t rest IB HQ =>
   intro f m listed rem hb Yq h
   cases f with
   | zero => cases rem with
     | none => simp [kC] at h
     | some ks => cases ks <;> simp [kC] at h
   | succ f =>
     cases rem with
     | none =>
       simp only [kC, rf hb] at h
       simp only [tg]
       split at h
       ·rename_i k ks hr
        simp only [Bool.and_eq_true, beq_iff_eq] at h
        obtain ⟨⟨rfl, h1⟩, h2⟩ := h
        have hk : ∀ q ∈ k :: ks, q < ops.size := fun q hq => pM (by rw [hr]; exact hq)
        simp only [Bool.and_eq_true, beq_iff_eq, true_and]
        exact ⟨IB _ _ _ _ (uA hb (hk k (by simp))) (by simp) h1, HQ _ _ _ _ hb (fun ks' e q hq => by cases e; exact hk q (by simp [hq])) h2⟩
       ·cases h
     | some ks =>
       cases ks with
       | nil => simp [kC] at h
       | cons k ks =>
         simp only [kC, Bool.and_eq_true, beq_iff_eq] at h
         obtain ⟨⟨rfl, h1⟩, h2⟩ := h
         have hk := Yq _ rfl
         simp only [tg, Bool.and_eq_true, beq_iff_eq, true_and]
         exact ⟨IB _ _ _ _ (uA hb (hk k (by simp))) (by simp) h1, HQ _ _ _ _ hb (fun ks' e q hq => by cases e; exact hk q (by simp [hq])) h2⟩
theorem Gj (n : Nat) : bitsOf n (Array.replicate n false) 0 := ⟨by simp, fun k => by
 simp only [Nat.zero_testBit, Array.getD_eq_getD_getElem?, Array.getElem?_replicate]
 split <;> rfl⟩
section
variable {ro : Option Nat} {P : Program} {lo : Option Nat} {A : Perm} {n : Nat} {M : Mem} {L : List Nat} {w : World} {H : List aa} {env : Env} {O : Pos → Option Nat} {a : Act} {ev : Nat → Value} {ea : Nat → AV}
def Dr (A : Perm) (n : Nat) (M0 : Mem) (L0 : List Nat) (w0 : World) (Q : Exit → Env → List aa → Prop) (e : Exit) (a : Act) (w : World) : Prop :=
 ∃ A' M L H env O, A'.Le A ∧ Q e env H ∧ Fr A' n M L w H env O a ∧ Ext A M0 w0 M w ∧ L0 <+: L
theorem Fr.Ds (h : Fr A n M L w H env O a) {aD : Env} (he : get aD = get env) : Fr A n M L w H aD O a := ⟨by rw [he]; exact h.st, h.size, h.defers⟩
theorem Fr.weaken (h : Fr A n M L w H env O a) {aD : Env} (hl : ∀ t, (get env t).le (get aD t)) : ∃ O', Fr A n M L w H aD O' a := by
 obtain ⟨O', h'⟩ := h.st.weaken hl
 exact ⟨O', h', h.size, h.defers⟩
theorem le_refl (x : AV) : x.le x := .inl rfl
theorem P7 (x : AV) : x.le .any := .inr (.inl rfl)
theorem xt (live : Option (List Nat)) (env : Env) (t : Nat) : (get env t).le (get (eo live env) t) := by
 cases live with
 | none => exact le_refl _
 | some l =>
   simp only [eo]
   induction l with
   | nil => exact P7 _
   | cons s l ih =>
     simp only [List.map_cons, get]
     split
     ·rename_i e; subst e; exact le_refl _
     ·exact ih
theorem get_mem {env : Env} {t : Nat} {x : AV} (h : get env t = x) : x = .any ∨ (t, x) ∈ env := by
 induction env with
 | nil => left; exact h.symm
 | cons p r ih =>
   obtain ⟨k, v⟩ := p
   simp only [get] at h
   split at h
   ·rename_i e; subst e; subst h; right; simp
   ·rcases ih h with h' | h'
    ·exact .inl h'
    ·exact .inr (List.mem_cons_of_mem _ h')
theorem aA (n0 : Nat) (env : Env) (H : List aa) : sle n0 env H env H := ⟨fun t => le_refl _, .inl rfl⟩
def fA (lo : Option Nat) (n0 : Nat) (A : Perm) : Prop := (∀ id, id < n0 → ∃ m, m ≤ n0 ∧ A.top id = some m) ∧ match lo with
 | none => ∀ id, n0 ≤ id → A.top id = some (id + 1)
 | some l => l = n0 ∧ ∀ id, n0 ≤ id → A.top id = none
theorem fA.opens {n0 : Nat} (h : fA lo n0 A) : ∀ l, lo = some l → ∀ id, l ≤ id → A.top id = none := by
 rintro l rfl id bm
 obtain ⟨_, rfl, h⟩ := h
 exact h id bm
theorem fA.low {n0 m : Nat} (h : fA lo n0 A) (hm : n0 ≤ m) (hs : St A M L w H ev ea O) : ∀ id o, id < n0 → H[id]? = some o → o.a7 m = true := by
 intro id o bm ho
 obtain ⟨k, hk, e⟩ := h.1 id bm
 have := hs.bB id o ho
 refine aa.cE ?_ o this
 unfold Perm.jb
 rw [e]
 exact Nat.le_trans (Nat.min_le_left _ _) (by omega)
theorem fA.closed {n0 m : Nat} (h : fA none n0 A) (hm : n0 ≤ m) (hs : St A M L w H ev ea O) : ∀ id o, id < m → H[id]? = some o → o.a7 m = true := by
 intro id o bm ho
 by_cases e : id < n0
 ·exact h.low hm hs id o e ho
 ·have e1 := h.2 id (by omega)
  have := hs.bB id o ho
  refine aa.cE ?_ o this
  unfold Perm.jb
  rw [e1]
  exact Nat.le_trans (Nat.min_le_left _ _) (by omega)
theorem Fr.sle (h : Fr A n M L w H env O a) {aD : Env} {H' : List aa} {L0 : List Nat} (hA : fA lo L0.length A) (hL : L0 <+: L) (hl : Gi lo L0.length env H aD H') : ∃ L' O', Fr A n M L' w H' aD O' a ∧ L0 <+: L' := by
 have wL : Gh L0.length env H aD H' := by
  unfold Gi at hl
  split at hl
  ·obtain ⟨h1, h2⟩ := hl
   refine ⟨h1, ?_⟩
   rcases h2 with rfl | ⟨m, hm, rfl, hb⟩
   ·exact .inl rfl
   ·exact .inr ⟨m, hm, rfl, fun id o _ bm ho => hA.closed hm h.st id o bm ho, hb⟩
  ·exact hl
 obtain ⟨h1, h2⟩ := wL
 obtain ⟨O', hf⟩ := h.weaken h1
 rcases h2 with rfl | ⟨m, hm, rfl, hc, hb⟩
 ·exact ⟨L, O', hf, hL⟩
 ·obtain ⟨O'', bP⟩ := hf.st.cut m (fun id o bm ho => by
   by_cases e : id < L0.length
   ·exact hA.low hm hf.st id o e ho
   ·exact hc id o (by omega) bm ho) hb
  refine ⟨L.take m, O'', ⟨bP, hf.size, hf.defers⟩, ?_⟩
  obtain ⟨r, rfl⟩ := hL
  exact ⟨r.take (m - L0.length), by rw [List.take_append, List.take_of_length_le hm]⟩
theorem y7 {ops : Array Oper} {j g : Nat} (hg : (ops[j]?).bind (·.dst) = some g) (hf : Fr A n M L w H env O a) {b : Bool} (hb : get env g = .bool b) : yielded ops a.tmps j = some b := by
 have hr := hf.st.env g
 rw [hb] at hr
 generalize hv : a.tmps.getD g undef = v at hr
 cases hr
 have : a.tmps[g]? = some (.bool b) := by
  rw [Array.getD_eq_getD_getElem?] at hv
  cases h : a.tmps[g]? with
  | none => rw [h] at hv; cases hv
  | some v => rw [h] at hv; simp at hv; rw [hv]
 simp [yielded, hg, this]
theorem wM {ops : Array Oper} {j g : Nat} (hg : (ops[j]?).bind (·.dst) = some g) (hf : Fr A n M L w H env O a) (hb : get env g = .tuple []) : yielded ops a.tmps j = none := by
 have hr := hf.st.env g
 rw [hb] at hr
 generalize hv : a.tmps.getD g undef = v at hr
 cases hr with
 | tuple cs _ h =>
 rw [Array.getD_eq_getD_getElem?] at hv
 simp only [yielded, hg, Option.bind_some]
 cases h : a.tmps[g]? with
 | none => rfl
 | some v => rw [h] at hv; simp at hv; rw [hv]
theorem xu {ops : Array Oper} {o : Oper} {fl : Nat} {g : Option (Nat × Bool)} (hg : EU ops o = some g) (fL : ET n o = true) (hp : ∀ l, lo = some l → ∀ id, l ≤ id → A.top id = none) (hf : Fr A n M L w H env O a) {K : Env → List aa → Prop} (h : rb ⟨P, lo⟩ ⟨g, o.dst, A5 P o fl⟩ env H K) (Q : Exit → Act → World → Prop) :
 if Region.wanted o (yielded ops a.tmps) then o.wpIn (wf ro) 0 P a w (mA A n M L w K) Q else mA A n M L w K (a.put o.dst undef) w := by
 simp only [ET, Bool.and_eq_true] at fL
 have hd : ∀ d, o.dst = some d → d < n := by
  intro d hd
  have := fL.1
  rw [hd] at this
  simpa using this
 have hn : (match o.op with | .store .. | .mapUpdate .. => o.dst = none | _ => True) := by
  have := fL.2
  split at this <;> first | trivial | skip
  ·simpa using this
  ·simpa using this
 unfold EU at hg
 split at hg
 ·rename_i Lb
  cases hg
  rw [if_pos (by simp [Region.wanted, Lb])]
  exact sC o hp hf hd hn h
 ·rename_i j want Lb
  split at hg <;> cases hg
  rename_i g hgj
  simp only [rb, gR] at h
  split at h
  rotate_left
  ·rename_i hb
   have hy := wM hgj hf hb
   rw [if_neg (by simp [Region.wanted, Lb, hy])]
   obtain ⟨O', oR⟩ := hf.ol (dst := o.dst) (v := undef) (x := .tuple []) hd (.tuple [] [] .nil) (by intro _ _ e; cases e)
   exact ⟨M, L, H, _, O', h, oR, Ext.refl A M w, List.prefix_refl L⟩
  ·exact h.elim
  rename_i b hb
  have hy := y7 hgj hf hb
  have TU : get ((g, AV.bool b) :: env) = get env := by
   rw [Ib]; funext t; simp only [fe]; split
   ·rename_i e; rw [e, hb]
   ·rfl
  by_cases hw : b = want
  ·subst hw
   rw [if_pos (by simp [Region.wanted, Lb, hy])]
   exact sC o hp (hf.Ds TU) hd hn (h.1 rfl)
  ·have EW : b = !want := by cases b <;> cases want <;> simp_all
   subst EW
   rw [if_neg (by simp [Region.wanted, Lb, hy])]
   obtain ⟨O', oR⟩ := (hf.Ds TU).ol (dst := o.dst) (v := undef) (x := .tuple []) hd (.tuple [] [] .nil) (by intro _ _ e; cases e)
   exact ⟨M, L, H, _, O', h.2 rfl, oR, Ext.refl A M w, List.prefix_refl L⟩
theorem mA.trans {K K' : Env → List aa → Prop} {M' : Mem} {L' : List Nat} {w' : World} {a' : Act} {w'' : World} (cq : Ext A M w M' w') (hL : L <+: L') (h : mA A n M' L' w' K a' w'') : mA A n M L w K a' w'' := by
 obtain ⟨M2, L2, H2, cH, O2, h1, h2, h3, h4⟩ := h
 exact ⟨M2, L2, H2, cH, O2, h1, h2, cq.trans h3, hL.trans h4⟩
theorem A9 (w : World) (c c' : Array Value) (e : TypeId) : ({ w with heap := w.heap.push (.cells c e) } : World).setRow w.heap.size c' = { w with heap := w.heap.push (.cells c' e) } := by
 simp only [World.setRow]
 congr 1
 apply Array.ext
 ·simp
 ·intro i h1 h2
  rw [Array.getElem_modify]
  by_cases hi : w.heap.size = i
  ·subst hi; simp
  ·simp only [hi, if_false]
   have : i < w.heap.size := by simp at h2; omega
   rw [Array.getElem_push_lt this, Array.getElem_push_lt this]
theorem Dt {ops : Array Oper} {o o' : Oper} {x : bu} (hx : P4 P ops n 2 o o' = some x) (hf : Fr A n M L w H env O a) {K : Env → List aa → Prop} (h : rb ⟨P, lo⟩ x env H K) (r : List Oper) (Q : Exit → Act → World → Prop)
 (hrest : ∀ a' w', mA A n M L w K a' w' → wpListIn (wf ro) 0 P ops Q r a' w') : wpListIn (wf ro) 0 P ops Q (o :: o' :: r) a w := by
 unfold P4 at hx
 split at hx <;> try cases hx
 rename_i e d t d' y _ cI fL Lb Yr TV Ys
 split at hx <;> try cases hx
 rename_i hcond
 obtain ⟨rfl, TP, rfl⟩ := hcond
 split at hx <;> try cases hx
 rename_i i m z hi hm hz
 split at hx <;> cases hx
 rename_i hcond
 obtain ⟨dS, iH, so, AS⟩ := hcond
 simp only [rb, bt] at h
 obtain ⟨lh, iC, jZ, hK⟩ := h
 have hr := hf.eval hi
 have LD := hr.fI lh
 have pD := LD.length
 -- the zero value
 obtain ⟨inf, iF, cT⟩ := Option.map_eq_some_iff.1 hm
 unfold fw at hz
 simp only [iF] at hz
 split at hz <;> try cases hz
 rename_i zv uh
 have tB : zv.cells.size = m := by have := ((cA (M := M) (L := L) hz).fI so).length; rw [iH] at this; simpa using this
 have hrun1 : (execOp a.eval o).run P w = .ok (.value (.pointer (some ⟨w.heap.size, 0, none⟩))) { w with heap := w.heap.push (.cells zv.cells t) } := by
  simp only [execOp, cI]
  exact aV (by simp only [Instr.alloc, zeroValue, typeInfo, Sem.run_bind, run_program, Result.andThen_ok, iF, Sem.run_pure, uh]; rfl)
 have hsize : d < a.tmps.size := by rw [hf.size]; exact TP
 have PX : (a.put (some d) (.pointer (some ⟨w.heap.size, 0, none⟩))).eval (.tmp d) = .pointer (some ⟨w.heap.size, 0, none⟩) := by
  show (a.put (some d) _).tmps.getD d undef = _
  rw [uc a d _ hsize d]; simp [fe]
 have Yt : (a.put (some d) (.pointer (some ⟨w.heap.size, 0, none⟩))).eval y = a.eval y := by
  cases y with
  | tmp s =>
    simp [aP] at hi; subst hi
    simp [EV] at dS
    show (a.put (some d) _).tmps.getD s undef = a.tmps.getD s undef
    rw [uc a d _ hsize s]; simp [fe, dS]
  | _ => rfl
 have bP := run_storeCells_at P w.heap.size 0 t (a.eval y).cells.toList 0 zv.cells { w with heap := w.heap.push (.cells zv.cells t) } (dA w _) (by simp at pD ⊢; omega) (LD.gf jZ)
 have hwhole : (zv.cells.toList.take (0 + 0) ++ (a.eval y).cells.toList ++ zv.cells.toList.drop (0 + 0 + (a.eval y).cells.toList.length)).toArray = (a.eval y).cells := by
  have : zv.cells.toList.drop (0 + 0 + (a.eval y).cells.toList.length) = [] := List.drop_eq_nil_of_le (by simp at pD ⊢; omega)
  rw [this]; simp
 rw [hwhole, A9] at bP
 have hrun2 : (execOp (a.put (some d) (.pointer (some ⟨w.heap.size, 0, none⟩))).eval o').run P { w with heap := w.heap.push (.cells zv.cells t) } = .ok .skip { w with heap := w.heap.push (.cells (a.eval y).cells t) } := by
  simp only [execOp, Yr, PX, Yt]
  refine pH ?_
  have hs : (sizeOf t).run P { w with heap := w.heap.push (.cells zv.cells t) } = .ok m { w with heap := w.heap.push (.cells zv.cells t) } := by simp [sizeOf, typeInfo, iF, cT]
  simp only [Instr.storeAt, Instr.sureAddr, storeVar, Sem.run_bind, Sem.run_pure, Result.andThen_ok, hs, ne_eq]
  rw [if_neg (by simp at pD; omega)]
  exact bP
 obtain ⟨g1, g2, g3⟩ := hf.st.C3 (a.eval y).cells t
 have fo : aR (M.add w.heap.size (a.eval y).cells.toList) L (.pointer (some ⟨w.heap.size, 0, none⟩)) (.ai (al env i)) := .ai _ _ _ _ (LD.mono g2.kw (List.prefix_refl _)) g3
 obtain ⟨O', oR⟩ := (hf.mono g1 g2).ol (dst := some d) (fun d' e => by cases e; exact TP) fo (by intro _ _ e; cases e)
 have kD := hrest _ _ ⟨_, L, H, _, O', hK, oR, g2, List.prefix_refl L⟩
 unfold wpListIn
 rw [if_pos (by simp [Region.wanted, Lb])]
 refine kx hrun1 (by intro d e; cases e) ?_
 rw [Oper.uponIn_value, fL]
 unfold wpListIn
 rw [if_pos (by simp [Region.wanted, Ys])]
 refine kx hrun2 (by intro d e; cases e) ?_
 rw [Oper.uponIn_skip, TV]
 exact kD
theorem oU {ops : Array Oper} {an : AF} {rid : Nat} {fu : Bool} (hp : ∀ l, lo = some l → ∀ id, l ≤ id → A.top id = none) (Q : Exit → Act → World → Prop) : ∀ (fuel k : Nat) (l : List Oper) (il : List bu), eD P ops an n rid fu fuel k l = some il → ∀ {M : Mem} {L : List Nat} {w : World} {H : List aa} {env : Env} {O : Pos → Option Nat} {a : Act} (K : Env → List aa → Prop),
 Fr A n M L w H env O a → iZ ⟨P, lo⟩ il env H K → (∀ a' w', mA A n M L w K a' w' → Q .normal a' w') → wpListIn (wf ro) 0 P ops Q l a w
 | _, _, [], il, hc, M, L, w, H, env, O, a, K, hf, h, hQ => by
   unfold eD at hc
   cases hc
   exact hQ a w ⟨M, L, H, env, O, h, hf, Ext.refl A M w, List.prefix_refl L⟩
 | 0, _, o :: r, il, hc, _, _, _, _, _, _, _, _, _, _, _ => by simp [eD] at hc
 | fuel + 1, k, o :: r, il, hc, M, L, w, H, env, O, a, K, hf, h, hQ => by
   unfold eD at hc
   split at hc
   ·-- a new variable with its first value
    split at hc <;> try cases hc
    rename_i o' r'
    split at hc <;> cases hc
    rename_i x xs hx fp
    simp only [iZ] at h
    refine Dt hx hf h r' Q ?_
    rintro a' w' ⟨M', L', H', aD, O', k1, k2, k3, k4⟩
    exact oU hp Q fuel (k + 2) r' xs fp K k2 k1 (fun a2 w2 h2 => hQ a2 w2 (mA.trans (K' := K) k3 k4 h2))
   ·split at hc <;> try cases hc
    rename_i g xs hg fp
    split at hc <;> cases hc
    rename_i fL
    simp only [iZ] at h
    have h1 := xu (ro := ro) (ops := ops) hg fL hp hf h Q
    have hrest : ∀ a' w', mA A n M L w (fun env H => iZ ⟨P, lo⟩ xs env H K) a' w' → wpListIn (wf ro) 0 P ops Q r a' w' := by
     rintro a' w' ⟨M', L', H', aD, O', k1, k2, k3, k4⟩
     exact oU hp Q fuel (k + 1) r xs fp K k2 k1 (fun a2 w2 h2 => hQ a2 w2 (mA.trans (K' := K) k3 k4 h2))
    unfold wpListIn
    split
    ·rename_i hw
     rw [if_pos hw] at h1
     exact Oper.wpIn_mono hrest h1
    ·rename_i hw
     rw [if_neg hw] at h1
     exact ⟨fun _ _ => trivial, hrest _ _ h1⟩
theorem Dr.trans {A' : Perm} {M0 M1 : Mem} {L0 : List Nat} {w0 w1 : World} {Q : Exit → Env → List aa → Prop} {e : Exit} {a : Act} {w : World} (hl : A'.Le A) (hx : Ext A M0 w0 M1 w1) (hp : Dr A' n M1 L0 w1 Q e a w) : Dr A n M0 L0 w0 Q e a w := by
 obtain ⟨A2, M, L, H, env, O, hA, h1, h2, h3, h4⟩ := hp
 exact ⟨A2, M, L, H, env, O, hA.trans hl, h1, h2, hx.trans (h3.le hl), h4⟩
theorem fA.le {n0 : Nat} {A' : Perm} (h : fA lo n0 A) (hl : A'.Le A) : fA lo n0 A' := by
 unfold fA at *
 rw [hl.1]
 exact h
def Own (ro : Option Nat) (w : World) : Prop := ∀ l, ro = some l → ∃ r, w.heap[l]? = some (.loop r)
theorem Own.ext {M' : Mem} {w' : World} (h : Own ro w) (hx : Ext A M w M' w') : Own ro w' := fun l hl => by
 obtain ⟨r, hr⟩ := h l hl
 obtain ⟨r', Yu, _⟩ := hx.loops l r hr
 exact ⟨r', Yu⟩
theorem Gk (p : Nat → Prop) (h : ∃ k, p k) : ∃ k, p k ∧ ∀ j, p j → k ≤ j := by
 obtain ⟨k, hk⟩ := h
 induction k using Nat.strongRecOn with
 | _ k ih =>
   by_cases hl : ∃ j, j < k ∧ p j
   ·obtain ⟨j, hj, hp⟩ := hl
    exact ih j hj hp
   ·exact ⟨k, hk, fun j hj => by
     rcases Nat.lt_or_ge j k with h' | h'
     ·exact absurd ⟨j, h', hj⟩ hl
     ·exact h'⟩
theorem y8 {F : Fence} {k : Nat} {c : Code} {Q : Exit → Act → World → Prop} {w : World} {a : Act} {ι : Type} (I : ι → Act → World → Prop) (μ : ι → Nat)
 (round : ∀ i a w, I i a w → c.wpIn F k P (Exit.then (fun a' w' => ∃ j, I j a' w' ∧ μ j < μ i) Q) a w) (i0 : ι) (h0 : I i0 a w) : (Code.loop c).wpIn F k P Q a w := by
 let p : Act → World → Nat → Prop := fun a w k => ∃ i, I i a w ∧ μ i = k
 let ν : Act → World → Nat := fun a w => Classical.epsilon fun k => p a w k ∧ ∀ j, p a w j → k ≤ j
 have hν : ∀ a w, (∃ i, I i a w) → p a w (ν a w) ∧ ∀ j, p a w j → ν a w ≤ j := by
  rintro a w ⟨i, hi⟩
  exact Classical.epsilon_spec (Gk (p a w) ⟨μ i, i, hi, rfl⟩)
 refine wpIn_loop (fun a w => ∃ i, I i a w) ν ⟨i0, h0⟩ ?_
 intro a w hI
 obtain ⟨⟨i, hi, hμ⟩, _⟩ := hν a w hI
 refine Go.wpIn_mono (round i a w hi) ?_
 intro e a' w' h
 cases e with
 | normal =>
   obtain ⟨j, hj, aY⟩ := h
   refine ⟨⟨j, hj⟩, ?_⟩
   have := (hν a' w' ⟨j, hj⟩).2 (μ j) ⟨j, hj, rfl⟩
   omega
 | _ => exact h
def xv (P : Program) (ro lo : Option Nat) (A : Perm) (n : Nat) (L0 : List Nat) : Prop :=
 ∀ {id : Nat} {ops : Array Oper} {il : List bu} {p : wx} {live : Option (List Nat)} {an : AF} {M : Mem} {L : List Nat} {w : World} {H : List aa} {env : Env} {O : Pos → Option Nat} {a : Act} {M0 : Mem} {w0 : World} {Q : Exit → Env → List aa → Prop},
  P.follows .mixedOrders = true → kC (ops.toList.map fun o => jt o.after.toList) (eN ops.toList []) il ops.size 0 none p = true → eD P ops an n id false (ops.size + 1) 0 ops.toList = some il → mb ⟨P, lo⟩ L0.length (.draw (inst il p) live) env H Q → Fr A n M L w H env O a → Ext A M0 w0 M w → L0 <+: L → (Code.region id ops true).wpIn (wf ro) 0 P (Dr A n M0 L0 w0 Q) a w
theorem Ba {L0 : List Nat} (hA : fA lo L0.length A) {f : Operand} {ps : Array Tmp} {as bd : Code} {an : AF} {lv : l7} {pl : l8} {i : IX} (hi : aP f = some i) {Q : Exit → Env → List aa → Prop}
 (wu : Own ro w) (h : mb ⟨P, lo⟩ L0.length (.iK i ⟨n, ps.toList, as, bd, an, lv, pl⟩) env H Q) (hf : Fr A n M L w H env O a) (hL : L0 <+: L) : (Code.rangeFunc f ps as bd).wpIn (wf ro) 0 P (Dr A n M L0 w Q) a w := by
 have K9 := hf.eval hi
 simp only [mb] at h
 split at h <;> try exact h.elim
 rename_i g first cap TR
 obtain ⟨hcf, bO, hle, hcall⟩ := h
 rw [TR] at K9
 generalize hu : a.eval f = u at K9
 cases K9 with
 | fn _ fs cs _ _ yY qY =>
 refine wpIn_rangeFunc fun fn _ => ?_
 -- the record
 have enter : ∃ (l : Nat) (mark : List Deferred) (w1 : World) (A1 : Perm), (Instr.enterLoop fn a.tmps ps as bd ro).run P w = .ok (l, mark) w1 ∧ A1.Le A ∧
  Fr A1 n M (L ++ [l]) w1 (H ++ [.loop .ready ⟨n, ps.toList, as, bd, an, lv, pl⟩ (kg n env)]) env O { a with defers := mark ++ a.defers } ∧ Ext A M w M w1 := by
  have yR : aJ M L a.tmps.toList (kg n env) := by
   refine aJ.yC (by simp [kg, hf.size]) fun j x hx => ?_
   simp only [kg, List.getElem?_map] at hx
   obtain ⟨t, ht, rfl⟩ := Option.map_eq_some_iff.1 hx
   obtain ⟨nG, rfl⟩ := List.getElem?_eq_some_iff.1 ht
   simp only [List.length_range] at nG
   simp only [List.getElem_range]
   have := (hf.st.env j).ab
   refine ⟨a.tmps.getD j undef, ?_, this⟩
   rw [Array.getD_eq_getD_getElem?, Array.getElem?_toList, Array.getElem?_eq_getElem (by rw [hf.size]; exact nG)]
   rfl
  have nF : (aa.loop .ready ⟨n, ps.toList, as, bd, an, lv, pl⟩ (kg n env)).a7 (H.length + 1) = true := by
   simp only [aa.a7]
   have := yR.LP
   rw [hf.st.len] at this
   exact bF (by omega) _ this
  cases ro with
  | none =>
    have hg := hf.st.grow (w' := { w with heap := w.heap.push (.deferred (some [])) }) (Mem.bM M) (fun b o v hv => by
     have h1 := hf.st.mem b o v hv
     simp only [World.cell?] at h1 ⊢
     cases hb : w.heap[b]? with
     | none => rw [hb] at h1; simp at h1
     | some ob => rw [dW w _ (Array.getElem?_eq_some_iff.1 hb).1]; exact h1) (by simp) (fun b hb => dW w _ hb) (fun _ _ _ => rfl)
    have sE : Ext A M w M { w with heap := w.heap.push (.deferred (some [])) } := Ext.grow (Mem.bM M) (by simp) rfl rfl rfl (fun b hb => dW w _ hb) (fun _ _ _ => rfl)
    have hb := hg.TT (D := w.heap.size) (fun hm => by have := hf.st.lt _ hm; omega) (fun p hp => by have := hf.st.eT _ _ hp; omega) (by simp)
    obtain ⟨g1, g2⟩ := hb.qS (.loop { state := .ready, pending := none, fn, tmps := a.tmps, params := ps, assign := as, body := bd, defers := w.heap.size }) (.loop .ready ⟨n, ps.toList, as, bd, an, lv, pl⟩ (kg n env))
     (fun w' Io _ => ⟨_, Io, (Array.toArray_toList).symm, rfl, rfl, yR.mono (Mem.bM M) ⟨_, rfl⟩, rfl, rfl⟩) nF (fun j => rfl)
    refine ⟨w.heap.size + 1, _, _, A.TT w.heap.size, run_enterLoop_outer _ _ _ _ _, A.y0 _, ⟨?_, hf.size, ?_⟩, ?_⟩
    ·have e1 : ({ w with heap := w.heap.push (.deferred (some [])) } : World).heap.size = w.heap.size + 1 := by simp
     rw [e1] at g1
     exact g1
    ·have old := ((hf.defers.ext sE).le (A.y0 w.heap.size)).ext g2
     refine ⟨old.1, ?_, fun d hd => ?_⟩
     ·show (_ :: a.defers).Nodup
      rw [List.nodup_cons]
      refine ⟨fun hm => ?_, old.2.1⟩
      obtain ⟨D, e, hD, _⟩ := hf.defers.2.2 _ hm
      cases e
      have := (Array.getElem?_eq_some_iff.1 hD).1
      omega
     rcases List.mem_append.1 hd with hd | hd
     ·rw [List.mem_singleton] at hd
      subst hd
      refine ⟨w.heap.size, rfl, ?_, (fun h => h.2 rfl), (show A.base ≤ w.heap.size from hf.defers.1)⟩
      show ((w.heap.push _).push _)[w.heap.size]? = _
      rw [Array.getElem?_push_lt (by simp)]
      simp
     ·exact old.2.2 d hd
    ·exact sE.trans (g2.le (A.y0 _))
  | some l0 =>
    obtain ⟨r0, Yv⟩ := wu l0 rfl
    obtain ⟨g1, g2⟩ := hf.st.qS (.loop { state := .ready, pending := none, fn, tmps := a.tmps, params := ps, assign := as, body := bd, defers := r0.defers }) (.loop .ready ⟨n, ps.toList, as, bd, an, lv, pl⟩ (kg n env))
     (fun w' Io _ => ⟨_, Io, (Array.toArray_toList).symm, rfl, rfl, yR.mono (Mem.bM M) ⟨_, rfl⟩, rfl, rfl⟩) nF (fun j => rfl)
    exact ⟨w.heap.size, [], _, A, run_enterLoop_inner Yv _ _ _ _ _, Perm.Le.refl A, ⟨g1, hf.size, by simpa using hf.defers.ext g2⟩, g2⟩
 obtain ⟨l, mark, w1, A1, he, Dv, EO, sE⟩ := enter
 have Lc : L.length = H.length := hf.st.len
 have th : (L ++ [l])[H.length]? = some l := by rw [← Lc]; simp
 have P8 : fA lo L0.length A1 := hA.le Dv
 obtain ⟨loose, ui, hcall⟩ : ∃ loose : Bool, (loose = true → ∀ id, (H ++ [aa.loop .ready ⟨n, ps.toList, as, bd, an, lv, pl⟩ (kg n env)]).length ≤ id → A1.top id = none) ∧
  kc loose P g bO (H ++ [.loop .ready ⟨n, ps.toList, as, bd, an, lv, pl⟩ (kg n env)]) fun _ H' => behind H.length H' fun j H'' => oS j Q env H'' := by
  unfold dX at hcall
  split at hcall
  ·exact ⟨false, by simp, hcall⟩
  ·rename_i l' wL
   rcases hcall with hcall | ⟨h1, hcall⟩
   ·exact ⟨false, by simp, hcall⟩
   ·exact ⟨true, fun _ id bm => P8.opens l' wL id (by omega), hcall⟩
 have hry : aJ M (L ++ [l]) (fs ++ [.func (.yield l) #[] #[]]) (first ++ [.mC H.length]) :=
  (yY.mono (Mem.bM M) ⟨_, rfl⟩).append (.one (.mC l _ th))
 obtain ⟨Oc, pD, bP, fin⟩ := ra (o := (⟨none, .move f, 0, "", #[], none⟩ : Oper)) (K := fun aD H' => aD = env ∧ behind H.length H' fun j H'' => oS j Q env H'') (xs := []) (js := []) rfl (pass := none) hry (qY.mono (Mem.bM M) ⟨[l], rfl⟩)
  (by simpa [aF, AV.ab] using hle) EO (fun d e => by cases e) ui
 obtain ⟨vs, wC⟩ : ∃ vs : List Value, vs = fs ++ [.func (.yield l) #[] #[]] ++ cs := ⟨_, rfl⟩
 simp only [List.map_nil, List.append_nil] at pD bP
 rw [← wC] at pD bP
 refine ⟨l, mark, w1, { target := .fn (.func g) cs.toArray, args := fs.toArray ++ #[.func (.yield l) #[] #[]] }, w1, g, vs.toArray, w1, he, ?_, fun _ _ => trivial, ?_, (fun h => by cases h), ?_⟩
 ·have ec : a.eval (.const (.func (.yield l) #[] #[])) = .func (.yield l) #[] #[] := rfl
  simp [resolve, hu, Deferred.ofValue, ec]
 ·have e1 : (fs.toArray ++ #[.func (.yield l) #[] #[]] ++ cs.toArray : Array Value) = vs.toArray := by
   apply Array.ext'; simp [wC]
  simp only [invoke]
  rw [e1]
  exact hcf _ _
 ·rcases hcall (dk A1 loose (H ++ [aa.loop .ready ⟨n, ps.toList, as, bd, an, lv, pl⟩ (kg n env)]) (L ++ [l]) Oc w1) M (L ++ [l]) w1 vs.toArray Oc (ke A1 loose _ _ Oc w1) (by simpa using pD) bP with ⟨_, hc⟩ | ⟨v, w', r, H', M', L', O', h1, _⟩
  ·have oo : CallsIn (wf ro) (0 - 1) P g vs.toArray w1 _ := callsIn_wide.2 hc
   refine CallsIn.mono oo fun e w' he => ?_
   obtain ⟨v, r, H', M', L', O', rfl, hK, lm, cq, TW⟩ := he
   obtain ⟨M2, L2, H2, cH, O2, ⟨rfl, hb⟩, sy, OD, P9⟩ := fin v r H' M' L' O' w' ⟨rfl, hK⟩ lm cq TW
   have nJ : L2[H.length]? = some l := fF P9 th
   have k8 : L0 <+: L2 := hL.trans ((List.prefix_append L [l]).trans P9)
   unfold behind at hb
   split at hb
   ·rename_i lc es Dw
    obtain ⟨r, q1, q2, q3, q4, q5, q6⟩ := sy.st.obj _ _ l Dw nJ
    obtain ⟨k1, k2⟩ := sy.st.nM (st' := .ew) (r' := { r with state := .exhausted }) Dw nJ (fun r2 qY => by rw [q1] at qY; cases qY; exact ⟨rfl, rfl, rfl, rfl, rfl, trivial⟩)
    exact ⟨none, _, (run_endLoop q1 (by rw [q6.1]; simp)).trans (congrArg (fun p => Result.ok p _) q6.2), A1, M2, L2, _, cH, O2, Dv, hb, ⟨k1, sy.size, sy.defers.ext k2⟩, sE.trans ((OD.trans k2).le Dv), k8⟩
   ·rename_i c lc es Dw
    obtain ⟨r, q1, q2, q3, q4, q5, q6⟩ := sy.st.obj _ _ l Dw nJ
    obtain ⟨k1, k2⟩ := sy.st.nM (st' := .ew) (r' := { r with state := .exhausted }) Dw nJ (fun r2 qY => by rw [q1] at qY; cases qY; exact ⟨rfl, rfl, rfl, rfl, rfl, trivial⟩)
    refine ⟨some c, _, (run_endLoop q1 (by rw [q6.1]; simp)).trans (congrArg (fun p => Result.ok p _) q6.2), ?_⟩
    unfold oS at hb
    split at hb
    ·rename_i e; cases e
    ·rename_i e; cases e
     exact wpIn_ret ⟨A1, M2, L2, _, cH, O2, Dv, hb, ⟨k1, sy.size, sy.defers.ext k2⟩, sE.trans ((OD.trans k2).le Dv), k8⟩
    ·rename_i e; cases e
     exact wpIn_exit ⟨A1, M2, L2, _, cH, O2, Dv, hb, ⟨k1, sy.size, sy.defers.ext k2⟩, sE.trans ((OD.trans k2).le Dv), k8⟩
    ·exact hb.elim
   ·exact hb.elim
  ·rw [hcf] at h1; cases h1
theorem sound {L0 : List Nat} (hdraw : ∀ A, fA lo L0.length A → xv P ro lo A n L0) {an : AF} {lv : l7} {pl : l8} : ∀ (c : Code) (ir : IR), comp P an lv pl n c = some ir → ∀ {A : Perm} {M : Mem} {L : List Nat} {w : World} {H : List aa} {env : Env} {O : Pos → Option Nat} {a : Act} {Q : Exit → Env → List aa → Prop},
 fA lo L0.length A → Own ro w → mb ⟨P, lo⟩ L0.length ir env H Q → Fr A n M L w H env O a → L0 <+: L → c.wpIn (wf ro) 0 P (Dr A n M L0 w Q) a w := by
 intro c
 induction c with
 | skip =>
   intro ir hc A M L w H env O a Q hA wu h hf hL
   simp only [comp] at hc; cases hc
   exact wpIn_skip ⟨A, M, L, H, env, O, .refl A, h, hf, Ext.refl A M w, hL⟩
 | exit id =>
   intro ir hc A M L w H env O a Q hA wu h hf hL
   simp only [comp] at hc; cases hc
   exact wpIn_exit ⟨A, M, L, H, env, O, .refl A, h, hf, Ext.refl A M w, hL⟩
 | ret =>
   intro ir hc A M L w H env O a Q hA wu h hf hL
   simp only [comp] at hc; cases hc
   exact wpIn_ret ⟨A, M, L, H, env, O, .refl A, h, hf, Ext.refl A M w, hL⟩
 | region id ops draw =>
   intro ir hc A M L w H env O a Q hA wu h hf hL
   cases draw with
   | true =>
     simp only [comp] at hc
     split at hc <;> try cases hc
     rename_i il tA
     split at hc <;> cases hc
     rename_i hm
     exact hdraw A hA hm.1 hm.2 tA h hf (Ext.refl A M w) hL
   | false =>
     simp only [comp] at hc
     obtain ⟨il, tA, rfl⟩ := Option.map_eq_some_iff.1 hc
     simp only [mb] at h
     refine wpIn_region_list (oU hA.opens _ _ _ _ _ tA _ hf h ?_)
     rintro a' w' ⟨M', L', H', aD, O', h1, h2, h3, h4⟩
     obtain ⟨O'', h5⟩ := h2.weaken (xt (lv.at_ id) aD)
     exact ⟨A, M', L', H', _, O'', .refl A, h1, h5, h3, hL.trans h4⟩
 | seq x y ihx ihy =>
   intro ir hc A M L w H env O a Q hA wu h hf hL
   simp only [comp] at hc
   split at hc <;> cases hc
   rename_i x' y' hx hy
   simp only [mb] at h
   refine wpIn_seq (Go.wpIn_mono (ihx _ hx hA wu h hf hL) ?_)
   rintro e a' w' ⟨A', M', L', H', aD, O', hl, h1, h2, h3, h4⟩
   cases e with
   | normal => exact Go.wpIn_mono (ihy _ hy (hA.le hl) (wu.ext h3) h1 h2 h4) fun e a w hp => hp.trans hl h3
   | _ => exact ⟨A', M', L', H', aD, O', hl, h1, h2, h3, h4⟩
 | cond x c d ihc Yw =>
   intro ir hc A M L w H env O a Q hA wu h hf hL
   simp only [comp] at hc
   split at hc <;> cases hc
   rename_i i c' d' hi Gl XE
   simp only [mb] at h
   obtain ⟨q, hq, h⟩ := nL h
   have hr := hf.eval hi
   rw [hq] at hr
   generalize hu : a.eval x = u at hr
   cases hr
   refine wpIn_cond_split hu (fun e => ihc _ Gl hA wu (h.1 e) hf hL) (fun e => Yw _ XE hA wu (h.2 e) hf hL)
 | block id c ih =>
   intro ir hc A M L w H env O a Q hA wu h hf hL
   simp only [comp] at hc
   obtain ⟨c', Gl, rfl⟩ := Option.map_eq_some_iff.1 hc
   simp only [mb] at h
   refine wpIn_block (Go.wpIn_mono (ih _ Gl hA wu h hf hL) ?_)
   rintro e a' w' ⟨A', M', L', H', aD, O', hl, h1, h2, h3, h4⟩
   cases e with
   | exit id' =>
     simp only [Exit.inBlock]
     simp only at h1
     split at h1
     ·rename_i e; rw [if_pos e]; exact ⟨A', M', L', H', aD, O', hl, h1, h2, h3, h4⟩
     ·rename_i e; rw [if_neg e]; exact ⟨A', M', L', H', aD, O', hl, h1, h2, h3, h4⟩
   | _ => exact ⟨A', M', L', H', aD, O', hl, h1, h2, h3, h4⟩
 | loop c ih =>
   intro ir hc A M L w H env O a Q hA wu h hf hL
   simp only [comp] at hc
   obtain ⟨c', Gl, rfl⟩ := Option.map_eq_some_iff.1 hc
   simp only [mb] at h
   obtain ⟨ι, I, se, sh, μ, ⟨i0, tD, Yx⟩, hround⟩ := h
   obtain ⟨L', O', oR, TW⟩ := hf.sle hA hL Yx
   refine y8 (fun i a' w' => I i ∧ ∃ A' M' L' O', A'.Le A ∧ Fr A' n M' L' w' (sh i) (se i) O' a' ∧ Ext A M w M' w' ∧ L0 <+: L') μ ?_ i0 ⟨tD, A, M, L', O', .refl A, oR, Ext.refl A M w, TW⟩
   rintro i a1 w1 ⟨hi, A1, M1, L1, O1, th, EO, sE, XF⟩
   refine Go.wpIn_mono (ih _ Gl (hA.le th) (wu.ext sE) (hround i hi) EO XF) ?_
   rintro e a' w' ⟨A', M', L', H', aD, O', hl, h1, h2, h3, h4⟩
   cases e with
   | normal =>
     obtain ⟨j, hj, aY, hs⟩ := h1
     obtain ⟨L2, O2, sy, P9⟩ := h2.sle ((hA.le th).le hl) h4 hs
     exact ⟨j, ⟨hj, A', M', L2, O2, hl.trans th, sy, sE.trans (h3.le th), P9⟩, aY⟩
   | _ => exact ⟨A', M', L', H', aD, O', hl.trans th, h1, h2, sE.trans (h3.le th), h4⟩
 | rangeFunc f ps as bd =>
   intro ir hc A M L w H env O a Q hA wu h hf hL
   simp only [comp] at hc
   obtain ⟨i, hi, rfl⟩ := Option.map_eq_some_iff.1 hc
   exact Ba hA hi wu h hf hL
 | _ =>
   intro ir hc A M L w H env O a Q hA wu h
   simp only [comp] at hc
   cases hc
   exact h.elim
end
end Go.aK
end
section
namespace Go.aK
open Go
section
variable {φ ψ : AV → Prop} (hm : ∀ z, φ z → ψ z)
include hm
theorem rh {op : BinOp} {x y : AV} (h : cV op x y φ) : cV op x y ψ := by
 unfold cV at *
 split at h <;> (try exact h.elim)
 ·obtain ⟨h0, h⟩ := h
  refine ⟨h0, ?_⟩
  split at h <;> first | exact hm _ h | exact ⟨h.1, hm _ h.2⟩ | exact h.elim
 ·split at h <;> first | exact hm _ h | exact ⟨h.1, hm _ h.2⟩ | exact h.elim
theorem mP {op : BinOp} {x y : AV} (h : dL op x y φ) : dL op x y ψ := by
 unfold dL at *
 split at h <;> (try exact h.elim)
 obtain ⟨h0, h⟩ := h
 refine ⟨h0, ?_⟩
 split at h <;> first | exact hm _ h | exact h.elim
theorem lA {neq : Bool} {x y : AV} (h : cM neq x y φ) : cM neq x y ψ := by
 unfold cM at *
 split at h <;> first | exact hm _ h | exact h.elim
theorem sF {kd : Nat} {neq : Bool} {x : AV} (h : dc kd neq x φ) : dc kd neq x ψ := by
 unfold dc at *
 split at h
 ·exact hm _ h
 ·split at h
  ·exact ⟨hm _ h.1, hm _ h.2⟩
  ·exact h.elim
theorem uD {op : UnOp} {x : AV} (h : yH op x φ) : yH op x ψ := by
 unfold yH at *
 split at h <;> first | exact hm _ h | exact h.elim
theorem ju {sz : Option Nat} {x : AV} {H : List aa} (h : aS sz x H φ) : aS sz x H ψ := by
 unfold aS at *
 split at h <;> (try exact h.elim) <;> (split at h <;> (try exact h.elim)) <;> first | exact ⟨h.1, hm _ h.2⟩ | (split at h <;> exact ⟨h.1, hm _ h.2⟩)
theorem mQ {off : Nat} {sz : Option Nat} {x : AV} (h : eI off sz x φ) : eI off sz x ψ := by
 unfold eI apart at *
 split at h <;> (try exact h.elim)
 split at h <;> first | exact ⟨h.1, hm _ h.2⟩ | exact ⟨h.1, h.2.1, hm _ h.2.2⟩
theorem iM {off : Nat} {sz : Option Nat} {x : AV} (h : ak off sz x φ) : ak off sz x ψ := by
 unfold ak apart at *
 split at h <;> (try exact h.elim)
 ·exact hm _ h
 ·split at h <;> first | exact ⟨h.1, hm _ h.2⟩ | exact ⟨h.1, h.2.1, hm _ h.2.2⟩
theorem iN {esz : Nat} {x i : AV} (h : ay esz x i φ) : ay esz x i ψ := by
 unfold ay at *
 split at h <;> first | exact ⟨h.1, h.2.1, hm _ h.2.2⟩ | exact h.elim
theorem jv {x i : AV} (h : bH x i φ) : bH x i ψ := by
 unfold bH at *
 split at h <;> first | exact ⟨h.1, h.2.1, hm _ h.2.2⟩ | exact h.elim
theorem jw {n : Nat} {x i : AV} (h : bQ n x i φ) : bQ n x i ψ := by
 unfold bQ at *
 split at h <;> first | exact ⟨h.1, h.2.1, h.2.2.1, hm _ h.2.2.2⟩ | exact h.elim
theorem ri {x : AV} {H : List aa} (h : eW x H φ) : eW x H ψ := by
 unfold eW at *
 split at h <;> (try exact h.elim) <;> (try exact hm _ h)
 ·exact fun hl => hm _ (h hl)
 ·split at h <;> first | exact hm _ h | exact h.elim
theorem kh {x : AV} {i : Nat} (h : bC x i φ) : bC x i ψ := by
 unfold bC at *
 split at h <;> first | exact ⟨h.1, hm _ h.2⟩ | exact h.elim
theorem jy {x : AV} (h : bR x φ) : bR x ψ := by
 unfold bR at *
 split at h <;> first | exact hm _ h | exact h.elim
theorem kj {k : IntKind} {x : AV} (h : cp k x φ) : cp k x ψ := by
 unfold cp at *
 split at h <;> first | exact hm _ h | exact h.elim
theorem uE {big : Bool} {x y : AV} (h : wy big x y φ) : wy big x y ψ := by
 unfold wy at *
 split at h <;> first | exact hm _ h | exact h.elim
theorem oB {x : AV} (h : fx x φ) : fx x ψ := by
 unfold fx at *
 split at h <;> first | exact hm _ h | exact h.elim
theorem oC {own : Nat} {x : AV} (h : eM own x φ) : eM own x ψ := by
 unfold eM at *
 split at h <;> first | exact ⟨h.1, hm _ h.2⟩ | exact h.elim
theorem sG {x : AV} (h : jn x φ) : jn x ψ := by
 unfold jn at *
 split at h <;> first | exact hm _ h | exact ⟨_, h.choose_spec.1, hm _ h.choose_spec.2⟩ | (obtain ⟨l, h1, h2⟩ := h; exact ⟨l, h1, hm _ h2⟩) | exact ⟨h.1, hm _ h.2⟩ | exact h.elim
theorem sH {esz bytes : Nat} {n : AV} (h : iI esz bytes n φ) : iI esz bytes n ψ := by
 unfold iI at *
 split at h <;> first | exact ⟨h.1, h.2.1, hm _ h.2.2⟩ | exact h.elim
theorem lB {kd : Nat} {z m k : AV} {ok : Bool} {H : List aa} (h : cb kd z m k ok H φ) : cb kd z m k ok H ψ := by
 unfold cb at *
 split at h <;> (try exact h.elim) <;> first | exact hm _ h | exact ⟨h.1, hm _ h.2⟩ | (split at h <;> (try exact h.elim) <;> first | exact hm _ h | exact ⟨h.1, hm _ h.2⟩ | (split at h <;> (try exact h.elim) <;> first | exact hm _ h | exact ⟨h.1, hm _ h.2⟩))
end
theorem eu {x : Option AV} {d : Nat} {φ ψ : Nat → Prop} (hm : ∀ k, φ k → ψ k) (h : dG x d φ) : dG x d ψ := by
 unfold dG at *
 split at h <;> first | exact hm _ h | exact ⟨h.1, hm _ h.2⟩ | exact h.elim
theorem sI {esz : Nat} {x : AV} {lo hi mx : Option AV} {φ ψ : AV → Prop} (hm : ∀ z, φ z → ψ z) (h : eL esz x lo hi mx φ) : eL esz x lo hi mx ψ := by
 unfold eL at *
 split at h <;> (try exact h.elim)
 refine eu (fun k h => eu (fun l h => ⟨h.1, h.2.1, ?_⟩) h) h
 obtain ⟨_, _, h⟩ := h
 split at h
 ·exact hm _ h
 ·exact ⟨h.1, eu (fun m h => ⟨h.1, h.2.1, hm _ h.2.2⟩) h.2⟩
theorem lC {esz : Nat} {x : AV} {lo hi mx : Option AV} {φ ψ : AV → Prop} (hm : ∀ z, φ z → ψ z) (h : bn esz x lo hi mx φ) : bn esz x lo hi mx ψ := by
 unfold bn gk nI at *
 split at h
 ·split at h
  ·exact eu (fun k h => eu (fun l h => ⟨h.1, h.2.1, hm _ h.2.2⟩) h) h
  ·exact ⟨h.1, eu (fun m h => eu (fun k h => eu (fun l h => ⟨h.1, h.2.1, h.2.2.1, hm _ h.2.2.2⟩) h) h) h.2⟩
 ·exact ⟨h.1, sI hm h.2⟩
theorem jz {x : AV} {lo hi : Option AV} {φ ψ : AV → Prop} (hm : ∀ z, φ z → ψ z) (h : b7 x lo hi φ) : b7 x lo hi ψ := by
 unfold b7 at *
 split at h <;> (try exact h.elim)
 exact eu (fun k h => eu (fun l h => ⟨h.1, h.2.1, hm _ h.2.2⟩) h) h
theorem lD {φ ψ : List AV → Prop} (hm : ∀ z, φ z → ψ z) : ∀ {ps : List (Nat × Nat × AV)} {zs : List AV}, gI zs ps φ → gI zs ps ψ
 | [], zs, h => hm _ h
 | (off, sz, x) :: r, zs, h => ⟨h.1, h.2.1, h.2.2.1, lD hm h.2.2.2⟩
theorem gn {esz : Nat} {φ ψ : List AV → Prop} (hm : ∀ z, φ z → ψ z) : ∀ {ps : List (Nat × AV)} {zs : List AV}, bh zs esz ps φ → bh zs esz ps ψ
 | [], zs, h => hm _ h
 | (i, x) :: r, zs, h => ⟨h.1, h.2.1, h.2.2.1, gn hm h.2.2.2⟩
def Qa (τ : Nat → AV) (dst : Option Nat) (x : AV) : Nat → AV := match dst with | some d => fe τ d x | none => τ
theorem jQ (env : Env) (dst : Option Nat) (x : AV) : get (put dst x env) = Qa (get env) dst x := by cases dst <;> rfl
theorem mR {lo : Option IX} {env : Env} {ρ : IX → AV} (h : ∀ i ∈ lo.toList, al env i = ρ i) : lo.map ρ = fX env lo := by
 cases lo with
 | none => rfl
 | some i => simp [fX, h i (by simp)]
theorem mS {is : List IX} {env : Env} {ρ : IX → AV} (h : ∀ i ∈ is, al env i = ρ i) (g : AV → AV) : (is.map fun x => g (al env x)) = is.map fun x => g (ρ x) := by
 apply List.map_congr_left
 intro i hi
 rw [h i hi]
theorem mT (env : Env) : ∀ (is : List IX) (j : Nat), aF env none j is = is.map fun x => (al env x).ab
 | [], _ => rfl
 | .t s :: r, j => by simp [aF, mT env r, al]
 | .c v :: r, j => by simp [aF, mT env r, al]
theorem Bb {P : Px} {o : bW} {dst : Option Nat} {ρ : IX → AV} {env : Env} {H : List aa} {x : AV} (h : cS P o ρ H x) (hρ : ∀ i ∈ o.all, al env i = ρ i) :
 bt P o dst env H fun e h => h = H ∧ get e = get (put dst x env) := by
 have key : ∀ z, z = x → (H = H ∧ get (put dst z env) = get (put dst x env)) := fun z e => ⟨rfl, e ▸ rfl⟩
 cases o with
 | set i take =>
   cases take with
   | true => exact h.elim
   | false =>
     simp only [cS, bW.all, List.mem_singleton, forall_eq] at h hρ
     rw [← hρ] at h
     unfold bt
     cases dst with
     | none => exact ⟨rfl, rfl⟩
     | some d =>
       subst h
       refine ⟨rfl, ?_⟩
       cases i <;> rfl
 | pick c a b =>
   simp only [cS, bW.all, List.mem_cons, List.not_mem_nil, or_false, forall_eq_or_imp, forall_eq] at h hρ
   obtain ⟨h1, h2, h3⟩ := hρ
   rw [← h1, ← h2, ← h3] at h
   obtain ⟨q, hq, h⟩ := nL h
   show eH (al env c) _
   rw [hq]
   exact ⟨fun e => key _ (h.1 e), fun e => key _ (h.2 e)⟩
 | bin op i j =>
   simp only [cS, bW.all, List.mem_cons, List.not_mem_nil, or_false, forall_eq_or_imp, forall_eq] at h hρ
   obtain ⟨h1, h2⟩ := hρ
   rw [← h1, ← h2] at h
   exact rh key h
 | shift op i j =>
   simp only [cS, bW.all, List.mem_cons, List.not_mem_nil, or_false, forall_eq_or_imp, forall_eq] at h hρ
   obtain ⟨h1, h2⟩ := hρ
   rw [← h1, ← h2] at h
   exact mP key h
 | gO neq i j =>
   simp only [cS, bW.all, List.mem_cons, List.not_mem_nil, or_false, forall_eq_or_imp, forall_eq] at h hρ
   obtain ⟨h1, h2⟩ := hρ
   rw [← h1, ← h2] at h
   exact lA key h
 | mx big i j =>
   simp only [cS, bW.all, List.mem_cons, List.not_mem_nil, or_false, forall_eq_or_imp, forall_eq] at h hρ
   obtain ⟨h1, h2⟩ := hρ
   rw [← h1, ← h2] at h
   exact uE key h
 | indexAddr esz i j =>
   simp only [cS, bW.all, List.mem_cons, List.not_mem_nil, or_false, forall_eq_or_imp, forall_eq] at h hρ
   obtain ⟨h1, h2⟩ := hρ
   rw [← h1, ← h2] at h
   exact ⟨h.1, iN key h.2⟩
 | c8 i j =>
   simp only [cS, bW.all, List.mem_cons, List.not_mem_nil, or_false, forall_eq_or_imp, forall_eq] at h hρ
   obtain ⟨h1, h2⟩ := hρ
   rw [← h1, ← h2] at h
   exact jv key h
 | dJ n i j =>
   simp only [cS, bW.all, List.mem_cons, List.not_mem_nil, or_false, forall_eq_or_imp, forall_eq] at h hρ
   obtain ⟨h1, h2⟩ := hρ
   rw [← h1, ← h2] at h
   exact jw key h
 | lookup kd z i j ok =>
   simp only [cS, bW.all, List.mem_cons, List.not_mem_nil, or_false, forall_eq_or_imp, forall_eq] at h hρ
   obtain ⟨h1, h2⟩ := hρ
   rw [← h1, ← h2] at h
   exact lB key h
 | iT kd neq i =>
   simp only [cS, bW.all, List.mem_singleton, forall_eq] at h hρ
   rw [← hρ] at h
   exact sF key h
 | un op i =>
   simp only [cS, bW.all, List.mem_singleton, forall_eq] at h hρ
   rw [← hρ] at h
   exact uD key h
 | k9 i =>
   simp only [cS, bW.all, List.mem_singleton, forall_eq] at h hρ
   rw [← hρ] at h
   exact ⟨h.1, key _ h.2⟩
 | load sz i =>
   simp only [cS, bW.all, List.mem_singleton, forall_eq] at h hρ
   rw [← hρ] at h
   exact ju key h
 | nilCheck i =>
   simp only [cS, bW.all, List.mem_singleton, forall_eq] at h hρ
   rw [← hρ] at h
   exact jy key h
 | fieldAddr off sz i =>
   simp only [cS, bW.all, List.mem_singleton, forall_eq] at h hρ
   rw [← hρ] at h
   exact iM key h
 | field off sz i =>
   simp only [cS, bW.all, List.mem_singleton, forall_eq] at h hρ
   rw [← hρ] at h
   exact mQ key h
 | len kd i =>
   simp only [cS, bW.all, List.mem_singleton, forall_eq] at h hρ
   rw [← hρ] at h
   exact ⟨h.1, ri key h.2⟩
 | extract i k =>
   simp only [cS, bW.all, List.mem_singleton, forall_eq] at h hρ
   rw [← hρ] at h
   exact kh key h
 | eC k i =>
   simp only [cS, bW.all, List.mem_singleton, forall_eq] at h hρ
   rw [← hρ] at h
   exact kj key h
 | gg i =>
   simp only [cS, bW.all, List.mem_singleton, forall_eq] at h hρ
   rw [← hρ] at h
   exact oB key h
 | bytesOf i =>
   simp only [cS, bW.all, List.mem_singleton, forall_eq] at h hρ
   rw [← hρ] at h
   exact oC key h
 | mF esz bytes i =>
   simp only [cS, bW.all, List.mem_singleton, forall_eq] at h hρ
   rw [← hρ] at h
   exact sH key h
 | strOf i =>
   simp only [cS, bW.all, List.mem_singleton, forall_eq] at h hρ
   rw [← hρ] at h
   exact sG key h
 | build z ps =>
   simp only [cS, bW.all] at h hρ
   have : (ps.map fun q => (q.1, q.2.1, al env q.2.2)) = ps.map fun q => (q.1, q.2.1, ρ q.2.2) :=
    List.map_congr_left fun q hq => by rw [hρ _ (List.mem_map.2 ⟨q, hq, rfl⟩)]
   show cC z.cells (ps.map fun q => (q.1, q.2.1, al env q.2.2)) (fun v => H = H ∧ get (put dst v env) = get (put dst x env))
   rw [this]
   exact lD (fun v h => key _ h) h
 | buildSlice own esz z len ps =>
   simp only [cS, bW.all] at h hρ
   have : (ps.map fun q => (q.1, al env q.2)) = ps.map fun q => (q.1, ρ q.2) :=
    List.map_congr_left fun q hq => by rw [hρ _ (List.mem_map.2 ⟨q, hq, rfl⟩)]
   show bh _ _ (ps.map fun q => (q.1, al env q.2)) _
   rw [this]
   exact gn (fun v h => key (.ap own v) h) h
 | slice esz i lo hi mx =>
   simp only [cS, bW.all, List.mem_cons, List.mem_append, forall_eq_or_imp] at h hρ
   obtain ⟨h1, h2⟩ := hρ
   rw [← h1, mR (fun i hi => h2 i (.inl (.inl hi))), mR (fun i hi => h2 i (.inl (.inr hi))), mR (fun i hi => h2 i (.inr hi))] at h
   exact lC key h
 | dK i lo hi =>
   simp only [cS, bW.all, List.mem_cons, List.mem_append, forall_eq_or_imp] at h hρ
   obtain ⟨h1, h2⟩ := hρ
   rw [← h1, mR (fun i hi => h2 i (.inl hi)), mR (fun i hi => h2 i (.inr hi))] at h
   exact jz key h
 | fn f first cap =>
   simp only [cS, bW.all, List.mem_append] at h hρ
   refine key _ ?_
   rw [mS (fun i hi => hρ i (.inl hi)) AV.ab, mS (fun i hi => hρ i (.inr hi)) AV.ab]
   exact h
 | call f args pass =>
   cases pass with
   | some _ => exact h.elim
   | none =>
     simp only [cS, bW.all, List.mem_cons, forall_eq_or_imp] at h hρ
     obtain ⟨h1, h2⟩ := hρ
     rw [← h1] at h
     split at h <;> try exact h.elim
     rename_i g first cap hg
     show oA P (al env f) args none env H (fun r aD H' => H' = H ∧ get (put dst r aD) = get (put dst x env))
     rw [hg]
     obtain ⟨bO, hl, hcall⟩ := h
     refine ⟨bO, ?_, dX.of <| hcall.mono ?_⟩
     ·rw [mT, mS h2 AV.ab]; exact hl
     ·rintro r H' ⟨hr, rfl⟩
      exact key r hr
 | _ => exact h.elim
end Go.aK
end
section
namespace Go.aK
open Go
theorem Bc {m : Nat} {p x : AV} {H : List aa} {K K' : List aa → Prop} (hm : ∀ H', K H' → K' H') (h : gQ m p x H K) : gQ m p x H K' := by
 unfold gQ at *
 split at h <;> (try exact h.elim)
 split at h <;> (try exact h.elim)
 exact ⟨h.1, h.2.1, h.2.2.1, h.2.2.2.1, h.2.2.2.2.1, hm _ h.2.2.2.2.2⟩
theorem wN {p x : AV} {H : List aa} {K K' : List aa → Prop} (hm : ∀ H', K H' → K' H') (h : dM p x H K) : dM p x H K' := by
 unfold dM at *
 split at h <;> (try exact h.elim)
 split at h <;> (try exact h.elim)
 exact ⟨h.1, h.2.1, h.2.2.1, hm _ h.2.2.2⟩
theorem y9 {esz bytes : Nat} {s x : AV} {φ ψ : List AV → Prop} (hm : ∀ z, φ z → ψ z) (h : bE esz bytes s x φ) : bE esz bytes s x ψ := by
 unfold bE at *
 split at h <;> (try exact h.elim)
 exact ⟨h.1, h.2.1, hm _ h.2.2⟩
theorem wO {esz bytes : Nat} {z s x : AV} {H : List aa} {K K' : AV → List aa → Prop} (hm : ∀ v H', K v H' → K' v H') (h : cG esz bytes z s x H K) : cG esz bytes z s x H K' := by
 unfold cG at *
 cases hr : dz x with
 | none =>
   rw [hr] at h
   simp only at h ⊢
   split at h <;> try exact h.elim
   rename_i id off len cap n ys wH
   cases hi : H[id]? with
   | none => rw [hi] at h; exact h.elim
   | some ob =>
     rw [hi] at h
     cases ob with
     | cells es =>
       obtain ⟨a, b, c, d, e, f⟩ := h
       exact ⟨a, b, c, d, e, hm _ _ f⟩
     | _ => exact h.elim
 | some ys =>
   rw [hr] at h
   obtain ⟨h1, h⟩ := h
   refine ⟨h1, ?_⟩
   cases s with
   | ah =>
     obtain ⟨a, b, c⟩ := h
     exact ⟨a, fun e => hm _ _ (b e), fun e cap h1 h2 => ⟨(c e cap h1 h2).1, hm _ _ (c e cap h1 h2).2⟩⟩
   | oh =>
     obtain ⟨a, b, c⟩ := h
     exact ⟨a, fun e => hm _ _ (b e), fun e cap h1 h2 => ⟨(c e cap h1 h2).1, hm _ _ (c e cap h1 h2).2⟩⟩
   | bf id off len cap =>
     simp only at h ⊢
     cases hi : H[id]? with
     | none => rw [hi] at h; exact h.elim
     | some ob =>
       rw [hi] at h
       cases ob with
       | cells es =>
         obtain ⟨a, b, c, d, f⟩ := h
         exact ⟨a, b, c, fun e => ⟨(d e).1, hm _ _ (d e).2⟩, fun e fW h1 h2 => ⟨(f e fW h1 h2).1, hm _ _ (f e fW h1 h2).2⟩⟩
       | _ => exact h.elim
   | _ => exact h.elim
theorem za {esz : Nat} {z x : AV} {H : List aa} {K K' : List aa → Prop} (hm : ∀ H', K H' → K' H') (h : gY esz z x H K) : gY esz z x H K' := by
 unfold gY at *
 split at h <;> (try exact h.elim)
 split at h <;> (try exact h.elim)
 exact ⟨h.1, h.2.1, h.2.2.1, hm _ h.2.2.2⟩
theorem Bd {esz bytes : Nat} {z n : AV} {H : List aa} {K K' : AV → List aa → Prop} (hm : ∀ v H', K v H' → K' v H') (h : fK esz bytes z n H K) : fK esz bytes z n H K' := by
 unfold fK at *
 split at h <;> (try exact h.elim)
 exact ⟨h.1, h.2.1, h.2.2.1, hm _ _ h.2.2.2⟩
theorem zc {kd : Nat} {m k x : AV} {H : List aa} {K K' : List aa → Prop} (hm : ∀ H', K H' → K' H') (h : eZ kd m k x H K) : eZ kd m k x H K' := by
 unfold eZ at *
 split at h <;> (try exact h.elim)
 split at h <;> (try exact h.elim)
 refine ⟨h.1, h.2.1, h.2.2.1, ?_⟩
 obtain ⟨_, _, _, h⟩ := h
 split at h
 ·exact hm _ h
 ·exact ⟨h.1, hm _ h.2⟩
 ·exact h.elim
theorem Dx {esz : Nat} {d s : AV} {H : List aa} {K K' : AV → List aa → Prop} (hm : ∀ v H', K v H' → K' v H') (h : jo esz d s H K) : jo esz d s H K' := by
 unfold jo at *
 split at h <;> (try exact h.elim)
 split at h <;> (try exact h.elim)
 exact ⟨h.1, h.2.1, h.2.2.1, hm _ _ h.2.2.2⟩
theorem jR {esz : Nat} {x : AV} {H : List aa} {K K' : AV → List aa → Prop} (hm : ∀ v H', K v H' → K' v H') (h : dD esz x H K) : dD esz x H K' := by
 unfold dD at *
 split at h
 ·split at h <;> (try exact h.elim)
  exact ⟨h.1, h.2.1, h.2.2.1, h.2.2.2.1, hm _ _ h.2.2.2.2⟩
 ·exact h.elim
 ·exact hm _ _ h
 ·exact hm _ _ h
theorem sJ {esz : Nat} : ∀ {xs : List AV} {H : List aa} {K K' : List AV → List aa → Prop} (hm : ∀ v H', K v H' → K' v H') (h : jq esz xs H K), jq esz xs H K'
 | [], H, K, K', hm, h => hm _ _ h
 | x :: r, H, K, K', hm, h => jR (fun v H' hk => sJ (fun vs H'' h2 => hm _ _ h2) hk) h
theorem Gm {e id c : Nat} {H : List aa} {K K' : List aa → Prop} (hm : ∀ H', K H' → K' H') (h : yU e id c H K) : yU e id c H K' := by
 unfold yU at *
 split at h <;> (try exact h.elim)
 split at h <;> (try exact h.elim)
 ·exact jR (fun v H' hk => ⟨hk.1, hk.2.1, hm _ hk.2.2⟩) h
 ·exact hm _ h
theorem uF {esz : Nat} {x : AV} {H : List aa} {K K' : AV → List aa → Prop} (hm : ∀ v H', K v H' → K' v H') (h : ff esz x H K) : ff esz x H K' := by
 unfold ff at *
 split at h
 ·exact sJ (fun v H' hk => hm _ _ hk) h
 ·split at h
  ·rename_i hc; rw [if_pos hc]; exact Gm (hm _) h
  ·rename_i hc; rw [if_neg hc]; exact jR hm h
 ·exact jR hm h
theorem zd {l m : Nat} {p x : AV} {H : List aa} {K K' : List aa → Prop} (hm : ∀ H', K H' → K' H') (h : gh l m p x H K) : gh l m p x H K' := by
 unfold gh at *
 split at h <;> (try exact h.elim)
 split at h <;> (try exact h.elim)
 exact ⟨h.1, h.2.1, h.2.2.1, h.2.2.2.1, h.2.2.2.2.1, h.2.2.2.2.2.1, hm _ h.2.2.2.2.2.2⟩
theorem mU {env1 cH : Env} {pass : Option Nat} : ∀ {is : List IX} {j : Nat}, (∀ i ∈ is, al cH i = al env1 i) → aF cH pass j is = aF env1 pass j is
 | [], _, _ => rfl
 | .t s :: r, j, h => by
   have h1 : get cH s = get env1 s := h (.t s) (by simp)
   simp only [aF, h1, mU (fun i hi => h i (List.mem_cons_of_mem _ hi))]
 | .c v :: r, j, h => by
   simp only [aF, mU (fun i hi => h i (List.mem_cons_of_mem _ hi))]
theorem fQ {lo : Option IX} {env1 cH : Env} (h : ∀ i ∈ lo.toList, al cH i = al env1 i) : fX cH lo = fX env1 lo := by
 cases lo with
 | none => rfl
 | some i => simp [fX, h i (by simp)]
theorem nN {P : Px} {o : bW} {dst : Option Nat} {env1 cH : Env} {H : List aa} {K1 K2 : Env → List aa → Prop} (hl : ∀ i ∈ o.all, al cH i = al env1 i) (h : bt P o dst env1 H K1)
 (hK : ∀ (mods : List (Nat × AV)) H', (∀ p ∈ mods, dst = some p.1 ∨ p.1 ∈ o.kill) → (o.P5 = false → H' = H) → (o.xr = true → ∃ e, H' = H ++ e) → K1 (mods ++ env1) H' → K2 (mods ++ cH) H') : bt P o dst cH H K2 := by
 have kput : ∀ z H', (o.P5 = false → H' = H) → (o.xr = true → ∃ e, H' = H ++ e) → K1 (put dst z env1) H' → K2 (put dst z cH) H' := by
  intro z H' hc hg
  cases hd : dst with
  | none => exact hK [] H' (by simp) hc hg
  | some d => exact hK [(d, z)] H' (by simp [hd]) hc hg
 have kput0 : ∀ z, K1 (put dst z env1) H → K2 (put dst z cH) H := fun z => kput z H (fun _ => rfl) (fun _ => ⟨[], by simp⟩)
 have kenv : ∀ H', (o.P5 = false → H' = H) → (o.xr = true → ∃ e, H' = H ++ e) → K1 env1 H' → K2 cH H' := fun H' hc hg => hK [] H' (by simp) hc hg
 cases o with
 | set i take =>
   simp only [bW.all, List.mem_singleton, forall_eq] at hl
   simp only [bt] at h ⊢
   cases dst with
   | none => exact kenv H (fun _ => rfl) (fun _ => ⟨[], by simp⟩) h
   | some d =>
     simp only at h ⊢
     cases i with
     | c v => cases take <;> exact kput0 _ h
     | t s =>
       have hs : get cH s = get env1 s := hl
       cases take with
       | false =>
         have e1 : s7 env1 d (.t s) false = put (some d) (get env1 s).ab env1 := rfl
         have e2 : s7 cH d (.t s) false = put (some d) (get env1 s).ab cH := by simp only [s7, put, al, hs]
         rw [e2]; rw [e1] at h
         exact kput0 _ h
       | true =>
         have e1 : s7 env1 d (.t s) true = [(d, get env1 s), (s, (get env1 s).ab)] ++ env1 := rfl
         have e2 : s7 cH d (.t s) true = [(d, get env1 s), (s, (get env1 s).ab)] ++ cH := by simp only [s7, hs]; rfl
         rw [e2]; rw [e1] at h
         exact hK _ H (by simp [bW.kill]) (fun _ => rfl) (fun _ => ⟨[], by simp⟩) h
 | pick c a b =>
   simp only [bW.all, List.mem_cons, List.not_mem_nil, or_false, forall_eq_or_imp, forall_eq] at hl
   obtain ⟨h1, h2, h3⟩ := hl
   simp only [bt] at h ⊢
   rw [h1, h2, h3]
   obtain ⟨q, hq, h⟩ := nL h
   rw [hq]
   exact ⟨fun e => kput0 _ (h.1 e), fun e => kput0 _ (h.2 e)⟩
 | bin op i j =>
   simp only [bW.all, List.mem_cons, List.not_mem_nil, or_false, forall_eq_or_imp, forall_eq] at hl
   simp only [bt] at h ⊢
   rw [hl.1, hl.2]
   exact rh kput0 h
 | shift op i j =>
   simp only [bW.all, List.mem_cons, List.not_mem_nil, or_false, forall_eq_or_imp, forall_eq] at hl
   simp only [bt] at h ⊢
   rw [hl.1, hl.2]
   exact mP kput0 h
 | gO neq i j =>
   simp only [bW.all, List.mem_cons, List.not_mem_nil, or_false, forall_eq_or_imp, forall_eq] at hl
   simp only [bt] at h ⊢
   rw [hl.1, hl.2]
   exact lA kput0 h
 | indexAddr esz i j =>
   simp only [bW.all, List.mem_cons, List.not_mem_nil, or_false, forall_eq_or_imp, forall_eq] at hl
   simp only [bt] at h ⊢
   rw [hl.1, hl.2]
   exact ⟨h.1, iN kput0 h.2⟩
 | c8 i j =>
   simp only [bW.all, List.mem_cons, List.not_mem_nil, or_false, forall_eq_or_imp, forall_eq] at hl
   simp only [bt] at h ⊢
   rw [hl.1, hl.2]
   exact jv kput0 h
 | dJ n i j =>
   simp only [bW.all, List.mem_cons, List.not_mem_nil, or_false, forall_eq_or_imp, forall_eq] at hl
   simp only [bt] at h ⊢
   rw [hl.1, hl.2]
   exact jw kput0 h
 | lookup kd z i j ok =>
   simp only [bW.all, List.mem_cons, List.not_mem_nil, or_false, forall_eq_or_imp, forall_eq] at hl
   simp only [bt] at h ⊢
   rw [hl.1, hl.2]
   exact lB kput0 h
 | mx big i j =>
   simp only [bW.all, List.mem_cons, List.not_mem_nil, or_false, forall_eq_or_imp, forall_eq] at hl
   simp only [bt] at h ⊢
   rw [hl.1, hl.2]
   exact uE kput0 h
 | store m i j =>
   simp only [bW.all, List.mem_cons, List.not_mem_nil, or_false, forall_eq_or_imp, forall_eq] at hl
   simp only [bt] at h ⊢
   rw [hl.1, hl.2]
   exact Bc (fun H' hk => kenv H' (fun e => by cases e) (fun e => by cases e) hk) h
 | mE m i j =>
   simp only [bW.all, List.mem_cons, List.not_mem_nil, or_false, forall_eq_or_imp, forall_eq] at hl
   simp only [bt] at h ⊢
   rw [hl.1, hl.2]
   split at h <;> (try exact h.elim)
   exact zd (fun H' hk => kenv H' (fun e => by cases e) (fun e => by cases e) hk) h
 | append esz bytes i j =>
   simp only [bW.all, List.mem_cons, List.not_mem_nil, or_false, forall_eq_or_imp, forall_eq] at hl
   simp only [bt] at h ⊢
   rw [hl.1, hl.2]
   refine y9 (fun zs hk => ?_) h
   cases i with
   | c v => exact kput0 _ hk
   | t s =>
     have hs : get cH s = get env1 s := hl.1
     have e : ∀ env : Env, get env s = get env1 s → put dst (.ap esz zs) (cD env (IX.t s).slot) = (put dst (.ap esz zs) [(s, (get env1 s).ab)]) ++ env := by
      intro env he
      cases dst <;> simp [put, cD, IX.slot, he]
     rw [e env1 rfl] at hk
     rw [e cH hs]
     refine hK _ H ?_ (fun _ => rfl) (fun _ => ⟨[], by simp⟩) hk
     intro p hp
     cases dst with
     | none => simp [put] at hp; subst hp; right; simp [bW.kill]
     | some d =>
       simp [put] at hp
       rcases hp with rfl | rfl
       ·left; rfl
       ·right; simp [bW.kill]
 | copy esz i j =>
   simp only [bW.all, List.mem_cons, List.not_mem_nil, or_false, forall_eq_or_imp, forall_eq] at hl
   simp only [bt] at h ⊢
   rw [hl.1, hl.2]
   exact Dx (fun v H' hk => kput v H' (fun e => by cases e) (fun e => by cases e) hk) h
 | jY kd i j k =>
   simp only [bW.all, List.mem_cons, List.not_mem_nil, or_false, forall_eq_or_imp, forall_eq] at hl
   simp only [bt] at h ⊢
   rw [hl.1, hl.2.1, hl.2.2]
   exact zc (fun H' hk => kenv H' (fun e => by cases e) (fun e => by cases e) hk) h
 | eV i s =>
   simp only [bW.all, List.mem_cons, List.not_mem_nil, or_false, forall_eq_or_imp, forall_eq] at hl
   simp only [bt] at h ⊢
   have hs : get cH s = get env1 s := hl.2
   rw [hl.1, hs]
   exact wN (fun H' hk => hK [(s, (get env1 s).ab)] H' (by simp [bW.kill]) (fun e => by cases e) (fun e => by cases e) hk) h
 | iT kd neq i =>
   simp only [bW.all, List.mem_singleton, forall_eq] at hl
   simp only [bt] at h ⊢
   rw [hl]
   exact sF kput0 h
 | un op i =>
   simp only [bW.all, List.mem_singleton, forall_eq] at hl
   simp only [bt] at h ⊢
   rw [hl]
   exact uD kput0 h
 | box i =>
   simp only [bW.all, List.mem_singleton, forall_eq] at hl
   simp only [bt] at h ⊢
   rw [hl]
   exact ⟨h.1, h.2.1, kput _ _ (fun e => by cases e) (fun _ => ⟨_, rfl⟩) h.2.2⟩
 | k9 i =>
   simp only [bW.all, List.mem_singleton, forall_eq] at hl
   simp only [bt] at h ⊢
   rw [hl]
   exact ⟨h.1, kput0 _ h.2⟩
 | qT m i =>
   simp only [bW.all, List.mem_singleton, forall_eq] at hl
   simp only [bt] at h ⊢
   rw [hl]
   exact ⟨h.1, h.2.1, h.2.2.1, kput0 _ h.2.2.2⟩
 | alloc z =>
   simp only [bt] at h ⊢
   exact ⟨h.1, kput _ _ (fun e => by cases e) (fun _ => ⟨_, rfl⟩) h.2⟩
 | mG =>
   simp only [bt] at h ⊢
   exact kput _ _ (fun e => by cases e) (fun _ => ⟨_, rfl⟩) h
 | load sz i =>
   simp only [bW.all, List.mem_singleton, forall_eq] at hl
   simp only [bt] at h ⊢
   rw [hl]
   exact ju kput0 h
 | sj sz esz i =>
   simp only [bW.all, List.mem_singleton, forall_eq] at hl
   simp only [bt] at h ⊢
   rw [hl]
   exact ju (fun z hz => uF (fun v H' hk => kput v H' (fun e => by cases e) (fun e => by cases e) hk) hz) h
 | eh i =>
   simp only [bW.all, List.mem_singleton, forall_eq] at hl
   simp only [bt] at h ⊢
   rw [hl]
   cases dst with
   | none => exact h.elim
   | some d =>
     cases hv : al env1 i with
     | ptr id off =>
       rw [hv] at h
       simp only at h ⊢
       cases bm : H[id]? with
       | none => rw [bm] at h; exact h.elim
       | some ob =>
         rw [bm] at h
         cases ob with
         | cells es => exact ⟨h.1, hK [(d, es.getD off .any)] _ (by simp) (fun e => by cases e) (fun e => by cases e) h.2⟩
         | _ => exact h.elim
     | _ => rw [hv] at h; exact h.elim
 | yF esz i =>
   simp only [bW.all, List.mem_singleton, forall_eq] at hl
   simp only [bt] at h ⊢
   rw [hl]
   exact uF (fun v H' hk => kput v H' (fun e => by cases e) (fun e => by cases e) hk) h
 | nilCheck i =>
   simp only [bW.all, List.mem_singleton, forall_eq] at hl
   simp only [bt] at h ⊢
   rw [hl]
   exact jy kput0 h
 | fieldAddr off sz i =>
   simp only [bW.all, List.mem_singleton, forall_eq] at hl
   simp only [bt] at h ⊢
   rw [hl]
   exact iM kput0 h
 | field off sz i =>
   simp only [bW.all, List.mem_singleton, forall_eq] at hl
   simp only [bt] at h ⊢
   rw [hl]
   exact mQ kput0 h
 | len kd i =>
   simp only [bW.all, List.mem_singleton, forall_eq] at hl
   simp only [bt] at h ⊢
   rw [hl]
   exact ⟨h.1, ri kput0 h.2⟩
 | sk esz bytes z i =>
   simp only [bW.all, List.mem_singleton, forall_eq] at hl
   simp only [bt] at h ⊢
   rw [hl]
   exact Bd (fun v H' hk => kput v H' (fun e => by cases e) (fun e => by cases e) hk) h
 | mF esz bytes i =>
   simp only [bW.all, List.mem_singleton, forall_eq] at hl
   simp only [bt] at h ⊢
   rw [hl]
   exact sH kput0 h
 | extract i k =>
   simp only [bW.all, List.mem_singleton, forall_eq] at hl
   simp only [bt] at h ⊢
   rw [hl]
   exact kh kput0 h
 | eC k i =>
   simp only [bW.all, List.mem_singleton, forall_eq] at hl
   simp only [bt] at h ⊢
   rw [hl]
   exact kj kput0 h
 | gg i =>
   simp only [bW.all, List.mem_singleton, forall_eq] at hl
   simp only [bt] at h ⊢
   rw [hl]
   exact oB kput0 h
 | bytesOf i =>
   simp only [bW.all, List.mem_singleton, forall_eq] at hl
   simp only [bt] at h ⊢
   rw [hl]
   exact oC kput0 h
 | strOf i =>
   simp only [bW.all, List.mem_singleton, forall_eq] at hl
   simp only [bt] at h ⊢
   rw [hl]
   exact sG kput0 h
 | build z ps =>
   simp only [bW.all] at hl
   simp only [bt] at h ⊢
   have : (ps.map fun q => (q.1, q.2.1, al cH q.2.2)) = ps.map fun q => (q.1, q.2.1, al env1 q.2.2) :=
    List.map_congr_left fun q hq => by rw [hl _ (List.mem_map.2 ⟨q, hq, rfl⟩)]
   rw [this]
   exact lD (fun v hk => kput0 _ hk) h
 | AI esz z len ps =>
   simp only [bW.all] at hl
   simp only [bt] at h ⊢
   have : (ps.map fun q => (q.1, al cH q.2)) = ps.map fun q => (q.1, al env1 q.2) :=
    List.map_congr_left fun q hq => by rw [hl _ (List.mem_map.2 ⟨q, hq, rfl⟩)]
   rw [this]
   exact gn (fun v hk => ⟨hk.1, kput _ _ (fun e => by cases e) (fun e => by cases e) hk.2⟩) h
 | iV esz bytes z i j =>
   simp only [bW.all, List.mem_cons, List.not_mem_nil, or_false, forall_eq_or_imp, forall_eq] at hl
   simp only [bt] at h ⊢
   rw [hl.1, hl.2]
   exact wO (fun v H' hk => kput v H' (fun e => by cases e) (fun e => by cases e) hk) h
 | mH esz z i =>
   simp only [bW.all, List.mem_singleton, forall_eq] at hl
   simp only [bt] at h ⊢
   rw [hl]
   exact za (fun H' hk => kput _ H' (fun e => by cases e) (fun e => by cases e) hk) h
 | buildSlice own esz z len ps =>
   simp only [bW.all] at hl
   simp only [bt] at h ⊢
   have : (ps.map fun q => (q.1, al cH q.2)) = ps.map fun q => (q.1, al env1 q.2) :=
    List.map_congr_left fun q hq => by rw [hl _ (List.mem_map.2 ⟨q, hq, rfl⟩)]
   rw [this]
   exact gn (fun v hk => kput0 _ hk) h
 | slice esz i lo hi m =>
   simp only [bW.all, List.mem_cons, List.mem_append, forall_eq_or_imp] at hl
   obtain ⟨h1, h2⟩ := hl
   simp only [bt] at h ⊢
   rw [h1, fQ (fun i hi => h2 i (.inl (.inl hi))), fQ (fun i hi => h2 i (.inl (.inr hi))), fQ (fun i hi => h2 i (.inr hi))]
   exact lC kput0 h
 | oN esz i lo hi m =>
   simp only [bW.all, List.mem_cons, List.mem_append, forall_eq_or_imp] at hl
   obtain ⟨h1, h2⟩ := hl
   simp only [bt] at h ⊢
   rw [h1, fQ (fun i hi => h2 i (.inl (.inl hi))), fQ (fun i hi => h2 i (.inl (.inr hi))), fQ (fun i hi => h2 i (.inr hi))]
   exact ⟨h.1, sI (fun z hz => ⟨hz.1, kput0 _ hz.2⟩) h.2⟩
 | dK i lo hi =>
   simp only [bW.all, List.mem_cons, List.mem_append, forall_eq_or_imp] at hl
   obtain ⟨h1, h2⟩ := hl
   simp only [bt] at h ⊢
   rw [h1, fQ (fun i hi => h2 i (.inl hi)), fQ (fun i hi => h2 i (.inr hi))]
   exact jz kput0 h
 | fn f first cap =>
   simp only [bW.all, List.mem_append] at hl
   simp only [bt] at h ⊢
   rw [mS (fun i hi => hl i (.inl hi)) AV.ab, mS (fun i hi => hl i (.inr hi)) AV.ab]
   exact kput0 _ h
 | call f args pass =>
   simp only [bW.all, List.mem_cons, forall_eq_or_imp] at hl
   obtain ⟨h1, h2⟩ := hl
   simp only [bt, oA] at h ⊢
   rw [h1]
   split at h <;> try exact h.elim
   all_goals
   obtain ⟨bO, hle, hcall⟩ := h
   refine ⟨bO, ?_, hcall.mono fun r H' hk => ?_⟩
   ·rw [mU h2]; exact hle
   ·cases hp : bc args pass with
    | none =>
      rw [hp] at hk
      exact kput r H' (fun e => by cases e) (fun e => by cases e) hk
    | some s =>
      rw [hp] at hk
      have iE : IX.t s ∈ args ∧ s ∈ (bW.call f args pass).kill := by
       unfold bc at hp
       simp only [bW.kill]
       split at hp
       ·rename_i j
        split at hp <;> cases hp
        rename_i hj
        try simp only [hj]
        exact ⟨List.mem_of_getElem? hj, by simp⟩
       ·cases hp
      have hs : get cH s = get env1 s := h2 _ iE.1
      have e : ∀ env : Env, get env s = get env1 s → put dst r (cD env (some s)) = (put dst r [(s, (get env1 s).ab)]) ++ env := by
       intro env he
       cases dst <;> simp [put, cD, he]
      rw [e env1 rfl] at hk
      rw [e cH hs]
      refine hK _ H' ?_ (fun e => by cases e) (fun e => by cases e) hk
      intro p Tg
      cases dst with
      | none => simp [put] at Tg; subst Tg; exact .inr iE.2
      | some d =>
        simp [put] at Tg
        rcases Tg with rfl | rfl
        ·left; rfl
        ·exact .inr iE.2
 | never => exact h.elim
end Go.aK
end
section
namespace Go.aK
open Go
theorem cJ {env1 cH : Env} (h : get env1 = get cH) : ∀ mods : List (Nat × AV), get (mods ++ env1) = get (mods ++ cH)
 | [] => h
 | (k, v) :: r => by
   funext t
   simp only [List.cons_append, get]
   split
   ·rfl
   ·rw [cJ h r]
theorem oD {env1 cH : Env} {t : Nat} (h : get env1 t = get cH t) : ∀ mods : List (Nat × AV), get (mods ++ env1) t = get (mods ++ cH) t
 | [] => h
 | (k, v) :: r => by
   simp only [List.cons_append, get]
   split
   ·rfl
   ·rw [oD h r]
theorem km {env : Env} {t : Nat} : ∀ {mods : List (Nat × AV)}, (∀ p ∈ mods, p.1 ≠ t) → get (mods ++ env) t = get env t
 | [], _ => rfl
 | (k, v) :: r, h => by
   simp only [List.cons_append, get]
   rw [if_neg (fun e => h (k, v) (by simp) e.symm), km (fun p hp => h p (by simp [hp]))]
theorem Gn {l : List IX} {s : Nat} (h : IX.t s ∈ l) : s ∈ IX.OC l := List.mem_filterMap.2 ⟨_, h, rfl⟩
theorem Dy {o : bu} {env1 cH : Env} (hl : ∀ s ∈ o.lk, get cH s = get env1 s) : ∀ i ∈ o.op.all, al cH i = al env1 i := by
 intro i hi
 cases i with
 | c v => rfl
 | t s => exact hl s (List.mem_append_left _ (Gn hi))
theorem get_guard {env : Env} {g : Nat} {b : Bool} (h : get env g = .bool b) : get ((g, AV.bool b) :: env) = get env := by
 funext t
 simp only [get]
 split
 ·rename_i e; rw [e, h]
 ·rfl
theorem nO {P : Px} {o : bu} {env1 cH : Env} {H : List aa} {K1 K2 : Env → List aa → Prop} (hl : ∀ s ∈ o.lk, get cH s = get env1 s) (h : rb P o env1 H K1)
 (hK : ∀ e1 e2 H', (∃ mods : List (Nat × AV), (∀ p ∈ mods, o.dst = some p.1 ∨ p.1 ∈ o.op.kill) ∧ get e1 = get (mods ++ env1) ∧ get e2 = get (mods ++ cH)) → (o.op.P5 = false → H' = H) → (o.op.xr = true → ∃ e, H' = H ++ e) → K1 e1 H' → K2 e2 H') : rb P o cH H K2 := by
 unfold rb at *
 cases hg : o.g with
 | none =>
   simp only [hg] at h ⊢
   exact nN (Dy hl) h fun mods H' hm hc hg hk => hK _ _ H' ⟨mods, hm, rfl, rfl⟩ hc hg hk
 | some p =>
   obtain ⟨g, want⟩ := p
   simp only [hg] at h ⊢
   unfold gR at *
   have xw : get cH g = get env1 g := hl g (by simp [bu.lk, hg])
   rw [xw]
   split at h
   rotate_left
   ·rename_i hb
    refine hK _ _ H ⟨(match o.dst with | some d => [(d, .tuple [])] | none => []), ?_, ?_, ?_⟩ (fun _ => rfl) (fun _ => ⟨[], by simp⟩) h
    ·cases hd : o.dst <;> simp
    ·cases hd : o.dst <;> rfl
    ·cases hd : o.dst <;> rfl
   ·exact h.elim
   rename_i b hb
   have pw : get cH g = .bool b := by rw [xw, hb]
   refine ⟨fun e => ?_, fun e => ?_⟩
   ·subst e
    refine nN (env1 := (g, .bool b) :: env1) (Dy (o := o) fun s hs => ?_) (h.1 rfl) fun mods H' hm hc hg hk => hK _ _ H' ⟨mods, hm, cJ (get_guard hb) mods, cJ (get_guard pw) mods⟩ hc hg hk
    rw [get_guard hb, get_guard pw]
    exact hl s hs
   ·have h2 := h.2 e
    subst e
    refine hK _ _ H ⟨(match o.dst with | some d => [(d, .tuple [])] | none => []), ?_, ?_, ?_⟩ (fun _ => rfl) (fun _ => ⟨[], by simp⟩) h2
    ·cases hd : o.dst <;> simp
    ·cases hd : o.dst with
     | none => exact get_guard hb
     | some d => exact cJ (get_guard hb) [(d, .tuple [])]
    ·cases hd : o.dst with
     | none => exact get_guard pw
     | some d => exact cJ (get_guard pw) [(d, .tuple [])]
theorem pN {P : Px} {o : bu} {env : Env} {H : List aa} {K1 K2 : Env → List aa → Prop} (h : rb P o env H K1)
 (hK : ∀ e1 e2 H', get e1 = get e2 → K1 e1 H' → K2 e2 H') : rb P o env H K2 :=
 nO (fun _ _ => rfl) h fun e1 e2 H' ⟨mods, _, h1, h2⟩ _ _ hk => hK e1 e2 H' (h1.trans h2.symm) hk
section
variable {P : Px} {ops : Array Oper} {il : List bu} {K : Env → List aa → Prop}
def qA (P : Px) (il : List bu) (i : Nat) (env : Env) (H : List aa) (K : Env → List aa → Prop) : Prop :=
 match il[i]? with
 | none => K env H
 | some o => rb P o env H K
def uG (P : Px) (ops : Array Oper) (il : List bu) (K : Env → List aa → Prop) : Nat → Array Bool → Env → List aa → Prop
 | 0, listed, env, H => Region.ready .any ops listed = [] ∧ K env H
 | f + 1, listed, env, H => (Region.ready .any ops listed = [] → K env H) ∧ ∀ i ∈ Region.ready .any ops listed, qA P il i env H (uG P ops il K f (listed.setIfInBounds i true))
def Inv (K : Env → List aa → Prop) : Prop := ∀ e1 e2 H, get e1 = get e2 → K e1 H → K e2 H
theorem gS (hK : Inv K) : ∀ (f : Nat) (listed : Array Bool) {e1 e2 : Env} {H : List aa}, get e1 = get e2 → uG P ops il K f listed e1 H → uG P ops il K f listed e2 H
 | 0, _, _, _, _, he, h => ⟨h.1, hK _ _ _ he h.2⟩
 | f + 1, listed, e1, e2, H, he, h => by
   refine ⟨fun h0 => hK _ _ _ he (h.1 h0), fun i hi => ?_⟩
   have hq := h.2 i hi
   unfold qA at *
   split
   ·rename_i hn; simp only [hn] at hq; exact gS hK f _ he hq
   ·rename_i o ho
    simp only [ho] at hq
    exact nO (fun s _ => by rw [he]) hq fun a b H' ⟨mods, _, h1, h2⟩ _ _ hk => gS hK f _ (by rw [h1, h2, cJ he]) hk
def TX (P : Px) (st : Bool) (o : bu) (env : Env) (H : List aa) (x : AV) : Prop :=
 ∃ ρ : IX → AV, (∀ i ∈ o.op.all, al env i = ρ i) ∧ match o.g with
  | none => dv P st o.op ρ H x
  | some (g, want) => (∃ b, get env g = .bool b ∧ (b = want → dv P st o.op ρ H x) ∧ (b ≠ want → x = .tuple [])) ∨ (get env g = .tuple [] ∧ x = .tuple [])
theorem EX {st : Bool} {o : bW} {ρ : IX → AV} {H : List aa} {x : AV} (h : dv P st o ρ H x) : cS P o ρ H x := by
 cases st
 ·exact h H
 ·exact h
theorem uH {H e : List aa} {id : Nat} {o : aa} (h : H[id]? = some o) : (H ++ e)[id]? = some o := by
 rw [List.getElem?_append_left (List.getElem?_eq_some_iff.1 h).1, h]
theorem Dz {sz : Option Nat} {x : AV} {H e : List aa} {φ : AV → Prop} (h : aS sz x H φ) : aS sz x (H ++ e) φ := by
 unfold aS at *
 split at h
 ·split at h
  ·rename_i bm; rw [uH bm]; exact h
  ·exact h.elim
 ·exact h
 ·exact h.elim
theorem Gp {x : AV} {H e : List aa} {φ : AV → Prop} (h : eW x H φ) : eW x (H ++ e) φ := by
 unfold eW at *
 split at h <;> (try exact h)
 split at h
 ·rename_i bm; rw [uH bm]; exact h
 ·exact h.elim
theorem ze {kd : Nat} {z m k : AV} {ok : Bool} {H e : List aa} {φ : AV → Prop} (h : cb kd z m k ok H φ) : cb kd z m k ok (H ++ e) φ := by
 unfold cb at *
 split at h <;> (try exact h)
 split at h
 ·rename_i bm; rw [uH bm]; exact h
 ·exact h.elim
theorem xx {o : bW} {ρ : IX → AV} {H e : List aa} {x : AV} (hs : o.stays = true) (h : cS P o ρ H x) : cS P o ρ (H ++ e) x := by
 cases o with
 | call f args pass => cases hs
 | load sz i =>
   unfold cS at h ⊢
   exact Dz h
 | len kd i =>
   unfold cS at h ⊢
   exact ⟨h.1, Gp h.2⟩
 | lookup kd z m k ok =>
   unfold cS at h ⊢
   exact ze h
 | set i t => cases t <;> exact h
 | _ => exact h
theorem Be {st : Bool} {o : bW} {ρ : IX → AV} {H H' : List aa} {x : AV} (hH : st = true → H' = H ∨ (o.stays = true ∧ ∃ e, H' = H ++ e)) (h : dv P st o ρ H x) : dv P st o ρ H' x := by
 cases st
 ·exact h
 ·rcases hH rfl with e | ⟨h1, e, he⟩
  ·rw [e]; exact h
  ·rw [he]; exact xx h1 h
theorem Gq {st : Bool} {o : bu} {env1 cH : Env} {H1 H2 : List aa} {x : AV} (hl : ∀ s ∈ o.lk, get cH s = get env1 s) (hH : st = true → H2 = H1 ∨ (o.op.stays = true ∧ ∃ e, H2 = H1 ++ e)) (h : TX P st o env1 H1 x) : TX P st o cH H2 x := by
 obtain ⟨ρ, h1, h2⟩ := h
 refine ⟨ρ, fun i hi => (Dy hl i hi).trans (h1 i hi), ?_⟩
 cases hg : o.g with
 | none => simp only [hg] at h2 ⊢; exact Be hH h2
 | some p =>
   obtain ⟨g, want⟩ := p
   simp only [hg] at h2 ⊢
   rcases h2 with ⟨b, k1, k2, k3⟩ | ⟨k1, k2⟩
   ·exact .inl ⟨b, (hl g (by simp [bu.lk, hg])).trans k1, fun e => Be hH (k2 e), k3⟩
   ·exact .inr ⟨(hl g (by simp [bu.lk, hg])).trans k1, k2⟩
theorem EY {st : Bool} {o : bu} {env : Env} {H : List aa} {x : AV} (h : TX P st o env H x) : rb P o env H fun e H' => H' = H ∧ get e = get (put o.dst x env) := by
 obtain ⟨ρ, h1, h2⟩ := h
 unfold rb
 cases hg : o.g with
 | none => simp only [hg] at h2 ⊢; exact Bb (EX h2) h1
 | some p =>
   obtain ⟨g, want⟩ := p
   simp only [hg] at h2 ⊢
   rcases h2 with ⟨b, k1, k2, k3⟩ | ⟨k1, k2⟩
   rotate_left
   ·unfold gR
    rw [k1]
    subst k2
    exact ⟨by simp, rfl⟩
   unfold gR
   rw [k1]
   refine ⟨fun e => ?_, fun e => ?_⟩
   ·subst e
    have Lb := get_guard k1
    have := Bb (dst := o.dst) (env := (g, .bool b) :: env) (EX (k2 rfl)) (fun i hi => by
     rw [← h1 i hi]
     cases i with
     | c v => rfl
     | t s => show get _ s = get _ s; rw [Lb])
    refine nN (fun _ _ => rfl) this ?_
    intro mods H' _ _ _ hk
    refine ⟨hk.1, hk.2.trans ?_⟩
    rw [jQ, jQ, Lb]
   ·have dS : b ≠ want := by intro e2; subst e2; cases b <;> cases e
    have hx := k3 dS
    subst hx
    subst e
    exact ⟨by simp, by rw [jQ, jQ, get_guard k1]⟩
def closed (ops : Array Oper) (listed : Array Bool) : Prop := ∀ k o, ops[k]? = some o → listed.getD k false = true → ∀ e ∈ o.after, Region.binds .any e = true → listed.getD e.on false = true
theorem kE {listed : Array Bool} (hc : closed ops listed) {i : Nat} : ∀ (f j : Nat) (oj : Oper), ops[j]? = some oj → (∀ e ∈ oj.after, Region.binds .any e = true → listed.getD e.on false = true) → dg ops f j i = true → listed.getD i false = true
 | 0, _, _, _, _, h => by simp [dg] at h
 | f + 1, j, oj, hj, jm, h => by
   simp only [dg, hj] at h
   obtain ⟨k, hk, he⟩ := Array.any_eq_true.1 h
   simp only [Bool.and_eq_true, Bool.or_eq_true, beq_iff_eq] at he
   have iE : oj.after[k] ∈ oj.after := Array.getElem_mem hk
   have hl := jm _ iE he.1
   rcases he.2 with e | e
   ·rw [← e]; exact hl
   ·have TY : ∃ o', ops[(oj.after[k]).on]? = some o' := by
     cases f with
     | zero => simp [dg] at e
     | succ f =>
       cases ho : ops[(oj.after[k]).on]? with
       | none => simp [dg, ho] at e
       | some o' => exact ⟨o', rfl⟩
    obtain ⟨o', Qb⟩ := TY
    exact kE hc f _ o' Qb (hc _ _ Qb hl) e
theorem oV {listed : Array Bool} {i : Nat} (h : listed.getD i true = false) : listed.getD i false = false := by
 simp only [Array.getD_eq_getD_getElem?] at *
 cases hx : listed[i]? with
 | none => rfl
 | some b => rw [hx] at h; simpa using h
theorem oW {listed : Array Bool} (hc : closed ops listed) {j : Nat} (hj : j ∈ Region.ready .any ops listed) : closed ops (listed.setIfInBounds j true) := by
 obtain ⟨_, oj, P6, jm⟩ := mem_ready.1 hj
 intro k o ho hk e he hb
 refine getD_set_true ?_
 by_cases hkj : k = j
 ·subst hkj
  rw [P6] at ho
  cases ho
  exact jm e he hb
 ·rw [getD_set_ne false (Ne.symm hkj)] at hk
  exact hc k o ho hk e he hb
theorem Bf {listed : Array Bool} {i j : Nat} {st : Bool} (h : mO ops il listed i st = true) (hj : j < ops.size) (EZ : j ≠ i) (XG : listed.getD j true = false) (jJ : dg ops ops.size j i = false) : rc st (il.getD i default) (il.getD j default) = true := by
 unfold mO at h
 have := List.all_eq_true.1 h j (List.mem_range.2 hj)
 simp only [Bool.or_eq_true, beq_iff_eq, XG, jJ, Bool.false_eq_true, or_false] at this
 rcases this with e | e
 ·exact absurd e EZ
 ·exact e
theorem Bg {listed : Array Bool} {i j : Nat} {st : Bool} (h : mO ops il listed i st = true) : mO ops il (listed.setIfInBounds j true) i st = true := by
 unfold mO at *
 refine List.all_eq_true.2 fun k hk => ?_
 have := List.all_eq_true.1 h k hk
 simp only [Bool.or_eq_true] at this ⊢
 rcases this with ((e | e) | e) | e
 ·exact .inl (.inl (.inl e))
 ·refine .inl (.inl (.inr ?_))
  by_cases OB : j = k
  ·subst OB
   simp only [Array.getD_eq_getD_getElem?, Array.getElem?_setIfInBounds]
   split
   ·split <;> simp
   ·rename_i dS; exact absurd trivial dS
  ·rw [getD_set_ne true OB]; exact e
 ·exact .inl (.inr e)
 ·exact .inr e
theorem Bh {st : Bool} {oi oj : bu} (h : rc st oi oj = true) :
 (∀ d, oi.dst = some d → d ∉ oj.lk ∧ oj.dst ≠ some d ∧ d ∉ oj.op.kill) ∧ (∀ d, oj.dst = some d → d ∉ oi.lk) ∧ (∀ s ∈ oj.op.kill, s ∉ oi.lk) ∧ (st = true → oj.op.P5 = false ∨ (oj.op.xr = true ∧ oi.op.stays = true)) := by
 unfold rc at h
 simp only [Bool.and_eq_true, Bool.or_eq_true, Bool.not_eq_true'] at h
 obtain ⟨⟨⟨h1, h2⟩, h3⟩, h4⟩ := h
 refine ⟨fun d hd => ?_, fun d hd => ?_, fun s hs => ?_, fun e => ?_⟩
 ·rw [hd] at h1
  simpa [and_assoc] using h1
 ·rw [hd] at h2
  simpa using h2
 ·have := List.all_eq_true.1 h3 s hs
  simpa using this
 ·rcases h4 with (e2 | e2) | e2
  ·rw [e] at e2; cases e2
  ·exact .inl e2
  ·exact .inr e2
theorem pO {l : List bu} {i : Nat} {o : bu} (h : l[i]? = some o) : l.getD i default = o := by
 rw [List.getD_eq_getElem?_getD, h]; rfl
theorem Gs (hK : Inv K) (cT : il.length = ops.size) {i : Nat} {oi : bu} {x : AV} {st : Bool} (hi : il[i]? = some oi) : ∀ (f : Nat) (listed : Array Bool) {env : Env} {H : List aa}, closed ops listed → mO ops il listed i st = true → i ∈ Region.ready .any ops listed →
 TX P st oi env H x → uG P ops il K f (listed.setIfInBounds i true) (put oi.dst x env) H → uG P ops il K (f + 1) listed env H := by
 intro f
 induction f with
 | zero =>
   intro listed env H iC CX hr ht hD
   refine ⟨fun h => (by rw [h] at hr; cases hr), fun j hj => ?_⟩
   by_cases EZ : j = i
   ·subst EZ
    unfold qA
    simp only [hi]
    exact pN (EY ht) fun e1 e2 H' he ⟨h1, h2⟩ => by
     subst h1
     exact gS hK 0 _ (h2.symm.trans he) hD
   ·have := ready_mono hj EZ
    rw [hD.1] at this
    cases this
 | succ f ih =>
   intro listed env H iC CX hr ht hD
   refine ⟨fun h => (by rw [h] at hr; cases hr), fun j hj => ?_⟩
   by_cases EZ : j = i
   ·subst EZ
    unfold qA
    simp only [hi]
    exact pN (EY ht) fun e1 e2 H' he ⟨h1, h2⟩ => by
     subst h1
     exact gS hK (f + 1) _ (h2.symm.trans he) hD
   ·have h1 := hD.2 j (ready_mono hj EZ)
    obtain ⟨Yy, oj', TZ, jm⟩ := mem_ready.1 hj
    have hjs : j < ops.size := (Array.getElem?_eq_some_iff.1 TZ).1
    have jJ : dg ops ops.size j i = false := by
     cases hma : dg ops ops.size j i with
     | false => rfl
     | true =>
       have := kE iC _ j oj' TZ jm hma
       rw [oV (mem_ready.1 hr).1] at this
       cases this
    have T1 := Bf CX hjs EZ Yy jJ
    rw [pO hi] at T1
    unfold qA at *
    cases P6 : il[j]? with
    | none =>
      rw [List.getElem?_eq_none_iff] at P6
      omega
    | some oj =>
      rw [pO P6] at T1
      obtain ⟨a1, a2, a3, a4⟩ := Bh T1
      simp only [P6] at h1 ⊢
      refine nO (env1 := put oi.dst x env) (fun s hs => ?_) h1 fun e1 e2 H' ⟨mods, hm, g1, g2⟩ hch hgr hk => ?_
      ·rw [jQ]
       cases hd : oi.dst with
       | none => rfl
       | some d =>
         simp only [Qa, fe]
         rw [if_neg]
         intro e
         exact (a1 d hd).1 (e ▸ hs)
      ·have HR : ∀ s ∈ oi.lk, ∀ p ∈ mods, p.1 ≠ s := by
        intro s hs p hp e
        rcases hm p hp with h | h
        ·exact a2 _ h (e ▸ hs)
        ·exact a3 _ h (e ▸ hs)
       have Yz : ∀ d, oi.dst = some d → ∀ p ∈ mods, p.1 ≠ d := by
        intro d hd p hp e
        rcases hm p hp with h | h
        ·exact (a1 d hd).2.1 (e ▸ h)
        ·exact (a1 d hd).2.2 (e ▸ h)
       refine ih (listed.setIfInBounds j true) (oW iC hj) (Bg CX) (ready_mono hr (Ne.symm EZ)) ?_ ?_
       ·refine Gq (fun s hs => ?_) (fun e => (a4 e).imp hch fun ⟨q1, q2⟩ => ⟨q2, hgr q1⟩) ht
        rw [g2]
        exact km (HR s hs)
       ·rw [Array.setIfInBounds_comm _ _ EZ]
        refine gS hK f _ ?_ hk
        rw [g1, jQ, g2]
        cases hd : oi.dst with
        | none => rfl
        | some d =>
          funext t
          simp only [Qa, fe, put]
          by_cases YA : t = d
          ·subst YA
           rw [if_pos rfl, km (Yz t hd)]
           simp [get]
          ·rw [if_neg YA]
           refine oD ?_ mods
           simp [get, YA]
theorem LQ (hK : Inv K) (cT : il.length = ops.size) : ∀ (p : wx) (f : Nat) (listed : Array Bool) {env : Env} {H : List aa}, closed ops listed →
 (tg ops il f listed none p = true → tF P (inst il p) env H K → uG P ops il K f listed env H) ∧
 (∀ ks, (∀ i ∈ ks, i ∈ Region.ready .any ops listed) → tg ops il (f + 1) listed (some ks) p = true → tF P (inst il p) env H K → ∀ i ∈ ks, qA P il i env H (uG P ops il K f (listed.setIfInBounds i true))) := by
 intro p
 induction p with
 | done =>
   intro f listed env H iC
   refine ⟨fun h hd => ?_, fun ks _ h _ i hi => ?_⟩
   ·have : Region.ready .any ops listed = [] := by
     cases f <;> simpa [tg, List.isEmpty_iff] using h
    simp only [inst, tF] at hd
    cases f with
    | zero => exact ⟨this, hd⟩
    | succ f => exact ⟨fun _ => hd, fun i hi => by rw [this] at hi; cases hi⟩
   ·cases ks with
    | nil => cases hi
    | cons k ks => simp [tg] at h
 | nil =>
   intro f listed env H iC
   refine ⟨fun h _ => by cases f <;> simp [tg] at h, fun ks _ h _ i hi => ?_⟩
   cases ks with
   | nil => cases hi
   | cons k ks => simp [tg] at h
 | take k st r ih =>
   intro f listed env H iC
   refine ⟨fun h hd => ?_, fun ks _ h _ i hi => ?_⟩
   ·cases f with
    | zero => simp [tg] at h
    | succ f =>
      simp only [tg, Bool.and_eq_true, List.contains_iff_mem] at h
      obtain ⟨⟨⟨hr, adp⟩, CX⟩, hp⟩ := h
      obtain ⟨_, ok, jK, _⟩ := mem_ready.1 hr
      have Dh : k < il.length := by rw [cT]; exact (Array.getElem?_eq_some_iff.1 jK).1
      have LB : il[k]? = some (il.getD k default) := by rw [List.getD_eq_getElem?_getD, List.getElem?_eq_getElem Dh]; rfl
      simp only [inst, tF, sD] at hd
      have fin : ∀ x, TX P st (il.getD k default) env H x → tF P (inst il r) (put (il.getD k default).dst x env) H K → uG P ops il K (f + 1) listed env H := by
       intro x hx hrest
       exact Gs hK cT LB f listed iC CX hr hx ((ih f _ (oW iC hr)).1 hp hrest)
      cases hg : (il.getD k default).g with
      | none =>
        simp only [hg] at hd
        obtain ⟨x, hx, hrest⟩ := hd
        exact fin x ⟨al env, fun _ _ => rfl, by simp only [hg]; exact hx⟩ hrest
      | some gw =>
        obtain ⟨g, want⟩ := gw
        simp only [hg, gR] at hd
        split at hd
        rotate_left
        ·rename_i hb
         exact fin (.tuple []) ⟨al env, fun _ _ => rfl, by simp only [hg]; exact .inr ⟨hb, by trivial⟩⟩ hd
        ·exact hd.elim
        rename_i b hb
        by_cases EW : b = want
        ·obtain ⟨x, hx, hrest⟩ := hd.1 EW
         exact fin x ⟨al env, fun _ _ => rfl, by simp only [hg]; exact .inl ⟨b, hb, fun _ => hx, fun e => absurd EW e⟩⟩ hrest
        ·have hrest := hd.2 (by cases b <;> cases want <;> first | rfl | exact absurd rfl EW)
         exact fin (.tuple []) ⟨al env, fun _ _ => rfl, by simp only [hg]; exact .inl ⟨b, hb, fun e => absurd e EW, fun _ => by trivial⟩⟩ hrest
   ·cases ks with
    | nil => cases hi
    | cons k ks => simp [tg] at h
 | br k t rest IB HQ =>
   intro f listed env H iC
   have key : ∀ (f : Nat) (ks : List Nat), (∀ i ∈ k :: ks, i ∈ Region.ready .any ops listed) → tg ops il f (listed.setIfInBounds k true) none t = true → tg ops il (f + 1) listed (some ks) rest = true → tF P (inst il (.br k t rest)) env H K →
    ∀ i ∈ k :: ks, qA P il i env H (uG P ops il K f (listed.setIfInBounds i true)) := by
    intro f ks Dh h1 h2 hd i hi
    simp only [inst, tF] at hd
    rcases List.mem_cons.1 hi with rfl | hi
    ·have hr := Dh i (by simp)
     obtain ⟨_, ok, jK, _⟩ := mem_ready.1 hr
     have aY : i < il.length := by rw [cT]; exact (Array.getElem?_eq_some_iff.1 jK).1
     have LB : il[i]? = some (il.getD i default) := by rw [List.getD_eq_getElem?_getD, List.getElem?_eq_getElem aY]; rfl
     unfold qA
     rw [LB]
     exact pN hd.1 fun e1 e2 H' he hk => gS hK f _ he ((IB f _ (oW iC hr)).1 h1 hk)
    ·exact (HQ f listed iC).2 ks (fun j hj => Dh j (by simp [hj])) h2 hd.2 i hi
   refine ⟨fun h hd => ?_, fun ks Dh h hd i hi => ?_⟩
   ·cases f with
    | zero => simp [tg] at h
    | succ f =>
      simp only [tg] at h
      split at h
      ·rename_i k' ks XH
       simp only [Bool.and_eq_true, beq_iff_eq] at h
       obtain ⟨⟨rfl, h1⟩, h2⟩ := h
       have := key f ks (fun i hi => by rw [XH]; exact hi) h1 h2 hd
       exact ⟨(fun e => by rw [e] at XH; cases XH), fun i hi => this i (by rw [XH] at hi; exact hi)⟩
      ·cases h
   ·cases ks with
    | nil => cases hi
    | cons k' ks =>
      simp only [tg, Bool.and_eq_true, beq_iff_eq] at h
      obtain ⟨⟨rfl, h1⟩, h2⟩ := h
      exact key f ks Dh h1 h2 hd i hi
end
end Go.aK
end
section
namespace Go.aK
open Go
section
variable {ro : Option Nat} {P : Program} {lo : Option Nat} {A : Perm} {n : Nat}
theorem mV {ops : Array Oper} {an : AF} {rid : Nat} : ∀ (fuel k : Nat) (l : List Oper) (il : List bu), eD P ops an n rid false fuel k l = some il →
 il.length = l.length ∧ ∀ (j : Nat) (o : Oper), l[j]? = some o → ∃ g, EU ops o = some g ∧ ET n o = true ∧ il[j]? = some ⟨g, o.dst, A5 P o (an.at_ rid (k + j))⟩
 | _, _, [], il, hc => by
   unfold eD at hc
   cases hc
   exact ⟨rfl, fun j o h => by simp at h⟩
 | 0, _, o :: r, il, hc => by simp [eD] at hc
 | fuel + 1, k, o :: r, il, hc => by
   unfold eD at hc
   simp only [Bool.false_eq_true, and_false, if_false] at hc
   split at hc <;> try cases hc
   rename_i g xs hg fp
   split at hc <;> cases hc
   rename_i fL
   obtain ⟨h1, h2⟩ := mV fuel (k + 1) r xs fp
   refine ⟨by simp [h1], fun j o' hj => ?_⟩
   cases j with
   | zero =>
     simp at hj
     subst hj
     exact ⟨g, hg, fL, by simp⟩
   | succ j =>
     simp at hj
     obtain ⟨g', e1, e2, e3⟩ := h2 j o' hj
     exact ⟨g', e1, e2, by simp [e3, Nat.add_assoc, Nat.add_comm 1 j]⟩
theorem sK {ops : Array Oper} {il : List bu} {an : AF} {rid : Nat} {L0 : List Nat} {M0 : Mem} {w0 : World} {K : Env → List aa → Prop} {Q : Exit → Act → World → Prop}
 (hp : ∀ l, lo = some l → ∀ id, l ≤ id → A.top id = none) (hc : eD P ops an n rid false (ops.size + 1) 0 ops.toList = some il)
 (hF : ∀ (M : Mem) (L : List Nat) (w : World) (H : List aa) (env : Env) (O : Pos → Option Nat) (a : Act), K env H → Fr A n M L w H env O a → Ext A M0 w0 M w → L0 <+: L → Q .normal a w) :
 ∀ (f : Nat) (listed : Array Bool) {M : Mem} {L : List Nat} {w : World} {H : List aa} {env : Env} {O : Pos → Option Nat} {a : Act}, Fr A n M L w H env O a → Ext A M0 w0 M w → L0 <+: L → uG ⟨P, lo⟩ ops il K f listed env H → wpAnyIn (wf ro) 0 P .any ops Q f listed a w
 | 0, _, _, _, _, _, _, _, _, hf, cq, hL, h => ⟨h.1, hF _ _ _ _ _ _ _ h.2 hf cq hL⟩
 | f + 1, listed, M, L, w, H, env, O, a, hf, cq, hL, h => by
   refine ⟨fun h0 => hF _ _ _ _ _ _ _ (h.1 h0) hf cq hL, fun i hi => ?_⟩
   have hq := h.2 i hi
   unfold wpOpIn
   cases ho : ops[i]? with
   | none =>
     obtain ⟨_, o, Qb, _⟩ := mem_ready.1 hi
     rw [ho] at Qb; cases Qb
   | some o =>
     obtain ⟨g, hg, fL, tA⟩ := (mV _ _ _ _ hc).2 i o (by simpa using ho)
     unfold qA at hq
     rw [tA] at hq
     have hs := xu (ro := ro) (ops := ops) hg fL hp hf hq Q
     have hrest : ∀ a' w', mA A n M L w (uG ⟨P, lo⟩ ops il K f (listed.setIfInBounds i true)) a' w' → wpAnyIn (wf ro) 0 P .any ops Q f (listed.setIfInBounds i true) a' w' := by
      rintro a' w' ⟨M', L', H', aD, O', k1, k2, k3, k4⟩
      exact sK hp hc hF f _ k2 (cq.trans k3) (hL.trans k4) k1
     simp only
     split
     ·rename_i hw
      rw [if_pos hw] at hs
      exact Oper.wpIn_mono hrest hs
     ·rename_i hw
      rw [if_neg hw] at hs
      exact ⟨fun _ _ => trivial, hrest _ _ hs⟩
theorem Gu (L0 : List Nat) (hp : ∀ l, lo = some l → ∀ id, l ≤ id → A.top id = none) : xv P ro lo A n L0 := by
 intro id ops il p live an M L w H env O a M0 w0 Q hm hB hc h hf cq hL
 simp only [mb] at h
 have hK : Inv (fun (aD : Env) (H' : List aa) => ∃ e, get e = get aD ∧ Q .normal (eo live e) H') := fun e1 e2 H he ⟨e, h1, h2⟩ => ⟨e, h1.trans he, h2⟩
 have cT : il.length = ops.size := by simpa using (mV _ _ _ _ hc).1
 have hB := IA cT p _ _ _ _ (Gj _) (by simp) hB
 have iC : closed ops (Array.replicate ops.size false) := by
  intro k o _ hk
  simp only [Array.getD_eq_getD_getElem?, Array.getElem?_replicate] at hk
  split at hk <;> cases hk
 have hd : tF ⟨P, lo⟩ (inst il p) env H (fun (aD : Env) (H' : List aa) => ∃ e, get e = get aD ∧ Q .normal (eo live e) H') := by
  have mono : ∀ (t : DT) (env : Env) (H : List aa) (K1 K2 : Env → List aa → Prop), (∀ e H, K1 e H → K2 e H) → Inv K2 → tF ⟨P, lo⟩ t env H K1 → tF ⟨P, lo⟩ t env H K2 := by
   intro t
   induction t with
   | done => intro env H K1 K2 hk _ h; exact hk _ _ h
   | nil => intro _ _ _ _ _ _ _; trivial
   | take st o r ih =>
     intro env H K1 K2 hk hi h
     simp only [tF, sD] at h ⊢
     cases hg : o.g with
     | none =>
       simp only [hg] at h ⊢
       obtain ⟨x, hx, h⟩ := h
       exact ⟨x, hx, ih _ _ _ _ hk hi h⟩
     | some gw =>
       obtain ⟨g, want⟩ := gw
       simp only [hg, gR] at h ⊢
       split at h
       rotate_left
       ·exact ih _ _ _ _ hk hi h
       ·exact h.elim
       exact ⟨fun e => let ⟨x, hx, h⟩ := h.1 e; ⟨x, hx, ih _ _ _ _ hk hi h⟩, fun e => ih _ _ _ _ hk hi (h.2 e)⟩
   | br o t rest IB HQ =>
     intro env H K1 K2 hk hi h
     have hinv : ∀ K : Env → List aa → Prop, Inv K → ∀ t, Inv fun env H => tF ⟨P, lo⟩ t env H K := by
      intro K hK t
      induction t with
      | done => exact hK
      | nil => intro _ _ _ _ _; trivial
      | take st o r ih =>
        intro e1 e2 H he h
        simp only [tF, sD] at h ⊢
        have hav : al e2 = al e1 := by
         funext i
         cases i with
         | c v => rfl
         | t s => show get e2 s = get e1 s; rw [he]
        have mL : ∀ x, get (put o.dst x e1) = get (put o.dst x e2) := fun x => by rw [jQ, jQ, he]
        cases hg : o.g with
        | none =>
          simp only [hg] at h ⊢
          obtain ⟨x, hx, h⟩ := h
          exact ⟨x, by rw [hav]; exact hx, ih _ _ _ (mL x) h⟩
        | some gw =>
          obtain ⟨g, want⟩ := gw
          simp only [hg, gR] at h ⊢
          rw [← he]
          split at h
          rotate_left
          ·exact ih _ _ _ (mL _) h
          ·exact h.elim
          exact ⟨fun e => let ⟨x, hx, h⟩ := h.1 e; ⟨x, by rw [hav]; exact hx, ih _ _ _ (mL x) h⟩, fun e => ih _ _ _ (mL _) (h.2 e)⟩
      | br o t rest IB HQ =>
        intro e1 e2 H he h
        exact ⟨nO (fun s _ => by rw [he]) h.1 fun a b H' ⟨mods, _, g1, g2⟩ _ _ hk => IB _ _ _ (by rw [g1, g2, cJ he]) hk, HQ _ _ _ he h.2⟩
     exact ⟨pN h.1 fun e1 e2 H' he HS => hinv K2 hi t _ _ _ he (IB _ _ _ _ hk hi HS), HQ _ _ _ _ hk hi h.2⟩
  exact mono _ _ _ _ _ (fun e H hq => ⟨e, rfl, hq⟩) hK h
 have hA := (LQ (P := ⟨P, lo⟩) hK cT p ops.size (Array.replicate ops.size false) (env := env) (H := H) iC).1 hB hd
 refine wpIn_region_any hm (sK (M0 := M0) (w0 := w0) (L0 := L0) hp hc ?_ ops.size _ (M := M) (L := L) (H := H) (env := env) (O := O) ⟨hf.st.drew, hf.size, hf.defers.ext (Ext.drew (M := M))⟩ (cq.trans Ext.drew) hL hA)
 rintro M' L' w' H' aD O' a' ⟨e, he, hq⟩ h2 h3 h4
 obtain ⟨O'', h5⟩ := (h2.Ds he).weaken (xt live e)
 exact ⟨A, M', L', H', _, O'', .refl A, hq, h5, h3, h4⟩
theorem DA {L0 : List Nat} {an : AF} {lv : l7} {pl : l8} (c : Code) (ir : IR) (hc : comp P an lv pl n c = some ir) {M : Mem} {L : List Nat} {w : World} {H : List aa} {env : Env} {O : Pos → Option Nat} {a : Act} {Q : Exit → Env → List aa → Prop}
 (hA : fA lo L0.length A) (wu : Own ro w) (h : mb ⟨P, lo⟩ L0.length ir env H Q) (hf : Fr A n M L w H env O a) (hL : L0 <+: L) : c.wpIn (wf ro) 0 P (Dr A n M L0 w Q) a w :=
 sound (fun A hA => Gu L0 hA.opens) c ir hc hA wu h hf hL
end
end Go.aK
end
section
namespace Go.aK
open Go
inductive RX where
 | t (s : Nat)
 | c (s : Nat) (sz : Option Nat)
 deriving Inhabited
def IC (P : Program) : ResultVar → Option RX
 | .tmp t => some (.t t)
 | .cell a t => (HP P t).map (.c a)
def gT (P : Program) : List ResultVar → Option (List RX)
 | [] => some []
 | r :: rs => match IC P r, gT P rs with
   | some x, some xs => some (x :: xs)
   | _, _ => none
def rj : List RX → Env → List aa → (List AV → Prop) → Prop
 | [], _, _, φ => φ []
 | .t s :: r, env, H, φ => rj r env H fun xs => φ (get env s :: xs)
 | .c s sz :: r, env, H, φ => aS sz (get env s) H fun x => rj r env H fun xs => φ (x :: xs)
def bT (n0 : Nat) (rs : List RX) (env : Env) (H : List aa) (R : AV → List aa → Prop) : Prop :=
 rj rs env H fun xs => ∃ m, n0 ≤ m ∧ match xs with
  | [x] => ∃ r, x.le r ∧ r.a7 m = true ∧ R r (H.take m)
  | xs => ∃ ys, xp (xs.map AV.ab) ys ∧ aj m ys = true ∧ R (.tuple ys) (H.take m)
def kF (C : List aa → Nat → List aa → Prop) (n0 : Nat) (rs : List RX) (env : Env) (H : List aa) (R : AV → List aa → Prop) : Prop :=
 rj rs env H fun xs => ∃ m H', n0 ≤ m ∧ C H m H' ∧ match xs with
  | [x] => ∃ r, x.le r ∧ r.a7 m = true ∧ R r H'
  | xs => ∃ ys, xp (xs.map AV.ab) ys ∧ aj m ys = true ∧ R (.tuple ys) H'
theorem rk : ∀ {rs : List RX} {env : Env} {H : List aa} {φ ψ : List AV → Prop}, (∀ xs, φ xs → ψ xs) → rj rs env H φ → rj rs env H ψ
 | [], env, H, φ, ψ, hm, h => hm _ h
 | .t s :: r, env, H, φ, ψ, hm, h => rk (rs := r) (fun xs hx => hm _ hx) h
 | .c s sz :: r, env, H, φ, ψ, hm, h => ju (fun x hx => rk (rs := r) (fun xs hx => hm _ hx) hx) h
theorem Qc {n0 : Nat} {rs : List RX} {env : Env} {H : List aa} {R : AV → List aa → Prop} (h : bT n0 rs env H R) : kF (fun H m H' => H' = H.take m) n0 rs env H R :=
 rk (fun xs ⟨m, h1, h2⟩ => ⟨m, H.take m, h1, rfl, h2⟩) h
def bV : Nat → List AV → Env
 | _, [] => []
 | k, x :: xs => (k, x) :: bV (k + 1) xs
theorem lE : ∀ (xs : List AV) (k t : Nat), get (bV k xs) t = if k ≤ t then xs.getD (t - k) .any else .any
 | [], k, t => by simp [bV, get]
 | x :: xs, k, t => by
   simp only [bV, get]
   split
   ·rename_i e; subst e; simp
   ·rename_i e
    rw [lE xs (k + 1) t]
    by_cases h : k + 1 ≤ t
    ·have : t - k = (t - (k + 1)) + 1 := by omega
     rw [if_pos h, if_pos (by omega), this]; simp
    ·rw [if_neg h, if_neg (by omega)]
section
variable {P : Program} {A : Perm} {n : Nat} {M : Mem} {L : List Nat} {w : World} {H : List aa} {env : Env} {O : Pos → Option Nat} {a : Act}
def zg (tmps : Array Value) : ResultVar → Sem Value := fun
 | .tmp t => pure (tmps.getD t undef)
 | .cell a t => do loadVar t (← asAddr (tmps.getD a undef))
theorem Bi {fn : Func} {tmps : Array Value} {vs : List Value} (h : (fn.results.toList.mapM (zg tmps)).run P w = .ok vs w) :
 (results fn tmps).run P w = .ok (if h : vs.toArray.size = 1 then vs.toArray[0] else .tuple vs.toArray) w := by
 have e : (results fn tmps) = (do
  let vs ← fn.results.mapM (zg tmps)
  pure (if h : vs.size = 1 then vs[0] else .tuple vs)) := rfl
 rw [e, Array.mapM_eq_mapM_toList]
 simp only [Sem.run_bind, Sem.run_map, h]
 rfl
theorem zh (hf : Fr A n M L w H env O a) : ∀ (rs : List ResultVar) (is : List RX), gT P rs = some is → ∀ {φ : List AV → Prop}, rj is env H φ →
 ∃ vs xs, (rs.mapM (zg a.tmps)).run P w = .ok vs w ∧ φ xs ∧ aJ M L vs xs ∧ (∀ s, is = [.t s] → xs = [get env s] ∧ vs = [a.tmps.getD s undef]) ∧ (∀ s sz, is = [.c s sz] → ∀ x, xs = [x] → ∀ own ys, x = .ap own ys → own = 0)
 | [], is, hc, φ, h => by
   simp only [gT] at hc; cases hc
   exact ⟨[], [], by simp, h, .nil, (by intro s e; cases e), (by intro s sz e; cases e)⟩
 | r :: rs, is, hc, φ, h => by
   unfold gT at hc
   split at hc <;> cases hc
   rename_i x xs hx fp
   cases r with
   | tmp t =>
     simp only [IC] at hx; cases hx
     simp only [rj] at h
     obtain ⟨vs, ys, h1, h2, h3, _⟩ := zh hf rs xs fp h
     refine ⟨a.tmps.getD t undef :: vs, get env t :: ys, ?_, h2, .cons _ _ _ _ (hf.st.env t) h3, ?_, ?_⟩
     ·simp only [List.mapM_cons, Sem.run_bind, zg, Sem.run_pure, Result.andThen_ok, h1]
     ·intro s e
      cases e
      cases rs with
      | nil =>
        cases h3 with
        | nil => exact ⟨rfl, rfl⟩
        | cons v x vs xs hh tt =>
          simp at h1
      | cons r rs =>
        unfold gT at fp
        split at fp <;> cases fp
     ·intro s sz e; cases e
   | cell p t =>
     simp only [IC, Option.map_eq_some_iff] at hx
     obtain ⟨sz, cT, rfl⟩ := hx
     simp only [rj] at h
     obtain ⟨r, z, k1, k2, k3, k4⟩ := qU (P := P) cT hf.st h (hf.st.env p)
     obtain ⟨vs, ys, h1, h2, h3, _⟩ := zh hf rs xs fp k3
     refine ⟨r :: vs, z :: ys, ?_, h2, .cons _ _ _ _ k2 h3, ?_, ?_⟩
     ·have hl : (do loadVar t (← asAddr (a.tmps.getD p undef)) : Sem Value).run P w = .ok r w := by
       have fo := hf.st.env p
       revert k1 fo
       generalize a.tmps.getD p undef = u
       intro k1 fo
       unfold aS at h
       split at h
       ·rename_i id off e
        rw [e] at fo
        cases fo
        exact k1
       ·rename_i y e
        rw [e] at fo
        cases fo
        exact k1
       ·exact h.elim
      have YB : (List.mapM (zg a.tmps) rs).run P w = .ok vs w := h1
      simp only [List.mapM_cons, Sem.run_bind, zg] at hl ⊢
      rw [hl]
      simp only [Result.andThen_ok, YB]
      rfl
     ·intro s e; cases e
     ·intro s sz e x hx
      cases hx
      exact k4
theorem St.aW {ev : Nat → Value} {ea : Nat → AV} (h : St A M L w H ev ea O) {v : Value} {x : AV} (hr : aR M L v x) (ob : Option Nat) (hs : bb M w v x ob)
 (h1 : ∀ id j b, ob = some b → O (.c id j) ≠ some b) (h2 : ∀ b, ob = some b → b ∉ L ∧ b < w.heap.size ∧ A b) :
 ∃ O', St A M L w H (fe (fun _ => undef) 0 v) (fe (fun _ => .any) 0 x) O' := by
 have k1 := h.pI (fun _ => undef) (fun _ => .any) (fun _ => .any _) (fun _ _ _ e => by cases e)
 exact ⟨_, k1.put 0 hr ob hs (fun p b hob hp => by
  cases p with
  | t t => cases hp
  | c id j => exact absurd hp (h1 id j b hob)) h2⟩
theorem E0 {x : AV} {m : Nat} (hb : x.a7 m = true) (t : Nat) : (fe (fun _ => AV.any) 0 x t).a7 m = true := by
 simp only [fe]
 split
 ·exact hb
 ·rfl
theorem St.Qd {ev : Nat → Value} {ea : Nat → AV} (h : St A M L w H ev ea O) (A2 : Perm) (YC : A2.wr = A.wr) (n : Nat) {H' : List aa} (hlen : H'.length = min n H.length)
 (hc : ∀ (id : Nat) (o : aa), H'[id]? = some o → o = .dead ∨ (H[id]? = some o ∧ o.a7 (A2.jb H'.length id) = true)) (hb : ∀ t, (ea t).a7 n = true) : ∃ O', St A2 M (L.take n) w H' ev ea O' := by
 let O' : Pos → Option Nat := fun p => match p with | .t t => O (.t t) | .c id j => match H'[id]? with | some .dead => none | some _ => O (.c id j) | none => none
 have hO : ∀ p b, O' p = some b → O p = some b := by
  intro p b hp
  cases p with
  | t t => exact hp
  | c id j =>
    simp only [O'] at hp
    split at hp <;> first | exact hp | cases hp
 have ji : ∀ {α : Type} {l : List α} {i : Nat} {a : α}, (l.take n)[i]? = some a → i < n ∧ l[i]? = some a := by
  intro α l i a hi
  rw [List.getElem?_take] at hi
  split at hi
  ·exact ⟨by assumption, hi⟩
  ·cases hi
 have iE : ∀ b, b ∈ L.take n → b ∈ L := fun b hb => List.mem_of_mem_take hb
 refine ⟨O', { len := by simp [h.len, hlen], nodup := (List.take_sublist n L).nodup h.nodup, env := fun t => (h.env t).fP (hb t), mem := h.mem, obj := ?_, bB := ?_, lt := fun b hb => h.lt b (iE b hb), gH := h.gH, gE := ?_, bY := fun p q b hp hq => h.bY p q b (hO p b hp) (hO q b hq), cc := fun p b hp hm => h.cc p b (hO p b hp) (iE b hm), eT := fun p b hp => h.eT p b (hO p b hp), La := fun b hb => by rw [YC]; exact h.La b (iE b hb), Oa := fun p b hp => by rw [YC]; exact h.Oa p b (hO p b hp), fresh := fun b hb => by rw [YC]; exact h.fresh b hb }⟩
 ·intro id o b ho dU
  obtain ⟨hn, dU⟩ := ji dU
  rcases hc id o ho with rfl | ⟨h1, h2⟩
  ·trivial
  ·refine (h.obj id o b h1 dU).fP (aa.cE ?_ o h2)
   have := A2.ua H'.length id
   omega
 ·intro id o ho
  rcases hc id o ho with rfl | ⟨h1, h2⟩
  ·rfl
  ·exact h2
 ·intro id j
  have dead : ∀ x : Option aa, H'[id]? = x → (x = none ∨ x = some .dead) → bb M w (bJ (L.take n) w id j) (bp H' id j) (O' (.c id j)) := by
   intro x hx OD
   have e2 : bp H' id j = .any := by
    unfold bp
    rw [hx]
    rcases OD with rfl | rfl <;> rfl
   have e3 : O' (.c id j) = none := by
    simp only [O', hx]
    rcases OD with rfl | rfl <;> rfl
   rw [e2, e3]
   rfl
  cases hx : H'[id]? with
  | none => exact dead none hx (.inl rfl)
  | some o =>
    by_cases ed : o = .dead
    ·subst ed; exact dead _ hx (.inr rfl)
    ·rcases hc id o hx with h' | ⟨h1, h2⟩
     ·exact absurd h' ed
     have hl := aM hx
     have e1 : bJ (L.take n) w id j = bJ L w id j := by
      unfold bJ
      rw [List.getElem?_take, if_pos (by omega)]
     have e2 : bp H' id j = bp H id j := by
      unfold bp
      rw [hx, h1]
     have e3 : O' (.c id j) = O (.c id j) := by
      simp only [O', hx]
     rw [e1, e2, e3]
     exact h.gE id j
theorem E1 : ∀ {vs : List Value} {xs ys : List AV}, aJ M L vs xs → xp (xs.map AV.ab) ys → aJ M L vs ys
 | _, _, [], .nil, h => .nil
 | _, _, y :: ys, .nil, h => by simp [xp] at h
 | _, _, [], .cons _ _ _ _ _ _, h => by simp [xp] at h
 | _, _, y :: ys, .cons _ _ _ _ h1 h2, h => by
   simp only [List.map_cons, xp] at h
   exact .cons _ _ _ _ (h1.ab.le h.1) (E1 h2 h.2)
def Marks (A : Perm) (w w2 : World) : Prop := w2.heap.size = w.heap.size ∧ w2.os = w.os ∧ w2.tape = w.tape ∧ w2.output = w.output ∧
 ∀ b, w2.heap[b]? = w.heap[b]? ∨ (A.base ≤ b ∧ ¬ A b ∧ (∃ x, w.heap[b]? = some (.deferred x)) ∧ ∃ x, w2.heap[b]? = some (.deferred x))
theorem Marks.refl (A : Perm) (w : World) : Marks A w w := ⟨rfl, rfl, rfl, rfl, fun b => .inl rfl⟩
theorem Marks.trans {A : Perm} {w w1 w2 : World} (h : Marks A w w1) (k : Marks A w1 w2) : Marks A w w2 := by
 refine ⟨k.1.trans h.1, k.2.1.trans h.2.1, k.2.2.1.trans h.2.2.1, k.2.2.2.1.trans h.2.2.2.1, fun b => ?_⟩
 rcases h.2.2.2.2 b with h1 | ⟨h1, h2, h3, x, h4⟩ <;> rcases k.2.2.2.2 b with k1 | ⟨k1, k2, ⟨y, k3⟩, k4⟩
 ·exact .inl (k1.trans h1)
 ·exact .inr ⟨k1, k2, ⟨y, by rw [← h1]; exact k3⟩, k4⟩
 ·exact .inr ⟨h1, h2, h3, x, by rw [k1]; exact h4⟩
 ·exact .inr ⟨h1, h2, h3, k4⟩
theorem pP {A : Perm} {F : Fence} {m : Nat} {fn : Func} {tmps : Array Value} {R : Ending → World → Prop} : ∀ (ds : List Deferred) {w : World}, Ox A w ds → (∀ w2, Marks A w w2 → LeavesIn F m P fn tmps R [] .returning w2) → LeavesInM F m P fn tmps R ds .returning w
 | [], w, _, h => h w (.refl A w)
 | d :: ds, w, hd, h => by
   obtain ⟨D, rfl, h2, h3, h4⟩ := hd.2.2 _ List.mem_cons_self
   have hm : Marks A w (w.putObj D (.deferred none)) := ⟨World.putObj_size, rfl, rfl, rfl, fun b => by
    by_cases e : b = D
    ·subst e
     exact .inr ⟨h4, h3, ⟨_, h2⟩, _, World.putObj_heap_same (Array.getElem?_eq_some_iff.1 h2).1⟩
    ·exact .inl (World.putObj_heap_other e)⟩
   refine ⟨by simp, .inl ⟨D, _, rfl, run_takeDeferred h2, pP ds ⟨by rw [World.putObj_size]; exact hd.1, (List.nodup_cons.1 hd.2.1).2, fun d' XE => ?_⟩ fun w2 hm2 => h w2 (hm.trans hm2)⟩⟩
   obtain ⟨D', e', k2, k3⟩ := hd.2.2 d' (List.mem_cons_of_mem _ XE)
   refine ⟨D', e', ?_, k3⟩
   rw [World.putObj_heap_other]
   ·exact k2
   ·rintro rfl
    exact (List.nodup_cons.1 hd.2.1).1 (e' ▸ XE)
theorem St.marks {ev : Nat → Value} {ea : Nat → AV} (h : St A M L w H ev ea O) {w2 : World} (hm : Marks A w w2) : St A M L w2 H ev ea O := by
 obtain ⟨h1, _, _, _, h5⟩ := hm
 have same : ∀ b, A b → w2.heap[b]? = w.heap[b]? := fun b hb => by
  rcases h5 b with h | ⟨_, h, _⟩
  ·exact h
  ·exact absurd hb h
 exact { len := h.len, nodup := h.nodup, env := h.env, bB := h.bB, bY := h.bY, cc := h.cc, La := h.La, Oa := h.Oa
         mem := fun b o v hv => by
          have hc := h.mem b o v hv
          rcases h5 b with e | ⟨_, _, ⟨x, e⟩, _⟩
          ·simp only [World.cell?] at hc ⊢; rw [e]; exact hc
          ·simp [World.cell?, e] at hc
         obj := fun id o b ho hb => (h.obj id o b ho hb).mono (Mem.bM M) (List.prefix_refl L) (same b (h.La b (List.mem_of_getElem? hb))) (fun _ => rfl)
         lt := fun b hb => by rw [h1]; exact h.lt b hb
         gH := fun t => (h.gH t).mono fun b hb => ⟨same b (h.Oa _ b hb), fun _ => rfl⟩
         gE := fun id j => by
          have e : bJ L w2 id j = bJ L w id j := by
           unfold bJ
           split
           ·rename_i b hb
            simp only [World.cell?]
            rw [same b (h.La b (List.mem_of_getElem? hb))]
           ·rfl
          rw [e]
          exact (h.gE id j).mono fun b hb => ⟨same b (h.Oa _ b hb), fun _ => rfl⟩
         eT := fun p b hp => by rw [h1]; exact h.eT p b hp
         fresh := fun b hb => h.fresh b (by rw [← h1]; exact hb) }
theorem Ext.marks {A A' : Perm} {M M' : Mem} {w w' w2 : World} (h : Ext A M w M' w') (hm : Marks A' w' w2) (hb : w.heap.size ≤ A'.base) : Ext A M w M' w2 := by
 obtain ⟨h1, h2, h3, h4, h5⟩ := hm
 refine ⟨h.kw, by rw [h1]; exact h.size, h2.trans h.os, h3.trans h.tape, h4.trans h.output, fun b aY hA => ?_, fun b r hr => ?_⟩
 ·obtain ⟨k1, k2⟩ := h.jX b aY hA
  refine ⟨?_, k2⟩
  rcases h5 b with e | ⟨e, _⟩
  ·exact e.trans k1
  ·omega
 ·obtain ⟨r', k1, k2⟩ := h.loops b r hr
  rcases h5 b with e | ⟨_, _, ⟨x, e⟩, _⟩
  ·exact ⟨r', e.trans k1, k2⟩
  ·rw [k1] at e; cases e
theorem uI {lo : Option Nat} {b : Bool} (A1 : Perm → Perm) (C : List aa → Nat → List aa → Prop) {f : FuncId} {fn : Func} {c : Code} {an : AF} {lv : l7} {pl : l8} {ir : IR} {rs : List RX} {args : List AV} {R : AV → List aa → Prop}
 (hf : P.funcs[f]? = some fn) (hcall : ∀ (as : Array Value) (w : World), (callFunc f as).run P w = .ok (.enter f as) w) (hb : fn.body = some c) (hc : comp P an lv pl fn.ntmps c = some ir) (wJ : gT P fn.results.toList = some rs)
 (h1 : ∀ A : Perm, A.entry b H.length → fA lo H.length (A1 A)) (h2 : ∀ A : Perm, (A1 A).wr = A.wr) (h3 : ∀ (A : Perm) {M : Mem} {L : List Nat} {w : World} {ev : Nat → Value} {ea : Nat → AV} {O : Pos → Option Nat}, A.entry b H.length → St A M L w H ev ea O → St (A1 A) M L w H ev ea O)
 (h4 : ∀ (A : Perm) {M : Mem} {L : List Nat} {w : World} {H' : List aa} {ev : Nat → Value} {ea : Nat → AV} {O : Pos → Option Nat} {m : Nat} {H'' : List aa}, A.entry b H.length → H.length ≤ m → H.length ≤ H'.length → C H' m H'' → St (A1 A) M L w H' ev ea O → (∀ t, (ea t).a7 m = true) → ∃ O', St A M (L.take m) w H'' ev ea O')
 (hn : args.length ≤ fn.ntmps) (Rt : Env → List aa → Prop) (hRt : ∀ env H', Rt env H' → kF C H.length rs env H' R) (h : mb ⟨P, lo⟩ H.length ir (bV 0 args) H fun e env H' => (e = .normal ∨ e = .ret) ∧ Rt env H') : kc b P f args H R := by
 refine fun A M L w vs O hA hs T2 => .inl ⟨hcall _ _, callsIn_wide.1 (callsIn_of_wp_marks (F := Fence.wide) (n := 0) hf hb trivial ?_ rfl)⟩
 obtain ⟨A2, DB⟩ : ∃ A2 : Perm, A2 = { A1 A with base := w.heap.size } := ⟨_, rfl⟩
 have a2w : A2.wr = A.wr := by rw [DB]; exact h2 A
 have st12 : ∀ {M : Mem} {L : List Nat} {w : World} {H : List aa} {ev : Nat → Value} {ea : Nat → AV} {O : Pos → Option Nat}, St (A1 A) M L w H ev ea O → St A2 M L w H ev ea O := by
  intro M L w H ev ea O h; subst DB
  exact { len := h.len, nodup := h.nodup, env := h.env, mem := h.mem, obj := h.obj, bB := h.bB, lt := h.lt, gH := h.gH, gE := h.gE, bY := h.bY, cc := h.cc, eT := h.eT, La := h.La, Oa := h.Oa, fresh := h.fresh }
 have st21 : ∀ {M : Mem} {L : List Nat} {w : World} {H : List aa} {ev : Nat → Value} {ea : Nat → AV} {O : Pos → Option Nat}, St A2 M L w H ev ea O → St (A1 A) M L w H ev ea O := by
  intro M L w H ev ea O h; subst DB
  exact { len := h.len, nodup := h.nodup, env := h.env, mem := h.mem, obj := h.obj, bB := h.bB, lt := h.lt, gH := h.gH, gE := h.gE, bY := h.bY, cc := h.cc, eT := h.eT, La := h.La, Oa := h.Oa, fresh := h.fresh }
 have bP := st12 (h3 A hA T2)
 have hfits : fA lo H.length A2 := by rw [DB]; exact h1 A hA
 have Lc : L.length = H.length := T2.len
 have CX : Fr A2 fn.ntmps M L w H (bV 0 args) O { tmps := vs ++ Array.replicate (fn.ntmps - vs.size) undef, defers := [] } := by
  refine ⟨bP.congr ?_ ?_, by simp; omega, ⟨by rw [DB]; exact Nat.le_refl _, List.nodup_nil, fun d h => by cases h⟩⟩
  ·intro t
   simp only [Array.getD_eq_getD_getElem?]
   by_cases ht : t < vs.size
   ·rw [Array.getElem?_append_left ht]
   ·rw [Array.getElem?_append_right (by omega), Array.getElem?_eq_none (xs := vs) (by omega), Array.getElem?_replicate]
    split <;> rfl
  ·intro t
   rw [lE]; simp
 rw [← bP.len] at h hfits
 refine Go.wpIn_mono (DA (ro := none) (L0 := L) c ir hc hfits (fun l e => by cases e) h CX (List.prefix_refl L)) ?_
 rintro e a w1 ⟨A', M', L', H', env, O', hle, ⟨he, Gv⟩, LR, hext1, hL⟩
 have base : A'.base = w.heap.size := by rw [hle.2.2, DB]
 have done : (∀ w', Marks A' w1 w' → LeavesIn Fence.wide 0 P fn a.tmps (fun e w' => ∃ v r H' M' L' O', e = .returned v ∧ R r H' ∧ St A M' L' w' H' (fe (fun _ => undef) 0 v) (fe (fun _ => .any) 0 r) O' ∧ Ext A M w M' w' ∧ L <+: L') [] .returning w') →
  bodyPostM Fence.wide 0 P fn (fun e w' => ∃ v r H' M' L' O', e = .returned v ∧ R r H' ∧ St A M' L' w' H' (fe (fun _ => undef) 0 v) (fe (fun _ => .any) 0 r) O' ∧ Ext A M w M' w' ∧ L <+: L') e a w1 := by
  intro hd
  rcases he with rfl | rfl <;> exact pP _ LR.defers hd
 refine done fun w' hm => ?_
 have zi : Fr A2 fn.ntmps M' L' w' H' env O' { a with defers := [] } :=
  ⟨(LR.st.marks hm).le hle, LR.size, ⟨by rw [hm.1, ← hle.2.2]; exact LR.defers.1, List.nodup_nil, fun d h => by cases h⟩⟩
 have cq : Ext A M w M' w' := by
  have := hext1.marks hm (Nat.le_of_eq base.symm)
  exact ⟨this.kw, this.size, this.os, this.tape, this.output, fun b hb hA => this.jX b hb (by rw [a2w]; exact hA), this.loops⟩
 have hlen2 : H.length ≤ H'.length := by have := hL.length_le; rw [Lc, zi.st.len] at this; exact this
 have goal : ∃ v, (results fn a.tmps).run P w' = .ok v w' ∧ ∃ v' r H'' M'' L'' O'', Ending.returned v = .returned v' ∧ R r H'' ∧ St A M'' L'' w' H'' (fe (fun _ => undef) 0 v') (fe (fun _ => .any) 0 r) O'' ∧ Ext A M w M'' w' ∧ L <+: L'' := by
  replace Gv := hRt _ _ Gv
  unfold kF at Gv
  obtain ⟨us, xs, k1, ⟨m, H2, hm, hC, k2⟩, k3, k4, k5⟩ := zh (P := P) zi _ _ wJ Gv
  have k8 : L <+: L'.take m := by
   obtain ⟨r, rfl⟩ := hL
   exact ⟨r.take (m - L.length), by rw [List.take_append, List.take_of_length_le (show L.length ≤ m by omega)]⟩
  have bG := Bi k1
  split at k2
  ·rename_i x
   obtain ⟨r, hle, hb, hR⟩ := k2
   cases k3 with
   | cons v _ _ _ hv ht =>
   cases ht
   refine ⟨v, by simpa using bG, v, r, H2, M', L'.take m, ?_⟩
   have tb : ∃ ob, bb M' w' v x ob ∧ (∀ id j b, ob = some b → O' (.c id j) ≠ some b) ∧ (∀ b, ob = some b → b ∉ L' ∧ b < w'.heap.size ∧ A2 b) := by
    match rs, wJ, k4, k5 with
    | [], wJ, _, _ =>
      unfold gT at wJ
      split at wJ
      ·rename_i e
       rw [e] at k1
       simp at k1
      ·split at wJ <;> cases wJ
    | [.t s], _, k4, _ =>
      obtain ⟨e1, e2⟩ := k4 s rfl
      cases e1; cases e2
      refine ⟨O' (.t s), zi.st.gH s, fun id j b hb hc => ?_, fun b hb => ⟨zi.st.cc _ b hb, zi.st.eT _ b hb, zi.st.Oa _ b hb⟩⟩
      exact absurd (zi.st.bY _ _ b hb hc) (by intro e; cases e)
    | [.c s sz], _, _, k5 =>
      exact ⟨none, bb.free (k5 s sz rfl x rfl), (fun _ _ _ e => by cases e), (fun _ e => by cases e)⟩
    | r1 :: r2 :: rs, wJ, _, _ =>
      unfold gT at wJ
      split at wJ
      ·cases wJ
      ·split at wJ <;> cases wJ
       rename_i h1 h2
       unfold gT at h2
       split at h2
       ·cases h2
       ·rename_i e
        rw [e] at k1
        simp only [List.mapM_cons, Sem.run_bind] at k1
        revert k1
        generalize HT : (zg a.tmps _).run P w' = g1
        cases g1 <;> simp
        generalize hg2 : (zg a.tmps _).run P _ = g2
        cases g2 <;> simp
        generalize hg3 : (List.mapM (zg a.tmps) _).run P _ = g3
        cases g3 <;> simp
   obtain ⟨ob, o1, o2, o3⟩ := tb
   obtain ⟨ob', p1, p2⟩ := o1.le hv hle
   obtain ⟨O'', lm⟩ := zi.st.aW (hv.le hle) ob' p1 (fun id j b hb => by
    rcases p2 with rfl | rfl
    ·cases hb
    ·exact o2 id j b hb) (fun b hb => by
    rcases p2 with rfl | rfl
    ·cases hb
    ·exact o3 b hb)
   obtain ⟨O3, ID⟩ := h4 A hA (by omega) hlen2 hC (st21 lm) (E0 hb)
   exact ⟨O3, rfl, hR, ID, cq, k8⟩
  ·rename_i dS
   obtain ⟨ys, hle, hb, hR⟩ := k2
   have hlen : us.toArray.size ≠ 1 := by
    have := k3.length
    intro e
    simp at e
    rw [e] at this
    match xs, this with
    | [x], _ => exact dS x rfl
   rw [dif_neg hlen] at bG
   refine ⟨.tuple us.toArray, bG, .tuple us.toArray, .tuple ys, H2, M', L'.take m, ?_⟩
   obtain ⟨O'', lm⟩ := zi.st.aW (.tuple _ _ (E1 k3 hle)) none (bb.free (by intro _ _ e; cases e)) (fun _ _ _ e => by cases e) (fun _ e => by cases e)
   obtain ⟨O3, ID⟩ := h4 A hA (by omega) hlen2 hC (st21 lm) (E0 (x := .tuple ys) hb)
   exact ⟨O3, rfl, hR, ID, cq, k8⟩
 exact goal
theorem oX {A : Perm} {k : Nat} (h : A.entry false k) : fA none k A := ⟨h.1, fun id bm => by rw [h.2 id bm]; rfl⟩
theorem Gw {f : FuncId} {fn : Func} {c : Code} {an : AF} {lv : l7} {pl : l8} {ir : IR} {rs : List RX} {args : List AV} {R : AV → List aa → Prop}
 (hf : P.funcs[f]? = some fn) (hcall : ∀ (as : Array Value) (w : World), (callFunc f as).run P w = .ok (.enter f as) w) (hb : fn.body = some c) (hc : comp P an lv pl fn.ntmps c = some ir) (wJ : gT P fn.results.toList = some rs)
 (hn : args.length ≤ fn.ntmps) (h : mb P H.length ir (bV 0 args) H fun e env H' => (e = .normal ∨ e = .ret) ∧ bT H.length rs env H' R) : aq P f args H R := by
 refine uI (lo := none) (b := false) (fun A => A) (fun H m H' => H' = H.take m) hf hcall hb hc wJ (fun A => oX) (fun A => rfl) (fun A _ _ _ _ _ _ _ h => h) ?_ hn (fun env H' => bT H.length rs env H' R) (fun env H' => Qc) h
 intro A M L w H' ev ea O m H'' hA hm hl e bP Ly
 subst e
 exact bP.cut m (fun id o => (oX hA).closed hm bP id o) Ly
def mW (k : Nat) (A : Perm) : Perm where
 wr := A.wr
 top := fun id => if id < k then A.top id else none
 ok := fun id n h => by
  split at h
  ·exact A.ok id n h
  ·cases h
theorem Bj {A : Perm} {k : Nat} {b : Bool} (h : A.entry b k) : fA (some k) k (mW k A) :=
 ⟨fun id bm => by obtain ⟨m, h1, h2⟩ := h.1 id bm; exact ⟨m, h1, by simp only [mW, if_pos bm]; exact h2⟩, rfl, fun id bm => by simp only [mW]; rw [if_neg (by omega)]⟩
def mc (n0 : Nat) (H : List aa) (m : Nat) (H' : List aa) : Prop :=
 H'.length = min m H.length ∧ ∀ (id : Nat) (o : aa), H'[id]? = some o → o = .dead ∨ (H[id]? = some o ∧ (n0 ≤ id → o.a7 (id + 1) = true))
theorem DC {f : FuncId} {fn : Func} {c : Code} {an : AF} {lv : l7} {pl : l8} {ir : IR} {rs : List RX} {args : List AV} {R : AV → List aa → Prop}
 (hf : P.funcs[f]? = some fn) (hcall : ∀ (as : Array Value) (w : World), (callFunc f as).run P w = .ok (.enter f as) w) (hb : fn.body = some c) (hc : comp P an lv pl fn.ntmps c = some ir) (wJ : gT P fn.results.toList = some rs)
 (hn : args.length ≤ fn.ntmps) (h : mb ⟨P, some H.length⟩ H.length ir (bV 0 args) H fun e env H' => (e = .normal ∨ e = .ret) ∧ kF (mc H.length) H.length rs env H' R) : aq P f args H R := by
 refine uI (lo := some H.length) (b := false) (mW H.length) (mc H.length) hf hcall hb hc wJ (fun A hA => Bj hA) (fun A => rfl) (fun A M L w ev ea O hA bP => ?_) ?_ hn (fun env H' => kF (mc H.length) H.length rs env H' R) (fun env H' h => h) h
 ·exact { len := bP.len, nodup := bP.nodup, env := bP.env, mem := bP.mem, obj := bP.obj, lt := bP.lt, gH := bP.gH, gE := bP.gE, bY := bP.bY, cc := bP.cc, eT := bP.eT, La := bP.La, Oa := bP.Oa, fresh := bP.fresh
          bB := fun id o ho => by
           have := bP.bB id o ho
           have e : (mW H.length A).jb H.length id = A.jb H.length id := by unfold Perm.jb; simp only [mW, if_pos (aM ho)]
           rw [e]; exact this }
 ·intro A M L w H' ev ea O m H'' hA hm hl hC bP Ly
  obtain ⟨hlen, hC⟩ := hC
  refine bP.Qd A rfl m hlen (fun id o ho => ?_) Ly
  rcases hC id o ho with h' | ⟨h1, h2⟩
  ·exact .inl h'
  ·refine .inr ⟨h1, ?_⟩
   by_cases bm : id < H.length
   ·obtain ⟨k, hk, ek⟩ := hA.1 id bm
    have := bP.bB id o h1
    have e1 : (mW H.length A).jb H'.length id = min k H'.length := by unfold Perm.jb; simp only [mW, if_pos bm, ek]
    have e2 : A.jb H''.length id = min k H''.length := by unfold Perm.jb; simp only [ek]
    rw [e1] at this
    rw [e2]
    exact aa.cE (by omega) o this
   ·have e2 : A.jb H''.length id = min (id + 1) H''.length := by unfold Perm.jb; rw [hA.2 id (by omega)]; rfl
    have := aM ho
    rw [e2]
    exact aa.cE (by omega) o (h2 (by omega))
end
end Go.aK
end
