/- Part 2 of 18 of the proof. -/
import Derived.Test.YtljchnfgjdjobaaGreatRaa
import Derived.RangeFuncNested
set_option linter.unusedVariables false
set_option linter.unusedSimpArgs false
set_option linter.defProp false
set_option linter.unusedSectionVars false
section
namespace Go.aK
open Go
def Perm.entry (A : Perm) (loose : Bool) (n : Nat) : Prop := (∀ id, id < n → ∃ m, m ≤ n ∧ A.top id = some m) ∧ ∀ id, n ≤ id → A.top id = if loose = true then none else some (id + 1)
def ku (loose : Bool) (P : Program) (f : FuncId) (args : List AV) (H : List aa) (R : AV → List aa → Prop) : Prop :=
 ∀ A M L w (vs : Array Value) O, A.entry loose H.length → vs.size = args.length → St A M L w H (fun t => vs.getD t undef) (fun t => args.getD t .any) O →
  ((callFunc f vs).run P w = .ok (.enter f vs) w ∧ Calls P f vs w fun e w' => ∃ v r H' M' L' O', e = .returned v ∧ R r H' ∧ St A M' L' w' H' (fg (fun _ => undef) 0 v) (fg (fun _ => .any) 0 r) O' ∧ Ext A M w M' w' ∧ L <+: L') ∨
  (∃ v w' r H' M' L' O', (callFunc f vs).run P w = .ok (.value v) w' ∧ R r H' ∧ St A M' L' w' H' (fg (fun _ => undef) 0 v) (fg (fun _ => .any) 0 r) O' ∧ Ext A M w M' w' ∧ L <+: L')
def aq (P : Program) (f : FuncId) (args : List AV) (H : List aa) (R : AV → List aa → Prop) : Prop := ku false P f args H R
def tC (P : Program) (f : FuncId) (args : List AV) (H : List aa) (R : AV → List aa → Prop) : Prop := ku true P f args H R
theorem ku.mono {b : Bool} {P : Program} {f : FuncId} {args : List AV} {H : List aa} {R R' : AV → List aa → Prop} (h : ku b P f args H R) (hr : ∀ r H', R r H' → R' r H') : ku b P f args H R' := by
 intro A M L w vs O hA hs bQ
 rcases h A M L w vs O hA hs bQ with ⟨h1, h2⟩ | ⟨v, w', r, H', M', L', O', h1, h2, h3⟩
 ·exact .inl ⟨h1, h2.mono fun e w' ⟨v, r, H', M', L', O', h1, h2, h3⟩ => ⟨v, r, H', M', L', O', h1, hr _ _ h2, h3⟩⟩
 ·exact .inr ⟨v, w', r, H', M', L', O', h1, hr _ _ h2, h3⟩
theorem aq.mono {P : Program} {f : FuncId} {args : List AV} {H : List aa} {R R' : AV → List aa → Prop} (h : aq P f args H R) (hr : ∀ r H', R r H' → R' r H') : aq P f args H R' := ku.mono h hr
theorem tC.mono {P : Program} {f : FuncId} {args : List AV} {H : List aa} {R R' : AV → List aa → Prop} (h : tC P f args H R) (hr : ∀ r H', R r H' → R' r H') : tC P f args H R' := ku.mono h hr
theorem aq.body {P : Program} {f : FuncId} {args : List AV} {H : List aa} {R : AV → List aa → Prop} (h : aq P f args H R) (he : ∀ (as : Array Value) (w : World), (callFunc f as).run P w = .ok (.enter f as) w)
 {A : Perm} {M : Mem} {L : List Nat} {w : World} {vs : Array Value} {O : Pos → Option Nat} (hA : A.entry false H.length) (hs : vs.size = args.length) (bQ : St A M L w H (fun t => vs.getD t undef) (fun t => args.getD t .any) O) :
 Calls P f vs w fun e w' => ∃ v r H' M' L' O', e = .returned v ∧ R r H' ∧ St A M' L' w' H' (fg (fun _ => undef) 0 v) (fg (fun _ => .any) 0 r) O' ∧ Ext A M w M' w' ∧ L <+: L' := by
 rcases h A M L w vs O hA hs bQ with ⟨h1, h2⟩ | ⟨v, w', r, H', M', L', O', h1, h2, h3⟩
 ·exact h2
 ·rw [he] at h1; cases h1
structure Px where
 prog : Program
 lo : Option Nat
instance : Coe Program Px := ⟨fun P => ⟨P, none⟩⟩
def dZ (P : Px) (f : FuncId) (args : List AV) (H : List aa) (R : AV → List aa → Prop) : Prop :=
 match P.lo with
 | none => aq P.prog f args H R
 | some l => aq P.prog f args H R ∨ (l ≤ H.length ∧ tC P.prog f args H R)
theorem dZ.of {P : Px} {f : FuncId} {args : List AV} {H : List aa} {R : AV → List aa → Prop} (h : aq P.prog f args H R) : dZ P f args H R := by
 unfold dZ; split
 ·exact h
 ·exact .inl h
theorem dZ.mono {P : Px} {f : FuncId} {args : List AV} {H : List aa} {R R' : AV → List aa → Prop} (h : dZ P f args H R) (hr : ∀ r H', R r H' → R' r H') : dZ P f args H R' := by
 unfold dZ at *; split at h
 ·exact h.mono hr
 ·rcases h with h | ⟨h1, h2⟩
  ·exact .inl (h.mono hr)
  ·exact .inr ⟨h1, h2.mono hr⟩
def fe (loose : Bool) (P : Program) (id : Nat) (args : List AV) (H : List aa) (R : AV → List aa → Prop) : Prop :=
 ∀ A M L w (vs : Array Value) O b, A.entry loose H.length → vs.size = args.length → L[id]? = some b → St A M L w H (fun t => vs.getD t undef) (fun t => args.getD t .any) O →
  ∃ fn tmps as bd, (Instr.yield b vs).run P w = .ok (.round b fn tmps as bd) w ∧ RoundIn Fence.wide 0 P b fn tmps as bd w fun e w' =>
   ∃ v r H' M' L' O', e = .returned v ∧ R r H' ∧ St A M' L' w' H' (fg (fun _ => undef) 0 v) (fg (fun _ => .any) 0 r) O' ∧ Ext A M w M' w' ∧ L <+: L'
theorem fe.mono {b : Bool} {P : Program} {id : Nat} {args : List AV} {H : List aa} {R R' : AV → List aa → Prop} (h : fe b P id args H R) (hr : ∀ r H', R r H' → R' r H') : fe b P id args H R' := by
 intro A M L w vs O c hA hs hc bQ
 obtain ⟨fn, tmps, as, bd, h1, h2⟩ := h A M L w vs O c hA hs hc bQ
 exact ⟨fn, tmps, as, bd, h1, h2.mono fun e w' ⟨v, r, H', M', L', O', h1, h2, h3⟩ => ⟨v, r, H', M', L', O', h1, hr _ _ h2, h3⟩⟩
def jz (P : Program) (id : Nat) (args : List AV) (H : List aa) (R : AV → List aa → Prop) : Prop := fe false P id args H R
def LY (P : Program) (id : Nat) (args : List AV) (H : List aa) (R : AV → List aa → Prop) : Prop := fe true P id args H R
def lD (P : Px) (id : Nat) (args : List AV) (H : List aa) (R : AV → List aa → Prop) : Prop :=
 match P.lo with
 | none => jz P.prog id args H R
 | some l => jz P.prog id args H R ∨ (l ≤ H.length ∧ LY P.prog id args H R)
theorem lD.mono {P : Px} {id : Nat} {args : List AV} {H : List aa} {R R' : AV → List aa → Prop} (h : lD P id args H R) (hr : ∀ r H', R r H' → R' r H') : lD P id args H R' := by
 unfold lD at *; split at h
 ·exact fe.mono h hr
 ·rcases h with h | ⟨h1, h2⟩
  ·exact .inl (fe.mono h hr)
  ·exact .inr ⟨h1, fe.mono h2 hr⟩
def xq : List AV → List AV → Prop
 | [], [] => True
 | x :: xs, y :: ys => x.le y ∧ xq xs ys
 | _, _ => False
def aG (env : Env) (pass : Option Nat) : Nat → List IX → List AV
 | _, [] => []
 | j, .t s :: xs => (if pass = some j then get env s else (get env s).ab) :: aG env pass (j + 1) xs
 | j, .c v :: xs => v.ab :: aG env pass (j + 1) xs
def bc (args : List IX) (pass : Option Nat) : Option Nat :=
 match pass with
 | some j => match args[j]? with
   | some (.t s) => some s
   | _ => none
 | none => none
def cF (env : Env) (s : Option Nat) : Env := match s with | some d => (d, (get env d).ab) :: env | none => env
def oF (P : Px) (f : AV) (args : List IX) (pass : Option Nat) (env : Env) (H : List aa) (K : AV → Env → List aa → Prop) : Prop :=
 match f with
 | .fn (.func g) first cap => ∃ bP, xq (first.map AV.ab ++ aG env pass 0 args ++ cap.map AV.ab) bP ∧ dZ P g bP H (fun r H' => K r (cF env (bc args pass)) H')
 | .mM id => ∃ bP, xq (aG env pass 0 args) bP ∧ lD P id bP H (fun r H' => K r (cF env (bc args pass)) H')
 | _ => False
def aL (kd : Nat) (x : AV) : Prop :=
 match kd, x with
 | 0, .str _ => True
 | 1, .ah => True
 | 1, .ap _ _ => True
 | 1, .bf _ _ _ _ => True
 | 1, .ou => True
 | 2, .iJ => True
 | 2, .map _ => True
 | _, _ => False
def gv (env : Env) (x : Option IX) : Option AV := x.map (al env)
def bp (P : Px) (o : bX) (dst : Option Nat) (env : Env) (H : List aa) (K : Env → List aa → Prop) : Prop :=
 match o with
 | .set x take => match dst with | some d => K (s7 env d x take) H | none => K env H
 | .pick c a b => eL (al env c) fun q => (q = true → K (put dst (al env a).ab env) H) ∧ (q = false → K (put dst (al env b).ab env) H)
 | .bin op x y => cW op (al env x) (al env y) fun z => K (put dst z env) H
 | .shift op x y => dM op (al env x) (al env y) fun z => K (put dst z env) H
 | .gU neq x y => cP neq (al env x) (al env y) fun z => K (put dst z env) H
 | .iZ kd neq x => de kd neq (al env x) fun z => K (put dst z env) H
 | .un op x => yH op (al env x) fun z => K (put dst z env) H
 | .box x => (al env x).val = true ∧ aj (H.length + 1) ((al env x).cells.map AV.ab) = true ∧ K (put dst (.ptr H.length 0) env) (H ++ [.cells ((al env x).cells.map AV.ab)])
 | .lq x => (al env x).val = true ∧ K (put dst (.ai (al env x)) env) H
 | .qW m x => (al env x).val = true ∧ (al env x).cells.length = m ∧ (al env x).cells.all AV.one = true ∧ K (put dst (.ai (al env x)) env) H
 | .alloc z => aj (H.length + 1) (z.cells.map AV.ab) = true ∧ K (put dst (.ptr H.length 0) env) (H ++ [.cells (z.cells.map AV.ab)])
 | .build z ps => cE z.cells (ps.map fun q => (q.1, q.2.1, al env q.2.2)) fun v => K (put dst v env) H
 | .buildSlice own esz z len ps => bh (List.replicate len (aQ z)) esz (ps.map fun q => (q.1, al env q.2)) fun xs => K (put dst (.ap own xs) env) H
 | .load sz a => aS sz (al env a) H fun z => K (put dst z env) H
 | .sk sz esz a => aS sz (al env a) H fun z => fh esz z H fun y H' => K (put dst y env) H'
 | .eu a => match dst, al env a with
   | some d, .ptr id off => match H[id]? with
     | some (.cells es) => off < es.length ∧ K ((d, es.getD off .any) :: env) (H.set id (.cells (es.set off (es.getD off .any).ab)))
     | _ => False
   | _, _ => False
 | .store m a x => gW m (al env a) (al env x) H fun H' => K env H'
 | .mO m a x => match P.lo with | some l => gn l m (al env a) (al env x) H fun H' => K env H' | none => False
 | .eX a s => dN (al env a) (get env s) H fun H' => K ((s, (get env s).ab) :: env) H'
 | .nilCheck x => bS (al env x) fun z => K (put dst z env) H
 | .fieldAddr off sz x => ak off sz (al env x) fun z => K (put dst z env) H
 | .field off sz x => eM off sz (al env x) fun z => K (put dst z env) H
 | .indexAddr esz x i => (∀ own xs, al env x = .ap own xs → ∀ z ∈ xs, z.cells.length = esz) ∧ ay esz (al env x) (al env i) fun z => K (put dst z env) H
 | .da x i => bH (al env x) (al env i) fun z => K (put dst z env) H
 | .dK n x i => bR n (al env x) (al env i) fun z => K (put dst z env) H
 | .oS esz x lo hi mx => (∀ own xs, al env x = .ap own xs → ∀ z ∈ xs, z.cells.length = esz) ∧ ft esz (al env x) (gv env lo) (gv env hi) (gv env mx) fun z => z = .ap esz [] ∧ K (put dst .ou env) H
 | .slice esz x lo hi mx => bA esz (al env x) (gv env lo) (gv env hi) (gv env mx) fun z => K (put dst z env) H
 | .copy esz d s => jw esz (al env d) (al env s) H fun z H' => K (put dst z env) H'
 | .dL x lo hi => b7 (al env x) (gv env lo) (gv env hi) fun z => K (put dst z env) H
 | .len kd x => aL kd (al env x) ∧ eY (al env x) H fun z => K (put dst z env) H
 | .append esz bytes s x => bE esz bytes (al env s) (al env x) fun zs => K (put dst (.ap esz zs) (cF env s.slot)) H
 | .sl esz bytes z n => fQ esz bytes z (al env n) H fun v H' => K (put dst v env) H'
 | .mP esz bytes n => iO esz bytes (al env n) fun v => K (put dst v env) H
 | .mQ => K (put dst (.map H.length) env) (H ++ [.map []])
 | .lookup kd z m k ok => ch kd z (al env m) (al env k) ok H fun v => K (put dst v env) H
 | .kj kd m k x => fc kd (al env m) (al env k) (al env x) H fun H' => K env H'
 | .fn f first cap => K (put dst (.fn f (first.map fun x => (al env x).ab) (cap.map fun x => (al env x).ab)) env) H
 | .extract x i => bC (al env x) i fun z => K (put dst z env) H
 | .call f args pass => oF P (al env f) args pass env H fun r aC H' => K (put dst r aC) H'
 | .eG k x => cr k (al env x) fun z => K (put dst z env) H
 | .gl x => fA (al env x) fun z => K (put dst z env) H
 | .bytesOf x => eR 1 (al env x) fun z => K (put dst z env) H
 | .strOf x => jv (al env x) fun z => K (put dst z env) H
 | .mx big a b => wz big (al env a) (al env b) fun z => K (put dst z env) H
 | .yF esz x => fh esz (al env x) H fun z H' => K (put dst z env) H'
 | .AJ esz z len ps => bh (List.replicate len (aQ z)) esz (ps.map fun q => (q.1, al env q.2)) fun xs => sx xs H fun v H' => K (put dst v env) H'
 | .jb esz bytes z s x => cJ esz bytes z (al env s) (al env x) H fun v H' => K (put dst v env) H'
 | .mR esz z x => ig esz z (al env x) H fun H' => K (put dst (.tuple []) env) H'
 | .never => False
def cS (P : Program) (e : TypeId) : Option (Nat × AV) :=
 match dD P e, fz P e with
 | some esz, some z => if 0 < esz ∧ z.cells.length = esz ∧ z.val = true then some (esz, z) else none
 | _, _ => none
def yW (P : Program) (e : TypeId) : Option Nat := (P.info? e).map (·.bytes)
def Dq (z : AV) : Bool := z.cells.all fun y => match y with | .ap own _ => own == 0 | _ => true
def jX : Option Operand → Option (Option IX)
 | none => some none
 | some x => (aP x).map some
def IE (x y : Operand) : Bool := match x, y with | .tmp a, .tmp b => a == b | .const (.int .i64 a), .const (.int .i64 b) => a == b | _, _ => false
def cn (P : Program) (o : Oper) (fl : Nat) : Option bX :=
 match o.op with
 | .move x | .assign x => (aP x).map fun i => .set i (fl == 1)
 | .pick c a b => match aP c, aP a, aP b with
   | some c, some a, some b => some (.pick c a b)
   | _, _, _ => none
 | .binOp op t x y _ => match aP x, aP y with
   | some i, some j => match op with
     | .shl | .shr => some (.shift op i j)
     | .eql | .neq => match P.underlying t with
       | some .bool => some (.gU (op matches .neq) i j)
       | some (.int _) | some .string => some (.bin op i j)
       | some (.slice _) => match y with | .const (.slice none 0 0) => some (.iZ 0 (op matches .neq) i) | _ => none
       | some (.pointer _) => match y with | .const (.pointer none) => some (.iZ 1 (op matches .neq) i) | _ => none
       | some (.map _ _) => match y with | .const (.map none) => some (.iZ 2 (op matches .neq) i) | _ => none
       | some (.func _ _ _) => match y with | .const .nilFunc => some (.iZ 3 (op matches .neq) i) | _ => none
       | _ => none
     | _ => some (.bin op i j)
   | _, _ => none
 | .unOp op _ x => (aP x).map fun i => .un op i
 | .box _ x => (aP x).map fun i => if fl = 1 then .lq i else .box i
 | .alloc e => match fz P e with
   | some z => if z.val = true then some (.alloc z) else none
   | none => none
 | .build t ps => match De P t with
   | some (z, places) => match fa places ps.toList with
     | some qs => if z.val = true then some (.build z qs) else none
     | none => none
   | none => none
 | .buildSlice t len ps => match P.underlying t with
   | some (.slice e) => match cS P e, jr ps.toList with
     | some (esz, z), some qs => if len * esz ≤ 16777216 then some (if fl = 2 then .AJ esz z len qs else .buildSlice (if fl = 1 then esz else 0) esz z len qs) else none
     | _, _ => none
   | _ => none
 | .load t a => match HY P t, aP a with
   | some sz, some i => if fl = 1 then (if sz = none then some (.eu i) else none) else if 3000 < fl then some (.sk sz (fl - 3000) i) else some (.load sz i)
   | _, _ => none
 | .store t a x => match dD P t, aP a, aP x with
   | some m, some i, some j => if fl = 1 then (match j with | .t s => if m = 1 then some (.eX i s) else none | _ => none) else if fl = 2 then some (.mO m i j) else some (.store m i j)
   | _, _, _ => none
 | .nilCheck x => (aP x).map .nilCheck
 | .fieldAddr s x f => match qY P s f, aP x with
   | some (off, sz), some i => some (.fieldAddr off sz i)
   | _, _ => none
 | .field s x f => match qY P s f, aP x with
   | some (off, sz), some i => some (.field off sz i)
   | _, _ => none
 | .indexAddr t x i => match P.underlying t, aP x, aP i with
   | some (.slice e), some j, some k => (dD P e).map fun esz => .indexAddr esz j k
   | _, _, _ => none
 | .index t x i => match P.underlying t, aP x, aP i with
   | some .string, some j, some k => some (.da j k)
   | some (.array n e), some j, some k => if HY P e = some none then some (.dK n j k) else none
   | _, _, _ => none
 | .slice t x lo hi mx => match P.underlying t, aP x, jX lo, jX hi, jX mx with
   | some (.slice e), some i, some l, some h, some m => match dD P e with
     | some esz => if 0 < esz then some (if fl = 4 then .oS esz i l h m else .slice esz i l h m) else none
     | none => none
   | some .string, some i, some l, some h, some none => some (.dL i l h)
   | _, _, _, _, _ => none
 | .makeSlice t l c => match P.underlying t, aP c with
   | some (.slice e), some k => match cS P e, yW P e with
     | some (esz, z), some bytes => if 0 < bytes ∧ Dq z = true then (match l with
        | .const (.int .i64 0) => some (.mP esz bytes k)
        | _ => if IE l c = true then some (.sl esz bytes z k) else none) else none
     | _, _ => none
   | _, _ => none
 | .makeMap _ none => some .mQ
 | .lookup t m k ok => match P.underlying t, aP m, aP k with
   | some (.map kt et), some i, some j => match nN P kt, fz P et with
     | some kd, some z => some (.lookup kd z i j ok)
     | _, _ => none
   | _, _, _ => none
 | .mapUpdate t m k x => match P.underlying t, aP m, aP k, aP x with
   | some (.map kt _), some i, some j, some y => (nN P kt).map fun kd => .kj kd i j y
   | _, _, _, _ => none
 | .makeFunc f first cap => match fp first.toList, fp cap.toList with
   | some i, some j => some (.fn f i j)
   | _, _ => none
 | .extract x i => (aP x).map fun j => .extract j i
 | .convert src dst x => match P.underlying src, P.underlying dst, aP x with
   | some (.int _), some (.int k), some i => some (.eG k i)
   | some .string, some .string, some i => some (.gl i)
   | some .string, some (.slice e), some i => match P.underlying e with
     | some (.int .u8) => some (.bytesOf i)
     | _ => none
   | some (.slice e), some .string, some i => match P.underlying e with
     | some (.int .u8) => some (.strOf i)
     | _ => none
   | _, _, _ => none
 | .call c => match c.callee with
   | .value f => match aP f, fp c.args.toList with
     | some i, some js => some (.call i js (if fl = 0 then none else some (fl - 1)))
     | _, _ => none
   | .builtin .len => match c.args.toList, c.argTypes.toList with
     | [x], [t] => match P.underlying t, aP x with
       | some .string, some i => some (.len 0 i)
       | some (.slice _), some i => some (.len 1 i)
       | some (.map _ _), some i => some (.len 2 i)
       | _, _ => none
     | _, _ => none
   | .builtin .append => match c.args.toList, c.argTypes.toList with
     | [s, x], [t, t'] => if t = t' then (match P.underlying t, aP s, aP x with
        | some (.slice e), some i, some j => match cS P e, yW P e with
          | some (esz, z), some bytes => if 0 < bytes then (if fl = 2 then (if Dq z = true then some (.jb esz bytes z i j) else none) else some (.append esz bytes i j)) else none
          | _, _ => none
        | _, _, _ => none) else none
     | _, _ => none
   | .builtin .max => match c.args.toList with
     | [x, y] => match aP x, aP y with
       | some i, some j => some (.mx true i j)
       | _, _ => none
     | _ => none
   | .builtin .min => match c.args.toList with
     | [x, y] => match aP x, aP y with
       | some i, some j => some (.mx false i j)
       | _, _ => none
     | _ => none
   | _ => none
 | _ => none
def pN (P : Program) (o : Oper) : bX :=
 match o.op with
 | .call c => match c.callee with
   | .builtin .copy => match c.args.toList, c.argTypes.toList with
     | [s, x], [t, _] => match P.underlying t, aP s, aP x with
        | some (.slice e), some i, some j => match dD P e with
          | some esz => .copy esz i j
          | none => .never
        | _, _, _ => .never
     | _, _ => .never
   | .builtin .clear => match c.args.toList, c.argTypes.toList with
     | [s], [t] => match P.underlying t, aP s with
        | some (.slice e), some i => match cS P e with
          | some (esz, z) => .mR esz z i
          | none => .never
        | _, _ => .never
     | _, _ => .never
   | _ => .never
 | _ => .never
def mX (P : Program) (o : Oper) : bX :=
 match o.op with
 | .move x | .assign x => match aP x, P.underlying o.type with
   | some i, some (.slice e) => match dD P e with
     | some esz => .yF esz i
     | none => .never
   | _, _ => .never
 | _ => .never
def kL (esz : Nat) (o : Oper) : bX :=
 match o.op with
 | .move x | .assign x => match aP x with
   | some i => .yF esz i
   | none => .never
 | _ => .never
def LZ (o : Oper) : Bool := match o.op with | .load _ _ => false | _ => true
def A6 (P : Program) (o : Oper) (fl : Nat) : bX := if fl = 3000 then mX P o else if 3000 < fl ∧ LZ o = true then kL (fl - 3000) o else (cn P o fl).getD (pN P o)
end Go.aK
end
section
namespace Go.aK
open Go
section
variable {ro : Option Nat} {P : Program} {lo : Option Nat} {A : Perm} {n : Nat} {M : Mem} {L : List Nat} {w : World} {H : List aa} {env : Env} {O : Pos → Option Nat} {a : Act} {Q : Exit → Act → World → Prop} {K : Env → List aa → Prop}
theorem bL {o : Oper} (hf : Fr A n M L w H env O a) (hd : ∀ d, o.dst = some d → d < n)
 (h : ∃ r z, (execOp a.eval o).run P w = .ok (.value r) w ∧ aR M L r z ∧ K (put o.dst z env) H ∧ ∀ own xs, z = .ap own xs → own = 0) : o.wpIn (wf ro) 0 P a w (mK A n M L w K) Q := by
 obtain ⟨r, z, h1, h2, h3, h4⟩ := h
 exact wp_pure hf hd h1 h2 h4 h3
theorem aU {s : Sem Value} {r : Value} {w' : World} (h : s.run P w = .ok r w') : (do pure (Next.value (← s)) : Sem Next).run P w = .ok (.value r) w' := by
 simp only [Sem.run_bind, h, Result.andThen_ok, Sem.run_pure]
theorem pO {s : Sem Unit} {w' : World} (h : s.run P w = .ok () w') : (do s; pure Next.skip : Sem Next).run P w = .ok .skip w' := by
 simp only [Sem.run_bind, h, Result.andThen_ok, Sem.run_pure]
theorem nQ {o : Oper} (hf : Fr A n M L w H env O a) (hd : ∀ d, o.dst = some d → d < n) {r : Value} {z : AV} {w' : World} {M' : Mem} {L' : List Nat} {H' : List aa} (bG : (execOp a.eval o).run P w = .ok (.value r) w')
 (hr : aR M' L' r z) (hz : ∀ own xs, z = .ap own xs → own = 0) (bQ : St A M' L' w' H' (fun t => a.tmps.getD t undef) (get env) O) (cu : Ext A M w M' w') (hL : L <+: L') (hK : K (put o.dst z env) H') : o.wpIn (wf ro) 0 P a w (mK A n M L w K) Q := by
 obtain ⟨O', oX⟩ := (hf.mono bQ cu).ow hd hr hz
 exact db bG ⟨M', L', H', _, O', hK, oX, cu, hL⟩
theorem uq {o : Oper} {aC : Env} {O' : Pos → Option Nat} (hf : Fr A n M L w H env O a) (hd : ∀ d, o.dst = some d → d < n) {r : Value} {z : AV} {w' : World} {M' : Mem} {ob : Option Nat} (bG : (execOp a.eval o).run P w = .ok (.value r) w')
 (hr : aR M' L r z) (Li : bb M' w' r z ob) (bQ : St A M' L w' H (fun t => a.tmps.getD t undef) (get aC) O') (cu : Ext A M w M' w') (h1 : ∀ q b, ob = some b → O' q ≠ some b) (h2 : ∀ b, ob = some b → b ∉ L ∧ b < w'.heap.size ∧ A b) (hK : K (put o.dst z aC) H) : o.wpIn (wf ro) 0 P a w (mK A n M L w K) Q := by
 have oX : Fr A n M' L w' H aC O' a := ⟨bQ, hf.size, hf.defers.ext cu⟩
 refine db bG ?_
 cases fR : o.dst with
 | none => rw [fR] at hK; exact ⟨M', L, H, _, O', hK, oX, cu, List.prefix_refl L⟩
 | some d =>
   rw [fR] at hK
   exact ⟨M', L, H, _, _, hK, oX.Da (hd d fR) hr ob Li (fun q b hb hq => absurd hq (h1 q b hb)) h2, cu, List.prefix_refl L⟩
theorem xr {o : Oper} {x : Operand} (ho : o.op = .move x ∨ o.op = .assign x) {i : IX} (hc : aP x = some i) {take : Bool} (hf : Fr A n M L w H env O a) (hd : ∀ d, o.dst = some d → d < n)
 (h : bp ⟨P, lo⟩ (.set i take) o.dst env H K) : o.wpIn (wf ro) 0 P a w (mK A n M L w K) Q := by
 have bG : (execOp a.eval o).run P w = .ok (.value (a.eval x)) w := by
  rcases ho with ho | ho <;> simp [execOp, ho]
 have hr := hf.eval hc
 simp only [bp] at h
 cases fR : o.dst with
 | none =>
   rw [fR] at h
   refine db bG ⟨M, L, H, env, O, h, ?_, Ext.refl A M w, List.prefix_refl L⟩
   rw [fR]; exact hf
 | some d =>
   rw [fR] at h
   have T5 := hd d fR
   have h : K (s7 env d i take) H := h
   unfold s7 at h
   split at h
   ·rename_i s _
    -- the list moves
    cases x with
    | tmp t =>
      have hts : t = s := by simpa [aP] using hc
      subst hts
      have mV := hf.st.ow t (v := a.tmps.getD t undef) (x := (get env t).ab) (hf.st.env t).ab (AV.bI _)
      have TS : fg (fun t => a.tmps.getD t undef) t (a.tmps.getD t undef) = fun t => a.tmps.getD t undef := by funext t'; simp only [fg]; split; rename_i e0; rw [e0]; rfl
      rw [TS] at mV
      have EX : Fr A n M L w H ((t, (get env t).ab) :: env) (dX O (.t t) none) a := ⟨mV, hf.size, hf.defers⟩
      have sy := EX.Da T5 (v := a.tmps.getD t undef) (x := get env t) (hf.st.env t) (O (.t t)) (hf.st.gN t) (fun p b hb hp => by
       simp only [dX] at hp
       split at hp
       ·cases hp
       ·rename_i n'; exact absurd (hf.st.bZ _ _ b hp hb) n') (fun b hb => ⟨hf.st.cj _ b hb, hf.st.eV _ b hb, hf.st.Oa _ b hb⟩)
      rw [← fR] at sy
      exact db bG ⟨M, L, H, _, _, h, sy, Ext.refl A M w, List.prefix_refl L⟩
    | const v => simp only [aP] at hc; obtain ⟨y, _, hy⟩ := Option.map_eq_some_iff.1 hc; cases hy
    | func f => simp [aP] at hc
    | global g => simp [aP] at hc
   ·have sy := hf.Da T5 hr.ab none (bb.free (AV.bI _)) (fun p b e => by cases e) (fun b e => by cases e)
    rw [← fR] at sy
    exact db bG ⟨M, L, H, _, _, h, sy, Ext.refl A M w, List.prefix_refl L⟩
theorem ur {o : Oper} {t : TypeId} {x : Operand} (ho : o.op = .load t x) (ht : HY P t = some none) {i : IX} (hc : aP x = some i) (hf : Fr A n M L w H env O a) (hd : ∀ d, o.dst = some d → d < n)
 (h : bp ⟨P, lo⟩ (.eu i) o.dst env H K) : o.wpIn (wf ro) 0 P a w (mK A n M L w K) Q := by
 have hr := hf.eval hc
 simp only [bp] at h
 split at h <;> try exact h.elim
 rename_i d id off fR hx
 split at h <;> try exact h.elim
 rename_i es bm
 obtain ⟨ox, hK⟩ := h
 rw [hx] at hr
 generalize hu : a.eval x = u at hr
 cases hr with
 | ptr b _ _ hl =>
 obtain ⟨cs, e, h1, h2, h3⟩ := eZ hf.st bm hl
 have hlen := h2.length
 obtain ⟨r1, r2⟩ := ew (w := w) (m := 0) ht
 have yK : off < cs.toList.length := by omega
 have hcell := h3 off cs.toList[off] (by simp)
 have fq := h2.getD off
 have e0 : cs.toList.getD off undef = cs.toList[off] := by rw [List.getD_eq_getElem?_getD, List.getElem?_eq_getElem yK]; rfl
 rw [e0] at fq
 have bG : (execOp a.eval o).run P w = .ok (.value cs.toList[off]) w := by
  simp only [execOp, ho, hu]
  exact aU (by simp only [Instr.loadAt, Instr.sureAddr, loadVar, Sem.run_bind, Sem.run_pure, Result.andThen_ok, r1, Bool.false_eq_true, if_false, run_load, hcell])
 have bQ := hf.st.Ge bm hl ox
 have EX : Fr A n M L w (H.set id (.cells (es.set off (es.getD off .any).ab))) env (dX O (.c id off) none) a := ⟨bQ, hf.size, hf.defers⟩
 have Li : bb M w cs.toList[off] (es.getD off .any) (O (.c id off)) := by
  have h0 := hf.st.gK id off
  have e3 : bK L w id off = cs.toList[off] := by unfold bK; simp only [hl, hcell]; rfl
  have e4 : bo H id off = es.getD off .any := by unfold bo; simp [bm]
  rwa [e3, e4] at h0
 have sy := EX.Da (hd d fR) fq (O (.c id off)) Li (fun p b hb hp => by
  simp only [dX] at hp
  split at hp
  ·cases hp
  ·rename_i n'; exact absurd (hf.st.bZ _ _ b hp hb) n') (fun b hb => ⟨hf.st.cj _ b hb, hf.st.eV _ b hb, hf.st.Oa _ b hb⟩)
 rw [← fR] at sy
 exact db bG ⟨M, L, _, _, _, hK, sy, Ext.refl A M w, List.prefix_refl L⟩
theorem wJ {o : Oper} {t : TypeId} {x y : Operand} (ho : o.op = .store t x y) (ht : dD P t = some 1) {i : IX} {s : Nat} (hc : aP x = some i) (hy : aP y = some (.t s)) (hf : Fr A n M L w H env O a)
 (fR : o.dst = none) (h : bp ⟨P, lo⟩ (.eX i s) o.dst env H K) : o.wpIn (wf ro) 0 P a w (mK A n M L w K) Q := by
 have hr := hf.eval hc
 simp only [bp] at h
 have pE : y = .tmp s := by
  cases y with
  | tmp t => simp [aP] at hy; rw [hy]
  | const v => simp only [aP] at hy; obtain ⟨z, _, hz⟩ := Option.map_eq_some_iff.1 hy; cases hz
  | func f => simp [aP] at hy
  | global g => simp [aP] at hy
 subst pE
 obtain ⟨w', H', O', h1, h2, h3, h4⟩ := yL (P := P) hf.st ht h hr s rfl rfl
 have bG : (execOp a.eval o).run P w = .ok .skip w' := by
  simp only [execOp, ho]
  exact pO h1
 have sy : Fr A n M L w' H' ((s, (get env s).ab) :: env) O' (a.put o.dst undef) := by
  rw [fR]; exact ⟨h3, hf.size, hf.defers.ext h4⟩
 exact lr bG ⟨M, L, H', _, O', h2, sy, h4, List.prefix_refl L⟩
theorem yX {o : Oper} {t e : TypeId} {s x : Operand} (ho : o.op = .call { callee := .builtin .append, args := #[s, x], argTypes := #[t, t] }) (ht : P.underlying t = some (.slice e)) {esz bytes : Nat} {z : AV} (hz : cS P e = some (esz, z)) (hb : yW P e = some bytes) (ui : 0 < bytes)
 {i j : IX} (hi : aP s = some i) (hj : aP x = some j) (hf : Fr A n M L w H env O a) (hd : ∀ d, o.dst = some d → d < n)
 (h : bp ⟨P, lo⟩ (.append esz bytes i j) o.dst env H K) : o.wpIn (wf ro) 0 P a w (mK A n M L w K) Q := by
 simp only [bp] at h
 have wK := hf.eval hi
 have Yx := hf.eval hj
 unfold cS at hz
 split at hz <;> try cases hz
 rename_i esz' z' ON oz
 split at hz <;> cases hz
 rename_i hcond
 obtain ⟨h0, iN, so⟩ := hcond
 obtain ⟨inf, iL, c9⟩ := Option.map_eq_some_iff.1 ON
 obtain ⟨inf', sA, xj⟩ := Option.map_eq_some_iff.1 hb
 rw [iL] at sA; cases sA
 unfold fz at oz
 simp only [iL] at oz
 split at oz <;> try cases oz
 rename_i zv ug
 have tx : zv.cells.size = esz := by have := ((cC (M := M) (L := L) oz).fO so).length; rw [iN] at this; simpa using this
 have LP : match i.slot with | some d => (fun t => a.tmps.getD t undef) d = a.eval s ∧ get env d = al env i | none => al env i = .ah := by
  cases s with
  | tmp t => simp [aP] at hi; subst hi; exact ⟨rfl, rfl⟩
  | const v =>
    simp only [aP] at hi
    obtain ⟨y, hy, rfl⟩ := Option.map_eq_some_iff.1 hi
    simp only [IX.slot, al]
    have h2 := h
    simp only [al, bE] at h2
    split at h2 <;> try exact h2.elim
    rename_i fx _
    unfold mr at fx
    split at fx
    ·rfl
    ·-- a constant is never an owned list
     exfalso
     unfold ofValue at hy
     split at hy
     ·obtain ⟨_, _, hq⟩ := Option.map_eq_some_iff.1 hy; cases hq
     ·unfold TP at hy; split at hy <;> cases hy
    ·cases fx
  | func f =>
    simp [aP] at hi; subst hi
    simp only [al, bE, mr] at h
  | global g => simp [aP] at hi
 obtain ⟨r, w', M', O', ob, zs, g1, g2, g3, g4, g5, g6, g7, g8⟩ := AS (P := P) (ty := o.type) hf.st ht iL ug c9 xj tx h0 ui h i.slot wK LP Yx
 have bG : (execOp a.eval o).run P w = .ok (.value r) w' := by
  simp only [execOp, ho, resolve, invoke, builtin, Sem.run_bind, Sem.run_pure, Result.andThen_ok, List.map_toArray, List.map_cons, List.map_nil, g1]
 have C9 : ko (get env) i.slot = get (cF env i.slot) := by
  cases i.slot with
  | none => rfl
  | some d => rfl
 rw [C9] at g5
 exact uq hf hd bG g3 g4 g5 g6 g7 g8 g2
theorem wL {o : Oper} {t e : TypeId} {s x : Operand} (ho : o.op = .call { callee := .builtin .append, args := #[s, x], argTypes := #[t, t] }) (ht : P.underlying t = some (.slice e)) {esz bytes : Nat} {z : AV} (hz : cS P e = some (esz, z)) (hb : yW P e = some bytes) (ui : 0 < bytes) (IF : Dq z = true)
 {i j : IX} (hi : aP s = some i) (hj : aP x = some j) (hf : Fr A n M L w H env O a) (hd : ∀ d, o.dst = some d → d < n)
 (h : bp ⟨P, lo⟩ (.jb esz bytes z i j) o.dst env H K) : o.wpIn (wf ro) 0 P a w (mK A n M L w K) Q := by
 simp only [bp] at h
 have wK := hf.eval hi
 have Yx := hf.eval hj
 unfold cS at hz
 split at hz <;> try cases hz
 rename_i esz' z' ON oz
 split at hz <;> cases hz
 rename_i hcond
 obtain ⟨h0, iN, so⟩ := hcond
 obtain ⟨inf, iL, c9⟩ := Option.map_eq_some_iff.1 ON
 obtain ⟨inf', sA, xj⟩ := Option.map_eq_some_iff.1 hb
 rw [iL] at sA; cases sA
 unfold fz at oz
 simp only [iL] at oz
 split at oz <;> try cases oz
 rename_i zv ug
 have Iy : ∀ y ∈ z.cells, ∀ own xs, y = .ap own xs → own = 0 := by
  intro y hy own xs e
  have := List.all_eq_true.1 IF y hy
  subst e
  simpa using this
 obtain ⟨r, y, L', w', H', O', g1, g2, g3, g4, g5, g6, g7⟩ := yV (P := P) (ty := o.type) hf.st ht iL ug c9 xj h0 ui oz so iN Iy h wK Yx
 have bG : (execOp a.eval o).run P w = .ok (.value r) w' := by
  simp only [execOp, ho, resolve, invoke, builtin, Sem.run_bind, Sem.run_pure, Result.andThen_ok, List.map_toArray, List.map_cons, List.map_nil, g1]
 have EX : Fr A n M L' w' H' env O' a := ⟨g5, hf.size, hf.defers.ext g6⟩
 obtain ⟨O'', oX⟩ := EX.ow hd g2 g3
 exact db bG ⟨M, L', H', _, O'', g4, oX, g6, g7⟩
theorem EY : ∀ {xs ys : List AV}, xq xs ys → xs.length = ys.length ∧ ∀ t, (xs.getD t .any).le (ys.getD t .any)
 | [], [], _ => ⟨rfl, fun t => .inl rfl⟩
 | [], _ :: _, h => h.elim
 | _ :: _, [], h => h.elim
 | x :: xs, y :: ys, h => by
   obtain ⟨h1, h2⟩ := h
   obtain ⟨i1, i2⟩ := EY h2
   refine ⟨by simp [i1], fun t => ?_⟩
   cases t with
   | zero => simpa using h1
   | succ t => simpa using i2 t
theorem dy (env : Env) (pass : Option Nat) : ∀ (j : Nat) (xs : List IX), (aG env pass j xs).length = xs.length
 | _, [] => rfl
 | j, .t s :: xs => by simp [aG, dy env pass (j + 1) xs]
 | j, .c v :: xs => by simp [aG, dy env pass (j + 1) xs]
theorem jd (hf : Fr A n M L w H env O a) (pass : Option Nat) : ∀ {xs : List Operand} {is : List IX} (j : Nat), fp xs = some is → aJ M L (xs.map a.eval) (aG env pass j is)
 | [], is, j, hc => by simp [fp] at hc; subst hc; exact .nil
 | x :: xs, is, j, hc => by
   unfold fp at hc
   split at hc
   ·rename_i i is' h1 h2
    cases hc
    have hr := hf.eval h1
    cases i with
    | t s =>
      refine .cons _ _ _ _ ?_ (jd hf pass (j + 1) h2)
      split
      ·exact hr
      ·exact hr.ab
    | c v => exact .cons _ _ _ _ hr.ab (jd hf pass (j + 1) h2)
   ·cases hc
def dn (A : Perm) (loose : Bool) (H : List aa) (L : List Nat) (O : Pos → Option Nat) (w : World) : Perm where
 wr := fun b => b ∈ L ∨ (∃ p, O p = some b) ∨ w.heap.size ≤ b
 top := fun id => if id < H.length then some (A.jg H.length id) else if loose = true then none else some (id + 1)
 ok := by
  intro id n h
  split at h
  ·rename_i h1
   cases h
   have := A.lm h1
   omega
  ·split at h
   ·cases h
   ·cases h; omega
theorem kv (A : Perm) (loose : Bool) (H : List aa) (L : List Nat) (O : Pos → Option Nat) (w : World) : (dn A loose H L O w).entry loose H.length :=
 ⟨fun id h => ⟨A.jg H.length id, A.tZ _ _, by simp only [dn, if_pos h]⟩, fun id h => by simp only [dn]; rw [if_neg (by omega)]⟩
theorem sB (A : Perm) (loose : Bool) (H : List aa) (L : List Nat) (O : Pos → Option Nat) (w : World) {id : Nat} (h : id < H.length) (len : Nat) : (dn A loose H L O w).jg len id = min (A.jg H.length id) len := by
 unfold Perm.jg
 simp only [dn, if_pos h]
 rfl
theorem St.narrow {ev : Nat → Value} {ea : Nat → AV} (loose : Bool) (h : St A M L w H ev ea O) : St (dn A loose H L O w) M L w H ev ea O :=
 { len := h.len, nodup := h.nodup, env := h.env, mem := h.mem, obj := h.obj, lt := h.lt, gN := h.gN, gK := h.gK, bZ := h.bZ, cj := h.cj, eV := h.eV,
   bB := fun id o ho => by
    rw [sB A loose H L O w (aN ho), Nat.min_eq_left (A.tZ _ _)]
    exact h.bB id o ho
   La := fun b hb => .inl hb, Oa := fun p b hp => .inr (.inl ⟨p, hp⟩), fresh := fun b hb => .inr (.inr hb) }
theorem St.pP {ev : Nat → Value} {ea : Nat → AV} (h : St A M L w H ev ea O) (ev' : Nat → Value) (ea' : Nat → AV) (hr : ∀ t, aR M L (ev' t) (ea' t)) (hx : ∀ t own xs, ea' t = .ap own xs → own = 0) :
 St A M L w H ev' ea' (fun p => match p with | .t _ => none | .c id j => O (.c id j)) := by
 have hO : ∀ (p : Pos) (b : Nat), (match p with | .t _ => none | .c id j => O (.c id j)) = some b → O p = some b := by
  intro p b hp
  cases p with
  | t t => cases hp
  | c id j => exact hp
 exact { len := h.len, nodup := h.nodup, env := hr, mem := h.mem, obj := h.obj, bB := h.bB, lt := h.lt, gN := fun t => bb.free (hx t), gK := h.gK, bZ := fun p q b hp hq => h.bZ p q b (hO p b hp) (hO q b hq),
         cj := fun p b hp => h.cj p b (hO p b hp), eV := fun p b hp => h.eV p b (hO p b hp), La := h.La, Oa := fun p b hp => h.Oa p b (hO p b hp), fresh := h.fresh }
theorem St.Gm {ev : Nat → Value} {ea : Nat → AV} (h : St A M L w H ev ea O) {Oc : Pos → Option Nat} (pt : Option Nat) (loose : Bool) (uh : loose = true → ∀ id, H.length ≤ id → A.top id = none) (XR : ∀ b, (∃ p, Oc p = some b) → (∃ id j, O (.c id j) = some b) ∨ ∃ s, pt = some s ∧ O (.t s) = some b)
 {M' : Mem} {L' : List Nat} {w' : World} {H' : List aa} {v : Value} {r : AV} {O' : Pos → Option Nat}
 (h' : St (dn A loose H L Oc w) M' L' w' H' (fg (fun _ => undef) 0 v) (fg (fun _ => .any) 0 r) O') (cu : Ext (dn A loose H L Oc w) M w M' w') (hL : L <+: L') :
 ∃ O'', St A M' L' w' H' ev (ko ea pt) O'' ∧ Ext A M w M' w' ∧ aR M' L' v r ∧ bb M' w' v r (O' (.t 0)) ∧ (∀ q b, O' (.t 0) = some b → O'' q ≠ some b) ∧ (∀ b, O' (.t 0) = some b → b ∉ L' ∧ b < w'.heap.size ∧ A b) := by
 have hlen : H.length ≤ H'.length := by
  have := hL.length_le
  rw [h.len, h'.len] at this
  exact this
 have XS : ∀ b, dn A loose H L Oc w b → A b := by
  rintro b (hb | hb | hb)
  ·exact h.La b hb
  ·rcases XR b hb with ⟨id, j, hq⟩ | ⟨s, _, hq⟩
   ·exact h.Oa _ b hq
   ·exact h.Oa _ b hq
  ·exact h.fresh b hb
 let O'' : Pos → Option Nat := fun p => match p with
  | .t i => if pt = some i then none else O (.t i)
  | .c id j => O' (.c id j)
 -- what the caller keeps is not the callee's to write
 have kh : ∀ i b, pt ≠ some i → O (.t i) = some b → ¬ dn A loose H L Oc w b := by
  rintro i b hi hb (hc | hc | hc)
  ·exact h.cj _ b hb hc
  ·rcases XR b hc with ⟨id, j, hq⟩ | ⟨s, hs, hq⟩
   ·have := h.bZ _ _ b hb hq; cases this
   ·have := h.bZ _ _ b hb hq; cases this; exact hi hs
  ·have := h.eV _ b hb; omega
 have Gn : ∀ i b, O'' (.t i) = some b → pt ≠ some i ∧ O (.t i) = some b := by
  intro i b hb
  simp only [O''] at hb
  split at hb
  ·cases hb
  ·rename_i hi; exact ⟨hi, hb⟩
 have Qg : ∀ i b p, O'' (.t i) = some b → O' p ≠ some b := by
  intro i b p hb hp
  obtain ⟨h1, h2⟩ := Gn i b hb
  exact kh i b h1 h2 (h'.Oa p b hp)
 refine ⟨O'', { len := h'.len, nodup := h'.nodup, env := ?_, mem := h'.mem, obj := h'.obj, bB := ?_, lt := h'.lt, gN := ?_, gK := h'.gK, bZ := ?_, cj := ?_, eV := ?_, La := fun b hb => XS b (h'.La b hb), Oa := ?_, fresh := fun b hb => h.fresh b (Nat.le_trans cu.size hb) }, ?_, ?_, ?_, ?_, ?_⟩
 ·intro t
  have := (h.env t).mono cu.kG hL
  cases pt with
  | none => exact this
  | some d =>
    simp only [ko, fg]
    split
    ·rename_i e0; subst e0; exact this.ab
    ·exact this
 ·intro id o ho
  have h1 := h'.bB id o ho
  have hl := aN ho
  by_cases e : id < H.length
  ·rw [sB A loose H L Oc w e] at h1
   exact aa.cH (Nat.le_trans (Nat.min_le_left _ _) (A.AH hlen id)) o h1
  ·by_cases hx : loose = true
   ·have e1 : A.jg H'.length id = H'.length := by unfold Perm.jg; rw [uh hx id (by omega)]
    rw [e1]
    exact aa.cH (Perm.tZ _ _ _) o h1
   ·have e1 : (dn A loose H L Oc w).jg H'.length id = min (id + 1) H'.length := by
     unfold Perm.jg
     simp only [dn, if_neg e, if_neg hx]
    rw [e1] at h1
    exact aa.cH (Nat.le_trans (Nat.min_le_left _ _) (A.lm hl)) o h1
 ·intro t
  have h1 := h.gN t
  cases pt with
  | none =>
    exact h1.mono fun b hb => cu.kh b (h.eV _ b hb) (kh t b (by simp) hb)
  | some d =>
    simp only [ko, fg, O'']
    by_cases e0 : t = d
    ·subst e0
     simp only [if_true]
     exact bb.free (AV.bI _)
    ·have : ¬ (some d = some t) := fun e => e0 (by cases e; rfl)
     simp only [e0, this, if_false]
     exact h1.mono fun b hb => cu.kh b (h.eV _ b hb) (kh t b this hb)
 ·intro p q b hp hq
  cases p with
  | t i =>
    cases q with
    | t j => exact h.bZ _ _ b (Gn i b hp).2 (Gn j b hq).2
    | c id j => exact absurd hq (Qg i b _ hp)
  | c id j =>
    cases q with
    | t i => exact absurd hp (Qg i b _ hq)
    | c id' j' => exact h'.bZ _ _ b hp hq
 ·intro p b hp hm
  cases p with
  | t i => exact kh i b (Gn i b hp).1 (Gn i b hp).2 (h'.La b hm)
  | c id j => exact h'.cj _ b hp hm
 ·intro p b hp
  cases p with
  | t i => exact Nat.lt_of_lt_of_le (h.eV _ b (Gn i b hp).2) cu.size
  | c id j => exact h'.eV _ b hp
 ·intro p b hp
  cases p with
  | t i => exact h.Oa _ b (Gn i b hp).2
  | c id j => exact XS b (h'.Oa _ b hp)
 ·exact ⟨cu.kG, cu.size, cu.os, cu.tape, cu.output, fun b hb hA => cu.kh b hb (fun hc => hA (XS b hc)), cu.loops⟩
 ·simpa [fg] using h'.env 0
 ·simpa [fg] using h'.gN 0
 ·intro q b hb hq
  cases q with
  | t i => exact Qg i b _ hq hb
  | c id j => have := h'.bZ _ _ b hb hq; cases this
 ·intro b hb
  exact ⟨h'.cj _ b hb, h'.eV _ b hb, XS b (h'.Oa _ b hb)⟩
theorem fB (env : Env) : ∀ (xs : List IX) (j t : Nat), (aG env none j xs).getD t .any = (match xs[t]? with | some x => (al env x).ab | none => .any)
 | [], j, t => by simp [aG]
 | .t s :: xs, j, 0 => by simp [aG, al]
 | .c v :: xs, j, 0 => by simp [aG, al]
 | .t s :: xs, j, t + 1 => by
   simp only [aG, List.getD_cons_succ, List.getElem?_cons_succ]
   exact fB env xs (j + 1) t
 | .c v :: xs, j, t + 1 => by
   simp only [aG, List.getD_cons_succ, List.getElem?_cons_succ]
   exact fB env xs (j + 1) t
theorem fC (env : Env) (k : Nat) : ∀ (xs : List IX) (j t : Nat), (aG env (some k) j xs).getD t .any = (match xs[t]? with | some (.t s) => if k = j + t then get env s else (get env s).ab | some (.c v) => v.ab | none => .any)
 | [], j, t => by simp [aG]
 | .t s :: xs, j, 0 => by simp [aG]
 | .c v :: xs, j, 0 => by simp [aG]
 | .t s :: xs, j, t + 1 => by
   simp only [aG, List.getD_cons_succ, List.getElem?_cons_succ]
   rw [fC env k xs (j + 1) t, show j + 1 + t = j + (t + 1) by omega]
 | .c v :: xs, j, t + 1 => by
   simp only [aG, List.getD_cons_succ, List.getElem?_cons_succ]
   rw [fC env k xs (j + 1) t, show j + 1 + t = j + (t + 1) by omega]
theorem pQ (vs : List Value) (t : Nat) : vs.toArray.getD t undef = vs.getD t undef := by
 simp [List.getD_eq_getElem?_getD]
theorem kM (xs ys zs : List AV) (t : Nat) : (xs ++ ys ++ zs).getD t .any = if t < xs.length then xs.getD t .any else if t < xs.length + ys.length then ys.getD (t - xs.length) .any else zs.getD (t - xs.length - ys.length) .any := by
 simp only [List.getD_eq_getElem?_getD, List.getElem?_append, List.length_append]
 by_cases h1 : t < xs.length
 ·rw [if_pos (by omega), if_pos h1, if_pos h1]
 ·by_cases h2 : t < xs.length + ys.length
  ·rw [if_pos h2, if_neg h1, if_neg h1, if_pos h2]
  ·rw [if_neg h2, if_neg h1, if_neg h2, Nat.sub_sub]
theorem rf {o : Oper} {xs : List Operand} {js : List IX} (Ts : fp xs = some js) {pass : Option Nat} {fs cs : List Value} {first cap : List AV} (yY : aJ M L fs first) (rb : aJ M L cs cap) {bP : List AV}
 (hle : xq (first.map AV.ab ++ aG env pass 0 js ++ cap.map AV.ab) bP) (hf : Fr A n M L w H env O a) (hd : ∀ d, o.dst = some d → d < n) {loose : Bool} (uh : loose = true → ∀ id, H.length ≤ id → A.top id = none) :
 ∃ Oc, (fs ++ xs.map a.eval ++ cs).length = bP.length ∧ St (dn A loose H L Oc w) M L w H (fun t => (fs ++ xs.map a.eval ++ cs).toArray.getD t undef) (fun t => bP.getD t .any) Oc ∧
  ∀ (v : Value) (r : AV) (H' : List aa) (M' : Mem) (L' : List Nat) (O' : Pos → Option Nat) (w' : World), K (put o.dst r (cF env (bc js pass))) H' → St (dn A loose H L Oc w) M' L' w' H' (fg (fun _ => undef) 0 v) (fg (fun _ => .any) 0 r) O' → Ext (dn A loose H L Oc w) M w M' w' → L <+: L' →
   mK A n M L w K (a.put o.dst v) w' := by
 have hrb := jd hf pass 0 Ts
 have Yy := jd hf none 0 Ts
 obtain ⟨hlen, Yz⟩ := EY hle
 obtain ⟨vs, wD⟩ : ∃ vs : List Value, vs = fs ++ xs.map a.eval ++ cs := ⟨_, rfl⟩
 have hrv : aJ M L vs (first.map AV.ab ++ aG env pass 0 js ++ cap.map AV.ab) := by rw [wD]; exact (yY.cV.append hrb).append rb.cV
 have YA : aJ M L vs (first.map AV.ab ++ aG env none 0 js ++ cap.map AV.ab) := by rw [wD]; exact (yY.cV.append Yy).append rb.cV
 have pK : vs.length = bP.length := by rw [hrv.length]; exact hlen
 -- the callee's state
 have YB : ∃ Oc, St A M L w H (fun t => vs.toArray.getD t undef) (fun t => bP.getD t .any) Oc ∧ (∀ b, (∃ p, Oc p = some b) → (∃ id j, O (.c id j) = some b) ∨ ∃ s, bc js pass = some s ∧ O (.t s) = some b) := by
  have hfree : ∀ t own zs, (first.map AV.ab ++ aG env none 0 js ++ cap.map AV.ab).getD t .any = .ap own zs → own = 0 := by
   intro t own zs he
   have hm : ∀ (l : List AV) q, (l.map AV.ab).getD q .any = .ap own zs → own = 0 := by
    intro l q hq
    rw [List.getD_eq_getElem?_getD, List.getElem?_map] at hq
    cases hx : l[q]? with
    | none => simp [hx] at hq
    | some y => simp [hx] at hq; exact AV.bI y own zs hq
   rw [kM] at he
   split at he
   ·exact hm _ _ he
   ·split at he
    ·rw [fB] at he
     split at he
     ·exact AV.bI _ own zs he
     ·cases he
    ·exact hm _ _ he
  have h0 := hf.st.pP (fun t => vs.toArray.getD t undef) (fun t => (first.map AV.ab ++ aG env none 0 js ++ cap.map AV.ab).getD t .any) (fun t => by rw [pQ]; exact YA.getD t) hfree
  -- then the one that is handed over
  have h1 : ∃ O1, St A M L w H (fun t => vs.toArray.getD t undef) (fun t => (first.map AV.ab ++ aG env pass 0 js ++ cap.map AV.ab).getD t .any) O1 ∧ (∀ b, (∃ p, O1 p = some b) → (∃ id j, O (.c id j) = some b) ∨ ∃ s, bc js pass = some s ∧ O (.t s) = some b) := by
   cases pG : bc js pass with
   | none =>
     refine ⟨_, h0.congr (fun _ => rfl) (fun t => ?_), ?_⟩
     ·rw [kM, kM, dy, dy]
      split
      ·rfl
      ·split
       ·cases pass with
        | none => rfl
        | some k =>
          rw [fB, fC]
          unfold bc at pG
          simp only at pG
          cases hx : js[t - (first.map AV.ab).length]? with
          | none => rfl
          | some x =>
            cases x with
            | c v => rfl
            | t s =>
              simp only
              rw [if_neg]
              ·rfl
              ·intro e
               rw [Nat.zero_add] at e
               rw [e, hx] at pG
               simp at pG
       ·rfl
     ·rintro b ⟨p, hp⟩
      cases p with
      | t t => cases hp
      | c id j => exact .inl ⟨id, j, hp⟩
   | some s =>
     -- where it stands
     obtain ⟨k, rfl, OO⟩ : ∃ k, pass = some k ∧ js[k]? = some (.t s) := by
      unfold bc at pG
      split at pG
      ·rename_i k
       split at pG
       ·rename_i s' T6; cases pG; exact ⟨k, rfl, T6⟩
       ·cases pG
      ·cases pG
     have EZ : k < js.length := aN OO
     have hargs : ∀ (xs : List Operand) (is : List IX), fp xs = some is → ∀ (q s : Nat), is[q]? = some (IX.t s) → xs[q]? = some (Operand.tmp s) := by
      intro xs
      induction xs with
      | nil => intro is hc q s hq; simp [fp] at hc; subst hc; simp at hq
      | cons x xs ih =>
        intro is hc q s hq
        unfold fp at hc
        split at hc
        ·rename_i i is' e1 e2
         cases hc
         cases q with
         | zero =>
           simp at hq; subst hq
           cases x with
           | tmp t => simp [aP] at e1; simp [e1]
           | const v => simp only [aP] at e1; obtain ⟨_, _, hz⟩ := Option.map_eq_some_iff.1 e1; cases hz
           | func f => simp [aP] at e1
           | global g => simp [aP] at e1
         | succ q => simpa using ih is' e2 q s (by simpa using hq)
        ·cases hc
     have cL := hargs _ _ Ts k s OO
     have mC : vs[first.length + k]? = some (a.tmps.getD s undef) := by
      have LW : fs.length = first.length := yY.length
      rw [wD]
      rw [List.append_assoc, List.getElem?_append_right (by omega), LW, show first.length + k - first.length = k by omega, List.getElem?_append_left (by simpa using aN cL), List.getElem?_map, cL]
      rfl
     have mV := h0.put (first.length + k) (v := a.tmps.getD s undef) (x := get env s) (hf.st.env s) (O (.t s)) (hf.st.gN s) (fun p b hb hp => by
      cases p with
      | t t => cases hp
      | c id j => have := hf.st.bZ _ _ b hb hp; cases this) (fun b hb => ⟨hf.st.cj _ b hb, hf.st.eV _ b hb, hf.st.Oa _ b hb⟩)
     refine ⟨_, mV.congr (fun t => ?_) (fun t => ?_), ?_⟩
     ·simp only [fg]
      split
      ·rename_i e; subst e
       rw [pQ, List.getD_eq_getElem?_getD, mC]; rfl
      ·rfl
     ·simp only [fg]
      rw [kM, kM, dy, dy]
      simp only [List.length_map]
      by_cases e : t = first.length + k
      ·subst e
       rw [if_pos rfl, if_neg (by omega), if_pos (by omega), show first.length + k - first.length = k by omega, fC, OO]
       simp
      ·rw [if_neg e]
       split
       ·rfl
       ·split
        ·rw [fB, fC]
         cases hx : js[t - first.length]? with
         | none => rfl
         | some x =>
           cases x with
           | c v => rfl
           | t s =>
             simp only
             rw [if_neg (by omega)]
             rfl
        ·rfl
     ·rintro b ⟨p, hp⟩
      simp only [dX] at hp
      split at hp
      ·exact .inr ⟨s, rfl, hp⟩
      ·cases p with
       | t t => cases hp
       | c id j => exact .inl ⟨id, j, hp⟩
  obtain ⟨O1, g1, g2⟩ := h1
  obtain ⟨O2, g3, g4⟩ := g1.ES (ea' := fun t => bP.getD t .any) Yz
  exact ⟨O2, g3, fun b ⟨p, hp⟩ => g2 b ⟨p, g4 p b hp⟩⟩
 obtain ⟨Oc, bQ, XR⟩ := YB
 refine ⟨Oc, by rw [← wD]; exact pK, by rw [← wD]; exact bQ.narrow loose, ?_⟩
 intro v r H' M' L' O' w' hK lB cu hL
 obtain ⟨O'', k1, k2, k3, k4, k5, k6⟩ := hf.st.Gm (bc js pass) loose uh XR lB cu hL
 have C9 : ko (get env) (bc js pass) = get (cF env (bc js pass)) := by
  cases bc js pass <;> rfl
 rw [C9] at k1
 have oX : Fr A n M' L' w' H' (cF env (bc js pass)) O'' a := ⟨k1, hf.size, hf.defers.ext k2⟩
 show mK A n M L w K (a.put o.dst v) w'
 cases fR : o.dst with
 | none => rw [fR] at hK; exact ⟨M', L', H', _, O'', hK, oX, k2, hL⟩
 | some d =>
   rw [fR] at hK
   exact ⟨M', L', H', _, _, hK, oX.Da (hd d fR) k3 (O' (.t 0)) k4 (fun q b hb hq => absurd hq (k5 q b hb)) k6, k2, hL⟩
theorem Dr {o : Oper} {c : Call} (ho : o.op = .call c) {f : Operand} (mE : c.callee = .value f) {i : IX} {js : List IX} (E0 : aP f = some i) (Ts : fp c.args.toList = some js) {pass : Option Nat}
 (hp : ∀ l, lo = some l → ∀ id, l ≤ id → A.top id = none) (hf : Fr A n M L w H env O a) (hd : ∀ d, o.dst = some d → d < n) (h : bp ⟨P, lo⟩ (.call i js pass) o.dst env H K) : o.wpIn (wf ro) 0 P a w (mK A n M L w K) Q := by
 simp only [bp] at h
 have Ll := hf.eval E0
 unfold oF at h
 split at h <;> try exact h.elim
 ·rename_i g first cap T7
  obtain ⟨bP, hle, hcall⟩ := h
  rw [T7] at Ll
  generalize hu : a.eval f = u at Ll
  cases Ll with
  | fn _ fs cs _ _ yY rb =>
  obtain ⟨loose, uh, hcall⟩ : ∃ loose : Bool, (loose = true → ∀ id, H.length ≤ id → A.top id = none) ∧ ku loose P g bP H fun r H' => K (put o.dst r (cF env (bc js pass))) H' := by
   unfold dZ at hcall
   split at hcall
   ·exact ⟨false, by simp, hcall⟩
   ·rename_i l hl
    rcases hcall with hcall | ⟨h1, hcall⟩
    ·exact ⟨false, by simp, hcall⟩
    ·exact ⟨true, fun _ id bm => hp l hl id (by omega), hcall⟩
  obtain ⟨Oc, pK, bQ, fin⟩ := rf (K := K) (o := o) Ts yY rb hle hf hd uh
  obtain ⟨vs, wD⟩ : ∃ vs : List Value, vs = fs ++ c.args.toList.map a.eval ++ cs := ⟨_, rfl⟩
  rw [← wD] at pK bQ
  have bG : (execOp a.eval o).run P w = (callFunc g vs.toArray).run P w := by
   simp only [execOp, ho, resolve, mE, Deferred.ofValue, hu, invoke, Sem.run_bind, Sem.run_pure, Result.andThen_ok]
   have e1 : (fs.toArray ++ c.args.map a.eval ++ cs.toArray) = vs.toArray := by
    apply Array.ext'; simp [wD]
   rw [e1]
  rcases hcall (dn A loose H L Oc w) M L w vs.toArray Oc (kv A loose H L Oc w) (by simpa using pK) bQ with ⟨h1, hc⟩ | ⟨v, w', r, H', M', L', O', h1, hK, lB, cu, hL⟩
  ·refine kH (bG.trans h1) (by intro d e; cases e) ⟨(fun h => by cases h), ?_⟩
   have oz : CallsIn (wf ro) (0 - 1) P g vs.toArray w _ := callsIn_wide.2 hc
   refine CallsIn.mono oz fun e w' he => ?_
   obtain ⟨v, r, H', M', L', O', rfl, hK, lB, cu, hL⟩ := he
   exact fin v r H' M' L' O' w' hK lB cu hL
  ·exact db (bG.trans h1) (fin v r H' M' L' O' w' hK lB cu hL)
 ·rename_i id T7
  obtain ⟨bP, hle, hcall⟩ := h
  rw [T7] at Ll
  generalize hu : a.eval f = u at Ll
  cases Ll with
  | mM b _ hl =>
  obtain ⟨loose, uh, hcall⟩ : ∃ loose : Bool, (loose = true → ∀ id, H.length ≤ id → A.top id = none) ∧ fe loose P id bP H fun r H' => K (put o.dst r (cF env (bc js pass))) H' := by
   unfold lD at hcall
   split at hcall
   ·exact ⟨false, by simp, hcall⟩
   ·rename_i l hl
    rcases hcall with hcall | ⟨h1, hcall⟩
    ·exact ⟨false, by simp, hcall⟩
    ·exact ⟨true, fun _ id bm => hp l hl id (by omega), hcall⟩
  obtain ⟨Oc, pK, bQ, fin⟩ := rf (K := K) (o := o) (fs := []) (cs := []) (first := []) (cap := []) Ts .nil .nil (by simpa using hle) hf hd uh
  simp only [List.nil_append, List.append_nil] at pK bQ
  obtain ⟨fn, tmps, as, bd, h1, h2⟩ := hcall (dn A loose H L Oc w) M L w (c.args.toList.map a.eval).toArray Oc b (kv A loose H L Oc w) (by simpa using pK) hl bQ
  have bG : (execOp a.eval o).run P w = .ok (.round b fn tmps as bd) w := by
   simp only [execOp, ho, resolve, mE, Deferred.ofValue, hu, invoke, Sem.run_bind, Sem.run_pure, Result.andThen_ok]
   have e1 : (#[] ++ c.args.map a.eval : Array Value) = (c.args.toList.map a.eval).toArray := by
    apply Array.ext'; simp
   rw [e1]
   exact h1
  refine kH bG (by intro d e; cases e) ⟨(fun h => by cases h), ?_⟩
  have oz : RoundIn (wf ro) (0 - 1) P b fn tmps as bd w _ := h2
  refine RoundIn.mono oz fun e w' he => ?_
  obtain ⟨v, r, H', M', L', O', rfl, hK, lB, cu, hL⟩ := he
  exact fin v r H' M' L' O' w' hK lB cu hL
end
end Go.aK
end
section
namespace Go.aK
open Go
section
variable {ro : Option Nat} {P : Program} {lo : Option Nat} {A : Perm} {n : Nat} {M : Mem} {L : List Nat} {w : World} {H : List aa} {env : Env} {O : Pos → Option Nat} {a : Act} {Q : Exit → Act → World → Prop} {K : Env → List aa → Prop}
theorem nR {x : AV} {φ : Bool → Prop} (h : eL x φ) : ∃ b, x = .bool b ∧ φ b := by
 unfold eL at h
 split at h
 ·exact ⟨_, rfl, h⟩
 ·exact h.elim
def gP (kd : Nat) : Value := match kd with | 0 => .slice none 0 0 | 1 => .pointer none | 2 => .map none | _ => .nilFunc
def pR (kd : Nat) (D : TypeDesc) : Bool := match kd, D with | 0, .slice _ => true | 1, .pointer _ => true | 2, .map _ _ => true | 3, .func _ _ _ => true | _, _ => false
theorem tf {d kd : Nat} {t : TypeId} {D : TypeDesc} (ht : P.underlying t = some D) (hD : pR kd D = true) {u : Value} {x : AV} {b : Bool} (hx : isNil kd x = some b) (hu : aR M L u x) : (Op.equalIn (d + 1) t u (gP kd)).run P w = .ok b w := by
 unfold isNil at hx
 split at hx <;> cases hx <;> cases D <;> simp [pR] at hD <;> cases hu <;> simp [Op.equalIn, run_underlying ht, gP]
theorem uv {kd : Nat} {neq : Bool} {t : TypeId} {D : TypeDesc} (ht : P.underlying t = some D) (hD : pR kd D = true) {u : Value} {x : AV} {φ : AV → Prop} (h : de kd neq x φ) (hu : aR M L u x) (X Y : Operand) :
 ∃ r z, (do eqGuard (if neq then .neq else .eql) t X Y u (gP kd); binOp (if neq then .neq else .eql) t u (gP kd) : Sem Value).run P w = .ok r w ∧ aR M L r z ∧ φ z ∧ ∀ own xs, z = .ap own xs → own = 0 := by
 unfold de at h
 split at h
 rotate_left
 ·split at h <;> try exact h.elim
  cases hu with
  | ap b off c own e cs xs he hx hn hle hc hr hm => simp at hn
  | gh ad c own hc =>
    have hDs : ∃ e, D = .slice e := by
     cases D <;> simp [pR] at hD
     exact ⟨_, rfl⟩
    obtain ⟨e, rfl⟩ := hDs
    have YC : ∀ d, (Op.equalIn (d + 1) t (.slice ad 0 c) (gP 0)).run P w = .ok (ad.isNone) w := by
     intro d
     cases ad <;> simp [Op.equalIn, run_underlying ht, gP]
    have he : (Op.equal t (.slice ad 0 c) (gP 0)).run P w = .ok (ad.isNone) w := YC 9999
    have hg : ∀ op, (eqGuard op t X Y (.slice ad 0 c) (gP 0)).run P w = .ok () w := by
     intro op
     unfold eqGuard; cases op <;> rfl
    have h1 : binOp .eql t (.slice ad 0 c) (gP 0) = (Op.equal t (.slice ad 0 c) (gP 0) >>= fun q => (pure (.bool q) : Sem Value)) := rfl
    have h2 : binOp .neq t (.slice ad 0 c) (gP 0) = (Op.equal t (.slice ad 0 c) (gP 0) >>= fun q => (pure (.bool (!q)) : Sem Value)) := rfl
    have hφ : ∀ b, φ (.bool b) := fun b => by cases b; exact h.2; exact h.1
    cases neq
    ·refine ⟨.bool ad.isNone, .bool ad.isNone, ?_, .bool _, hφ _, by intro _ _ e; cases e⟩
     simp only [Bool.false_eq_true, if_false, Sem.run_bind, hg, Result.andThen_ok, h1, he, Sem.run_pure]
    ·refine ⟨.bool (!ad.isNone), .bool (!ad.isNone), ?_, .bool _, hφ _, by intro _ _ e; cases e⟩
     simp only [if_true, Sem.run_bind, hg, Result.andThen_ok, h2, he, Sem.run_pure]
 rename_i b hb
 have he : (Op.equal t u (gP kd)).run P w = .ok b w := tf (d := 9999) ht hD hb hu
 have hg : ∀ op, (eqGuard op t X Y u (gP kd)).run P w = .ok () w := by
  intro op
  unfold isNil at hb
  split at hb <;> cases hb <;> cases hu <;> (unfold eqGuard; cases op <;> rfl)
 have h1 : binOp .eql t u (gP kd) = (Op.equal t u (gP kd) >>= fun q => (pure (.bool q) : Sem Value)) := by
  unfold isNil at hb
  split at hb <;> cases hb <;> cases hu <;> rfl
 have h2 : binOp .neq t u (gP kd) = (Op.equal t u (gP kd) >>= fun q => (pure (.bool (!q)) : Sem Value)) := by
  unfold isNil at hb
  split at hb <;> cases hb <;> cases hu <;> rfl
 cases neq
 ·refine ⟨.bool b, .bool b, ?_, .bool _, h, by intro _ _ e; cases e⟩
  simp only [Bool.false_eq_true, if_false, Sem.run_bind, hg, Result.andThen_ok, h1, he, Sem.run_pure]
 ·refine ⟨.bool (!b), .bool (!b), ?_, .bool _, h, by intro _ _ e; cases e⟩
  simp only [if_true, Sem.run_bind, hg, Result.andThen_ok, h2, he, Sem.run_pure]
theorem uw (hf : Fr A n M L w H env O a) {xs : List Operand} {is : List IX} (hc : fp xs = some is) : aJ M L (xs.map a.eval) (is.map fun x => (al env x).ab) := by
 have := (hf.OL hc).cV
 rwa [List.map_map] at this
theorem b8 (hf : Fr A n M L w H env O a) {x : Option Operand} {i : Option IX} (hc : jX x = some i) : iP M L (gv env i) (x.map a.eval) := by
 cases x with
 | none => simp [jX] at hc; subst hc; trivial
 | some x =>
   simp only [jX] at hc
   obtain ⟨j, hj, rfl⟩ := Option.map_eq_some_iff.1 hc
   exact hf.eval hj
theorem E1 {e : TypeId} {esz : Nat} {z : AV} (h : cS P e = some (esz, z)) : dD P e = some esz ∧ fz P e = some z ∧ 0 < esz ∧ z.cells.length = esz ∧ z.val = true := by
 unfold cS at h
 split at h <;> try cases h
 rename_i h1 h2
 split at h <;> cases h
 rename_i hc
 exact ⟨h1, h2, hc⟩
theorem Gp {x : AV} (h : aL 0 x) : iM .string x = true := by
 cases x <;> first | rfl | exact (show False from h).elim
theorem A7 {x : AV} (h : aL 1 x) (e : TypeId) : iM (.slice e) x = true := by
 cases x <;> first | rfl | exact (show False from h).elim
theorem Gq {x : AV} (h : aL 2 x) (k e : TypeId) : iM (.map k e) x = true := by
 cases x <;> first | rfl | exact (show False from h).elim
theorem IG (o : Oper) {fl : Nat} {i : bX} (hc : cn P o fl = some i) (hp : ∀ l, lo = some l → ∀ id, l ≤ id → A.top id = none) (hf : Fr A n M L w H env O a) (hd : ∀ d, o.dst = some d → d < n) (hnone : (match o.op with | .store .. | .mapUpdate .. => o.dst = none | _ => True))
 (h : bp ⟨P, lo⟩ i o.dst env H K) : o.wpIn (wf ro) 0 P a w (mK A n M L w K) Q := by
 cases cL : o.op with
 | move x =>
   simp only [cn, cL] at hc
   obtain ⟨j, hj, rfl⟩ := Option.map_eq_some_iff.1 hc
   exact xr (.inl cL) hj hf hd h
 | assign x =>
   simp only [cn, cL] at hc
   obtain ⟨j, hj, rfl⟩ := Option.map_eq_some_iff.1 hc
   exact xr (.inr cL) hj hf hd h
 | pick c x y =>
   simp only [cn, cL] at hc
   split at hc <;> cases hc
   rename_i c' x' y' h1 h2 h3
   simp only [bp] at h
   obtain ⟨b, hb, h⟩ := nR h
   have hr := hf.eval h1
   rw [hb] at hr
   generalize hu : a.eval c = u at hr
   cases hr
   cases b
   ·exact wp_pure hf hd (by simp [execOp, cL, hu, asBool]) (hf.eval h3).ab (AV.bI _) (h.2 rfl)
   ·exact wp_pure hf hd (by simp [execOp, cL, hu, asBool]) (hf.eval h2).ab (AV.bI _) (h.1 rfl)
 | alloc e =>
   simp only [cn, cL] at hc
   split at hc <;> try cases hc
   rename_i z hz
   split at hc <;> cases hc
   rename_i hv
   simp only [bp] at h
   obtain ⟨r, L', w', h1, h2, h3, h4, h5⟩ := Dd (P := P) hf.st hz hv h.1
   exact nQ hf hd (by simp only [execOp, cL]; exact aU h1) h2 (by intro _ _ e; cases e) h3 h4 h5 h.2
 | box e x =>
   simp only [cn, cL] at hc
   obtain ⟨j, hj, hc⟩ := Option.map_eq_some_iff.1 hc
   split at hc <;> subst hc <;> simp only [bp] at h
   ·obtain ⟨r, M', w', h1, h2, h3, h4⟩ := Gc (P := P) hf.st e (hf.eval hj) h.1
    exact nQ hf hd (by simp only [execOp, cL]; exact aU h1) h2 (by intro _ _ e; cases e) h3 h4 (List.prefix_refl L) h.2
   ·obtain ⟨r, L', w', h1, h2, h3, h4, h5⟩ := AM (P := P) hf.st e (hf.eval hj) h.1 h.2.1
    exact nQ hf hd (by simp only [execOp, cL]; exact aU h1) h2 (by intro _ _ e; cases e) h3 h4 h5 h.2.2
 | build t ps =>
   simp only [cn, cL] at hc
   split at hc <;> try cases hc
   rename_i z places ht
   split at hc <;> try cases hc
   rename_i qs hq
   split at hc <;> cases hc
   rename_i hv
   simp only [bp] at h
   obtain ⟨r, x, h1, h2, h3, h4⟩ := Df (P := P) hf ht hq h hv
   exact wp_pure hf hd (by simp only [execOp, cL]; exact aU h1) h2 h4 h3
 | buildSlice t len ps =>
   simp only [cn, cL] at hc
   split at hc <;> try cases hc
   rename_i e ht
   split at hc <;> try cases hc
   rename_i esz z qs hz hq
   split at hc <;> cases hc
   rename_i hlen
   obtain ⟨p1, p2, p3, p4, p5⟩ := E1 hz
   obtain ⟨q1, q2⟩ := mq hf _ _ hq
   by_cases T8 : fl = 2
   ·rw [if_pos T8] at h
    simp only [bp] at h
    obtain ⟨r, x, L', w', H', h1, h2, h3, h4, h5, h6, h7⟩ := Gl (P := P) hf.st ht p1 p3 p2 p4 p5 hlen (vs := ps.map fun (i, x) => (i, a.eval x)) (by
     intro j p hp
     obtain ⟨v, v1, v2⟩ := q1 j p hp
     exact ⟨v, by simpa using v1, v2⟩) (by simp [q2]) h
    exact nQ hf hd (by simp only [execOp, cL]; exact aU h1) h2 h3 h5 h6 h7 h4
   rw [if_neg T8] at h
   simp only [bp] at h
   obtain ⟨m, xs, M', w', ad, h1, h2, h3, h4, h5, h6⟩ := s8 (P := P) hf.st ht p1 p3 p2 p4 p5 (if fl = 1 then esz else 0) hlen (vs := ps.map fun (i, x) => (i, a.eval x)) (by
    intro j p hp
    obtain ⟨v, v1, v2⟩ := q1 j p hp
    exact ⟨v, by simpa using v1, v2⟩) (by simp [q2]) h
   obtain ⟨O', oX⟩ := (hf.mono h5 h6).EU (dst := o.dst) hd h2 (fun ep y hy => by
    split at ep
    ·rename_i LW; rw [if_pos LW]; exact h3 y hy
    ·exact absurd rfl ep)
   exact db (by simp only [execOp, cL]; exact aU h1) ⟨M', L, H, _, O', h4, oX, h6, List.prefix_refl L⟩
 | load t x =>
   simp only [cn, cL] at hc
   split at hc <;> try cases hc
   rename_i sz j ht hj
   split at hc
   ·split at hc <;> cases hc
    rename_i hs
    subst hs
    exact ur cL ht hj hf hd h
   split at hc
   ·cases hc
    simp only [bp] at h
    obtain ⟨r, z, h1, h2, h3, h4⟩ := qX (P := P) ht hf.st h (hf.eval hj)
    obtain ⟨y, M', H', O', g1, g2, g3, g4, g5⟩ := rc hf.st h3 h2
    obtain ⟨O'', oX⟩ := (hf.mono g3 g4).ow (dst := o.dst) hd g1 g5
    exact db (by simp only [execOp, cL]; exact aU h1) ⟨M', L, H', _, O'', g2, oX, g4, List.prefix_refl L⟩
   ·cases hc
    simp only [bp] at h
    obtain ⟨r, z, h1, h2, h3, h4⟩ := qX (P := P) ht hf.st h (hf.eval hj)
    exact bL hf hd ⟨r, z, by simp only [execOp, cL]; exact aU h1, h2, h3, h4⟩
 | store t x y =>
   simp only [cL] at hnone
   simp only [cn, cL] at hc
   split at hc <;> try cases hc
   rename_i m j k ht hj hk
   split at hc
   ·split at hc <;> try cases hc
    rename_i s
    split at hc <;> cases hc
    rename_i hm
    subst hm
    exact wJ cL ht hj hk hf hnone h
   split at hc
   ·cases hc
    simp only [bp] at h
    obtain ⟨l, rfl⟩ : ∃ l, lo = some l := by cases lo with | none => exact h.elim | some l => exact ⟨l, rfl⟩
    obtain ⟨w', H', O', h1, h2, h3, h4⟩ := AQ (P := P) hf.st (hp l rfl) ht h (hf.eval hj) (hf.eval hk)
    refine lr (by simp only [execOp, cL]; exact pO h1) ⟨M, L, H', env, O', h2, ?_, h4, List.prefix_refl L⟩
    rw [hnone]; exact ⟨h3, hf.size, hf.defers.ext h4⟩
   ·cases hc
    simp only [bp] at h
    obtain ⟨w', H', O', h1, h2, h3, h4⟩ := Dg (P := P) hf.st ht h (hf.eval hj) (hf.eval hk)
    refine lr (by simp only [execOp, cL]; exact pO h1) ⟨M, L, H', env, O', h2, ?_, h4, List.prefix_refl L⟩
    rw [hnone]; exact ⟨h3, hf.size, hf.defers.ext h4⟩
 | nilCheck x =>
   simp only [cn, cL] at hc
   obtain ⟨j, hj, rfl⟩ := Option.map_eq_some_iff.1 hc
   simp only [bp] at h
   exact bL hf hd (wC cL h (hf.eval hj))
 | binOp op t x y yt =>
   simp only [cn, cL] at hc
   split at hc <;> try cases hc
   rename_i j k hj hk
   have hx := hf.eval hj
   have hy := hf.eval hk
   have plain : ∀ {op}, cW op (al env j) (al env k) (fun z => K (put o.dst z env) H) → o.op = .binOp op t x y yt → o.wpIn (wf ro) 0 P a w (mK A n M L w K) Q := by
    intro op h cL
    obtain ⟨r, z, h1, h2, h3, h4⟩ := Im (P := P) (w := w) (t := t) h hx hy x y
    exact bL hf hd ⟨r, z, by simp only [execOp, cL]; exact aU h1, h2, h3, h4⟩
   split at hc
   ·cases hc
    simp only [bp] at h
    obtain ⟨r, z, h1, h2, h3, h4⟩ := uc (P := P) (w := w) (t := t) h hx hy x y
    exact bL hf hd ⟨r, z, by simp only [execOp, cL]; exact aU h1, h2, h3, h4⟩
   ·cases hc
    simp only [bp] at h
    obtain ⟨r, z, h1, h2, h3, h4⟩ := uc (P := P) (w := w) (t := t) h hx hy x y
    exact bL hf hd ⟨r, z, by simp only [execOp, cL]; exact aU h1, h2, h3, h4⟩
   ·split at hc <;> try cases hc
    ·rename_i ht
     simp only [bp] at h
     obtain ⟨r, z, h1, h2, h3, h4⟩ := sm (P := P) (w := w) (neq := false) ht h hx hy x y
     exact bL hf hd ⟨r, z, by simp only [execOp, cL]; exact aU h1, h2, h3, h4⟩
    ·exact plain (op := .eql) h cL
    ·exact plain (op := .eql) h cL
    all_goals
     rename_i ht
     split at hc <;> cases hc
     simp only [bp] at h
     obtain ⟨r, z, h1, h2, h3, h4⟩ := uv (P := P) (w := w) (neq := false) ht rfl h hx x (.const .nilFunc)
     exact bL hf hd ⟨r, z, by simp only [execOp, cL]; exact aU h1, h2, h3, h4⟩
   ·split at hc <;> try cases hc
    ·rename_i ht
     simp only [bp] at h
     obtain ⟨r, z, h1, h2, h3, h4⟩ := sm (P := P) (w := w) (neq := true) ht h hx hy x y
     exact bL hf hd ⟨r, z, by simp only [execOp, cL]; exact aU h1, h2, h3, h4⟩
    ·exact plain (op := .neq) h cL
    ·exact plain (op := .neq) h cL
    all_goals
     rename_i ht
     split at hc <;> cases hc
     simp only [bp] at h
     obtain ⟨r, z, h1, h2, h3, h4⟩ := uv (P := P) (w := w) (neq := true) ht rfl h hx x (.const .nilFunc)
     exact bL hf hd ⟨r, z, by simp only [execOp, cL]; exact aU h1, h2, h3, h4⟩
   ·cases hc; exact plain h cL
 | unOp op t x =>
   simp only [cn, cL] at hc
   obtain ⟨j, hj, rfl⟩ := Option.map_eq_some_iff.1 hc
   simp only [bp] at h
   obtain ⟨r, z, h1, h2, h3, h4⟩ := LK (P := P) (w := w) h (hf.eval hj)
   exact bL hf hd ⟨r, z, by simp only [execOp, cL]; exact aU h1, h2, h3, h4⟩
 | convert src dst x =>
   simp only [cn, cL] at hc
   split at hc <;> try cases hc
   ·rename_i k1 k2 j hs Qh hj
    simp only [bp] at h
    obtain ⟨r, z, h1, h2, h3, h4⟩ := yJ (P := P) (w := w) hs Qh h (hf.eval hj)
    exact bL hf hd ⟨r, z, by simp only [execOp, cL]; exact aU h1, h2, h3, h4⟩
   ·rename_i j hs Qh hj
    simp only [bp] at h
    obtain ⟨r, z, h1, h2, h3, h4⟩ := yO (P := P) (w := w) hs Qh h (hf.eval hj)
    exact bL hf hd ⟨r, z, by simp only [execOp, cL]; exact aU h1, h2, h3, h4⟩
   ·rename_i e j hs Qh hj
    split at hc <;> cases hc
    rename_i he
    simp only [bp] at h
    obtain ⟨r, z, w', M', ob, h1, h2, h3, h4, h5, h6, h7, h8⟩ := yP (P := P) hf.st hs Qh he h (hf.eval hj)
    exact uq hf hd (by simp only [execOp, cL]; exact aU h1) h2 h4 h5 h6 h7 h8 h3
   ·rename_i e j hs Qh hj
    split at hc <;> cases hc
    rename_i he
    simp only [bp] at h
    obtain ⟨r, z, h1, h2, h3, h4⟩ := Dk (P := P) hf.st hs he Qh h (hf.eval hj)
    exact bL hf hd ⟨r, z, by simp only [execOp, cL]; exact aU h1, h2, h3, h4⟩
 | makeFunc f first cap =>
   simp only [cn, cL] at hc
   split at hc <;> cases hc
   rename_i i j hi hj
   simp only [bp] at h
   refine bL hf hd ⟨.func f (first.map a.eval) (cap.map a.eval), _, ?_, ?_, h, by intro _ _ e; cases e⟩
   ·simp only [execOp, cL]; rfl
   ·have := aR.fn (M := M) (L := L) f (first.toList.map a.eval) (cap.toList.map a.eval) _ _ (uw hf hi) (uw hf hj)
    rw [show (first.toList.map a.eval).toArray = first.map a.eval by apply Array.ext'; simp, show (cap.toList.map a.eval).toArray = cap.map a.eval by apply Array.ext'; simp] at this
    exact this
 | makeMap t r =>
   cases r with
   | some r => simp [cn, cL] at hc
   | none =>
     simp only [cn, cL] at hc
     cases hc
     simp only [bp] at h
     obtain ⟨r, L', w', h1, h2, h3, h4, h5⟩ := Dn (P := P) hf.st t
     exact nQ hf hd (by simp only [execOp, cL]; exact aU h1) h2 (by intro _ _ e; cases e) h3 h4 h5 h
 | makeSlice t l c =>
   simp only [cn, cL] at hc
   split at hc <;> try cases hc
   rename_i e k ht hk
   split at hc <;> try cases hc
   rename_i esz z bytes hz hb
   split at hc <;> try cases hc
   rename_i hcond
   obtain ⟨ui, IF⟩ := hcond
   obtain ⟨p1, p2, p3, p4, p5⟩ := E1 hz
   obtain ⟨inf, iL, c9⟩ := Option.map_eq_some_iff.1 p1
   obtain ⟨inf', sA, xj⟩ := Option.map_eq_some_iff.1 hb
   rw [iL] at sA; cases sA
   unfold fz at p2
   simp only [iL] at p2
   split at p2 <;> try cases p2
   rename_i zv so
   split at hc
   ·cases hc
    simp only [bp] at h
    have tx : zv.cells.size = esz := by have := ((cC (M := M) (L := L) p2).fO p5).length; rw [p4] at this; simpa using this
    obtain ⟨r, w', M', b, h1, h2, h3, h4, h5, h6, h7, h8, h9, YD⟩ := Dj (P := P) hf.st ht iL so c9 xj p3 ui tx h (hf.eval hk)
    exact uq hf hd (by simp only [execOp, cL]; exact aU h1) h2 h4 h5 h6 (fun q b' dW => by cases dW; exact h7 q) (fun b' dW => by cases dW; exact ⟨h8, h9, YD⟩) h3
   ·split at hc <;> cases hc
    rename_i hsame
    simp only [bp] at h
    have yK : a.eval l = a.eval c := by
     unfold IE at hsame
     split at hsame
     ·simp at hsame; subst hsame; rfl
     ·simp at hsame; subst hsame; rfl
     ·cases hsame
    have Iy : ∀ y ∈ z.cells, ∀ own xs, y = .ap own xs → own = 0 := by
     intro y hy own xs e
     have := List.all_eq_true.1 IF y hy
     subst e
     simpa using this
    obtain ⟨r, x, L', w', H', h1, h2, h3, h4, h5, h6, h7⟩ := Di (P := P) hf.st ht iL so c9 xj p3 ui p2 p5 p4 Iy h (hf.eval hk)
    exact nQ hf hd (by simp only [execOp, cL, yK]; exact aU h1) h2 h3 h5 h6 h7 h4
 | slice t x lo hi mx =>
   simp only [cn, cL] at hc
   split at hc <;> try cases hc
   ·rename_i e i l h' m ht mD hl hh hm
    split at hc <;> try cases hc
    rename_i esz he
    split at hc <;> cases hc
    rename_i h0
    by_cases LW : fl = 4
    ·rw [if_pos LW] at h
     simp only [bp] at h
     obtain ⟨ad, k, c, own, ys, h1, h2, ⟨h3, Tt⟩, h4⟩ := uj (P := P) hf.st ht he h0 h.2 (hf.eval mD) h.1 (b8 hf hl) (b8 hf hh) (b8 hf hm)
     cases h3
     obtain ⟨rfl, _⟩ := h4 (by omega)
     have hk : k = 0 := by
      cases h2 with
      | gh => rfl
      | ap b off c own e cs xs he hx hn => simp at hn
     subst hk
     exact bL hf hd ⟨_, _, by simp only [execOp, cL]; exact aU h1, .ou ad, Tt, by intro _ _ e; cases e⟩
    rw [if_neg LW] at h
    simp only [bp] at h
    unfold bA at h
    split at h
    ·rename_i e0 a0 b0 c0 d0 Ix
     rw [← Ix] at h
     split at h
     ·rename_i AT
      have Tp : mx = none := by
       cases mx with
       | none => rfl
       | some q => simp only [jX] at hm; obtain ⟨_, _, rfl⟩ := Option.map_eq_some_iff.1 hm; cases AT
      subst Tp
      obtain ⟨r, z, h1, h2, h3, h4⟩ := AZ (P := P) ht he h (hf.eval mD) (b8 hf hl) (b8 hf hh)
      exact bL hf hd ⟨r, z, by simp only [execOp, cL]; exact aU h1, h2, h3, h4⟩
     ·rename_i m0 AT
      have hm3 := b8 (a := a) hf hm
      rw [AT] at hm3
      obtain ⟨r, z, h1, h2, h3, h4⟩ := A0 (P := P) ht he h (hf.eval mD) (b8 hf hl) (b8 hf hh) hm3
      exact bL hf hd ⟨r, z, by simp only [execOp, cL]; exact aU h1, h2, h3, h4⟩
    obtain ⟨ad, k, c, own, ys, h1, h2, h3, h4⟩ := uj (P := P) hf.st ht he h0 h.2 (hf.eval mD) h.1 (b8 hf hl) (b8 hf hh) (b8 hf hm)
    by_cases tb : own = 0
    ·subst tb
     exact bL hf hd ⟨_, _, by simp only [execOp, cL]; exact aU h1, h2, h3, by intro _ _ e; cases e; rfl⟩
    ·obtain ⟨rfl, h5⟩ := h4 tb
     obtain ⟨O', oX⟩ := hf.EU (dst := o.dst) hd h2 (fun _ => h5)
     exact db (by simp only [execOp, cL]; exact aU h1) ⟨M, L, H, _, O', h3, oX, Ext.refl A M w, List.prefix_refl L⟩
   ·rename_i i l h' ht mD hl hh hm
    simp only [bp] at h
    have Tp : mx = none := by
     cases mx with
     | none => rfl
     | some q => simp only [jX] at hm; obtain ⟨_, _, hz⟩ := Option.map_eq_some_iff.1 hm; cases hz
    subst Tp
    obtain ⟨r, z, h1, h2, h3, h4⟩ := wG (P := P) (w := w) ht h (hf.eval mD) (b8 hf hl) (b8 hf hh)
    exact bL hf hd ⟨r, z, by simp only [execOp, cL]; exact aU h1, h2, h3, h4⟩
 | fieldAddr s x f =>
   simp only [cn, cL] at hc
   split at hc <;> cases hc
   rename_i off sz j ht hj
   simp only [bp] at h
   obtain ⟨r, z, h1, h2, h3, h4⟩ := ud (P := P) (w := w) ht h (hf.eval hj)
   exact bL hf hd ⟨r, z, by simp only [execOp, cL]; exact aU h1, h2, h3, h4⟩
 | field s x f =>
   simp only [cn, cL] at hc
   split at hc <;> cases hc
   rename_i off sz j ht hj
   simp only [bp] at h
   obtain ⟨r, z, h1, h2, h3, h4⟩ := Db (P := P) (w := w) ht h (hf.eval hj)
   exact bL hf hd ⟨r, z, by simp only [execOp, cL]; exact aU h1, h2, h3, h4⟩
 | indexAddr t x i =>
   simp only [cn, cL] at hc
   split at hc <;> try cases hc
   rename_i e j k ht hj hk
   obtain ⟨esz, he, rfl⟩ := Option.map_eq_some_iff.1 hc
   simp only [bp] at h
   obtain ⟨r, z, h1, h2, h3, h4⟩ := ue (P := P) (w := w) ht he h.2 h.1 (hf.eval hj) (hf.eval hk)
   exact bL hf hd ⟨r, z, by simp only [execOp, cL]; exact aU h1, h2, h3, h4⟩
 | index t x i =>
   simp only [cn, cL] at hc
   split at hc <;> try cases hc
   ·rename_i j k ht hj hk
    simp only [bp] at h
    obtain ⟨r, z, h1, h2, h3, h4⟩ := wB (P := P) (w := w) ht h (hf.eval hj) (hf.eval hk)
    exact bL hf hd ⟨r, z, by simp only [execOp, cL]; exact aU h1, h2, h3, h4⟩
   ·rename_i m e j k ht hj hk
    split at hc <;> cases hc
    rename_i he
    simp only [bp] at h
    obtain ⟨r, z, h1, h2, h3, h4⟩ := wA (P := P) (w := w) ht he h (hf.eval hj) (hf.eval hk)
    exact bL hf hd ⟨r, z, by simp only [execOp, cL]; exact aU h1, h2, h3, h4⟩
 | lookup t m k ok =>
   simp only [cn, cL] at hc
   split at hc <;> try cases hc
   rename_i kt et i j ht hi hj
   split at hc <;> cases hc
   rename_i kd z hk hz
   simp only [bp] at h
   obtain ⟨r, z, h1, h2, h3, h4⟩ := AX (P := P) hf.st ht hk hz h (hf.eval hi) (hf.eval hj)
   exact bL hf hd ⟨r, z, by simp only [execOp, cL]; exact aU h1, h2, h3, h4⟩
 | mapUpdate t m k x =>
   simp only [cL] at hnone
   simp only [cn, cL] at hc
   split at hc <;> try cases hc
   rename_i kt et i j y ht hi hj hy
   obtain ⟨kd, hk, rfl⟩ := Option.map_eq_some_iff.1 hc
   simp only [bp] at h
   obtain ⟨w', H', h1, h2, h3, h4⟩ := AY (P := P) hf.st ht hk h (hf.eval hi) (hf.eval hj) (hf.eval hy)
   refine lr (by simp only [execOp, cL]; exact pO h1) ⟨M, L, H', env, O, h2, ?_, h4, List.prefix_refl L⟩
   rw [hnone]; exact ⟨h3, hf.size, hf.defers.ext h4⟩
 | extract x i =>
   simp only [cn, cL] at hc
   obtain ⟨j, hj, rfl⟩ := Option.map_eq_some_iff.1 hc
   simp only [bp] at h
   obtain ⟨r, z, h1, h2, h3, h4⟩ := yI (P := P) (w := w) h (hf.eval hj)
   exact bL hf hd ⟨r, z, by simp only [execOp, cL]; exact aU h1, h2, h3, h4⟩
 | call c =>
   simp only [cn, cL] at hc
   split at hc
   ·rename_i f mE
    split at hc <;> cases hc
    rename_i i js hi hj
    exact Dr cL mE hi hj hp hf hd h
   ·rename_i mE
    split at hc <;> try cases hc
    rename_i x t hargs yZ
    have hcall : c = { callee := .builtin .len, args := #[x], argTypes := #[t] } := by
     obtain ⟨c1, c2, c3⟩ := c
     simp only at mE hargs yZ
     subst mE
     rw [show c2 = #[x] from Array.ext' hargs, show c3 = #[t] from Array.ext' yZ]
    subst hcall
    have fin : ∀ {d : TypeDesc} {kd : Nat} {j : IX}, P.underlying t = some d → aP x = some j → iM d (al env j) = true → (eY (al env j) H fun z => K (put o.dst z env) H) → o.wpIn (wf ro) 0 P a w (mK A n M L w K) Q := by
     intro d kd j ht hj hk h
     obtain ⟨r, z, h1, h2, h3, h4⟩ := Ir (P := P) ht hf.st hk h (hf.eval hj) o.type
     refine bL hf hd ⟨r, z, ?_, h2, h3, h4⟩
     simp only [execOp, cL, resolve, invoke, builtin, Sem.run_bind, Sem.run_pure, Result.andThen_ok, List.map_toArray, List.map_cons, List.map_nil, h1]
    split at hc <;> cases hc
    ·rename_i j ht hj; exact fin (kd := 0) ht hj (Gp h.1) h.2
    ·rename_i e j ht hj; exact fin (kd := 0) ht hj (A7 h.1 e) h.2
    ·rename_i k e j ht hj; exact fin (kd := 0) ht hj (Gq h.1 k e) h.2
   ·rename_i mE
    split at hc <;> try cases hc
    rename_i s x t t' hargs yZ
    split at hc <;> try cases hc
    rename_i htt
    subst htt
    split at hc <;> try cases hc
    rename_i e i j ht hi hj
    split at hc <;> try cases hc
    rename_i esz z bytes hz hb
    split at hc <;> try cases hc
    rename_i ui
    have hcall : c = { callee := .builtin .append, args := #[s, x], argTypes := #[t, t] } := by
     obtain ⟨c1, c2, c3⟩ := c
     simp only at mE hargs yZ
     subst mE
     rw [show c2 = #[s, x] from Array.ext' hargs, show c3 = #[t, t] from Array.ext' yZ]
    subst hcall
    split at hc
    ·split at hc <;> cases hc
     rename_i IF
     exact wL cL ht hz hb ui IF hi hj hf hd h
    cases hc
    exact yX cL ht hz hb ui hi hj hf hd h
   ·rename_i mE
    split at hc <;> try cases hc
    rename_i x y hargs
    split at hc <;> cases hc
    rename_i i j hi hj
    simp only [bp] at h
    obtain ⟨r, z, h1, h2, h3, h4⟩ := EV (P := P) (w := w) (big := true) h (hf.eval hi) (hf.eval hj) c.argTypes o.type
    refine bL hf hd ⟨r, z, ?_, h2, h3, h4⟩
    have hargs' : c.args = #[x, y] := Array.ext' hargs
    simp only [if_true] at h1
    simp only [execOp, cL, resolve, mE, invoke, builtin, Sem.run_bind, Sem.run_pure, Result.andThen_ok, hargs', List.map_toArray, List.map_cons, List.map_nil, h1]
   ·rename_i mE
    split at hc <;> try cases hc
    rename_i x y hargs
    split at hc <;> cases hc
    rename_i i j hi hj
    simp only [bp] at h
    obtain ⟨r, z, h1, h2, h3, h4⟩ := EV (P := P) (w := w) (big := false) h (hf.eval hi) (hf.eval hj) c.argTypes o.type
    refine bL hf hd ⟨r, z, ?_, h2, h3, h4⟩
    have hargs' : c.args = #[x, y] := Array.ext' hargs
    simp only [Bool.false_eq_true, if_false] at h1
    simp only [execOp, cL, resolve, mE, invoke, builtin, Sem.run_bind, Sem.run_pure, Result.andThen_ok, hargs', List.map_toArray, List.map_cons, List.map_nil, h1]
   ·cases hc
 | _ => simp [cn, cL] at hc
theorem Ds (o : Oper) (hf : Fr A n M L w H env O a) (hd : ∀ d, o.dst = some d → d < n) (h : bp ⟨P, lo⟩ (pN P o) o.dst env H K) : o.wpIn (wf ro) 0 P a w (mK A n M L w K) Q := by
 cases cL : o.op with
 | call c =>
   simp only [pN, cL] at h
   split at h <;> try exact h.elim
   rotate_left
   ·rename_i mE
    split at h <;> try exact h.elim
    rename_i s t hargs yZ
    split at h <;> try exact h.elim
    rename_i e i ht hi
    split at h <;> try exact h.elim
    rename_i esz z hz
    simp only [bp] at h
    unfold cS at hz
    split at hz <;> try cases hz
    rename_i esz' z' ON oz
    split at hz <;> cases hz
    rename_i hcond
    obtain ⟨h0, iN, so⟩ := hcond
    obtain ⟨inf, iL, c9⟩ := Option.map_eq_some_iff.1 ON
    unfold fz at oz
    simp only [iL] at oz
    split at oz <;> try cases oz
    rename_i zv ug
    obtain ⟨w', H', O', h1, h2, h3, h4⟩ := A5 (P := P) hf.st ht iL ug h0 oz so iN h (hf.eval hi) o.type
    obtain ⟨O'', oX⟩ := (hf.mono h3 h4).ow (dst := o.dst) hd (.tuple [] [] .nil) (by intro _ _ e; cases e)
    have hargs' : c.args = #[s] := Array.ext' hargs
    have IH : c.argTypes = #[t] := Array.ext' yZ
    refine db (v := .tuple #[]) ?_ ⟨M, L, H', _, O'', h2, oX, h4, List.prefix_refl L⟩
    simp only [execOp, cL, resolve, mE, invoke, builtin, Sem.run_bind, Sem.run_pure, Result.andThen_ok, hargs', IH, List.map_toArray, List.map_cons, List.map_nil, h1]
   rename_i mE
   split at h <;> try exact h.elim
   rename_i s x t t' hargs yZ
   split at h <;> try exact h.elim
   rename_i e i j ht hi hj
   split at h <;> try exact h.elim
   rename_i esz he
   simp only [bp] at h
   obtain ⟨r, z, w', H', O', h1, h2, h3, h4, h5, h6⟩ := Gj (P := P) hf.st ht he h (hf.eval hi) (hf.eval hj) t' o.type
   obtain ⟨O'', oX⟩ := (hf.mono h4 h5).ow (dst := o.dst) hd h2 h6
   have hargs' : c.args = #[s, x] := Array.ext' hargs
   have IH : c.argTypes = #[t, t'] := Array.ext' yZ
   refine db (v := r) ?_ ⟨M, L, H', _, O'', h3, oX, h5, List.prefix_refl L⟩
   simp only [execOp, cL, resolve, mE, invoke, builtin, Sem.run_bind, Sem.run_pure, Result.andThen_ok, hargs', IH, List.map_toArray, List.map_cons, List.map_nil, h1]
 | _ => simp only [pN, cL] at h; exact h.elim
theorem Dt (o : Oper) (hf : Fr A n M L w H env O a) (hd : ∀ d, o.dst = some d → d < n) (h : bp ⟨P, lo⟩ (mX P o) o.dst env H K) : o.wpIn (wf ro) 0 P a w (mK A n M L w K) Q := by
 have key : ∀ {x : Operand}, (o.op = .move x ∨ o.op = .assign x) → ∀ {i : IX} {esz : Nat}, aP x = some i → (fh esz (al env i) H fun z H' => K (put o.dst z env) H') → o.wpIn (wf ro) 0 P a w (mK A n M L w K) Q := by
  intro x ho i esz hi h
  obtain ⟨z, M', H', O', h1, h2, h3, h4, h5⟩ := rc hf.st h (hf.eval hi)
  have bG : (execOp a.eval o).run P w = .ok (.value (a.eval x)) w := by
   rcases ho with ho | ho <;> simp [execOp, ho]
  obtain ⟨O'', oX⟩ := (hf.mono h3 h4).ow (dst := o.dst) hd h1 h5
  exact db bG ⟨M', L, H', _, O'', h2, oX, h4, List.prefix_refl L⟩
 cases cL : o.op with
 | move x =>
   simp only [mX, cL] at h
   split at h <;> try exact h.elim
   rename_i hi ht
   split at h <;> try exact h.elim
   exact key (.inl cL) hi h
 | assign x =>
   simp only [mX, cL] at h
   split at h <;> try exact h.elim
   rename_i hi ht
   split at h <;> try exact h.elim
   exact key (.inr cL) hi h
 | _ => simp only [mX, cL] at h; exact h.elim
theorem A8 (o : Oper) (esz : Nat) (hf : Fr A n M L w H env O a) (hd : ∀ d, o.dst = some d → d < n) (h : bp ⟨P, lo⟩ (kL esz o) o.dst env H K) : o.wpIn (wf ro) 0 P a w (mK A n M L w K) Q := by
 have key : ∀ {x : Operand}, (o.op = .move x ∨ o.op = .assign x) → ∀ {i : IX}, aP x = some i → (fh esz (al env i) H fun z H' => K (put o.dst z env) H') → o.wpIn (wf ro) 0 P a w (mK A n M L w K) Q := by
  intro x ho i hi h
  obtain ⟨z, M', H', O', h1, h2, h3, h4, h5⟩ := rc hf.st h (hf.eval hi)
  have bG : (execOp a.eval o).run P w = .ok (.value (a.eval x)) w := by
   rcases ho with ho | ho <;> simp [execOp, ho]
  obtain ⟨O'', oX⟩ := (hf.mono h3 h4).ow (dst := o.dst) hd h1 h5
  exact db bG ⟨M', L, H', _, O'', h2, oX, h4, List.prefix_refl L⟩
 cases cL : o.op with
 | move x =>
   simp only [kL, cL] at h
   split at h <;> try exact h.elim
   rename_i hi
   exact key (.inl cL) hi h
 | assign x =>
   simp only [kL, cL] at h
   split at h <;> try exact h.elim
   rename_i hi
   exact key (.inr cL) hi h
 | _ => simp only [kL, cL] at h; exact h.elim
theorem sC (o : Oper) {fl : Nat} (hp : ∀ l, lo = some l → ∀ id, l ≤ id → A.top id = none) (hf : Fr A n M L w H env O a) (hd : ∀ d, o.dst = some d → d < n) (hnone : (match o.op with | .store .. | .mapUpdate .. => o.dst = none | _ => True))
 (h : bp ⟨P, lo⟩ (A6 P o fl) o.dst env H K) : o.wpIn (wf ro) 0 P a w (mK A n M L w K) Q := by
 unfold A6 at h
 split at h
 ·exact Dt o hf hd h
 split at h
 ·exact A8 o _ hf hd h
 cases hc : cn P o fl with
 | none => rw [hc] at h; exact Ds o hf hd h
 | some i => rw [hc] at h; exact IG o hc hp hf hd hnone h
end
end Go.aK
end
section
namespace Go.aK
open Go
section
variable {M : Mem} {L : List Nat}
theorem pS {n : Nat} : ∀ {xs : List AV}, (∀ x ∈ xs, x.cells.length ≠ 0) → aj n (flat xs) = true → aj n xs = true
 | [], _, _ => rfl
 | x :: xs, hx, h => by
   rw [a9] at h ⊢
   intro y hy
   rcases List.mem_cons.1 hy with rfl | hy
   ·cases y with
    | agg ys =>
      simp only [AV.a7]
      rw [a9]
      intro z hz
      exact h z (by simp [flat, AV.cells, hz])
    | _ => exact h _ (by simp [flat, AV.cells])
   ·have := pS (xs := xs) (n := n) (fun x wo => hx x (List.mem_cons_of_mem _ wo)) (by
     rw [a9]
     intro z hz
     exact h z (by simp only [flat, List.flatMap_cons, List.mem_append] at hz ⊢; exact .inr hz))
    rw [a9] at this
    exact this y hy
theorem Gs {n : Nat} {x : AV} (h : aj n x.cells = true) : x.a7 n = true := by
 cases x <;> simp_all [AV.cells, AV.a7, aj]
theorem aR.L3 {v : Value} {x : AV} (h : aR M L v x) : x.a7 L.length = true := by
 induction h using aR.rec (motive_2 := fun vs xs _ => aj L.length xs = true) with
 | ap b off c own e cs xs he hx hn hle hc hr hm ih => exact pS (fun x wo => by rw [hx x wo]; omega) ih
 | bf b off len cap id hl hc => simp only [AV.a7, decide_eq_true_eq]; exact aN hl
 | agg cs xs hr ih => exact ih
 | tuple cs xs hr ih => exact ih
 | ptr b off id hl => simp only [AV.a7, decide_eq_true_eq]; exact aN hl
 | ai b off cs x hr hm ih => simp only [AV.a7]; exact Gs ih
 | map b id hl => simp only [AV.a7, decide_eq_true_eq]; exact aN hl
 | mM b id hl => simp only [AV.a7, decide_eq_true_eq]; exact aN hl
 | fn f fs cs xs ys h1 h2 i1 i2 => simp only [AV.a7, Bool.and_eq_true]; exact ⟨i1, i2⟩
 | iface t v x h ih => exact ih
 | cons v x vs xs h t i1 i2 => simp only [aj, Bool.and_eq_true]; exact ⟨i1, i2⟩
 | nil => rfl
 | _ => rfl
theorem aJ.L3 : ∀ {vs : List Value} {xs : List AV}, aJ M L vs xs → aj L.length xs = true
 | _, _, .nil => rfl
 | _, _, .cons _ _ _ _ h t => by simp only [aj, Bool.and_eq_true]; exact ⟨h.L3, t.L3⟩
end
section
variable {A : Perm} {M : Mem} {L : List Nat} {w : World} {H : List aa} {ev : Nat → Value} {ea : Nat → AV} {O : Pos → Option Nat}
theorem St.nS (h : St A M L w H ev ea O) {id b : Nat} {st st' : Tn} {lc : iz} {es : List AV} {r' : Loop} (bm : H[id]? = some (.loop st lc es)) (hL : L[id]? = some b)
 (hr : ∀ r, w.heap[b]? = some (.loop r) → r'.params = r.params ∧ r'.assign = r.assign ∧ r'.body = r.body ∧ r'.tmps = r.tmps ∧ r'.defers = r.defers ∧ st'.ok r') :
 St A M L (w.putObj b (.loop r')) (H.set id (.loop st' lc es)) ev ea O ∧ Ext A M w M (w.putObj b (.loop r')) := by
 have xf : b ∈ L := List.mem_of_getElem? hL
 have P7 := h.lt b xf
 obtain ⟨r0, hc, p1, p2, p3, p4, p5⟩ := h.obj id _ b bm hL
 obtain ⟨q1, q2, q3, q4, q5, q6⟩ := hr r0 hc
 have fN : ∀ k, k ≠ b → (w.putObj b (.loop r')).heap[k]? = w.heap[k]? := fun k hk => World.putObj_heap_other hk
 have mB : (w.putObj b (.loop r')).heap[b]? = some (.loop r') := World.putObj_heap_same P7
 have To : ∀ o, M b o = none := by
  intro o
  cases hm : M b o with
  | none => rfl
  | some v =>
    have := h.mem b o v hm
    simp [World.cell?, hc] at this
 have pI : id < H.length := aN bm
 refine ⟨{ len := by simp [h.len], nodup := h.nodup, env := h.env, mem := ?_, obj := ?_, bB := ?_, lt := ?_, gN := ?_, gK := ?_, bZ := h.bZ, cj := h.cj, eV := ?_, La := h.La, Oa := h.Oa, fresh := ?_ }, ?_⟩
 ·intro k o v hv
  have hk : k ≠ b := by rintro rfl; rw [To o] at hv; cases hv
  have := h.mem k o v hv
  simp only [World.cell?] at this ⊢
  rw [fN k hk]; exact this
 ·intro id' o k ho hk
  by_cases e0 : id' = id
  ·subst e0
   rw [hL] at hk; cases hk
   rw [List.getElem?_set_self pI] at ho
   cases ho
   exact ⟨r', mB, q1.trans p1, q2.trans p2, q3.trans p3, by rw [q4]; exact p4, q6⟩
  ·rw [List.getElem?_set_ne (fun h' => e0 h'.symm)] at ho
   have C2 : k ≠ b := by
    rintro rfl
    exact e0 ((List.getElem?_inj (aN hk) h.nodup).1 (hk.trans hL.symm))
   exact (h.obj id' o k ho hk).mono (Mem.bN M) (List.prefix_refl _) (fN k C2) (fun _ => rfl)
 ·intro id' o ho
  rw [List.length_set]
  by_cases e0 : id' = id
  ·subst e0
   rw [List.getElem?_set_self pI] at ho
   cases ho
   exact h.bB id' (.loop st lc es) bm
  ·rw [List.getElem?_set_ne (fun h' => e0 h'.symm)] at ho
   exact h.bB id' o ho
 ·intro k hk; simpa using h.lt k hk
 ·intro t
  exact (h.gN t).mono fun k hk => ⟨fN k (fun e3 => h.cj _ k hk (e3 ▸ xf)), fun _ => rfl⟩
 ·intro id' j
  by_cases e0 : id' = id
  ·subst e0
   have hn : O (.c id' j) = none := by
    have := h.gK id' j
    simp only [bo, bm] at this
    exact this
   have e2 : bo (H.set id' (.loop st' lc es)) id' j = .any := by
    unfold bo
    rw [List.getElem?_set_self pI]
   rw [e2, hn]; rfl
  ·have e1 : bK L (w.putObj b (.loop r')) id' j = bK L w id' j := by
    unfold bK
    split
    ·rename_i k hk
     have C2 : k ≠ b := by
      rintro rfl
      exact e0 ((List.getElem?_inj (aN hk) h.nodup).1 (hk.trans hL.symm))
     simp only [World.cell?]
     rw [fN k C2]
    ·rfl
   have e2 : bo (H.set id (.loop st' lc es)) id' j = bo H id' j := by
    unfold bo
    rw [List.getElem?_set_ne (fun h' => e0 h'.symm)]
   rw [e1, e2]
   exact (h.gK id' j).mono fun k hk => ⟨fN k (fun e3 => h.cj _ k hk (e3 ▸ xf)), fun _ => rfl⟩
 ·intro p k hp; simpa using h.eV p k hp
 ·intro k hk; simp at hk; exact h.fresh k hk
 ·exact ⟨Mem.bN M, by simp, rfl, rfl, rfl, fun k hk hA => ⟨fN k (fun e0 => hA (e0 ▸ h.La b xf)), fun _ => rfl⟩, fun k r hk => by
   by_cases e0 : k = b
   ·subst e0
    rw [hc] at hk; cases hk
    exact ⟨r', mB, q5⟩
   ·exact ⟨r, (fN k e0).trans hk, rfl⟩⟩
def Perm.T9 (A : Perm) (D : Nat) : Perm := ⟨fun b => A b ∧ b ≠ D, A.top, A.ok, A.base⟩
def Perm.Le (A' A : Perm) : Prop := A'.top = A.top ∧ (∀ b, A' b → A b) ∧ A'.base = A.base
theorem Perm.Le.refl (A : Perm) : A.Le A := ⟨rfl, fun _ h => h, rfl⟩
theorem Perm.Le.trans {A B C : Perm} (h : A.Le B) (k : B.Le C) : A.Le C := ⟨h.1.trans k.1, fun b hb => k.2.1 b (h.2.1 b hb), h.2.2.trans k.2.2⟩
theorem Perm.y0 (A : Perm) (D : Nat) : (A.T9 D).Le A := ⟨rfl, fun _ h => h.1, rfl⟩
theorem Perm.Le.jg {A' A : Perm} (h : A'.Le A) (len id : Nat) : A'.jg len id = A.jg len id := by unfold Perm.jg; rw [h.1]
theorem Ext.le {A' : Perm} {M' : Mem} {w' : World} (h : Ext A' M w M' w') (hl : A'.Le A) : Ext A M w M' w' :=
 ⟨h.kG, h.size, h.os, h.tape, h.output, fun b hb hA => h.kh b hb fun h' => hA (hl.2.1 b h'), h.loops⟩
theorem St.le {A' : Perm} (h : St A' M L w H ev ea O) (hl : A'.Le A) : St A M L w H ev ea O :=
 { h with bB := fun id o ho => by rw [← hl.jg]; exact h.bB id o ho, La := fun b hb => hl.2.1 b (h.La b hb), Oa := fun p b hp => hl.2.1 b (h.Oa p b hp), fresh := fun b hb => hl.2.1 b (h.fresh b hb) }
theorem St.T9 (h : St A M L w H ev ea O) {D : Nat} (h1 : D ∉ L) (h2 : ∀ p, O p ≠ some D) (h3 : D < w.heap.size) : St (A.T9 D) M L w H ev ea O :=
 { h with
   bB := fun id o ho => by rw [(A.y0 D).jg]; exact h.bB id o ho
   La := fun b hb => ⟨h.La b hb, fun e => h1 (e ▸ hb)⟩
   Oa := fun p b hp => ⟨h.Oa p b hp, fun e => h2 p (e ▸ hp)⟩
   fresh := fun b hb => ⟨h.fresh b hb, fun e => by omega⟩ }
theorem OK.le {A' : Perm} {ds : List Deferred} (h : OK A w ds) (hl : A'.Le A) : OK A' w ds := ⟨by rw [hl.2.2]; exact h.1, h.2.1, fun d hd => by
 obtain ⟨D, h1, h2, h3, h4⟩ := h.2.2 d hd
 exact ⟨D, h1, h2, fun h' => h3 (hl.2.1 D h'), by rw [hl.2.2]; exact h4⟩⟩
end
end Go.aK
end
section
namespace Go.aK
open Go
structure bt where
 g : Option (Nat × Bool)
 dst : Option Nat
 op : bX
 deriving Inhabited
inductive DT where
 | done
 | take (st : Bool) (o : bt) (r : DT)
 | br (o : bt) (t rest : DT)
 | nil
 deriving Inhabited
def inst (il : List bt) : wy → DT
 | .done => .done
 | .take i st r => .take st (il.getD i default) (inst il r)
 | .br i t rest => .br (il.getD i default) (inst il t) (inst il rest)
 | .nil => .nil
inductive IR where
 | skip
 | region (ops : List bt) (live : Option (List Nat))
 | draw (t : DT) (live : Option (List Nat))
 | seq (a b : IR)
 | cond (x : IX) (a b : IR)
 | block (id : Nat) (a : IR)
 | loop (a : IR)
 | exit (id : Nat)
 | ret
 | never
 | iQ (f : IX) (lc : iz)
 deriving Inhabited
def ey (live : Option (List Nat)) (env : Env) : Env :=
 match live with
 | none => env
 | some l => l.map fun t => (t, get env t)
def gX (env : Env) (g : Nat) (want : Bool) (yes no : Env → Prop) : Prop :=
 match get env g with
 | .bool b => (b = want → yes ((g, .bool want) :: env)) ∧ (b = (!want) → no ((g, .bool (!want)) :: env))
 | .tuple [] => no env
 | _ => False
def rh (P : Px) (o : bt) (env : Env) (H : List aa) (K : Env → List aa → Prop) : Prop :=
 match o.g with
 | none => bp P o.op o.dst env H K
 | some (g, want) => gX env g want (fun env => bp P o.op o.dst env H K) (fun env => K (put o.dst (.tuple []) env) H)
def je (P : Px) : List bt → Env → List aa → (Env → List aa → Prop) → Prop
 | [], env, H, K => K env H
 | o :: r, env, H, K => rh P o env H fun env H => je P r env H K
def cU (P : Px) (o : bX) (ρ : IX → AV) (H : List aa) (x : AV) : Prop :=
 match o with
 | .set i false => (ρ i).ab = x
 | .pick c a b => eL (ρ c) fun q => (q = true → (ρ a).ab = x) ∧ (q = false → (ρ b).ab = x)
 | .bin op i j => cW op (ρ i) (ρ j) fun z => z = x
 | .shift op i j => dM op (ρ i) (ρ j) fun z => z = x
 | .gU neq i j => cP neq (ρ i) (ρ j) fun z => z = x
 | .iZ kd neq i => de kd neq (ρ i) fun z => z = x
 | .un op i => yH op (ρ i) fun z => z = x
 | .lq i => (ρ i).val = true ∧ .ai (ρ i) = x
 | .build z ps => cE z.cells (ps.map fun q => (q.1, q.2.1, ρ q.2.2)) fun v => v = x
 | .buildSlice own esz z len ps => bh (List.replicate len (aQ z)) esz (ps.map fun q => (q.1, ρ q.2)) fun xs => .ap own xs = x
 | .load sz i => aS sz (ρ i) H fun z => z = x
 | .nilCheck i => bS (ρ i) fun z => z = x
 | .fieldAddr off sz i => ak off sz (ρ i) fun z => z = x
 | .field off sz i => eM off sz (ρ i) fun z => z = x
 | .indexAddr esz i j => (∀ own xs, ρ i = .ap own xs → ∀ z ∈ xs, z.cells.length = esz) ∧ ay esz (ρ i) (ρ j) fun z => z = x
 | .da i j => bH (ρ i) (ρ j) fun z => z = x
 | .dK n i j => bR n (ρ i) (ρ j) fun z => z = x
 | .slice esz i lo hi mx => bA esz (ρ i) (lo.map ρ) (hi.map ρ) (mx.map ρ) fun z => z = x
 | .dL i lo hi => b7 (ρ i) (lo.map ρ) (hi.map ρ) fun z => z = x
 | .len kd i => aL kd (ρ i) ∧ eY (ρ i) H fun z => z = x
 | .lookup kd z m k ok => ch kd z (ρ m) (ρ k) ok H fun v => v = x
 | .fn f first cap => .fn f (first.map fun x => (ρ x).ab) (cap.map fun x => (ρ x).ab) = x
 | .extract i k => bC (ρ i) k fun z => z = x
 | .call f args none => match ρ f with
   | .fn (.func g) first cap => ∃ bP, xq (first.map AV.ab ++ (args.map fun x => (ρ x).ab) ++ cap.map AV.ab) bP ∧ aq P.prog g bP H (fun r H' => r = x ∧ H' = H)
   | _ => False
 | .eG k i => cr k (ρ i) fun z => z = x
 | .gl i => fA (ρ i) fun z => z = x
 | .bytesOf i => eR 1 (ρ i) fun z => z = x
 | .mP esz bytes i => iO esz bytes (ρ i) fun z => z = x
 | .strOf i => jv (ρ i) fun z => z = x
 | .mx big i j => wz big (ρ i) (ρ j) fun z => z = x
 | _ => False
def dv (P : Px) (st : Bool) (o : bX) (ρ : IX → AV) (H : List aa) (x : AV) : Prop :=
 match st with
 | true => cU P o ρ H x
 | false => ∀ H', cU P o ρ H' x
def sD (P : Px) (st : Bool) (o : bt) (env : Env) (H : List aa) (K : Env → Prop) : Prop :=
 match o.g with
 | none => ∃ x, dv P st o.op (al env) H x ∧ K (put o.dst x env)
 | some (g, want) => gX env g want (fun _ => ∃ x, dv P st o.op (al env) H x ∧ K (put o.dst x env)) (fun _ => K (put o.dst (.tuple []) env))
def tD (P : Px) : DT → Env → List aa → (Env → List aa → Prop) → Prop
 | .done, env, H, K => K env H
 | .take st o r, env, H, K => sD P st o env H fun env => tD P r env H K
 | .br o t rest, env, H, K => rh P o env H (fun env H => tD P t env H K) ∧ tD P rest env H K
 | .nil, _, _, _ => True
def sle (n0 : Nat) (env : Env) (H : List aa) (aC : Env) (H' : List aa) : Prop :=
 (∀ t, (get env t).le (get aC t)) ∧ (H' = H ∨ ∃ m, n0 ≤ m ∧ H' = H.take m ∧ ∀ t, (get aC t).a7 m = true)
def Gu (n0 : Nat) (env : Env) (H : List aa) (aC : Env) (H' : List aa) : Prop :=
 (∀ t, (get env t).le (get aC t)) ∧ (H' = H ∨ ∃ m, n0 ≤ m ∧ H' = H.take m ∧ (∀ id o, n0 ≤ id → id < m → H[id]? = some o → o.a7 m = true) ∧ ∀ t, (get aC t).a7 m = true)
def Gv (lo : Option Nat) (n0 : Nat) (env : Env) (H : List aa) (aC : Env) (H' : List aa) : Prop :=
 match lo with
 | none => sle n0 env H aC H'
 | some _ => Gu n0 env H aC H'
def kw (n : Nat) (env : Env) : List AV := (List.range n).map fun t => (get env t).ab
def behind (id : Nat) (H' : List aa) (K : Option Code → List aa → Prop) : Prop :=
 match H'[id]? with
 | some (.loop .ready lc es) => K none (H'.set id (.loop .eD lc es))
 | some (.loop (.jump c) lc es) => K (some c) (H'.set id (.loop .eD lc es))
 | _ => False
def oY (j : Option Code) (Q : Exit → Env → List aa → Prop) (env : Env) (H : List aa) : Prop :=
 match j with
 | none => Q .normal env H
 | some .ret => Q .ret env H
 | some (.exit id) => Q (.exit id) env H
 | _ => False
def ms (P : Px) (n0 : Nat) : IR → Env → List aa → (Exit → Env → List aa → Prop) → Prop
 | .skip, env, H, Q => Q .normal env H
 | .region ops live, env, H, Q => je P ops env H fun aC H' => Q .normal (ey live aC) H'
 | .draw t live, env, H, Q => tD P t env H fun aC H' => Q .normal (ey live aC) H'
 | .seq a b, env, H, Q => ms P n0 a env H fun e aC H' => match e with
   | .normal => ms P n0 b aC H' Q
   | e => Q e aC H'
 | .cond x a b, env, H, Q => eL (al env x) fun q => (q = true → ms P n0 a env H Q) ∧ (q = false → ms P n0 b env H Q)
 | .block id a, env, H, Q => ms P n0 a env H fun e aC H' => match e with
   | .exit id' => if id' = id then Q .normal aC H' else Q (.exit id') aC H'
   | e => Q e aC H'
 | .loop a, env, H, Q => ∃ (ι : Type) (I : ι → Prop) (se : ι → Env) (sh : ι → List aa) (μ : ι → Nat), (∃ i, I i ∧ Gv P.lo n0 env H (se i) (sh i)) ∧
    ∀ i, I i → ms P n0 a (se i) (sh i) fun e aC H' => match e with
     | .normal => ∃ j, I j ∧ μ j < μ i ∧ Gv P.lo n0 aC H' (se j) (sh j)
     | e => Q e aC H'
 | .exit id, env, H, Q => Q (.exit id) env H
 | .ret, env, H, Q => Q .ret env H
 | .never, env, H, Q => False
 | .iQ f lc, env, H, Q => match al env f with
   | .fn (.func g) first cap => (∀ (as : Array Value) (w : World), (callFunc g as).run P.prog w = .ok (.enter g as) w) ∧
     ∃ bP, xq (first.map AV.ab ++ [.mM H.length] ++ cap.map AV.ab) bP ∧ dZ P g bP (H ++ [.loop .ready lc (kw lc.n env)]) fun _ H' => behind H.length H' fun j H'' => oY j Q env H''
   | _ => False
def AG.at_ (an : AG) (r i : Nat) : Nat := match an.find? fun x => x.1 == r && x.2.1 == i with | some x => x.2.2 | none => 0
def mj.at_ (lv : mj) (r : Nat) : Option (List Nat) := (lv.find? fun x => x.1 == r).map (·.2)
def E2 (n : Nat) (o : Oper) : Bool := (match o.dst with | some d => d < n | none => true) && (match o.op with | .store .. | .mapUpdate .. => o.dst.isNone | _ => true)
def E3 (ops : Array Oper) (o : Oper) : Option (Option (Nat × Bool)) :=
 match o.guard with
 | none => some none
 | some (j, want) => match (ops[j]?).bind (·.dst) with
   | some g => some (some (g, want))
   | none => none
def E4 (i : IX) (d : Nat) : Bool := match i with | .t s => decide (s ≠ d) | _ => true
def Qi (P : Program) (ops : Array Oper) (n : Nat) (fl : Nat) (o o' : Oper) : Option bt :=
 match fl, o.op, o.dst, o.guard, o'.op, o'.dst, o'.guard with
 | 2, .alloc e, some d, none, .store t (.tmp d') x, none, none =>
   if d = d' ∧ d < n ∧ t = e then (match aP x, dD P t, fz P e with
    | some i, some m, some z => if E4 i d = true ∧ z.cells.length = m ∧ z.val = true ∧ m ≠ 0 then some ⟨none, some d, .qW m i⟩ else none
    | _, _, _ => none) else none
 | _, _, _, _, _, _, _ => none
def eH (P : Program) (ops : Array Oper) (an : AG) (n rid : Nat) (fu : Bool) : Nat → Nat → List Oper → Option (List bt)
 | _, _, [] => some []
 | 0, _, _ => none
 | fuel + 1, k, o :: r =>
   if an.at_ rid k = 1000 ∧ fu = true then
    match r with
    | o' :: r' => match Qi P ops n 2 o o', eH P ops an n rid fu fuel (k + 2) r' with
      | some x, some xs => some (x :: xs)
      | _, _ => none
    | [] => none
   else
    match E3 ops o, eH P ops an n rid fu fuel (k + 1) r with
    | some g, some xs => if E2 n o = true then some (⟨g, o.dst, A6 P o (an.at_ rid k)⟩ :: xs) else none
    | _, _ => none
def bX.all : bX → List IX
 | .set i _ => [i]
 | .pick c a b => [c, a, b]
 | .bin _ i j | .shift _ i j | .gU _ i j | .indexAddr _ i j | .da i j | .dK _ i j | .lookup _ _ i j _ | .mx _ i j | .store _ i j | .mO _ i j | .append _ _ i j | .jb _ _ _ i j | .copy _ i j => [i, j]
 | .mR _ _ i | .yF _ i | .iZ _ _ i | .un _ i | .box i | .lq i | .qW _ i | .load _ i | .sk _ _ i | .eu i | .nilCheck i | .fieldAddr _ _ i | .field _ _ i | .len _ i | .sl _ _ _ i | .mP _ _ i | .extract i _ | .eG _ i | .gl i | .bytesOf i | .strOf i => [i]
 | .eX i s => [i, .t s]
 | .kj _ i j k => [i, j, k]
 | .build _ ps => ps.map fun q => q.2.2
 | .buildSlice _ _ _ _ ps | .AJ _ _ _ ps => ps.map fun q => q.2
 | .slice _ i lo hi m | .oS _ i lo hi m => i :: (lo.toList ++ hi.toList ++ m.toList)
 | .dL i lo hi => i :: (lo.toList ++ hi.toList)
 | .fn _ first cap => first ++ cap
 | .call f args _ => f :: args
 | .alloc _ | .mQ | .never => []
def IX.OP : List IX → List Nat := fun l => l.filterMap fun i => match i with | .t s => some s | .c _ => none
def bX.kill : bX → List Nat
 | .set (.t s) true => [s]
 | .eX _ s => [s]
 | .append _ _ (.t s) _ => [s]
 | .call _ args pass => (match pass with | some j => (match args[j]? with | some (.t s) => [s] | _ => []) | none => [])
 | _ => []
def bX.Qj : bX → Bool
 | .box _ | .alloc _ | .eu _ | .store .. | .mO .. | .sk .. | .eX .. | .sl .. | .mQ | .kj .. | .call .. | .copy .. | .yF .. | .AJ .. | .jb .. | .mR .. | .never => true
 | _ => false
def bt.lk (o : bt) : List Nat := IX.OP o.op.all ++ (match o.g with | some (g, _) => [g] | none => [])
def bX.Tv (o : bX) (pure : Bool) : Bool :=
 match o with
 | .set _ take => !take
 | .call _ _ none => pure
 | .never | .call .. | .append .. => false
 | .qW .. => false
 | o => !o.Qj
def bX.xt : bX → Bool
 | .box _ | .alloc _ | .mQ => true
 | _ => false
def bX.stays : bX → Bool
 | .call .. => false
 | _ => true
def ri (st : Bool) (oi oj : bt) : Bool :=
 (match oi.dst with | some d => !oj.lk.contains d && oj.dst != some d && !oj.op.kill.contains d | none => true) &&
 (match oj.dst with | some d => !oi.lk.contains d | none => true) &&
 oj.op.kill.all (fun s => !oi.lk.contains s) && (!st || !oj.op.Qj || (oj.op.xt && oi.op.stays))
def dj (ops : Array Oper) : Nat → Nat → Nat → Bool
 | 0, _, _ => false
 | f + 1, j, i => match ops[j]? with
   | some o => o.after.any fun e => Region.binds .any e && (e.on == i || dj ops f e.on i)
   | none => false
def mY (ops : Array Oper) (il : List bt) (listed : Array Bool) (i : Nat) (st : Bool) : Bool :=
 (List.range ops.size).all fun j => j == i || listed.getD j true || dj ops ops.size j i || ri st (il.getD i default) (il.getD j default)
def tg (ops : Array Oper) (il : List bt) : Nat → Array Bool → Option (List Nat) → wy → Bool
 | _, listed, none, .done => (Region.ready .any ops listed).isEmpty
 | f + 1, listed, none, .take i st r => (Region.ready .any ops listed).contains i && (il.getD i default).op.Tv true && mY ops il listed i st && tg ops il f (listed.setIfInBounds i true) none r
 | f + 1, listed, none, .br i t rest => (match Region.ready .any ops listed with | k :: ks => k == i && tg ops il f (listed.setIfInBounds i true) none t && tg ops il (f + 1) listed (some ks) rest | [] => false)
 | f + 1, listed, some (k :: ks), .br i t rest => k == i && tg ops il f (listed.setIfInBounds i true) none t && tg ops il (f + 1) listed (some ks) rest
 | _, _, some [], .nil => true
 | _, _, _, _ => false
def jA : List Edge → Nat
 | [] => 0
 | e :: r => if Region.binds .any e = true then (1 <<< e.on) ||| jA r else jA r
def gC (rs : List Nat) : List Edge → Nat
 | [] => 0
 | e :: r => if Region.binds .any e = true ∧ e.on < rs.length then ((1 <<< e.on) ||| rs.getD e.on 0) ||| gC rs r else gC rs r
def eS : List Oper → List Nat → List Nat
 | [], acc => acc
 | o :: r, acc => eS r (acc ++ [gC acc o.after.toList])
def lE (m : Nat) : Nat → List Nat → List Nat
 | _, [] => []
 | i, a :: r => if m.testBit i = false ∧ a &&& m = a then i :: lE m (i + 1) r else lE m (i + 1) r
def A9 (m i : Nat) (st : Bool) (oi : bt) : Nat → List Nat → List bt → Bool
 | j, r :: rs, o :: os => (j == i || m.testBit j || r.testBit i || ri st oi o) && A9 m i st oi (j + 1) rs os
 | _, _, [] => true
 | _, [], _ :: _ => false
def kN (am rm : List Nat) (il : List bt) : Nat → Nat → Option (List Nat) → wy → Bool
 | _, m, none, .done => (lE m 0 am).isEmpty
 | f + 1, m, none, .take i st r => (lE m 0 am).contains i && (il.getD i default).op.Tv true && A9 m i st (il.getD i default) 0 rm il && kN am rm il f (m ||| (1 <<< i)) none r
 | f + 1, m, none, .br i t rest => (match lE m 0 am with | k :: ks => k == i && kN am rm il f (m ||| (1 <<< i)) none t && kN am rm il (f + 1) m (some ks) rest | [] => false)
 | f + 1, m, some (k :: ks), .br i t rest => k == i && kN am rm il f (m ||| (1 <<< i)) none t && kN am rm il (f + 1) m (some ks) rest
 | _, _, some [], .nil => true
 | _, _, _, _ => false
def mn.at_ (pl : mn) (r : Nat) : wy := match pl.find? fun x => x.1 == r with | some x => x.2 | none => .done
def comp (P : Program) (an : AG) (lv : mj) (pl : mn) (n : Nat) : Code → Option IR
 | .skip => some .skip
 | .region id ops false => (eH P ops an n id true (ops.size + 1) 0 ops.toList).map fun l => .region l (lv.at_ id)
 | .region id ops true => match eH P ops an n id false (ops.size + 1) 0 ops.toList with
   | some il => if P.follows .mixedOrders = true ∧ kN (ops.toList.map fun o => jA o.after.toList) (eS ops.toList []) il ops.size 0 none (pl.at_ id) = true then some (.draw (inst il (pl.at_ id)) (lv.at_ id)) else none
   | none => none
 | .seq a b => match comp P an lv pl n a, comp P an lv pl n b with
   | some x, some y => some (.seq x y)
   | _, _ => none
 | .cond c a b => match aP c, comp P an lv pl n a, comp P an lv pl n b with
   | some i, some x, some y => some (.cond i x y)
   | _, _, _ => none
 | .block id a => (comp P an lv pl n a).map (.block id)
 | .loop a => (comp P an lv pl n a).map .loop
 | .exit id => some (.exit id)
 | .ret => some .ret
 | .rangeFunc f ps as bd => (aP f).map fun i => .iQ i ⟨n, ps.toList, as, bd, an, lv, pl⟩
 | _ => some .never
theorem iR (n k : Nat) : (1 <<< n).testBit k = decide (n = k) := by
 rw [Nat.shiftLeft_eq, Nat.one_mul, Nat.testBit_two_pow]
theorem Dv (m : Nat) : ∀ (es : List Edge), (jA es &&& m = jA es) ↔ ∀ e ∈ es, Region.binds .any e = true → m.testBit e.on = true := by
 have key : ∀ a : Nat, (a &&& m = a) ↔ ∀ i, a.testBit i = true → m.testBit i = true := by
  intro a
  constructor
  ·intro h i hi
   rw [← h] at hi
   simp only [Nat.testBit_and, Bool.and_eq_true] at hi
   exact hi.2
  ·intro h
   apply Nat.eq_of_testBit_eq
   intro i
   rw [Nat.testBit_and]
   cases ha : a.testBit i with
   | false => simp
   | true => simp [h i ha]
 intro es
 rw [key]
 induction es with
 | nil => simp [jA]
 | cons e r ih =>
   simp only [jA]
   split
   ·rename_i hb
    constructor
    ·intro h e' Dw dW
     rcases List.mem_cons.1 Dw with rfl | Dw
     ·exact h _ (by simp [])
     ·exact ih.1 (fun i hi => h i (by simp [hi])) e' Dw dW
    ·intro h i hi
     simp only [Nat.testBit_or, Bool.or_eq_true, iR, decide_eq_true_eq] at hi
     rcases hi with rfl | hi
     ·exact h e (by simp) hb
     ·exact ih.2 (fun e' Dw dW => h e' (List.mem_cons_of_mem _ Dw) dW) i hi
   ·rename_i hb
    constructor
    ·intro h e' Dw dW
     rcases List.mem_cons.1 Dw with rfl | Dw
     ·exact absurd dW hb
     ·exact ih.1 h e' Dw dW
    ·intro h
     exact ih.2 (fun e' Dw dW => h e' (List.mem_cons_of_mem _ Dw) dW)
theorem lF {rs : List Nat} {i : Nat} : ∀ {es : List Edge}, (gC rs es).testBit i = true → ∃ e ∈ es, Region.binds .any e = true ∧ e.on < rs.length ∧ (e.on = i ∨ (rs.getD e.on 0).testBit i = true)
 | [], h => by simp [gC] at h
 | e :: r, h => by
   simp only [gC] at h
   split at h
   ·rename_i hb
    simp only [Nat.testBit_or, Bool.or_eq_true, iR, decide_eq_true_eq] at h
    rcases h with h | h
    ·exact ⟨e, by simp, hb.1, hb.2, h⟩
    ·obtain ⟨e', Dw, h'⟩ := lF h
     exact ⟨e', List.mem_cons_of_mem _ Dw, h'⟩
   ·obtain ⟨e', Dw, h'⟩ := lF h
    exact ⟨e', List.mem_cons_of_mem _ Dw, h'⟩
theorem ux : ∀ (l : List Oper) (acc : List Nat), ∃ r, eS l acc = acc ++ r ∧ r.length = l.length
 | [], acc => ⟨[], by simp [eS], rfl⟩
 | o :: l, acc => by
   obtain ⟨r, h1, h2⟩ := ux l (acc ++ [gC acc o.after.toList])
   exact ⟨gC acc o.after.toList :: r, by simp [eS, h1], by simp [h2]⟩
theorem uy : ∀ (l : List Oper) (acc : List Nat) (j : Nat) (o : Oper), l[j]? = some o → (eS l acc)[acc.length + j]? = some (gC ((eS l acc).take (acc.length + j)) o.after.toList)
 | [], acc, j, o, h => by simp at h
 | x :: l, acc, 0, o, h => by
   simp at h
   subst h
   simp only [eS]
   obtain ⟨r, h1, h2⟩ := ux l (acc ++ [gC acc x.after.toList])
   rw [h1]
   simp
 | x :: l, acc, j + 1, o, h => by
   have ih := uy l (acc ++ [gC acc x.after.toList]) j o (by simpa using h)
   simp only [eS]
   simp only [List.length_append, List.length_cons, List.length_nil] at ih
   rw [show acc.length + (j + 1) = acc.length + (0 + 1) + j by omega]
   exact ih
theorem Dx {ops : Array Oper} {i : Nat} : ∀ (j f : Nat), j < f → j < ops.size → ((eS ops.toList []).getD j 0).testBit i = true → dj ops f j i = true := by
 intro j
 induction j using Nat.strongRecOn with
 | _ j ih =>
   intro f hf hj h
   have Qk : ops[j]? = some ops[j] := by simp [hj]
   have hg := uy ops.toList [] j ops[j] (by simp [hj])
   simp only [List.length_nil, Nat.zero_add] at hg
   rw [List.getD_eq_getElem?_getD, hg, Option.getD_some] at h
   obtain ⟨e, he, hb, aW, TU⟩ := lF h
   have mF : e.on < j := by simp at aW; omega
   cases f with
   | zero => omega
   | succ f =>
     simp only [dj, Qk]
     rw [Array.any_eq_true']
     refine ⟨e, by simpa using he, ?_⟩
     simp only [Bool.and_eq_true, Bool.or_eq_true, beq_iff_eq]
     refine ⟨hb, ?_⟩
     rcases TU with h1 | h1
     ·exact .inl h1
     ·refine .inr (ih e.on mF f (by omega) (by omega) ?_)
      have : ((eS ops.toList []).take j).getD e.on 0 = (eS ops.toList []).getD e.on 0 := by
       simp [List.getD_eq_getElem?_getD, mF]
      rw [this] at h1
      exact h1
def bitsOf (n : Nat) (listed : Array Bool) (m : Nat) : Prop := listed.size = n ∧ ∀ k, m.testBit k = listed.getD k false
theorem uz {n : Nat} {listed : Array Bool} {m i : Nat} (h : bitsOf n listed m) (hi : i < n) : bitsOf n (listed.setIfInBounds i true) (m ||| (1 <<< i)) := by
 obtain ⟨h1, h2⟩ := h
 refine ⟨by simp [h1], fun k => ?_⟩
 rw [Nat.testBit_or, h2 k, iR]
 simp only [Array.getD_eq_getD_getElem?, Array.getElem?_setIfInBounds]
 by_cases hk : i = k
 ·subst hk
  simp [h1, hi]
 ·simp [hk]
theorem uA {ops : Array Oper} {listed : Array Bool} {m : Nat} (hb : bitsOf ops.size listed m) : ∀ (l : List Oper) (i : Nat), (∀ j, l[j]? = ops[i + j]?) →
 lE m i (l.map fun o => jA o.after.toList) = (List.range' i l.length).filter fun i => !listed.getD i true && ((ops[i]?).map (·.after.all fun e => !Region.binds .any e || listed.getD e.on false)).getD false
 | [], i, _ => by simp [lE]
 | o :: l, i, h => by
   have h0 : ops[i]? = some o := by simpa using (h 0).symm
   have hi : i < ops.size := (Array.getElem?_eq_some_iff.1 h0).1
   have ih := uA hb l (i + 1) (fun j => by have := h (j + 1); simpa [Nat.add_assoc, Nat.add_comm 1 j] using this)
   simp only [List.map_cons, lE, List.length_cons, List.range'_succ, List.filter_cons]
   have e1 : (m.testBit i = false) ↔ (listed.getD i true = false) := by
    rw [hb.2 i]
    have : i < listed.size := by rw [hb.1]; exact hi
    simp [Array.getD, this]
   have e2 : (jA o.after.toList &&& m = jA o.after.toList) ↔ (o.after.all fun e => !Region.binds .any e || listed.getD e.on false) = true := by
    rw [Dv, Array.all_eq_true']
    simp only [Array.mem_toList_iff, Bool.or_eq_true, Bool.not_eq_true', hb.2]
    constructor
    ·intro h e he
     cases YE : Region.binds .any e with
     | false => exact .inl rfl
     | true => exact .inr (h e he YE)
    ·intro h e he YE
     rcases h e he with h | h
     ·rw [YE] at h; cases h
     ·exact h
   by_cases hc : m.testBit i = false ∧ jA o.after.toList &&& m = jA o.after.toList
   ·rw [if_pos hc, if_pos (by rw [h0]; simp only [Option.map_some, Option.getD_some, e1.1 hc.1, e2.1 hc.2, Bool.not_false, Bool.and_self]), ih]
   ·rw [if_neg hc, if_neg (by
     rw [h0]
     simp only [Option.map_some, Option.getD_some, Bool.and_eq_true, Bool.not_eq_true']
     intro h'
     exact hc ⟨e1.2 h'.1, e2.2 h'.2⟩), ih]
theorem rj {ops : Array Oper} {listed : Array Bool} {m : Nat} (hb : bitsOf ops.size listed m) : lE m 0 (ops.toList.map fun o => jA o.after.toList) = Region.ready .any ops listed := by
 rw [uA hb ops.toList 0 (by simp)]
 unfold Region.ready
 simp [List.range_eq_range']
theorem uB {ops : Array Oper} {il : List bt} {listed : Array Bool} {m i : Nat} {st : Bool} {oi : bt} (hb : bitsOf ops.size listed m) : ∀ (rs : List Nat) (os : List bt) (j : Nat), (∀ k, os[k]? = il[j + k]?) → (∀ k, rs[k]? = (eS ops.toList [])[j + k]?) → A9 m i st oi j rs os = true →
 ∀ k, j ≤ k → k < ops.size → k < il.length → (k == i || listed.getD k true || dj ops ops.size k i || ri st oi (il.getD k default)) = true
 | rs, [], j, h1, _, _, k, OO, _, hk => by
   have := h1 (k - j)
   rw [show j + (k - j) = k by omega] at this
   simp at this
   omega
 | [], o :: os, j, h1, h2, h, _, _, _, _ => by simp [A9] at h
 | r :: rs, o :: os, j, h1, h2, h, k, OO, Dm, EZ => by
   simp only [A9, Bool.and_eq_true] at h
   by_cases hk : k = j
   ·subst hk
    have ho : il.getD k default = o := by
     have := h1 0
     simp at this
     rw [List.getD_eq_getElem?_getD, ← this]; rfl
    have hr : (eS ops.toList []).getD k 0 = r := by
     have := h2 0
     simp at this
     rw [List.getD_eq_getElem?_getD, ← this]; rfl
    have h := h.1
    simp only [Bool.or_eq_true] at h ⊢
    rcases h with ((h | h) | h) | h
    ·exact .inl (.inl (.inl h))
    ·refine .inl (.inl (.inr ?_))
     rw [hb.2 k] at h
     have : k < listed.size := by rw [hb.1]; exact Dm
     simpa [Array.getD, this] using h
    ·exact .inl (.inr (Dx k _ Dm Dm (by rw [hr]; exact h)))
    ·rw [ho]; exact .inr h
   ·exact uB hb rs os (j + 1) (fun q => by have := h1 (q + 1); simpa [Nat.add_assoc, Nat.add_comm 1 q] using this) (fun q => by have := h2 (q + 1); simpa [Nat.add_assoc, Nat.add_comm 1 q] using this) h.2 k (by omega) Dm EZ
theorem pT {ops : Array Oper} {listed : Array Bool} {i : Nat} (h : i ∈ Region.ready .any ops listed) : i < ops.size := by
 unfold Region.ready at h
 simp at h
 exact h.1
theorem II {ops : Array Oper} {il : List bt} (c9 : il.length = ops.size) : ∀ (p : wy) (f m : Nat) (listed : Array Bool) (rem : Option (List Nat)), bitsOf ops.size listed m → (∀ ks, rem = some ks → ∀ k ∈ ks, k < ops.size) →
 kN (ops.toList.map fun o => jA o.after.toList) (eS ops.toList []) il f m rem p = true → tg ops il f listed rem p = true := by
 intro p
 induction p with
 | done =>
   intro f m listed rem hb _ h
   cases rem with
   | none => cases f <;> (simp only [kN, rj hb] at h; simpa [tg] using h)
   | some ks => cases ks <;> cases f <;> simp [kN] at h
 | nil =>
   intro f m listed rem hb _ h
   cases rem with
   | none => cases f <;> simp [kN] at h
   | some ks => cases ks <;> cases f <;> simp [kN] at h <;> simp [tg]
 | take i st r ih =>
   intro f m listed rem hb _ h
   cases rem with
   | some ks => cases ks <;> cases f <;> simp [kN] at h
   | none =>
     cases f with
     | zero => simp [kN] at h
     | succ f =>
       simp only [kN, rj hb, Bool.and_eq_true] at h
       obtain ⟨⟨⟨h1, h2⟩, h3⟩, h4⟩ := h
       have hi : i < ops.size := pT (by simpa using h1)
       simp only [tg, Bool.and_eq_true]
       refine ⟨⟨⟨h1, h2⟩, ?_⟩, ih _ _ _ _ (uz hb hi) (by simp) h4⟩
       unfold mY
       refine List.all_eq_true.2 fun k hk => ?_
       have P5 : k < ops.size := List.mem_range.1 hk
       exact uB hb (eS ops.toList []) il 0 (fun k => by rw [Nat.zero_add]) (fun k => by rw [Nat.zero_add]) h3 k (Nat.zero_le _) P5 (by omega)
 | br i t rest IJ HZ =>
   intro f m listed rem hb YF h
   cases f with
   | zero => cases rem with
     | none => simp [kN] at h
     | some ks => cases ks <;> simp [kN] at h
   | succ f =>
     cases rem with
     | none =>
       simp only [kN, rj hb] at h
       simp only [tg]
       split at h
       ·rename_i k ks hr
        simp only [Bool.and_eq_true, beq_iff_eq] at h
        obtain ⟨⟨rfl, h1⟩, h2⟩ := h
        have hk : ∀ q ∈ k :: ks, q < ops.size := fun q hq => pT (by rw [hr]; exact hq)
        simp only [Bool.and_eq_true, beq_iff_eq, true_and]
        exact ⟨IJ _ _ _ _ (uz hb (hk k (by simp))) (by simp) h1, HZ _ _ _ _ hb (fun ks' e q hq => by cases e; exact hk q (by simp [hq])) h2⟩
       ·cases h
     | some ks =>
       cases ks with
       | nil => simp [kN] at h
       | cons k ks =>
         simp only [kN, Bool.and_eq_true, beq_iff_eq] at h
         obtain ⟨⟨rfl, h1⟩, h2⟩ := h
         have hk := YF _ rfl
         simp only [tg, Bool.and_eq_true, beq_iff_eq, true_and]
         exact ⟨IJ _ _ _ _ (uz hb (hk k (by simp))) (by simp) h1, HZ _ _ _ _ hb (fun ks' e q hq => by cases e; exact hk q (by simp [hq])) h2⟩
theorem Gw (n : Nat) : bitsOf n (Array.replicate n false) 0 := ⟨by simp, fun k => by
 simp only [Nat.zero_testBit, Array.getD_eq_getD_getElem?, Array.getElem?_replicate]
 split <;> rfl⟩
section
variable {ro : Option Nat} {P : Program} {lo : Option Nat} {A : Perm} {n : Nat} {M : Mem} {L : List Nat} {w : World} {H : List aa} {env : Env} {O : Pos → Option Nat} {a : Act} {ev : Nat → Value} {ea : Nat → AV}
def Dy (A : Perm) (n : Nat) (M0 : Mem) (L0 : List Nat) (w0 : World) (Q : Exit → Env → List aa → Prop) (e : Exit) (a : Act) (w : World) : Prop :=
 ∃ A' M L H env O, A'.Le A ∧ Q e env H ∧ Fr A' n M L w H env O a ∧ Ext A M0 w0 M w ∧ L0 <+: L
theorem Fr.Dz (h : Fr A n M L w H env O a) {aC : Env} (he : get aC = get env) : Fr A n M L w H aC O a := ⟨by rw [he]; exact h.st, h.size, h.defers⟩
theorem Fr.weaken (h : Fr A n M L w H env O a) {aC : Env} (hl : ∀ t, (get env t).le (get aC t)) : ∃ O', Fr A n M L w H aC O' a := by
 obtain ⟨O', h'⟩ := h.st.weaken hl
 exact ⟨O', h', h.size, h.defers⟩
theorem le_refl (x : AV) : x.le x := .inl rfl
theorem Ql (x : AV) : x.le .any := .inr (.inl rfl)
theorem xu (live : Option (List Nat)) (env : Env) (t : Nat) : (get env t).le (get (ey live env) t) := by
 cases live with
 | none => exact le_refl _
 | some l =>
   simp only [ey]
   induction l with
   | nil => exact Ql _
   | cons s l ih =>
     simp only [List.map_cons, get]
     split
     ·rename_i e; subst e; exact le_refl _
     ·exact ih
theorem get_mem {env : Env} {t : Nat} {x : AV} (h : get env t = x) : x = .any ∨ (t, x) ∈ env := by
 induction env with
 | nil => left; exact h.symm
 | cons p r ih =>
   obtain ⟨k, v⟩ := p
   simp only [get] at h
   split at h
   ·rename_i e; subst e; subst h; right; simp
   ·rcases ih h with h' | h'
    ·exact .inl h'
    ·exact .inr (List.mem_cons_of_mem _ h')
theorem aA (n0 : Nat) (env : Env) (H : List aa) : sle n0 env H env H := ⟨fun t => le_refl _, .inl rfl⟩
def fD (lo : Option Nat) (n0 : Nat) (A : Perm) : Prop := (∀ id, id < n0 → ∃ m, m ≤ n0 ∧ A.top id = some m) ∧ match lo with
 | none => ∀ id, n0 ≤ id → A.top id = some (id + 1)
 | some l => l = n0 ∧ ∀ id, n0 ≤ id → A.top id = none
theorem fD.opens {n0 : Nat} (h : fD lo n0 A) : ∀ l, lo = some l → ∀ id, l ≤ id → A.top id = none := by
 rintro l rfl id bm
 obtain ⟨_, rfl, h⟩ := h
 exact h id bm
theorem fD.low {n0 m : Nat} (h : fD lo n0 A) (hm : n0 ≤ m) (hs : St A M L w H ev ea O) : ∀ id o, id < n0 → H[id]? = some o → o.a7 m = true := by
 intro id o bm ho
 obtain ⟨k, hk, e⟩ := h.1 id bm
 have := hs.bB id o ho
 refine aa.cH ?_ o this
 unfold Perm.jg
 rw [e]
 exact Nat.le_trans (Nat.min_le_left _ _) (by omega)
theorem fD.closed {n0 m : Nat} (h : fD none n0 A) (hm : n0 ≤ m) (hs : St A M L w H ev ea O) : ∀ id o, id < m → H[id]? = some o → o.a7 m = true := by
 intro id o bm ho
 by_cases e : id < n0
 ·exact h.low hm hs id o e ho
 ·have e1 := h.2 id (by omega)
  have := hs.bB id o ho
  refine aa.cH ?_ o this
  unfold Perm.jg
  rw [e1]
  exact Nat.le_trans (Nat.min_le_left _ _) (by omega)
theorem Fr.sle (h : Fr A n M L w H env O a) {aC : Env} {H' : List aa} {L0 : List Nat} (hA : fD lo L0.length A) (hL : L0 <+: L) (hl : Gv lo L0.length env H aC H') : ∃ L' O', Fr A n M L' w H' aC O' a ∧ L0 <+: L' := by
 have wM : Gu L0.length env H aC H' := by
  unfold Gv at hl
  split at hl
  ·obtain ⟨h1, h2⟩ := hl
   refine ⟨h1, ?_⟩
   rcases h2 with rfl | ⟨m, hm, rfl, hb⟩
   ·exact .inl rfl
   ·exact .inr ⟨m, hm, rfl, fun id o _ bm ho => hA.closed hm h.st id o bm ho, hb⟩
  ·exact hl
 obtain ⟨h1, h2⟩ := wM
 obtain ⟨O', hf⟩ := h.weaken h1
 rcases h2 with rfl | ⟨m, hm, rfl, hc, hb⟩
 ·exact ⟨L, O', hf, hL⟩
 ·obtain ⟨O'', bQ⟩ := hf.st.cut m (fun id o bm ho => by
   by_cases e : id < L0.length
   ·exact hA.low hm hf.st id o e ho
   ·exact hc id o (by omega) bm ho) hb
  refine ⟨L.take m, O'', ⟨bQ, hf.size, hf.defers⟩, ?_⟩
  obtain ⟨r, rfl⟩ := hL
  exact ⟨r.take (m - L0.length), by rw [List.take_append, List.take_of_length_le hm]⟩
theorem y7 {ops : Array Oper} {j g : Nat} (hg : (ops[j]?).bind (·.dst) = some g) (hf : Fr A n M L w H env O a) {b : Bool} (hb : get env g = .bool b) : yielded ops a.tmps j = some b := by
 have hr := hf.st.env g
 rw [hb] at hr
 generalize hv : a.tmps.getD g undef = v at hr
 cases hr
 have : a.tmps[g]? = some (.bool b) := by
  rw [Array.getD_eq_getD_getElem?] at hv
  cases h : a.tmps[g]? with
  | none => rw [h] at hv; cases hv
  | some v => rw [h] at hv; simp at hv; rw [hv]
 simp [yielded, hg, this]
theorem wN {ops : Array Oper} {j g : Nat} (hg : (ops[j]?).bind (·.dst) = some g) (hf : Fr A n M L w H env O a) (hb : get env g = .tuple []) : yielded ops a.tmps j = none := by
 have hr := hf.st.env g
 rw [hb] at hr
 generalize hv : a.tmps.getD g undef = v at hr
 cases hr with
 | tuple cs _ h =>
 rw [Array.getD_eq_getD_getElem?] at hv
 simp only [yielded, hg, Option.bind_some]
 cases h : a.tmps[g]? with
 | none => rfl
 | some v => rw [h] at hv; simp at hv; rw [hv]
theorem xv {ops : Array Oper} {o : Oper} {fl : Nat} {g : Option (Nat × Bool)} (hg : E3 ops o = some g) (fR : E2 n o = true) (hp : ∀ l, lo = some l → ∀ id, l ≤ id → A.top id = none) (hf : Fr A n M L w H env O a) {K : Env → List aa → Prop} (h : rh ⟨P, lo⟩ ⟨g, o.dst, A6 P o fl⟩ env H K) (Q : Exit → Act → World → Prop) :
 if Region.wanted o (yielded ops a.tmps) then o.wpIn (wf ro) 0 P a w (mK A n M L w K) Q else mK A n M L w K (a.put o.dst undef) w := by
 simp only [E2, Bool.and_eq_true] at fR
 have hd : ∀ d, o.dst = some d → d < n := by
  intro d hd
  have := fR.1
  rw [hd] at this
  simpa using this
 have hn : (match o.op with | .store .. | .mapUpdate .. => o.dst = none | _ => True) := by
  have := fR.2
  split at this <;> first | trivial | skip
  ·simpa using this
  ·simpa using this
 unfold E3 at hg
 split at hg
 ·rename_i Lm
  cases hg
  rw [if_pos (by simp [Region.wanted, Lm])]
  exact sC o hp hf hd hn h
 ·rename_i j want Lm
  split at hg <;> cases hg
  rename_i g hgj
  simp only [rh, gX] at h
  split at h
  rotate_left
  ·rename_i hb
   have hy := wN hgj hf hb
   rw [if_neg (by simp [Region.wanted, Lm, hy])]
   obtain ⟨O', oX⟩ := hf.ow (dst := o.dst) (v := undef) (x := .tuple []) hd (.tuple [] [] .nil) (by intro _ _ e; cases e)
   exact ⟨M, L, H, _, O', h, oX, Ext.refl A M w, List.prefix_refl L⟩
  ·exact h.elim
  rename_i b hb
  have hy := y7 hgj hf hb
  have Ua : get ((g, AV.bool b) :: env) = get env := by
   rw [Il]; funext t; simp only [fg]; split
   ·rename_i e; rw [e, hb]
   ·rfl
  by_cases hw : b = want
  ·subst hw
   rw [if_pos (by simp [Region.wanted, Lm, hy])]
   exact sC o hp (hf.Dz Ua) hd hn (h.1 rfl)
  ·have E5 : b = !want := by cases b <;> cases want <;> simp_all
   subst E5
   rw [if_neg (by simp [Region.wanted, Lm, hy])]
   obtain ⟨O', oX⟩ := (hf.Dz Ua).ow (dst := o.dst) (v := undef) (x := .tuple []) hd (.tuple [] [] .nil) (by intro _ _ e; cases e)
   exact ⟨M, L, H, _, O', h.2 rfl, oX, Ext.refl A M w, List.prefix_refl L⟩
theorem mK.trans {K K' : Env → List aa → Prop} {M' : Mem} {L' : List Nat} {w' : World} {a' : Act} {w'' : World} (cu : Ext A M w M' w') (hL : L <+: L') (h : mK A n M' L' w' K a' w'') : mK A n M L w K a' w'' := by
 obtain ⟨M2, L2, H2, cK, O2, h1, h2, h3, h4⟩ := h
 exact ⟨M2, L2, H2, cK, O2, h1, h2, cu.trans h3, hL.trans h4⟩
theorem Ba (w : World) (c c' : Array Value) (e : TypeId) : ({ w with heap := w.heap.push (.cells c e) } : World).setRow w.heap.size c' = { w with heap := w.heap.push (.cells c' e) } := by
 simp only [World.setRow]
 congr 1
 apply Array.ext
 ·simp
 ·intro i h1 h2
  rw [Array.getElem_modify]
  by_cases hi : w.heap.size = i
  ·subst hi; simp
  ·simp only [hi, if_false]
   have : i < w.heap.size := by simp at h2; omega
   rw [Array.getElem_push_lt this, Array.getElem_push_lt this]
theorem DA {ops : Array Oper} {o o' : Oper} {x : bt} (hx : Qi P ops n 2 o o' = some x) (hf : Fr A n M L w H env O a) {K : Env → List aa → Prop} (h : rh ⟨P, lo⟩ x env H K) (r : List Oper) (Q : Exit → Act → World → Prop)
 (hrest : ∀ a' w', mK A n M L w K a' w' → wpListIn (wf ro) 0 P ops Q r a' w') : wpListIn (wf ro) 0 P ops Q (o :: o' :: r) a w := by
 unfold Qi at hx
 split at hx <;> try cases hx
 rename_i e d t d' y _ cL fR Lm YG Ub YH
 split at hx <;> try cases hx
 rename_i hcond
 obtain ⟨rfl, T5, rfl⟩ := hcond
 split at hx <;> try cases hx
 rename_i i m z hi hm hz
 split at hx <;> cases hx
 rename_i hcond
 obtain ⟨ep, iN, so, AT⟩ := hcond
 simp only [rh, bp] at h
 obtain ⟨kJ, iI, km, hK⟩ := h
 have hr := hf.eval hi
 have LO := hr.fO kJ
 have pK := LO.length
 -- the zero value
 obtain ⟨inf, iL, c9⟩ := Option.map_eq_some_iff.1 hm
 unfold fz at hz
 simp only [iL] at hz
 split at hz <;> try cases hz
 rename_i zv ug
 have tx : zv.cells.size = m := by have := ((cC (M := M) (L := L) hz).fO so).length; rw [iN] at this; simpa using this
 have hrun1 : (execOp a.eval o).run P w = .ok (.value (.pointer (some ⟨w.heap.size, 0, none⟩))) { w with heap := w.heap.push (.cells zv.cells t) } := by
  simp only [execOp, cL]
  exact aU (by simp only [Instr.alloc, zeroValue, typeInfo, Sem.run_bind, run_program, Result.andThen_ok, iL, Sem.run_pure, ug]; rfl)
 have hsize : d < a.tmps.size := by rw [hf.size]; exact T5
 have Qc : (a.put (some d) (.pointer (some ⟨w.heap.size, 0, none⟩))).eval (.tmp d) = .pointer (some ⟨w.heap.size, 0, none⟩) := by
  show (a.put (some d) _).tmps.getD d undef = _
  rw [ub a d _ hsize d]; simp [fg]
 have YI : (a.put (some d) (.pointer (some ⟨w.heap.size, 0, none⟩))).eval y = a.eval y := by
  cases y with
  | tmp s =>
    simp [aP] at hi; subst hi
    simp [E4] at ep
    show (a.put (some d) _).tmps.getD s undef = a.tmps.getD s undef
    rw [ub a d _ hsize s]; simp [fg, ep]
  | _ => rfl
 have bQ := run_storeCells_at P w.heap.size 0 t (a.eval y).cells.toList 0 zv.cells { w with heap := w.heap.push (.cells zv.cells t) } (dC w _) (by simp at pK ⊢; omega) (LO.gk km)
 have hwhole : (zv.cells.toList.take (0 + 0) ++ (a.eval y).cells.toList ++ zv.cells.toList.drop (0 + 0 + (a.eval y).cells.toList.length)).toArray = (a.eval y).cells := by
  have : zv.cells.toList.drop (0 + 0 + (a.eval y).cells.toList.length) = [] := List.drop_eq_nil_of_le (by simp at pK ⊢; omega)
  rw [this]; simp
 rw [hwhole, Ba] at bQ
 have hrun2 : (execOp (a.put (some d) (.pointer (some ⟨w.heap.size, 0, none⟩))).eval o').run P { w with heap := w.heap.push (.cells zv.cells t) } = .ok .skip { w with heap := w.heap.push (.cells (a.eval y).cells t) } := by
  simp only [execOp, YG, Qc, YI]
  refine pO ?_
  have hs : (sizeOf t).run P { w with heap := w.heap.push (.cells zv.cells t) } = .ok m { w with heap := w.heap.push (.cells zv.cells t) } := by simp [sizeOf, typeInfo, iL, c9]
  simp only [Instr.storeAt, Instr.sureAddr, storeVar, Sem.run_bind, Sem.run_pure, Result.andThen_ok, hs, ne_eq]
  rw [if_neg (by simp at pK; omega)]
  exact bQ
 obtain ⟨g1, g2, g3⟩ := hf.st.C8 (a.eval y).cells t
 have fq : aR (M.add w.heap.size (a.eval y).cells.toList) L (.pointer (some ⟨w.heap.size, 0, none⟩)) (.ai (al env i)) := .ai _ _ _ _ (LO.mono g2.kG (List.prefix_refl _)) g3
 obtain ⟨O', oX⟩ := (hf.mono g1 g2).ow (dst := some d) (fun d' e => by cases e; exact T5) fq (by intro _ _ e; cases e)
 have kO := hrest _ _ ⟨_, L, H, _, O', hK, oX, g2, List.prefix_refl L⟩
 unfold wpListIn
 rw [if_pos (by simp [Region.wanted, Lm])]
 refine kH hrun1 (by intro d e; cases e) ?_
 rw [Oper.uponIn_value, fR]
 unfold wpListIn
 rw [if_pos (by simp [Region.wanted, YH])]
 refine kH hrun2 (by intro d e; cases e) ?_
 rw [Oper.uponIn_skip, Ub]
 exact kO
theorem oZ {ops : Array Oper} {an : AG} {rid : Nat} {fu : Bool} (hp : ∀ l, lo = some l → ∀ id, l ≤ id → A.top id = none) (Q : Exit → Act → World → Prop) : ∀ (fuel k : Nat) (l : List Oper) (il : List bt), eH P ops an n rid fu fuel k l = some il → ∀ {M : Mem} {L : List Nat} {w : World} {H : List aa} {env : Env} {O : Pos → Option Nat} {a : Act} (K : Env → List aa → Prop),
 Fr A n M L w H env O a → je ⟨P, lo⟩ il env H K → (∀ a' w', mK A n M L w K a' w' → Q .normal a' w') → wpListIn (wf ro) 0 P ops Q l a w
 | _, _, [], il, hc, M, L, w, H, env, O, a, K, hf, h, hQ => by
   unfold eH at hc
   cases hc
   exact hQ a w ⟨M, L, H, env, O, h, hf, Ext.refl A M w, List.prefix_refl L⟩
 | 0, _, o :: r, il, hc, _, _, _, _, _, _, _, _, _, _, _ => by simp [eH] at hc
 | fuel + 1, k, o :: r, il, hc, M, L, w, H, env, O, a, K, hf, h, hQ => by
   unfold eH at hc
   split at hc
   ·-- a new variable with its first value
    split at hc <;> try cases hc
    rename_i o' r'
    split at hc <;> cases hc
    rename_i x xs hx fx
    simp only [je] at h
    refine DA hx hf h r' Q ?_
    rintro a' w' ⟨M', L', H', aC, O', k1, k2, k3, k4⟩
    exact oZ hp Q fuel (k + 2) r' xs fx K k2 k1 (fun a2 w2 h2 => hQ a2 w2 (mK.trans (K' := K) k3 k4 h2))
   ·split at hc <;> try cases hc
    rename_i g xs hg fx
    split at hc <;> cases hc
    rename_i fR
    simp only [je] at h
    have h1 := xv (ro := ro) (ops := ops) hg fR hp hf h Q
    have hrest : ∀ a' w', mK A n M L w (fun env H => je ⟨P, lo⟩ xs env H K) a' w' → wpListIn (wf ro) 0 P ops Q r a' w' := by
     rintro a' w' ⟨M', L', H', aC, O', k1, k2, k3, k4⟩
     exact oZ hp Q fuel (k + 1) r xs fx K k2 k1 (fun a2 w2 h2 => hQ a2 w2 (mK.trans (K' := K) k3 k4 h2))
    unfold wpListIn
    split
    ·rename_i hw
     rw [if_pos hw] at h1
     exact Oper.wpIn_mono hrest h1
    ·rename_i hw
     rw [if_neg hw] at h1
     exact ⟨fun _ _ => trivial, hrest _ _ h1⟩
theorem Dy.trans {A' : Perm} {M0 M1 : Mem} {L0 : List Nat} {w0 w1 : World} {Q : Exit → Env → List aa → Prop} {e : Exit} {a : Act} {w : World} (hl : A'.Le A) (hx : Ext A M0 w0 M1 w1) (hp : Dy A' n M1 L0 w1 Q e a w) : Dy A n M0 L0 w0 Q e a w := by
 obtain ⟨A2, M, L, H, env, O, hA, h1, h2, h3, h4⟩ := hp
 exact ⟨A2, M, L, H, env, O, hA.trans hl, h1, h2, hx.trans (h3.le hl), h4⟩
theorem fD.le {n0 : Nat} {A' : Perm} (h : fD lo n0 A) (hl : A'.Le A) : fD lo n0 A' := by
 unfold fD at *
 rw [hl.1]
 exact h
def Own (ro : Option Nat) (w : World) : Prop := ∀ l, ro = some l → ∃ r, w.heap[l]? = some (.loop r)
theorem Own.ext {M' : Mem} {w' : World} (h : Own ro w) (hx : Ext A M w M' w') : Own ro w' := fun l hl => by
 obtain ⟨r, hr⟩ := h l hl
 obtain ⟨r', YJ, _⟩ := hx.loops l r hr
 exact ⟨r', YJ⟩
theorem Gx (p : Nat → Prop) (h : ∃ k, p k) : ∃ k, p k ∧ ∀ j, p j → k ≤ j := by
 obtain ⟨k, hk⟩ := h
 induction k using Nat.strongRecOn with
 | _ k ih =>
   by_cases hl : ∃ j, j < k ∧ p j
   ·obtain ⟨j, hj, hp⟩ := hl
    exact ih j hj hp
   ·exact ⟨k, hk, fun j hj => by
     rcases Nat.lt_or_ge j k with h' | h'
     ·exact absurd ⟨j, h', hj⟩ hl
     ·exact h'⟩
theorem y8 {F : Fence} {k : Nat} {c : Code} {Q : Exit → Act → World → Prop} {w : World} {a : Act} {ι : Type} (I : ι → Act → World → Prop) (μ : ι → Nat)
 (round : ∀ i a w, I i a w → c.wpIn F k P (Exit.then (fun a' w' => ∃ j, I j a' w' ∧ μ j < μ i) Q) a w) (i0 : ι) (h0 : I i0 a w) : (Code.loop c).wpIn F k P Q a w := by
 let p : Act → World → Nat → Prop := fun a w k => ∃ i, I i a w ∧ μ i = k
 let ν : Act → World → Nat := fun a w => Classical.epsilon fun k => p a w k ∧ ∀ j, p a w j → k ≤ j
 have hν : ∀ a w, (∃ i, I i a w) → p a w (ν a w) ∧ ∀ j, p a w j → ν a w ≤ j := by
  rintro a w ⟨i, hi⟩
  exact Classical.epsilon_spec (Gx (p a w) ⟨μ i, i, hi, rfl⟩)
 refine wpIn_loop (fun a w => ∃ i, I i a w) ν ⟨i0, h0⟩ ?_
 intro a w hI
 obtain ⟨⟨i, hi, hμ⟩, _⟩ := hν a w hI
 refine Go.wpIn_mono (round i a w hi) ?_
 intro e a' w' h
 cases e with
 | normal =>
   obtain ⟨j, hj, aW⟩ := h
   refine ⟨⟨j, hj⟩, ?_⟩
   have := (hν a' w' ⟨j, hj⟩).2 (μ j) ⟨j, hj, rfl⟩
   omega
 | _ => exact h
def xw (P : Program) (ro lo : Option Nat) (A : Perm) (n : Nat) (L0 : List Nat) : Prop :=
 ∀ {id : Nat} {ops : Array Oper} {il : List bt} {p : wy} {live : Option (List Nat)} {an : AG} {M : Mem} {L : List Nat} {w : World} {H : List aa} {env : Env} {O : Pos → Option Nat} {a : Act} {M0 : Mem} {w0 : World} {Q : Exit → Env → List aa → Prop},
  P.follows .mixedOrders = true → kN (ops.toList.map fun o => jA o.after.toList) (eS ops.toList []) il ops.size 0 none p = true → eH P ops an n id false (ops.size + 1) 0 ops.toList = some il → ms ⟨P, lo⟩ L0.length (.draw (inst il p) live) env H Q → Fr A n M L w H env O a → Ext A M0 w0 M w → L0 <+: L → (Code.region id ops true).wpIn (wf ro) 0 P (Dy A n M0 L0 w0 Q) a w
theorem Bb {L0 : List Nat} (hA : fD lo L0.length A) {f : Operand} {ps : Array Tmp} {as bd : Code} {an : AG} {lv : mj} {pl : mn} {i : IX} (hi : aP f = some i) {Q : Exit → Env → List aa → Prop}
 (wu : Own ro w) (h : ms ⟨P, lo⟩ L0.length (.iQ i ⟨n, ps.toList, as, bd, an, lv, pl⟩) env H Q) (hf : Fr A n M L w H env O a) (hL : L0 <+: L) : (Code.rangeFunc f ps as bd).wpIn (wf ro) 0 P (Dy A n M L0 w Q) a w := by
 have Ll := hf.eval hi
 simp only [ms] at h
 split at h <;> try exact h.elim
 rename_i g first cap T7
 obtain ⟨hcf, bP, hle, hcall⟩ := h
 rw [T7] at Ll
 generalize hu : a.eval f = u at Ll
 cases Ll with
 | fn _ fs cs _ _ yY rb =>
 refine wpIn_rangeFunc fun fn _ => ?_
 -- the record
 have enter : ∃ (l : Nat) (mark : List Deferred) (w1 : World) (A1 : Perm), (Instr.enterLoop fn a.tmps ps as bd ro).run P w = .ok (l, mark) w1 ∧ A1.Le A ∧
  Fr A1 n M (L ++ [l]) w1 (H ++ [.loop .ready ⟨n, ps.toList, as, bd, an, lv, pl⟩ (kw n env)]) env O { a with defers := mark ++ a.defers } ∧ Ext A M w M w1 := by
  have yR : aJ M L a.tmps.toList (kw n env) := by
   refine aJ.yC (by simp [kw, hf.size]) fun j x hx => ?_
   simp only [kw, List.getElem?_map] at hx
   obtain ⟨t, ht, rfl⟩ := Option.map_eq_some_iff.1 hx
   obtain ⟨pD, rfl⟩ := List.getElem?_eq_some_iff.1 ht
   simp only [List.length_range] at pD
   simp only [List.getElem_range]
   have := (hf.st.env j).ab
   refine ⟨a.tmps.getD j undef, ?_, this⟩
   rw [Array.getD_eq_getD_getElem?, Array.getElem?_toList, Array.getElem?_eq_getElem (by rw [hf.size]; exact pD)]
   rfl
  have nM : (aa.loop .ready ⟨n, ps.toList, as, bd, an, lv, pl⟩ (kw n env)).a7 (H.length + 1) = true := by
   simp only [aa.a7]
   have := yR.L3
   rw [hf.st.len] at this
   exact bF (by omega) _ this
  cases ro with
  | none =>
    have hg := hf.st.grow (w' := { w with heap := w.heap.push (.deferred (some [])) }) (Mem.bN M) (fun b o v hv => by
     have h1 := hf.st.mem b o v hv
     simp only [World.cell?] at h1 ⊢
     cases hb : w.heap[b]? with
     | none => rw [hb] at h1; simp at h1
     | some ob => rw [dY w _ (Array.getElem?_eq_some_iff.1 hb).1]; exact h1) (by simp) (fun b hb => dY w _ hb) (fun _ _ _ => rfl)
    have pU : Ext A M w M { w with heap := w.heap.push (.deferred (some [])) } := Ext.grow (Mem.bN M) (by simp) rfl rfl rfl (fun b hb => dY w _ hb) (fun _ _ _ => rfl)
    have hb := hg.T9 (D := w.heap.size) (fun hm => by have := hf.st.lt _ hm; omega) (fun p hp => by have := hf.st.eV _ _ hp; omega) (by simp)
    obtain ⟨g1, g2⟩ := hb.qV (.loop { state := .ready, pending := none, fn, tmps := a.tmps, params := ps, assign := as, body := bd, defers := w.heap.size }) (.loop .ready ⟨n, ps.toList, as, bd, an, lv, pl⟩ (kw n env))
     (fun w' Iw _ => ⟨_, Iw, (Array.toArray_toList).symm, rfl, rfl, yR.mono (Mem.bN M) ⟨_, rfl⟩, rfl, rfl⟩) nM (fun j => rfl)
    refine ⟨w.heap.size + 1, _, _, A.T9 w.heap.size, run_enterLoop_outer _ _ _ _ _, A.y0 _, ⟨?_, hf.size, ?_⟩, ?_⟩
    ·have e1 : ({ w with heap := w.heap.push (.deferred (some [])) } : World).heap.size = w.heap.size + 1 := by simp
     rw [e1] at g1
     exact g1
    ·have old := ((hf.defers.ext pU).le (A.y0 w.heap.size)).ext g2
     refine ⟨old.1, ?_, fun d hd => ?_⟩
     ·show (_ :: a.defers).Nodup
      rw [List.nodup_cons]
      refine ⟨fun hm => ?_, old.2.1⟩
      obtain ⟨D, e, hD, _⟩ := hf.defers.2.2 _ hm
      cases e
      have := (Array.getElem?_eq_some_iff.1 hD).1
      omega
     rcases List.mem_append.1 hd with hd | hd
     ·rw [List.mem_singleton] at hd
      subst hd
      refine ⟨w.heap.size, rfl, ?_, (fun h => h.2 rfl), (show A.base ≤ w.heap.size from hf.defers.1)⟩
      show ((w.heap.push _).push _)[w.heap.size]? = _
      rw [Array.getElem?_push_lt (by simp)]
      simp
     ·exact old.2.2 d hd
    ·exact pU.trans (g2.le (A.y0 _))
  | some l0 =>
    obtain ⟨r0, YK⟩ := wu l0 rfl
    obtain ⟨g1, g2⟩ := hf.st.qV (.loop { state := .ready, pending := none, fn, tmps := a.tmps, params := ps, assign := as, body := bd, defers := r0.defers }) (.loop .ready ⟨n, ps.toList, as, bd, an, lv, pl⟩ (kw n env))
     (fun w' Iw _ => ⟨_, Iw, (Array.toArray_toList).symm, rfl, rfl, yR.mono (Mem.bN M) ⟨_, rfl⟩, rfl, rfl⟩) nM (fun j => rfl)
    exact ⟨w.heap.size, [], _, A, run_enterLoop_inner YK _ _ _ _ _, Perm.Le.refl A, ⟨g1, hf.size, by simpa using hf.defers.ext g2⟩, g2⟩
 obtain ⟨l, mark, w1, A1, he, DB, EX, pU⟩ := enter
 have Ln : L.length = H.length := hf.st.len
 have th : (L ++ [l])[H.length]? = some l := by rw [← Ln]; simp
 have Qm : fD lo L0.length A1 := hA.le DB
 obtain ⟨loose, uh, hcall⟩ : ∃ loose : Bool, (loose = true → ∀ id, (H ++ [aa.loop .ready ⟨n, ps.toList, as, bd, an, lv, pl⟩ (kw n env)]).length ≤ id → A1.top id = none) ∧
  ku loose P g bP (H ++ [.loop .ready ⟨n, ps.toList, as, bd, an, lv, pl⟩ (kw n env)]) fun _ H' => behind H.length H' fun j H'' => oY j Q env H'' := by
  unfold dZ at hcall
  split at hcall
  ·exact ⟨false, by simp, hcall⟩
  ·rename_i l' wM
   rcases hcall with hcall | ⟨h1, hcall⟩
   ·exact ⟨false, by simp, hcall⟩
   ·exact ⟨true, fun _ id bm => Qm.opens l' wM id (by omega), hcall⟩
 have hry : aJ M (L ++ [l]) (fs ++ [.func (.yield l) #[] #[]]) (first ++ [.mM H.length]) :=
  (yY.mono (Mem.bN M) ⟨_, rfl⟩).append (.one (.mM l _ th))
 obtain ⟨Oc, pK, bQ, fin⟩ := rf (o := (⟨none, .move f, 0, "", #[], none⟩ : Oper)) (K := fun aC H' => aC = env ∧ behind H.length H' fun j H'' => oY j Q env H'') (xs := []) (js := []) rfl (pass := none) hry (rb.mono (Mem.bN M) ⟨[l], rfl⟩)
  (by simpa [aG, AV.ab] using hle) EX (fun d e => by cases e) uh
 obtain ⟨vs, wD⟩ : ∃ vs : List Value, vs = fs ++ [.func (.yield l) #[] #[]] ++ cs := ⟨_, rfl⟩
 simp only [List.map_nil, List.append_nil] at pK bQ
 rw [← wD] at pK bQ
 refine ⟨l, mark, w1, { target := .fn (.func g) cs.toArray, args := fs.toArray ++ #[.func (.yield l) #[] #[]] }, w1, g, vs.toArray, w1, he, ?_, fun _ _ => trivial, ?_, (fun h => by cases h), ?_⟩
 ·have ec : a.eval (.const (.func (.yield l) #[] #[])) = .func (.yield l) #[] #[] := rfl
  simp [resolve, hu, Deferred.ofValue, ec]
 ·have e1 : (fs.toArray ++ #[.func (.yield l) #[] #[]] ++ cs.toArray : Array Value) = vs.toArray := by
   apply Array.ext'; simp [wD]
  simp only [invoke]
  rw [e1]
  exact hcf _ _
 ·rcases hcall (dn A1 loose (H ++ [aa.loop .ready ⟨n, ps.toList, as, bd, an, lv, pl⟩ (kw n env)]) (L ++ [l]) Oc w1) M (L ++ [l]) w1 vs.toArray Oc (kv A1 loose _ _ Oc w1) (by simpa using pK) bQ with ⟨_, hc⟩ | ⟨v, w', r, H', M', L', O', h1, _⟩
  ·have oz : CallsIn (wf ro) (0 - 1) P g vs.toArray w1 _ := callsIn_wide.2 hc
   refine CallsIn.mono oz fun e w' he => ?_
   obtain ⟨v, r, H', M', L', O', rfl, hK, lB, cu, Uc⟩ := he
   obtain ⟨M2, L2, H2, cK, O2, ⟨rfl, hb⟩, sy, OQ, Qn⟩ := fin v r H' M' L' O' w' ⟨rfl, hK⟩ lB cu Uc
   have nP : L2[H.length]? = some l := fL Qn th
   have ln : L0 <+: L2 := hL.trans ((List.prefix_append L [l]).trans Qn)
   unfold behind at hb
   split at hb
   ·rename_i lc es DC
    obtain ⟨r, q1, q2, q3, q4, q5, q6⟩ := sy.st.obj _ _ l DC nP
    obtain ⟨k1, k2⟩ := sy.st.nS (st' := .eD) (r' := { r with state := .exhausted }) DC nP (fun r2 rb => by rw [q1] at rb; cases rb; exact ⟨rfl, rfl, rfl, rfl, rfl, trivial⟩)
    exact ⟨none, _, (run_endLoop q1 (by rw [q6.1]; simp)).trans (congrArg (fun p => Result.ok p _) q6.2), A1, M2, L2, _, cK, O2, DB, hb, ⟨k1, sy.size, sy.defers.ext k2⟩, pU.trans ((OQ.trans k2).le DB), ln⟩
   ·rename_i c lc es DC
    obtain ⟨r, q1, q2, q3, q4, q5, q6⟩ := sy.st.obj _ _ l DC nP
    obtain ⟨k1, k2⟩ := sy.st.nS (st' := .eD) (r' := { r with state := .exhausted }) DC nP (fun r2 rb => by rw [q1] at rb; cases rb; exact ⟨rfl, rfl, rfl, rfl, rfl, trivial⟩)
    refine ⟨some c, _, (run_endLoop q1 (by rw [q6.1]; simp)).trans (congrArg (fun p => Result.ok p _) q6.2), ?_⟩
    unfold oY at hb
    split at hb
    ·rename_i e; cases e
    ·rename_i e; cases e
     exact wpIn_ret ⟨A1, M2, L2, _, cK, O2, DB, hb, ⟨k1, sy.size, sy.defers.ext k2⟩, pU.trans ((OQ.trans k2).le DB), ln⟩
    ·rename_i e; cases e
     exact wpIn_exit ⟨A1, M2, L2, _, cK, O2, DB, hb, ⟨k1, sy.size, sy.defers.ext k2⟩, pU.trans ((OQ.trans k2).le DB), ln⟩
    ·exact hb.elim
   ·exact hb.elim
  ·rw [hcf] at h1; cases h1
theorem sound {L0 : List Nat} (hdraw : ∀ A, fD lo L0.length A → xw P ro lo A n L0) {an : AG} {lv : mj} {pl : mn} : ∀ (c : Code) (ir : IR), comp P an lv pl n c = some ir → ∀ {A : Perm} {M : Mem} {L : List Nat} {w : World} {H : List aa} {env : Env} {O : Pos → Option Nat} {a : Act} {Q : Exit → Env → List aa → Prop},
 fD lo L0.length A → Own ro w → ms ⟨P, lo⟩ L0.length ir env H Q → Fr A n M L w H env O a → L0 <+: L → c.wpIn (wf ro) 0 P (Dy A n M L0 w Q) a w := by
 intro c
 induction c with
 | skip =>
   intro ir hc A M L w H env O a Q hA wu h hf hL
   simp only [comp] at hc; cases hc
   exact wpIn_skip ⟨A, M, L, H, env, O, .refl A, h, hf, Ext.refl A M w, hL⟩
 | exit id =>
   intro ir hc A M L w H env O a Q hA wu h hf hL
   simp only [comp] at hc; cases hc
   exact wpIn_exit ⟨A, M, L, H, env, O, .refl A, h, hf, Ext.refl A M w, hL⟩
 | ret =>
   intro ir hc A M L w H env O a Q hA wu h hf hL
   simp only [comp] at hc; cases hc
   exact wpIn_ret ⟨A, M, L, H, env, O, .refl A, h, hf, Ext.refl A M w, hL⟩
 | region id ops draw =>
   intro ir hc A M L w H env O a Q hA wu h hf hL
   cases draw with
   | true =>
     simp only [comp] at hc
     split at hc <;> try cases hc
     rename_i il Az
     split at hc <;> cases hc
     rename_i hm
     exact hdraw A hA hm.1 hm.2 Az h hf (Ext.refl A M w) hL
   | false =>
     simp only [comp] at hc
     obtain ⟨il, Az, rfl⟩ := Option.map_eq_some_iff.1 hc
     simp only [ms] at h
     refine wpIn_region_list (oZ hA.opens _ _ _ _ _ Az _ hf h ?_)
     rintro a' w' ⟨M', L', H', aC, O', h1, h2, h3, h4⟩
     obtain ⟨O'', h5⟩ := h2.weaken (xu (lv.at_ id) aC)
     exact ⟨A, M', L', H', _, O'', .refl A, h1, h5, h3, hL.trans h4⟩
 | seq x y ihx ihy =>
   intro ir hc A M L w H env O a Q hA wu h hf hL
   simp only [comp] at hc
   split at hc <;> cases hc
   rename_i x' y' hx hy
   simp only [ms] at h
   refine wpIn_seq (Go.wpIn_mono (ihx _ hx hA wu h hf hL) ?_)
   rintro e a' w' ⟨A', M', L', H', aC, O', hl, h1, h2, h3, h4⟩
   cases e with
   | normal => exact Go.wpIn_mono (ihy _ hy (hA.le hl) (wu.ext h3) h1 h2 h4) fun e a w hp => hp.trans hl h3
   | _ => exact ⟨A', M', L', H', aC, O', hl, h1, h2, h3, h4⟩
 | cond x c d ihc YL =>
   intro ir hc A M L w H env O a Q hA wu h hf hL
   simp only [comp] at hc
   split at hc <;> cases hc
   rename_i i c' d' hi Gy XT
   simp only [ms] at h
   obtain ⟨q, hq, h⟩ := nR h
   have hr := hf.eval hi
   rw [hq] at hr
   generalize hu : a.eval x = u at hr
   cases hr
   refine wpIn_cond_split hu (fun e => ihc _ Gy hA wu (h.1 e) hf hL) (fun e => YL _ XT hA wu (h.2 e) hf hL)
 | block id c ih =>
   intro ir hc A M L w H env O a Q hA wu h hf hL
   simp only [comp] at hc
   obtain ⟨c', Gy, rfl⟩ := Option.map_eq_some_iff.1 hc
   simp only [ms] at h
   refine wpIn_block (Go.wpIn_mono (ih _ Gy hA wu h hf hL) ?_)
   rintro e a' w' ⟨A', M', L', H', aC, O', hl, h1, h2, h3, h4⟩
   cases e with
   | exit id' =>
     simp only [Exit.inBlock]
     simp only at h1
     split at h1
     ·rename_i e; rw [if_pos e]; exact ⟨A', M', L', H', aC, O', hl, h1, h2, h3, h4⟩
     ·rename_i e; rw [if_neg e]; exact ⟨A', M', L', H', aC, O', hl, h1, h2, h3, h4⟩
   | _ => exact ⟨A', M', L', H', aC, O', hl, h1, h2, h3, h4⟩
 | loop c ih =>
   intro ir hc A M L w H env O a Q hA wu h hf hL
   simp only [comp] at hc
   obtain ⟨c', Gy, rfl⟩ := Option.map_eq_some_iff.1 hc
   simp only [ms] at h
   obtain ⟨ι, I, se, sh, μ, ⟨i0, tB, YM⟩, hround⟩ := h
   obtain ⟨L', O', oX, Uc⟩ := hf.sle hA hL YM
   refine y8 (fun i a' w' => I i ∧ ∃ A' M' L' O', A'.Le A ∧ Fr A' n M' L' w' (sh i) (se i) O' a' ∧ Ext A M w M' w' ∧ L0 <+: L') μ ?_ i0 ⟨tB, A, M, L', O', .refl A, oX, Ext.refl A M w, Uc⟩
   rintro i a1 w1 ⟨hi, A1, M1, L1, O1, th, EX, pU, XU⟩
   refine Go.wpIn_mono (ih _ Gy (hA.le th) (wu.ext pU) (hround i hi) EX XU) ?_
   rintro e a' w' ⟨A', M', L', H', aC, O', hl, h1, h2, h3, h4⟩
   cases e with
   | normal =>
     obtain ⟨j, hj, aW, hs⟩ := h1
     obtain ⟨L2, O2, sy, Qn⟩ := h2.sle ((hA.le th).le hl) h4 hs
     exact ⟨j, ⟨hj, A', M', L2, O2, hl.trans th, sy, pU.trans (h3.le th), Qn⟩, aW⟩
   | _ => exact ⟨A', M', L', H', aC, O', hl.trans th, h1, h2, pU.trans (h3.le th), h4⟩
 | rangeFunc f ps as bd =>
   intro ir hc A M L w H env O a Q hA wu h hf hL
   simp only [comp] at hc
   obtain ⟨i, hi, rfl⟩ := Option.map_eq_some_iff.1 hc
   exact Bb hA hi wu h hf hL
 | _ =>
   intro ir hc A M L w H env O a Q hA wu h
   simp only [comp] at hc
   cases hc
   exact h.elim
end
end Go.aK
end
section
namespace Go.aK
open Go
section
variable {φ ψ : AV → Prop} (hm : ∀ z, φ z → ψ z)
include hm
theorem rk {op : BinOp} {x y : AV} (h : cW op x y φ) : cW op x y ψ := by
 unfold cW at *
 split at h <;> (try exact h.elim)
 ·obtain ⟨h0, h⟩ := h
  refine ⟨h0, ?_⟩
  split at h <;> first | exact hm _ h | exact ⟨h.1, hm _ h.2⟩ | exact h.elim
 ·split at h <;> first | exact hm _ h | exact ⟨h.1, hm _ h.2⟩ | exact h.elim
theorem mZ {op : BinOp} {x y : AV} (h : dM op x y φ) : dM op x y ψ := by
 unfold dM at *
 split at h <;> (try exact h.elim)
 obtain ⟨h0, h⟩ := h
 refine ⟨h0, ?_⟩
 split at h <;> first | exact hm _ h | exact h.elim
theorem lG {neq : Bool} {x y : AV} (h : cP neq x y φ) : cP neq x y ψ := by
 unfold cP at *
 split at h <;> first | exact hm _ h | exact h.elim
theorem sE {kd : Nat} {neq : Bool} {x : AV} (h : de kd neq x φ) : de kd neq x ψ := by
 unfold de at *
 split at h
 ·exact hm _ h
 ·split at h
  ·exact ⟨hm _ h.1, hm _ h.2⟩
  ·exact h.elim
theorem uC {op : UnOp} {x : AV} (h : yH op x φ) : yH op x ψ := by
 unfold yH at *
 split at h <;> first | exact hm _ h | exact h.elim
theorem jB {sz : Option Nat} {x : AV} {H : List aa} (h : aS sz x H φ) : aS sz x H ψ := by
 unfold aS at *
 split at h <;> (try exact h.elim) <;> (split at h <;> (try exact h.elim)) <;> first | exact ⟨h.1, hm _ h.2⟩ | (split at h <;> exact ⟨h.1, hm _ h.2⟩)
theorem m8 {off : Nat} {sz : Option Nat} {x : AV} (h : eM off sz x φ) : eM off sz x ψ := by
 unfold eM apart at *
 split at h <;> (try exact h.elim)
 split at h <;> first | exact ⟨h.1, hm _ h.2⟩ | exact ⟨h.1, h.2.1, hm _ h.2.2⟩
theorem iS {off : Nat} {sz : Option Nat} {x : AV} (h : ak off sz x φ) : ak off sz x ψ := by
 unfold ak apart at *
 split at h <;> (try exact h.elim)
 ·exact hm _ h
 ·split at h <;> first | exact ⟨h.1, hm _ h.2⟩ | exact ⟨h.1, h.2.1, hm _ h.2.2⟩
theorem iT {esz : Nat} {x i : AV} (h : ay esz x i φ) : ay esz x i ψ := by
 unfold ay at *
 split at h <;> first | exact ⟨h.1, h.2.1, hm _ h.2.2⟩ | exact h.elim
theorem jC {x i : AV} (h : bH x i φ) : bH x i ψ := by
 unfold bH at *
 split at h <;> first | exact ⟨h.1, h.2.1, hm _ h.2.2⟩ | exact h.elim
theorem jD {n : Nat} {x i : AV} (h : bR n x i φ) : bR n x i ψ := by
 unfold bR at *
 split at h <;> first | exact ⟨h.1, h.2.1, h.2.2.1, hm _ h.2.2.2⟩ | exact h.elim
theorem rn {x : AV} {H : List aa} (h : eY x H φ) : eY x H ψ := by
 unfold eY at *
 split at h <;> (try exact h.elim) <;> (try exact hm _ h)
 ·exact fun hl => hm _ (h hl)
 ·split at h <;> first | exact hm _ h | exact h.elim
theorem kx {x : AV} {i : Nat} (h : bC x i φ) : bC x i ψ := by
 unfold bC at *
 split at h <;> first | exact ⟨h.1, hm _ h.2⟩ | exact h.elim
theorem jE {x : AV} (h : bS x φ) : bS x ψ := by
 unfold bS at *
 split at h <;> first | exact hm _ h | exact h.elim
theorem ky {k : IntKind} {x : AV} (h : cr k x φ) : cr k x ψ := by
 unfold cr at *
 split at h <;> first | exact hm _ h | exact h.elim
theorem uD {big : Bool} {x y : AV} (h : wz big x y φ) : wz big x y ψ := by
 unfold wz at *
 split at h <;> first | exact hm _ h | exact h.elim
theorem oG {x : AV} (h : fA x φ) : fA x ψ := by
 unfold fA at *
 split at h <;> first | exact hm _ h | exact h.elim
theorem oH {own : Nat} {x : AV} (h : eR own x φ) : eR own x ψ := by
 unfold eR at *
 split at h <;> first | exact ⟨h.1, hm _ h.2⟩ | exact h.elim
theorem sF {x : AV} (h : jv x φ) : jv x ψ := by
 unfold jv at *
 split at h <;> first | exact hm _ h | exact ⟨_, h.choose_spec.1, hm _ h.choose_spec.2⟩ | (obtain ⟨l, h1, h2⟩ := h; exact ⟨l, h1, hm _ h2⟩) | exact ⟨h.1, hm _ h.2⟩ | exact h.elim
theorem sG {esz bytes : Nat} {n : AV} (h : iO esz bytes n φ) : iO esz bytes n ψ := by
 unfold iO at *
 split at h <;> first | exact ⟨h.1, h.2.1, hm _ h.2.2⟩ | exact h.elim
theorem lH {kd : Nat} {z m k : AV} {ok : Bool} {H : List aa} (h : ch kd z m k ok H φ) : ch kd z m k ok H ψ := by
 unfold ch at *
 split at h <;> (try exact h.elim) <;> first | exact hm _ h | exact ⟨h.1, hm _ h.2⟩ | (split at h <;> (try exact h.elim) <;> first | exact hm _ h | exact ⟨h.1, hm _ h.2⟩ | (split at h <;> (try exact h.elim) <;> first | exact hm _ h | exact ⟨h.1, hm _ h.2⟩))
end
theorem eC {x : Option AV} {d : Nat} {φ ψ : Nat → Prop} (hm : ∀ k, φ k → ψ k) (h : dO x d φ) : dO x d ψ := by
 unfold dO at *
 split at h <;> first | exact hm _ h | exact ⟨h.1, hm _ h.2⟩ | exact h.elim
theorem sH {esz : Nat} {x : AV} {lo hi mx : Option AV} {φ ψ : AV → Prop} (hm : ∀ z, φ z → ψ z) (h : ft esz x lo hi mx φ) : ft esz x lo hi mx ψ := by
 unfold ft at *
 split at h <;> (try exact h.elim)
 refine eC (fun k h => eC (fun l h => ⟨h.1, h.2.1, ?_⟩) h) h
 obtain ⟨_, _, h⟩ := h
 split at h
 ·exact hm _ h
 ·exact ⟨h.1, eC (fun m h => ⟨h.1, h.2.1, hm _ h.2.2⟩) h.2⟩
theorem lI {esz : Nat} {x : AV} {lo hi mx : Option AV} {φ ψ : AV → Prop} (hm : ∀ z, φ z → ψ z) (h : bA esz x lo hi mx φ) : bA esz x lo hi mx ψ := by
 unfold bA gr nO at *
 split at h
 ·split at h
  ·exact eC (fun k h => eC (fun l h => ⟨h.1, h.2.1, hm _ h.2.2⟩) h) h
  ·exact ⟨h.1, eC (fun m h => eC (fun k h => eC (fun l h => ⟨h.1, h.2.1, h.2.2.1, hm _ h.2.2.2⟩) h) h) h.2⟩
 ·exact ⟨h.1, sH hm h.2⟩
theorem jF {x : AV} {lo hi : Option AV} {φ ψ : AV → Prop} (hm : ∀ z, φ z → ψ z) (h : b7 x lo hi φ) : b7 x lo hi ψ := by
 unfold b7 at *
 split at h <;> (try exact h.elim)
 exact eC (fun k h => eC (fun l h => ⟨h.1, h.2.1, hm _ h.2.2⟩) h) h
theorem lJ {φ ψ : List AV → Prop} (hm : ∀ z, φ z → ψ z) : ∀ {ps : List (Nat × Nat × AV)} {zs : List AV}, gO zs ps φ → gO zs ps ψ
 | [], zs, h => hm _ h
 | (off, sz, x) :: r, zs, h => ⟨h.1, h.2.1, h.2.2.1, lJ hm h.2.2.2⟩
theorem gD {esz : Nat} {φ ψ : List AV → Prop} (hm : ∀ z, φ z → ψ z) : ∀ {ps : List (Nat × AV)} {zs : List AV}, bh zs esz ps φ → bh zs esz ps ψ
 | [], zs, h => hm _ h
 | (i, x) :: r, zs, h => ⟨h.1, h.2.1, h.2.2.1, gD hm h.2.2.2⟩
def Qo (τ : Nat → AV) (dst : Option Nat) (x : AV) : Nat → AV := match dst with | some d => fg τ d x | none => τ
theorem jY (env : Env) (dst : Option Nat) (x : AV) : get (put dst x env) = Qo (get env) dst x := by cases dst <;> rfl
theorem m9 {lo : Option IX} {env : Env} {ρ : IX → AV} (h : ∀ i ∈ lo.toList, al env i = ρ i) : lo.map ρ = gv env lo := by
 cases lo with
 | none => rfl
 | some i => simp [gv, h i (by simp)]
theorem nc {is : List IX} {env : Env} {ρ : IX → AV} (h : ∀ i ∈ is, al env i = ρ i) (g : AV → AV) : (is.map fun x => g (al env x)) = is.map fun x => g (ρ x) := by
 apply List.map_congr_left
 intro i hi
 rw [h i hi]
theorem nh (env : Env) : ∀ (is : List IX) (j : Nat), aG env none j is = is.map fun x => (al env x).ab
 | [], _ => rfl
 | .t s :: r, j => by simp [aG, nh env r, al]
 | .c v :: r, j => by simp [aG, nh env r, al]
theorem Bc {P : Px} {o : bX} {dst : Option Nat} {ρ : IX → AV} {env : Env} {H : List aa} {x : AV} (h : cU P o ρ H x) (hρ : ∀ i ∈ o.all, al env i = ρ i) :
 bp P o dst env H fun e h => h = H ∧ get e = get (put dst x env) := by
 have key : ∀ z, z = x → (H = H ∧ get (put dst z env) = get (put dst x env)) := fun z e => ⟨rfl, e ▸ rfl⟩
 cases o with
 | set i take =>
   cases take with
   | true => exact h.elim
   | false =>
     simp only [cU, bX.all, List.mem_singleton, forall_eq] at h hρ
     rw [← hρ] at h
     unfold bp
     cases dst with
     | none => exact ⟨rfl, rfl⟩
     | some d =>
       subst h
       refine ⟨rfl, ?_⟩
       cases i <;> rfl
 | pick c a b =>
   simp only [cU, bX.all, List.mem_cons, List.not_mem_nil, or_false, forall_eq_or_imp, forall_eq] at h hρ
   obtain ⟨h1, h2, h3⟩ := hρ
   rw [← h1, ← h2, ← h3] at h
   obtain ⟨q, hq, h⟩ := nR h
   show eL (al env c) _
   rw [hq]
   exact ⟨fun e => key _ (h.1 e), fun e => key _ (h.2 e)⟩
 | bin op i j =>
   simp only [cU, bX.all, List.mem_cons, List.not_mem_nil, or_false, forall_eq_or_imp, forall_eq] at h hρ
   obtain ⟨h1, h2⟩ := hρ
   rw [← h1, ← h2] at h
   exact rk key h
 | shift op i j =>
   simp only [cU, bX.all, List.mem_cons, List.not_mem_nil, or_false, forall_eq_or_imp, forall_eq] at h hρ
   obtain ⟨h1, h2⟩ := hρ
   rw [← h1, ← h2] at h
   exact mZ key h
 | gU neq i j =>
   simp only [cU, bX.all, List.mem_cons, List.not_mem_nil, or_false, forall_eq_or_imp, forall_eq] at h hρ
   obtain ⟨h1, h2⟩ := hρ
   rw [← h1, ← h2] at h
   exact lG key h
 | mx big i j =>
   simp only [cU, bX.all, List.mem_cons, List.not_mem_nil, or_false, forall_eq_or_imp, forall_eq] at h hρ
   obtain ⟨h1, h2⟩ := hρ
   rw [← h1, ← h2] at h
   exact uD key h
 | indexAddr esz i j =>
   simp only [cU, bX.all, List.mem_cons, List.not_mem_nil, or_false, forall_eq_or_imp, forall_eq] at h hρ
   obtain ⟨h1, h2⟩ := hρ
   rw [← h1, ← h2] at h
   exact ⟨h.1, iT key h.2⟩
 | da i j =>
   simp only [cU, bX.all, List.mem_cons, List.not_mem_nil, or_false, forall_eq_or_imp, forall_eq] at h hρ
   obtain ⟨h1, h2⟩ := hρ
   rw [← h1, ← h2] at h
   exact jC key h
 | dK n i j =>
   simp only [cU, bX.all, List.mem_cons, List.not_mem_nil, or_false, forall_eq_or_imp, forall_eq] at h hρ
   obtain ⟨h1, h2⟩ := hρ
   rw [← h1, ← h2] at h
   exact jD key h
 | lookup kd z i j ok =>
   simp only [cU, bX.all, List.mem_cons, List.not_mem_nil, or_false, forall_eq_or_imp, forall_eq] at h hρ
   obtain ⟨h1, h2⟩ := hρ
   rw [← h1, ← h2] at h
   exact lH key h
 | iZ kd neq i =>
   simp only [cU, bX.all, List.mem_singleton, forall_eq] at h hρ
   rw [← hρ] at h
   exact sE key h
 | un op i =>
   simp only [cU, bX.all, List.mem_singleton, forall_eq] at h hρ
   rw [← hρ] at h
   exact uC key h
 | lq i =>
   simp only [cU, bX.all, List.mem_singleton, forall_eq] at h hρ
   rw [← hρ] at h
   exact ⟨h.1, key _ h.2⟩
 | load sz i =>
   simp only [cU, bX.all, List.mem_singleton, forall_eq] at h hρ
   rw [← hρ] at h
   exact jB key h
 | nilCheck i =>
   simp only [cU, bX.all, List.mem_singleton, forall_eq] at h hρ
   rw [← hρ] at h
   exact jE key h
 | fieldAddr off sz i =>
   simp only [cU, bX.all, List.mem_singleton, forall_eq] at h hρ
   rw [← hρ] at h
   exact iS key h
 | field off sz i =>
   simp only [cU, bX.all, List.mem_singleton, forall_eq] at h hρ
   rw [← hρ] at h
   exact m8 key h
 | len kd i =>
   simp only [cU, bX.all, List.mem_singleton, forall_eq] at h hρ
   rw [← hρ] at h
   exact ⟨h.1, rn key h.2⟩
 | extract i k =>
   simp only [cU, bX.all, List.mem_singleton, forall_eq] at h hρ
   rw [← hρ] at h
   exact kx key h
 | eG k i =>
   simp only [cU, bX.all, List.mem_singleton, forall_eq] at h hρ
   rw [← hρ] at h
   exact ky key h
 | gl i =>
   simp only [cU, bX.all, List.mem_singleton, forall_eq] at h hρ
   rw [← hρ] at h
   exact oG key h
 | bytesOf i =>
   simp only [cU, bX.all, List.mem_singleton, forall_eq] at h hρ
   rw [← hρ] at h
   exact oH key h
 | mP esz bytes i =>
   simp only [cU, bX.all, List.mem_singleton, forall_eq] at h hρ
   rw [← hρ] at h
   exact sG key h
 | strOf i =>
   simp only [cU, bX.all, List.mem_singleton, forall_eq] at h hρ
   rw [← hρ] at h
   exact sF key h
 | build z ps =>
   simp only [cU, bX.all] at h hρ
   have : (ps.map fun q => (q.1, q.2.1, al env q.2.2)) = ps.map fun q => (q.1, q.2.1, ρ q.2.2) :=
    List.map_congr_left fun q hq => by rw [hρ _ (List.mem_map.2 ⟨q, hq, rfl⟩)]
   show cE z.cells (ps.map fun q => (q.1, q.2.1, al env q.2.2)) (fun v => H = H ∧ get (put dst v env) = get (put dst x env))
   rw [this]
   exact lJ (fun v h => key _ h) h
 | buildSlice own esz z len ps =>
   simp only [cU, bX.all] at h hρ
   have : (ps.map fun q => (q.1, al env q.2)) = ps.map fun q => (q.1, ρ q.2) :=
    List.map_congr_left fun q hq => by rw [hρ _ (List.mem_map.2 ⟨q, hq, rfl⟩)]
   show bh _ _ (ps.map fun q => (q.1, al env q.2)) _
   rw [this]
   exact gD (fun v h => key (.ap own v) h) h
 | slice esz i lo hi mx =>
   simp only [cU, bX.all, List.mem_cons, List.mem_append, forall_eq_or_imp] at h hρ
   obtain ⟨h1, h2⟩ := hρ
   rw [← h1, m9 (fun i hi => h2 i (.inl (.inl hi))), m9 (fun i hi => h2 i (.inl (.inr hi))), m9 (fun i hi => h2 i (.inr hi))] at h
   exact lI key h
 | dL i lo hi =>
   simp only [cU, bX.all, List.mem_cons, List.mem_append, forall_eq_or_imp] at h hρ
   obtain ⟨h1, h2⟩ := hρ
   rw [← h1, m9 (fun i hi => h2 i (.inl hi)), m9 (fun i hi => h2 i (.inr hi))] at h
   exact jF key h
 | fn f first cap =>
   simp only [cU, bX.all, List.mem_append] at h hρ
   refine key _ ?_
   rw [nc (fun i hi => hρ i (.inl hi)) AV.ab, nc (fun i hi => hρ i (.inr hi)) AV.ab]
   exact h
 | call f args pass =>
   cases pass with
   | some _ => exact h.elim
   | none =>
     simp only [cU, bX.all, List.mem_cons, forall_eq_or_imp] at h hρ
     obtain ⟨h1, h2⟩ := hρ
     rw [← h1] at h
     split at h <;> try exact h.elim
     rename_i g first cap hg
     show oF P (al env f) args none env H (fun r aC H' => H' = H ∧ get (put dst r aC) = get (put dst x env))
     rw [hg]
     obtain ⟨bP, hl, hcall⟩ := h
     refine ⟨bP, ?_, dZ.of <| hcall.mono ?_⟩
     ·rw [nh, nc h2 AV.ab]; exact hl
     ·rintro r H' ⟨hr, rfl⟩
      exact key r hr
 | _ => exact h.elim
end Go.aK
end
section
namespace Go.aK
open Go
theorem Bd {m : Nat} {p x : AV} {H : List aa} {K K' : List aa → Prop} (hm : ∀ H', K H' → K' H') (h : gW m p x H K) : gW m p x H K' := by
 unfold gW at *
 split at h <;> (try exact h.elim)
 split at h <;> (try exact h.elim)
 exact ⟨h.1, h.2.1, h.2.2.1, h.2.2.2.1, h.2.2.2.2.1, hm _ h.2.2.2.2.2⟩
theorem wO {p x : AV} {H : List aa} {K K' : List aa → Prop} (hm : ∀ H', K H' → K' H') (h : dN p x H K) : dN p x H K' := by
 unfold dN at *
 split at h <;> (try exact h.elim)
 split at h <;> (try exact h.elim)
 exact ⟨h.1, h.2.1, h.2.2.1, hm _ h.2.2.2⟩
theorem y9 {esz bytes : Nat} {s x : AV} {φ ψ : List AV → Prop} (hm : ∀ z, φ z → ψ z) (h : bE esz bytes s x φ) : bE esz bytes s x ψ := by
 unfold bE at *
 split at h <;> (try exact h.elim)
 exact ⟨h.1, h.2.1, hm _ h.2.2⟩
theorem wP {esz bytes : Nat} {z s x : AV} {H : List aa} {K K' : AV → List aa → Prop} (hm : ∀ v H', K v H' → K' v H') (h : cJ esz bytes z s x H K) : cJ esz bytes z s x H K' := by
 unfold cJ at *
 cases hr : dI x with
 | none =>
   rw [hr] at h
   simp only at h ⊢
   split at h <;> try exact h.elim
   rename_i id off len cap n ys wI
   cases hi : H[id]? with
   | none => rw [hi] at h; exact h.elim
   | some ob =>
     rw [hi] at h
     cases ob with
     | cells es =>
       obtain ⟨a, b, c, d, e, f⟩ := h
       exact ⟨a, b, c, d, e, hm _ _ f⟩
     | _ => exact h.elim
 | some ys =>
   rw [hr] at h
   obtain ⟨h1, h⟩ := h
   refine ⟨h1, ?_⟩
   cases s with
   | ah =>
     obtain ⟨a, b, c⟩ := h
     exact ⟨a, fun e => hm _ _ (b e), fun e cap h1 h2 => ⟨(c e cap h1 h2).1, hm _ _ (c e cap h1 h2).2⟩⟩
   | ou =>
     obtain ⟨a, b, c⟩ := h
     exact ⟨a, fun e => hm _ _ (b e), fun e cap h1 h2 => ⟨(c e cap h1 h2).1, hm _ _ (c e cap h1 h2).2⟩⟩
   | bf id off len cap =>
     simp only at h ⊢
     cases hi : H[id]? with
     | none => rw [hi] at h; exact h.elim
     | some ob =>
       rw [hi] at h
       cases ob with
       | cells es =>
         obtain ⟨a, b, c, d, f⟩ := h
         exact ⟨a, b, c, fun e => ⟨(d e).1, hm _ _ (d e).2⟩, fun e fZ h1 h2 => ⟨(f e fZ h1 h2).1, hm _ _ (f e fZ h1 h2).2⟩⟩
       | _ => exact h.elim
   | _ => exact h.elim
theorem za {esz : Nat} {z x : AV} {H : List aa} {K K' : List aa → Prop} (hm : ∀ H', K H' → K' H') (h : ig esz z x H K) : ig esz z x H K' := by
 unfold ig at *
 split at h <;> (try exact h.elim)
 split at h <;> (try exact h.elim)
 exact ⟨h.1, h.2.1, h.2.2.1, hm _ h.2.2.2⟩
theorem Be {esz bytes : Nat} {z n : AV} {H : List aa} {K K' : AV → List aa → Prop} (hm : ∀ v H', K v H' → K' v H') (h : fQ esz bytes z n H K) : fQ esz bytes z n H K' := by
 unfold fQ at *
 split at h <;> (try exact h.elim)
 exact ⟨h.1, h.2.1, h.2.2.1, hm _ _ h.2.2.2⟩
theorem zc {kd : Nat} {m k x : AV} {H : List aa} {K K' : List aa → Prop} (hm : ∀ H', K H' → K' H') (h : fc kd m k x H K) : fc kd m k x H K' := by
 unfold fc at *
 split at h <;> (try exact h.elim)
 split at h <;> (try exact h.elim)
 refine ⟨h.1, h.2.1, h.2.2.1, ?_⟩
 obtain ⟨_, _, _, h⟩ := h
 split at h
 ·exact hm _ h
 ·exact ⟨h.1, hm _ h.2⟩
 ·exact h.elim
theorem DD {esz : Nat} {d s : AV} {H : List aa} {K K' : AV → List aa → Prop} (hm : ∀ v H', K v H' → K' v H') (h : jw esz d s H K) : jw esz d s H K' := by
 unfold jw at *
 split at h <;> (try exact h.elim)
 split at h <;> (try exact h.elim)
 exact ⟨h.1, h.2.1, h.2.2.1, hm _ _ h.2.2.2⟩
theorem jZ {esz : Nat} {x : AV} {H : List aa} {K K' : AV → List aa → Prop} (hm : ∀ v H', K v H' → K' v H') (h : dF esz x H K) : dF esz x H K' := by
 unfold dF at *
 split at h
 ·split at h <;> (try exact h.elim)
  exact ⟨h.1, h.2.1, h.2.2.1, h.2.2.2.1, hm _ _ h.2.2.2.2⟩
 ·exact h.elim
 ·exact hm _ _ h
 ·exact hm _ _ h
theorem sI {esz : Nat} : ∀ {xs : List AV} {H : List aa} {K K' : List AV → List aa → Prop} (hm : ∀ v H', K v H' → K' v H') (h : jy esz xs H K), jy esz xs H K'
 | [], H, K, K', hm, h => hm _ _ h
 | x :: r, H, K, K', hm, h => jZ (fun v H' hk => sI (fun vs H'' h2 => hm _ _ h2) hk) h
theorem Gz {e id c : Nat} {H : List aa} {K K' : List aa → Prop} (hm : ∀ H', K H' → K' H') (h : yU e id c H K) : yU e id c H K' := by
 unfold yU at *
 split at h <;> (try exact h.elim)
 split at h <;> (try exact h.elim)
 ·exact jZ (fun v H' hk => ⟨hk.1, hk.2.1, hm _ hk.2.2⟩) h
 ·exact hm _ h
theorem uE {esz : Nat} {x : AV} {H : List aa} {K K' : AV → List aa → Prop} (hm : ∀ v H', K v H' → K' v H') (h : fh esz x H K) : fh esz x H K' := by
 unfold fh at *
 split at h
 ·exact sI (fun v H' hk => hm _ _ hk) h
 ·split at h
  ·rename_i hc; rw [if_pos hc]; exact Gz (hm _) h
  ·rename_i hc; rw [if_neg hc]; exact jZ hm h
 ·exact jZ hm h
theorem zd {l m : Nat} {p x : AV} {H : List aa} {K K' : List aa → Prop} (hm : ∀ H', K H' → K' H') (h : gn l m p x H K) : gn l m p x H K' := by
 unfold gn at *
 split at h <;> (try exact h.elim)
 split at h <;> (try exact h.elim)
 exact ⟨h.1, h.2.1, h.2.2.1, h.2.2.2.1, h.2.2.2.2.1, h.2.2.2.2.2.1, hm _ h.2.2.2.2.2.2⟩
theorem ni {env1 cK : Env} {pass : Option Nat} : ∀ {is : List IX} {j : Nat}, (∀ i ∈ is, al cK i = al env1 i) → aG cK pass j is = aG env1 pass j is
 | [], _, _ => rfl
 | .t s :: r, j, h => by
   have h1 : get cK s = get env1 s := h (.t s) (by simp)
   simp only [aG, h1, ni (fun i hi => h i (List.mem_cons_of_mem _ hi))]
 | .c v :: r, j, h => by
   simp only [aG, ni (fun i hi => h i (List.mem_cons_of_mem _ hi))]
theorem fW {lo : Option IX} {env1 cK : Env} (h : ∀ i ∈ lo.toList, al cK i = al env1 i) : gv cK lo = gv env1 lo := by
 cases lo with
 | none => rfl
 | some i => simp [gv, h i (by simp)]
theorem nT {P : Px} {o : bX} {dst : Option Nat} {env1 cK : Env} {H : List aa} {K1 K2 : Env → List aa → Prop} (hl : ∀ i ∈ o.all, al cK i = al env1 i) (h : bp P o dst env1 H K1)
 (hK : ∀ (mods : List (Nat × AV)) H', (∀ p ∈ mods, dst = some p.1 ∨ p.1 ∈ o.kill) → (o.Qj = false → H' = H) → (o.xt = true → ∃ e, H' = H ++ e) → K1 (mods ++ env1) H' → K2 (mods ++ cK) H') : bp P o dst cK H K2 := by
 have kput : ∀ z H', (o.Qj = false → H' = H) → (o.xt = true → ∃ e, H' = H ++ e) → K1 (put dst z env1) H' → K2 (put dst z cK) H' := by
  intro z H' hc hg
  cases hd : dst with
  | none => exact hK [] H' (by simp) hc hg
  | some d => exact hK [(d, z)] H' (by simp [hd]) hc hg
 have kput0 : ∀ z, K1 (put dst z env1) H → K2 (put dst z cK) H := fun z => kput z H (fun _ => rfl) (fun _ => ⟨[], by simp⟩)
 have kenv : ∀ H', (o.Qj = false → H' = H) → (o.xt = true → ∃ e, H' = H ++ e) → K1 env1 H' → K2 cK H' := fun H' hc hg => hK [] H' (by simp) hc hg
 cases o with
 | set i take =>
   simp only [bX.all, List.mem_singleton, forall_eq] at hl
   simp only [bp] at h ⊢
   cases dst with
   | none => exact kenv H (fun _ => rfl) (fun _ => ⟨[], by simp⟩) h
   | some d =>
     simp only at h ⊢
     cases i with
     | c v => cases take <;> exact kput0 _ h
     | t s =>
       have hs : get cK s = get env1 s := hl
       cases take with
       | false =>
         have e1 : s7 env1 d (.t s) false = put (some d) (get env1 s).ab env1 := rfl
         have e2 : s7 cK d (.t s) false = put (some d) (get env1 s).ab cK := by simp only [s7, put, al, hs]
         rw [e2]; rw [e1] at h
         exact kput0 _ h
       | true =>
         have e1 : s7 env1 d (.t s) true = [(d, get env1 s), (s, (get env1 s).ab)] ++ env1 := rfl
         have e2 : s7 cK d (.t s) true = [(d, get env1 s), (s, (get env1 s).ab)] ++ cK := by simp only [s7, hs]; rfl
         rw [e2]; rw [e1] at h
         exact hK _ H (by simp [bX.kill]) (fun _ => rfl) (fun _ => ⟨[], by simp⟩) h
 | pick c a b =>
   simp only [bX.all, List.mem_cons, List.not_mem_nil, or_false, forall_eq_or_imp, forall_eq] at hl
   obtain ⟨h1, h2, h3⟩ := hl
   simp only [bp] at h ⊢
   rw [h1, h2, h3]
   obtain ⟨q, hq, h⟩ := nR h
   rw [hq]
   exact ⟨fun e => kput0 _ (h.1 e), fun e => kput0 _ (h.2 e)⟩
 | bin op i j =>
   simp only [bX.all, List.mem_cons, List.not_mem_nil, or_false, forall_eq_or_imp, forall_eq] at hl
   simp only [bp] at h ⊢
   rw [hl.1, hl.2]
   exact rk kput0 h
 | shift op i j =>
   simp only [bX.all, List.mem_cons, List.not_mem_nil, or_false, forall_eq_or_imp, forall_eq] at hl
   simp only [bp] at h ⊢
   rw [hl.1, hl.2]
   exact mZ kput0 h
 | gU neq i j =>
   simp only [bX.all, List.mem_cons, List.not_mem_nil, or_false, forall_eq_or_imp, forall_eq] at hl
   simp only [bp] at h ⊢
   rw [hl.1, hl.2]
   exact lG kput0 h
 | indexAddr esz i j =>
   simp only [bX.all, List.mem_cons, List.not_mem_nil, or_false, forall_eq_or_imp, forall_eq] at hl
   simp only [bp] at h ⊢
   rw [hl.1, hl.2]
   exact ⟨h.1, iT kput0 h.2⟩
 | da i j =>
   simp only [bX.all, List.mem_cons, List.not_mem_nil, or_false, forall_eq_or_imp, forall_eq] at hl
   simp only [bp] at h ⊢
   rw [hl.1, hl.2]
   exact jC kput0 h
 | dK n i j =>
   simp only [bX.all, List.mem_cons, List.not_mem_nil, or_false, forall_eq_or_imp, forall_eq] at hl
   simp only [bp] at h ⊢
   rw [hl.1, hl.2]
   exact jD kput0 h
 | lookup kd z i j ok =>
   simp only [bX.all, List.mem_cons, List.not_mem_nil, or_false, forall_eq_or_imp, forall_eq] at hl
   simp only [bp] at h ⊢
   rw [hl.1, hl.2]
   exact lH kput0 h
 | mx big i j =>
   simp only [bX.all, List.mem_cons, List.not_mem_nil, or_false, forall_eq_or_imp, forall_eq] at hl
   simp only [bp] at h ⊢
   rw [hl.1, hl.2]
   exact uD kput0 h
 | store m i j =>
   simp only [bX.all, List.mem_cons, List.not_mem_nil, or_false, forall_eq_or_imp, forall_eq] at hl
   simp only [bp] at h ⊢
   rw [hl.1, hl.2]
   exact Bd (fun H' hk => kenv H' (fun e => by cases e) (fun e => by cases e) hk) h
 | mO m i j =>
   simp only [bX.all, List.mem_cons, List.not_mem_nil, or_false, forall_eq_or_imp, forall_eq] at hl
   simp only [bp] at h ⊢
   rw [hl.1, hl.2]
   split at h <;> (try exact h.elim)
   exact zd (fun H' hk => kenv H' (fun e => by cases e) (fun e => by cases e) hk) h
 | append esz bytes i j =>
   simp only [bX.all, List.mem_cons, List.not_mem_nil, or_false, forall_eq_or_imp, forall_eq] at hl
   simp only [bp] at h ⊢
   rw [hl.1, hl.2]
   refine y9 (fun zs hk => ?_) h
   cases i with
   | c v => exact kput0 _ hk
   | t s =>
     have hs : get cK s = get env1 s := hl.1
     have e : ∀ env : Env, get env s = get env1 s → put dst (.ap esz zs) (cF env (IX.t s).slot) = (put dst (.ap esz zs) [(s, (get env1 s).ab)]) ++ env := by
      intro env he
      cases dst <;> simp [put, cF, IX.slot, he]
     rw [e env1 rfl] at hk
     rw [e cK hs]
     refine hK _ H ?_ (fun _ => rfl) (fun _ => ⟨[], by simp⟩) hk
     intro p hp
     cases dst with
     | none => simp [put] at hp; subst hp; right; simp [bX.kill]
     | some d =>
       simp [put] at hp
       rcases hp with rfl | rfl
       ·left; rfl
       ·right; simp [bX.kill]
 | copy esz i j =>
   simp only [bX.all, List.mem_cons, List.not_mem_nil, or_false, forall_eq_or_imp, forall_eq] at hl
   simp only [bp] at h ⊢
   rw [hl.1, hl.2]
   exact DD (fun v H' hk => kput v H' (fun e => by cases e) (fun e => by cases e) hk) h
 | kj kd i j k =>
   simp only [bX.all, List.mem_cons, List.not_mem_nil, or_false, forall_eq_or_imp, forall_eq] at hl
   simp only [bp] at h ⊢
   rw [hl.1, hl.2.1, hl.2.2]
   exact zc (fun H' hk => kenv H' (fun e => by cases e) (fun e => by cases e) hk) h
 | eX i s =>
   simp only [bX.all, List.mem_cons, List.not_mem_nil, or_false, forall_eq_or_imp, forall_eq] at hl
   simp only [bp] at h ⊢
   have hs : get cK s = get env1 s := hl.2
   rw [hl.1, hs]
   exact wO (fun H' hk => hK [(s, (get env1 s).ab)] H' (by simp [bX.kill]) (fun e => by cases e) (fun e => by cases e) hk) h
 | iZ kd neq i =>
   simp only [bX.all, List.mem_singleton, forall_eq] at hl
   simp only [bp] at h ⊢
   rw [hl]
   exact sE kput0 h
 | un op i =>
   simp only [bX.all, List.mem_singleton, forall_eq] at hl
   simp only [bp] at h ⊢
   rw [hl]
   exact uC kput0 h
 | box i =>
   simp only [bX.all, List.mem_singleton, forall_eq] at hl
   simp only [bp] at h ⊢
   rw [hl]
   exact ⟨h.1, h.2.1, kput _ _ (fun e => by cases e) (fun _ => ⟨_, rfl⟩) h.2.2⟩
 | lq i =>
   simp only [bX.all, List.mem_singleton, forall_eq] at hl
   simp only [bp] at h ⊢
   rw [hl]
   exact ⟨h.1, kput0 _ h.2⟩
 | qW m i =>
   simp only [bX.all, List.mem_singleton, forall_eq] at hl
   simp only [bp] at h ⊢
   rw [hl]
   exact ⟨h.1, h.2.1, h.2.2.1, kput0 _ h.2.2.2⟩
 | alloc z =>
   simp only [bp] at h ⊢
   exact ⟨h.1, kput _ _ (fun e => by cases e) (fun _ => ⟨_, rfl⟩) h.2⟩
 | mQ =>
   simp only [bp] at h ⊢
   exact kput _ _ (fun e => by cases e) (fun _ => ⟨_, rfl⟩) h
 | load sz i =>
   simp only [bX.all, List.mem_singleton, forall_eq] at hl
   simp only [bp] at h ⊢
   rw [hl]
   exact jB kput0 h
 | sk sz esz i =>
   simp only [bX.all, List.mem_singleton, forall_eq] at hl
   simp only [bp] at h ⊢
   rw [hl]
   exact jB (fun z hz => uE (fun v H' hk => kput v H' (fun e => by cases e) (fun e => by cases e) hk) hz) h
 | eu i =>
   simp only [bX.all, List.mem_singleton, forall_eq] at hl
   simp only [bp] at h ⊢
   rw [hl]
   cases dst with
   | none => exact h.elim
   | some d =>
     cases hv : al env1 i with
     | ptr id off =>
       rw [hv] at h
       simp only at h ⊢
       cases bm : H[id]? with
       | none => rw [bm] at h; exact h.elim
       | some ob =>
         rw [bm] at h
         cases ob with
         | cells es => exact ⟨h.1, hK [(d, es.getD off .any)] _ (by simp) (fun e => by cases e) (fun e => by cases e) h.2⟩
         | _ => exact h.elim
     | _ => rw [hv] at h; exact h.elim
 | yF esz i =>
   simp only [bX.all, List.mem_singleton, forall_eq] at hl
   simp only [bp] at h ⊢
   rw [hl]
   exact uE (fun v H' hk => kput v H' (fun e => by cases e) (fun e => by cases e) hk) h
 | nilCheck i =>
   simp only [bX.all, List.mem_singleton, forall_eq] at hl
   simp only [bp] at h ⊢
   rw [hl]
   exact jE kput0 h
 | fieldAddr off sz i =>
   simp only [bX.all, List.mem_singleton, forall_eq] at hl
   simp only [bp] at h ⊢
   rw [hl]
   exact iS kput0 h
 | field off sz i =>
   simp only [bX.all, List.mem_singleton, forall_eq] at hl
   simp only [bp] at h ⊢
   rw [hl]
   exact m8 kput0 h
 | len kd i =>
   simp only [bX.all, List.mem_singleton, forall_eq] at hl
   simp only [bp] at h ⊢
   rw [hl]
   exact ⟨h.1, rn kput0 h.2⟩
 | sl esz bytes z i =>
   simp only [bX.all, List.mem_singleton, forall_eq] at hl
   simp only [bp] at h ⊢
   rw [hl]
   exact Be (fun v H' hk => kput v H' (fun e => by cases e) (fun e => by cases e) hk) h
 | mP esz bytes i =>
   simp only [bX.all, List.mem_singleton, forall_eq] at hl
   simp only [bp] at h ⊢
   rw [hl]
   exact sG kput0 h
 | extract i k =>
   simp only [bX.all, List.mem_singleton, forall_eq] at hl
   simp only [bp] at h ⊢
   rw [hl]
   exact kx kput0 h
 | eG k i =>
   simp only [bX.all, List.mem_singleton, forall_eq] at hl
   simp only [bp] at h ⊢
   rw [hl]
   exact ky kput0 h
 | gl i =>
   simp only [bX.all, List.mem_singleton, forall_eq] at hl
   simp only [bp] at h ⊢
   rw [hl]
   exact oG kput0 h
 | bytesOf i =>
   simp only [bX.all, List.mem_singleton, forall_eq] at hl
   simp only [bp] at h ⊢
   rw [hl]
   exact oH kput0 h
 | strOf i =>
   simp only [bX.all, List.mem_singleton, forall_eq] at hl
   simp only [bp] at h ⊢
   rw [hl]
   exact sF kput0 h
 | build z ps =>
   simp only [bX.all] at hl
   simp only [bp] at h ⊢
   have : (ps.map fun q => (q.1, q.2.1, al cK q.2.2)) = ps.map fun q => (q.1, q.2.1, al env1 q.2.2) :=
    List.map_congr_left fun q hq => by rw [hl _ (List.mem_map.2 ⟨q, hq, rfl⟩)]
   rw [this]
   exact lJ (fun v hk => kput0 _ hk) h
 | AJ esz z len ps =>
   simp only [bX.all] at hl
   simp only [bp] at h ⊢
   have : (ps.map fun q => (q.1, al cK q.2)) = ps.map fun q => (q.1, al env1 q.2) :=
    List.map_congr_left fun q hq => by rw [hl _ (List.mem_map.2 ⟨q, hq, rfl⟩)]
   rw [this]
   exact gD (fun v hk => ⟨hk.1, kput _ _ (fun e => by cases e) (fun e => by cases e) hk.2⟩) h
 | jb esz bytes z i j =>
   simp only [bX.all, List.mem_cons, List.not_mem_nil, or_false, forall_eq_or_imp, forall_eq] at hl
   simp only [bp] at h ⊢
   rw [hl.1, hl.2]
   exact wP (fun v H' hk => kput v H' (fun e => by cases e) (fun e => by cases e) hk) h
 | mR esz z i =>
   simp only [bX.all, List.mem_singleton, forall_eq] at hl
   simp only [bp] at h ⊢
   rw [hl]
   exact za (fun H' hk => kput _ H' (fun e => by cases e) (fun e => by cases e) hk) h
 | buildSlice own esz z len ps =>
   simp only [bX.all] at hl
   simp only [bp] at h ⊢
   have : (ps.map fun q => (q.1, al cK q.2)) = ps.map fun q => (q.1, al env1 q.2) :=
    List.map_congr_left fun q hq => by rw [hl _ (List.mem_map.2 ⟨q, hq, rfl⟩)]
   rw [this]
   exact gD (fun v hk => kput0 _ hk) h
 | slice esz i lo hi m =>
   simp only [bX.all, List.mem_cons, List.mem_append, forall_eq_or_imp] at hl
   obtain ⟨h1, h2⟩ := hl
   simp only [bp] at h ⊢
   rw [h1, fW (fun i hi => h2 i (.inl (.inl hi))), fW (fun i hi => h2 i (.inl (.inr hi))), fW (fun i hi => h2 i (.inr hi))]
   exact lI kput0 h
 | oS esz i lo hi m =>
   simp only [bX.all, List.mem_cons, List.mem_append, forall_eq_or_imp] at hl
   obtain ⟨h1, h2⟩ := hl
   simp only [bp] at h ⊢
   rw [h1, fW (fun i hi => h2 i (.inl (.inl hi))), fW (fun i hi => h2 i (.inl (.inr hi))), fW (fun i hi => h2 i (.inr hi))]
   exact ⟨h.1, sH (fun z hz => ⟨hz.1, kput0 _ hz.2⟩) h.2⟩
 | dL i lo hi =>
   simp only [bX.all, List.mem_cons, List.mem_append, forall_eq_or_imp] at hl
   obtain ⟨h1, h2⟩ := hl
   simp only [bp] at h ⊢
   rw [h1, fW (fun i hi => h2 i (.inl hi)), fW (fun i hi => h2 i (.inr hi))]
   exact jF kput0 h
 | fn f first cap =>
   simp only [bX.all, List.mem_append] at hl
   simp only [bp] at h ⊢
   rw [nc (fun i hi => hl i (.inl hi)) AV.ab, nc (fun i hi => hl i (.inr hi)) AV.ab]
   exact kput0 _ h
 | call f args pass =>
   simp only [bX.all, List.mem_cons, forall_eq_or_imp] at hl
   obtain ⟨h1, h2⟩ := hl
   simp only [bp, oF] at h ⊢
   rw [h1]
   split at h <;> try exact h.elim
   all_goals
   obtain ⟨bP, hle, hcall⟩ := h
   refine ⟨bP, ?_, hcall.mono fun r H' hk => ?_⟩
   ·rw [ni h2]; exact hle
   ·cases hp : bc args pass with
    | none =>
      rw [hp] at hk
      exact kput r H' (fun e => by cases e) (fun e => by cases e) hk
    | some s =>
      rw [hp] at hk
      have iK : IX.t s ∈ args ∧ s ∈ (bX.call f args pass).kill := by
       unfold bc at hp
       simp only [bX.kill]
       split at hp
       ·rename_i j
        split at hp <;> cases hp
        rename_i hj
        try simp only [hj]
        exact ⟨List.mem_of_getElem? hj, by simp⟩
       ·cases hp
      have hs : get cK s = get env1 s := h2 _ iK.1
      have e : ∀ env : Env, get env s = get env1 s → put dst r (cF env (some s)) = (put dst r [(s, (get env1 s).ab)]) ++ env := by
       intro env he
       cases dst <;> simp [put, cF, he]
      rw [e env1 rfl] at hk
      rw [e cK hs]
      refine hK _ H' ?_ (fun e => by cases e) (fun e => by cases e) hk
      intro p Tw
      cases dst with
      | none => simp [put] at Tw; subst Tw; exact .inr iK.2
      | some d =>
        simp [put] at Tw
        rcases Tw with rfl | rfl
        ·left; rfl
        ·exact .inr iK.2
 | never => exact h.elim
end Go.aK
end
section
namespace Go.aK
open Go
theorem cM {env1 cK : Env} (h : get env1 = get cK) : ∀ mods : List (Nat × AV), get (mods ++ env1) = get (mods ++ cK)
 | [] => h
 | (k, v) :: r => by
   funext t
   simp only [List.cons_append, get]
   split
   ·rfl
   ·rw [cM h r]
theorem oI {env1 cK : Env} {t : Nat} (h : get env1 t = get cK t) : ∀ mods : List (Nat × AV), get (mods ++ env1) t = get (mods ++ cK) t
 | [] => h
 | (k, v) :: r => by
   simp only [List.cons_append, get]
   split
   ·rfl
   ·rw [oI h r]
theorem kz {env : Env} {t : Nat} : ∀ {mods : List (Nat × AV)}, (∀ p ∈ mods, p.1 ≠ t) → get (mods ++ env) t = get env t
 | [], _ => rfl
 | (k, v) :: r, h => by
   simp only [List.cons_append, get]
   rw [if_neg (fun e => h (k, v) (by simp) e.symm), kz (fun p hp => h p (by simp [hp]))]
theorem GA {l : List IX} {s : Nat} (h : IX.t s ∈ l) : s ∈ IX.OP l := List.mem_filterMap.2 ⟨_, h, rfl⟩
theorem DE {o : bt} {env1 cK : Env} (hl : ∀ s ∈ o.lk, get cK s = get env1 s) : ∀ i ∈ o.op.all, al cK i = al env1 i := by
 intro i hi
 cases i with
 | c v => rfl
 | t s => exact hl s (List.mem_append_left _ (GA hi))
theorem get_guard {env : Env} {g : Nat} {b : Bool} (h : get env g = .bool b) : get ((g, AV.bool b) :: env) = get env := by
 funext t
 simp only [get]
 split
 ·rename_i e; rw [e, h]
 ·rfl
theorem nU {P : Px} {o : bt} {env1 cK : Env} {H : List aa} {K1 K2 : Env → List aa → Prop} (hl : ∀ s ∈ o.lk, get cK s = get env1 s) (h : rh P o env1 H K1)
 (hK : ∀ e1 e2 H', (∃ mods : List (Nat × AV), (∀ p ∈ mods, o.dst = some p.1 ∨ p.1 ∈ o.op.kill) ∧ get e1 = get (mods ++ env1) ∧ get e2 = get (mods ++ cK)) → (o.op.Qj = false → H' = H) → (o.op.xt = true → ∃ e, H' = H ++ e) → K1 e1 H' → K2 e2 H') : rh P o cK H K2 := by
 unfold rh at *
 cases hg : o.g with
 | none =>
   simp only [hg] at h ⊢
   exact nT (DE hl) h fun mods H' hm hc hg hk => hK _ _ H' ⟨mods, hm, rfl, rfl⟩ hc hg hk
 | some p =>
   obtain ⟨g, want⟩ := p
   simp only [hg] at h ⊢
   unfold gX at *
   have xx : get cK g = get env1 g := hl g (by simp [bt.lk, hg])
   rw [xx]
   split at h
   rotate_left
   ·rename_i hb
    refine hK _ _ H ⟨(match o.dst with | some d => [(d, .tuple [])] | none => []), ?_, ?_, ?_⟩ (fun _ => rfl) (fun _ => ⟨[], by simp⟩) h
    ·cases hd : o.dst <;> simp
    ·cases hd : o.dst <;> rfl
    ·cases hd : o.dst <;> rfl
   ·exact h.elim
   rename_i b hb
   have pF : get cK g = .bool b := by rw [xx, hb]
   refine ⟨fun e => ?_, fun e => ?_⟩
   ·subst e
    refine nT (env1 := (g, .bool b) :: env1) (DE (o := o) fun s hs => ?_) (h.1 rfl) fun mods H' hm hc hg hk => hK _ _ H' ⟨mods, hm, cM (get_guard hb) mods, cM (get_guard pF) mods⟩ hc hg hk
    rw [get_guard hb, get_guard pF]
    exact hl s hs
   ·have h2 := h.2 e
    subst e
    refine hK _ _ H ⟨(match o.dst with | some d => [(d, .tuple [])] | none => []), ?_, ?_, ?_⟩ (fun _ => rfl) (fun _ => ⟨[], by simp⟩) h2
    ·cases hd : o.dst <;> simp
    ·cases hd : o.dst with
     | none => exact get_guard hb
     | some d => exact cM (get_guard hb) [(d, .tuple [])]
    ·cases hd : o.dst with
     | none => exact get_guard pF
     | some d => exact cM (get_guard pF) [(d, .tuple [])]
theorem pV {P : Px} {o : bt} {env : Env} {H : List aa} {K1 K2 : Env → List aa → Prop} (h : rh P o env H K1)
 (hK : ∀ e1 e2 H', get e1 = get e2 → K1 e1 H' → K2 e2 H') : rh P o env H K2 :=
 nU (fun _ _ => rfl) h fun e1 e2 H' ⟨mods, _, h1, h2⟩ _ _ hk => hK e1 e2 H' (h1.trans h2.symm) hk
section
variable {P : Px} {ops : Array Oper} {il : List bt} {K : Env → List aa → Prop}
def qA (P : Px) (il : List bt) (i : Nat) (env : Env) (H : List aa) (K : Env → List aa → Prop) : Prop :=
 match il[i]? with
 | none => K env H
 | some o => rh P o env H K
def uF (P : Px) (ops : Array Oper) (il : List bt) (K : Env → List aa → Prop) : Nat → Array Bool → Env → List aa → Prop
 | 0, listed, env, H => Region.ready .any ops listed = [] ∧ K env H
 | f + 1, listed, env, H => (Region.ready .any ops listed = [] → K env H) ∧ ∀ i ∈ Region.ready .any ops listed, qA P il i env H (uF P ops il K f (listed.setIfInBounds i true))
def Inv (K : Env → List aa → Prop) : Prop := ∀ e1 e2 H, get e1 = get e2 → K e1 H → K e2 H
theorem gY (hK : Inv K) : ∀ (f : Nat) (listed : Array Bool) {e1 e2 : Env} {H : List aa}, get e1 = get e2 → uF P ops il K f listed e1 H → uF P ops il K f listed e2 H
 | 0, _, _, _, _, he, h => ⟨h.1, hK _ _ _ he h.2⟩
 | f + 1, listed, e1, e2, H, he, h => by
   refine ⟨fun h0 => hK _ _ _ he (h.1 h0), fun i hi => ?_⟩
   have hq := h.2 i hi
   unfold qA at *
   split
   ·rename_i hn; simp only [hn] at hq; exact gY hK f _ he hq
   ·rename_i o ho
    simp only [ho] at hq
    exact nU (fun s _ => by rw [he]) hq fun a b H' ⟨mods, _, h1, h2⟩ _ _ hk => gY hK f _ (by rw [h1, h2, cM he]) hk
def Ud (P : Px) (st : Bool) (o : bt) (env : Env) (H : List aa) (x : AV) : Prop :=
 ∃ ρ : IX → AV, (∀ i ∈ o.op.all, al env i = ρ i) ∧ match o.g with
  | none => dv P st o.op ρ H x
  | some (g, want) => (∃ b, get env g = .bool b ∧ (b = want → dv P st o.op ρ H x) ∧ (b ≠ want → x = .tuple [])) ∨ (get env g = .tuple [] ∧ x = .tuple [])
theorem E6 {st : Bool} {o : bX} {ρ : IX → AV} {H : List aa} {x : AV} (h : dv P st o ρ H x) : cU P o ρ H x := by
 cases st
 ·exact h H
 ·exact h
theorem uG {H e : List aa} {id : Nat} {o : aa} (h : H[id]? = some o) : (H ++ e)[id]? = some o := by
 rw [List.getElem?_append_left (List.getElem?_eq_some_iff.1 h).1, h]
theorem DF {sz : Option Nat} {x : AV} {H e : List aa} {φ : AV → Prop} (h : aS sz x H φ) : aS sz x (H ++ e) φ := by
 unfold aS at *
 split at h
 ·split at h
  ·rename_i bm; rw [uG bm]; exact h
  ·exact h.elim
 ·exact h
 ·exact h.elim
theorem GB {x : AV} {H e : List aa} {φ : AV → Prop} (h : eY x H φ) : eY x (H ++ e) φ := by
 unfold eY at *
 split at h <;> (try exact h)
 split at h
 ·rename_i bm; rw [uG bm]; exact h
 ·exact h.elim
theorem ze {kd : Nat} {z m k : AV} {ok : Bool} {H e : List aa} {φ : AV → Prop} (h : ch kd z m k ok H φ) : ch kd z m k ok (H ++ e) φ := by
 unfold ch at *
 split at h <;> (try exact h)
 split at h
 ·rename_i bm; rw [uG bm]; exact h
 ·exact h.elim
theorem xy {o : bX} {ρ : IX → AV} {H e : List aa} {x : AV} (hs : o.stays = true) (h : cU P o ρ H x) : cU P o ρ (H ++ e) x := by
 cases o with
 | call f args pass => cases hs
 | load sz i =>
   unfold cU at h ⊢
   exact DF h
 | len kd i =>
   unfold cU at h ⊢
   exact ⟨h.1, GB h.2⟩
 | lookup kd z m k ok =>
   unfold cU at h ⊢
   exact ze h
 | set i t => cases t <;> exact h
 | _ => exact h
theorem Bf {st : Bool} {o : bX} {ρ : IX → AV} {H H' : List aa} {x : AV} (hH : st = true → H' = H ∨ (o.stays = true ∧ ∃ e, H' = H ++ e)) (h : dv P st o ρ H x) : dv P st o ρ H' x := by
 cases st
 ·exact h
 ·rcases hH rfl with e | ⟨h1, e, he⟩
  ·rw [e]; exact h
  ·rw [he]; exact xy h1 h
theorem GC {st : Bool} {o : bt} {env1 cK : Env} {H1 H2 : List aa} {x : AV} (hl : ∀ s ∈ o.lk, get cK s = get env1 s) (hH : st = true → H2 = H1 ∨ (o.op.stays = true ∧ ∃ e, H2 = H1 ++ e)) (h : Ud P st o env1 H1 x) : Ud P st o cK H2 x := by
 obtain ⟨ρ, h1, h2⟩ := h
 refine ⟨ρ, fun i hi => (DE hl i hi).trans (h1 i hi), ?_⟩
 cases hg : o.g with
 | none => simp only [hg] at h2 ⊢; exact Bf hH h2
 | some p =>
   obtain ⟨g, want⟩ := p
   simp only [hg] at h2 ⊢
   rcases h2 with ⟨b, k1, k2, k3⟩ | ⟨k1, k2⟩
   ·exact .inl ⟨b, (hl g (by simp [bt.lk, hg])).trans k1, fun e => Bf hH (k2 e), k3⟩
   ·exact .inr ⟨(hl g (by simp [bt.lk, hg])).trans k1, k2⟩
theorem E7 {st : Bool} {o : bt} {env : Env} {H : List aa} {x : AV} (h : Ud P st o env H x) : rh P o env H fun e H' => H' = H ∧ get e = get (put o.dst x env) := by
 obtain ⟨ρ, h1, h2⟩ := h
 unfold rh
 cases hg : o.g with
 | none => simp only [hg] at h2 ⊢; exact Bc (E6 h2) h1
 | some p =>
   obtain ⟨g, want⟩ := p
   simp only [hg] at h2 ⊢
   rcases h2 with ⟨b, k1, k2, k3⟩ | ⟨k1, k2⟩
   rotate_left
   ·unfold gX
    rw [k1]
    subst k2
    exact ⟨by simp, rfl⟩
   unfold gX
   rw [k1]
   refine ⟨fun e => ?_, fun e => ?_⟩
   ·subst e
    have Lm := get_guard k1
    have := Bc (dst := o.dst) (env := (g, .bool b) :: env) (E6 (k2 rfl)) (fun i hi => by
     rw [← h1 i hi]
     cases i with
     | c v => rfl
     | t s => show get _ s = get _ s; rw [Lm])
    refine nT (fun _ _ => rfl) this ?_
    intro mods H' _ _ _ hk
    refine ⟨hk.1, hk.2.trans ?_⟩
    rw [jY, jY, Lm]
   ·have ep : b ≠ want := by intro e2; subst e2; cases b <;> cases e
    have hx := k3 ep
    subst hx
    subst e
    exact ⟨by simp, by rw [jY, jY, get_guard k1]⟩
def closed (ops : Array Oper) (listed : Array Bool) : Prop := ∀ k o, ops[k]? = some o → listed.getD k false = true → ∀ e ∈ o.after, Region.binds .any e = true → listed.getD e.on false = true
theorem kP {listed : Array Bool} (hc : closed ops listed) {i : Nat} : ∀ (f j : Nat) (oj : Oper), ops[j]? = some oj → (∀ e ∈ oj.after, Region.binds .any e = true → listed.getD e.on false = true) → dj ops f j i = true → listed.getD i false = true
 | 0, _, _, _, _, h => by simp [dj] at h
 | f + 1, j, oj, hj, ju, h => by
   simp only [dj, hj] at h
   obtain ⟨k, hk, he⟩ := Array.any_eq_true.1 h
   simp only [Bool.and_eq_true, Bool.or_eq_true, beq_iff_eq] at he
   have iK : oj.after[k] ∈ oj.after := Array.getElem_mem hk
   have hl := ju _ iK he.1
   rcases he.2 with e | e
   ·rw [← e]; exact hl
   ·have hso : ∃ o', ops[(oj.after[k]).on]? = some o' := by
     cases f with
     | zero => simp [dj] at e
     | succ f =>
       cases ho : ops[(oj.after[k]).on]? with
       | none => simp [dj, ho] at e
       | some o' => exact ⟨o', rfl⟩
    obtain ⟨o', Qp⟩ := hso
    exact kP hc f _ o' Qp (hc _ _ Qp hl) e
theorem o6 {listed : Array Bool} {i : Nat} (h : listed.getD i true = false) : listed.getD i false = false := by
 simp only [Array.getD_eq_getD_getElem?] at *
 cases hx : listed[i]? with
 | none => rfl
 | some b => rw [hx] at h; simpa using h
theorem o7 {listed : Array Bool} (hc : closed ops listed) {j : Nat} (hj : j ∈ Region.ready .any ops listed) : closed ops (listed.setIfInBounds j true) := by
 obtain ⟨_, oj, Qk, ju⟩ := mem_ready.1 hj
 intro k o ho hk e he hb
 refine getD_set_true ?_
 by_cases hkj : k = j
 ·subst hkj
  rw [Qk] at ho
  cases ho
  exact ju e he hb
 ·rw [getD_set_ne false (Ne.symm hkj)] at hk
  exact hc k o ho hk e he hb
theorem Bg {listed : Array Bool} {i j : Nat} {st : Bool} (h : mY ops il listed i st = true) (hj : j < ops.size) (E8 : j ≠ i) (XV : listed.getD j true = false) (jR : dj ops ops.size j i = false) : ri st (il.getD i default) (il.getD j default) = true := by
 unfold mY at h
 have := List.all_eq_true.1 h j (List.mem_range.2 hj)
 simp only [Bool.or_eq_true, beq_iff_eq, XV, jR, Bool.false_eq_true, or_false] at this
 rcases this with e | e
 ·exact absurd e E8
 ·exact e
theorem Bh {listed : Array Bool} {i j : Nat} {st : Bool} (h : mY ops il listed i st = true) : mY ops il (listed.setIfInBounds j true) i st = true := by
 unfold mY at *
 refine List.all_eq_true.2 fun k hk => ?_
 have := List.all_eq_true.1 h k hk
 simp only [Bool.or_eq_true] at this ⊢
 rcases this with ((e | e) | e) | e
 ·exact .inl (.inl (.inl e))
 ·refine .inl (.inl (.inr ?_))
  by_cases OO : j = k
  ·subst OO
   simp only [Array.getD_eq_getD_getElem?, Array.getElem?_setIfInBounds]
   split
   ·split <;> simp
   ·rename_i ep; exact absurd trivial ep
  ·rw [getD_set_ne true OO]; exact e
 ·exact .inl (.inr e)
 ·exact .inr e
theorem Bi {st : Bool} {oi oj : bt} (h : ri st oi oj = true) :
 (∀ d, oi.dst = some d → d ∉ oj.lk ∧ oj.dst ≠ some d ∧ d ∉ oj.op.kill) ∧ (∀ d, oj.dst = some d → d ∉ oi.lk) ∧ (∀ s ∈ oj.op.kill, s ∉ oi.lk) ∧ (st = true → oj.op.Qj = false ∨ (oj.op.xt = true ∧ oi.op.stays = true)) := by
 unfold ri at h
 simp only [Bool.and_eq_true, Bool.or_eq_true, Bool.not_eq_true'] at h
 obtain ⟨⟨⟨h1, h2⟩, h3⟩, h4⟩ := h
 refine ⟨fun d hd => ?_, fun d hd => ?_, fun s hs => ?_, fun e => ?_⟩
 ·rw [hd] at h1
  simpa [and_assoc] using h1
 ·rw [hd] at h2
  simpa using h2
 ·have := List.all_eq_true.1 h3 s hs
  simpa using this
 ·rcases h4 with (e2 | e2) | e2
  ·rw [e] at e2; cases e2
  ·exact .inl e2
  ·exact .inr e2
theorem pW {l : List bt} {i : Nat} {o : bt} (h : l[i]? = some o) : l.getD i default = o := by
 rw [List.getD_eq_getElem?_getD, h]; rfl
theorem GD (hK : Inv K) (c9 : il.length = ops.size) {i : Nat} {oi : bt} {x : AV} {st : Bool} (hi : il[i]? = some oi) : ∀ (f : Nat) (listed : Array Bool) {env : Env} {H : List aa}, closed ops listed → mY ops il listed i st = true → i ∈ Region.ready .any ops listed →
 Ud P st oi env H x → uF P ops il K f (listed.setIfInBounds i true) (put oi.dst x env) H → uF P ops il K (f + 1) listed env H := by
 intro f
 induction f with
 | zero =>
   intro listed env H iI C3 hr ht hD
   refine ⟨fun h => (by rw [h] at hr; cases hr), fun j hj => ?_⟩
   by_cases E8 : j = i
   ·subst E8
    unfold qA
    simp only [hi]
    exact pV (E7 ht) fun e1 e2 H' he ⟨h1, h2⟩ => by
     subst h1
     exact gY hK 0 _ (h2.symm.trans he) hD
   ·have := ready_mono hj E8
    rw [hD.1] at this
    cases this
 | succ f ih =>
   intro listed env H iI C3 hr ht hD
   refine ⟨fun h => (by rw [h] at hr; cases hr), fun j hj => ?_⟩
   by_cases E8 : j = i
   ·subst E8
    unfold qA
    simp only [hi]
    exact pV (E7 ht) fun e1 e2 H' he ⟨h1, h2⟩ => by
     subst h1
     exact gY hK (f + 1) _ (h2.symm.trans he) hD
   ·have h1 := hD.2 j (ready_mono hj E8)
    obtain ⟨YN, oj', Ue, ju⟩ := mem_ready.1 hj
    have hjs : j < ops.size := (Array.getElem?_eq_some_iff.1 Ue).1
    have jR : dj ops ops.size j i = false := by
     cases hma : dj ops ops.size j i with
     | false => rfl
     | true =>
       have := kP iI _ j oj' Ue ju hma
       rw [o6 (mem_ready.1 hr).1] at this
       cases this
    have Uf := Bg C3 hjs E8 YN jR
    rw [pW hi] at Uf
    unfold qA at *
    cases Qk : il[j]? with
    | none =>
      rw [List.getElem?_eq_none_iff] at Qk
      omega
    | some oj =>
      rw [pW Qk] at Uf
      obtain ⟨a1, a2, a3, a4⟩ := Bi Uf
      simp only [Qk] at h1 ⊢
      refine nU (env1 := put oi.dst x env) (fun s hs => ?_) h1 fun e1 e2 H' ⟨mods, hm, g1, g2⟩ hch hgr hk => ?_
      ·rw [jY]
       cases hd : oi.dst with
       | none => rfl
       | some d =>
         simp only [Qo, fg]
         rw [if_neg]
         intro e
         exact (a1 d hd).1 (e ▸ hs)
      ·have H5 : ∀ s ∈ oi.lk, ∀ p ∈ mods, p.1 ≠ s := by
        intro s hs p hp e
        rcases hm p hp with h | h
        ·exact a2 _ h (e ▸ hs)
        ·exact a3 _ h (e ▸ hs)
       have YO : ∀ d, oi.dst = some d → ∀ p ∈ mods, p.1 ≠ d := by
        intro d hd p hp e
        rcases hm p hp with h | h
        ·exact (a1 d hd).2.1 (e ▸ h)
        ·exact (a1 d hd).2.2 (e ▸ h)
       refine ih (listed.setIfInBounds j true) (o7 iI hj) (Bh C3) (ready_mono hr (Ne.symm E8)) ?_ ?_
       ·refine GC (fun s hs => ?_) (fun e => (a4 e).imp hch fun ⟨q1, q2⟩ => ⟨q2, hgr q1⟩) ht
        rw [g2]
        exact kz (H5 s hs)
       ·rw [Array.setIfInBounds_comm _ _ E8]
        refine gY hK f _ ?_ hk
        rw [g1, jY, g2]
        cases hd : oi.dst with
        | none => rfl
        | some d =>
          funext t
          simp only [Qo, fg, put]
          by_cases YP : t = d
          ·subst YP
           rw [if_pos rfl, kz (YO t hd)]
           simp [get]
          ·rw [if_neg YP]
           refine oI ?_ mods
           simp [get, YP]
theorem L4 (hK : Inv K) (c9 : il.length = ops.size) : ∀ (p : wy) (f : Nat) (listed : Array Bool) {env : Env} {H : List aa}, closed ops listed →
 (tg ops il f listed none p = true → tD P (inst il p) env H K → uF P ops il K f listed env H) ∧
 (∀ ks, (∀ i ∈ ks, i ∈ Region.ready .any ops listed) → tg ops il (f + 1) listed (some ks) p = true → tD P (inst il p) env H K → ∀ i ∈ ks, qA P il i env H (uF P ops il K f (listed.setIfInBounds i true))) := by
 intro p
 induction p with
 | done =>
   intro f listed env H iI
   refine ⟨fun h hd => ?_, fun ks _ h _ i hi => ?_⟩
   ·have : Region.ready .any ops listed = [] := by
     cases f <;> simpa [tg, List.isEmpty_iff] using h
    simp only [inst, tD] at hd
    cases f with
    | zero => exact ⟨this, hd⟩
    | succ f => exact ⟨fun _ => hd, fun i hi => by rw [this] at hi; cases hi⟩
   ·cases ks with
    | nil => cases hi
    | cons k ks => simp [tg] at h
 | nil =>
   intro f listed env H iI
   refine ⟨fun h _ => by cases f <;> simp [tg] at h, fun ks _ h _ i hi => ?_⟩
   cases ks with
   | nil => cases hi
   | cons k ks => simp [tg] at h
 | take k st r ih =>
   intro f listed env H iI
   refine ⟨fun h hd => ?_, fun ks _ h _ i hi => ?_⟩
   ·cases f with
    | zero => simp [tg] at h
    | succ f =>
      simp only [tg, Bool.and_eq_true, List.contains_iff_mem] at h
      obtain ⟨⟨⟨hr, adz⟩, C3⟩, hp⟩ := h
      obtain ⟨_, ok, jS, _⟩ := mem_ready.1 hr
      have Dm : k < il.length := by rw [c9]; exact (Array.getElem?_eq_some_iff.1 jS).1
      have LM : il[k]? = some (il.getD k default) := by rw [List.getD_eq_getElem?_getD, List.getElem?_eq_getElem Dm]; rfl
      simp only [inst, tD, sD] at hd
      have fin : ∀ x, Ud P st (il.getD k default) env H x → tD P (inst il r) (put (il.getD k default).dst x env) H K → uF P ops il K (f + 1) listed env H := by
       intro x hx hrest
       exact GD hK c9 LM f listed iI C3 hr hx ((ih f _ (o7 iI hr)).1 hp hrest)
      cases hg : (il.getD k default).g with
      | none =>
        simp only [hg] at hd
        obtain ⟨x, hx, hrest⟩ := hd
        exact fin x ⟨al env, fun _ _ => rfl, by simp only [hg]; exact hx⟩ hrest
      | some gw =>
        obtain ⟨g, want⟩ := gw
        simp only [hg, gX] at hd
        split at hd
        rotate_left
        ·rename_i hb
         exact fin (.tuple []) ⟨al env, fun _ _ => rfl, by simp only [hg]; exact .inr ⟨hb, by trivial⟩⟩ hd
        ·exact hd.elim
        rename_i b hb
        by_cases E5 : b = want
        ·obtain ⟨x, hx, hrest⟩ := hd.1 E5
         exact fin x ⟨al env, fun _ _ => rfl, by simp only [hg]; exact .inl ⟨b, hb, fun _ => hx, fun e => absurd E5 e⟩⟩ hrest
        ·have hrest := hd.2 (by cases b <;> cases want <;> first | rfl | exact absurd rfl E5)
         exact fin (.tuple []) ⟨al env, fun _ _ => rfl, by simp only [hg]; exact .inl ⟨b, hb, fun e => absurd e E5, fun _ => by trivial⟩⟩ hrest
   ·cases ks with
    | nil => cases hi
    | cons k ks => simp [tg] at h
 | br k t rest IJ HZ =>
   intro f listed env H iI
   have key : ∀ (f : Nat) (ks : List Nat), (∀ i ∈ k :: ks, i ∈ Region.ready .any ops listed) → tg ops il f (listed.setIfInBounds k true) none t = true → tg ops il (f + 1) listed (some ks) rest = true → tD P (inst il (.br k t rest)) env H K →
    ∀ i ∈ k :: ks, qA P il i env H (uF P ops il K f (listed.setIfInBounds i true)) := by
    intro f ks Dm h1 h2 hd i hi
    simp only [inst, tD] at hd
    rcases List.mem_cons.1 hi with rfl | hi
    ·have hr := Dm i (by simp)
     obtain ⟨_, ok, jS, _⟩ := mem_ready.1 hr
     have aW : i < il.length := by rw [c9]; exact (Array.getElem?_eq_some_iff.1 jS).1
     have LM : il[i]? = some (il.getD i default) := by rw [List.getD_eq_getElem?_getD, List.getElem?_eq_getElem aW]; rfl
     unfold qA
     rw [LM]
     exact pV hd.1 fun e1 e2 H' he hk => gY hK f _ he ((IJ f _ (o7 iI hr)).1 h1 hk)
    ·exact (HZ f listed iI).2 ks (fun j hj => Dm j (by simp [hj])) h2 hd.2 i hi
   refine ⟨fun h hd => ?_, fun ks Dm h hd i hi => ?_⟩
   ·cases f with
    | zero => simp [tg] at h
    | succ f =>
      simp only [tg] at h
      split at h
      ·rename_i k' ks XW
       simp only [Bool.and_eq_true, beq_iff_eq] at h
       obtain ⟨⟨rfl, h1⟩, h2⟩ := h
       have := key f ks (fun i hi => by rw [XW]; exact hi) h1 h2 hd
       exact ⟨(fun e => by rw [e] at XW; cases XW), fun i hi => this i (by rw [XW] at hi; exact hi)⟩
      ·cases h
   ·cases ks with
    | nil => cases hi
    | cons k' ks =>
      simp only [tg, Bool.and_eq_true, beq_iff_eq] at h
      obtain ⟨⟨rfl, h1⟩, h2⟩ := h
      exact key f ks Dm h1 h2 hd i hi
end
end Go.aK
end
section
namespace Go.aK
open Go
section
variable {ro : Option Nat} {P : Program} {lo : Option Nat} {A : Perm} {n : Nat}
theorem nj {ops : Array Oper} {an : AG} {rid : Nat} : ∀ (fuel k : Nat) (l : List Oper) (il : List bt), eH P ops an n rid false fuel k l = some il →
 il.length = l.length ∧ ∀ (j : Nat) (o : Oper), l[j]? = some o → ∃ g, E3 ops o = some g ∧ E2 n o = true ∧ il[j]? = some ⟨g, o.dst, A6 P o (an.at_ rid (k + j))⟩
 | _, _, [], il, hc => by
   unfold eH at hc
   cases hc
   exact ⟨rfl, fun j o h => by simp at h⟩
 | 0, _, o :: r, il, hc => by simp [eH] at hc
 | fuel + 1, k, o :: r, il, hc => by
   unfold eH at hc
   simp only [Bool.false_eq_true, and_false, if_false] at hc
   split at hc <;> try cases hc
   rename_i g xs hg fx
   split at hc <;> cases hc
   rename_i fR
   obtain ⟨h1, h2⟩ := nj fuel (k + 1) r xs fx
   refine ⟨by simp [h1], fun j o' hj => ?_⟩
   cases j with
   | zero =>
     simp at hj
     subst hj
     exact ⟨g, hg, fR, by simp⟩
   | succ j =>
     simp at hj
     obtain ⟨g', e1, e2, e3⟩ := h2 j o' hj
     exact ⟨g', e1, e2, by simp [e3, Nat.add_assoc, Nat.add_comm 1 j]⟩
theorem sJ {ops : Array Oper} {il : List bt} {an : AG} {rid : Nat} {L0 : List Nat} {M0 : Mem} {w0 : World} {K : Env → List aa → Prop} {Q : Exit → Act → World → Prop}
 (hp : ∀ l, lo = some l → ∀ id, l ≤ id → A.top id = none) (hc : eH P ops an n rid false (ops.size + 1) 0 ops.toList = some il)
 (hF : ∀ (M : Mem) (L : List Nat) (w : World) (H : List aa) (env : Env) (O : Pos → Option Nat) (a : Act), K env H → Fr A n M L w H env O a → Ext A M0 w0 M w → L0 <+: L → Q .normal a w) :
 ∀ (f : Nat) (listed : Array Bool) {M : Mem} {L : List Nat} {w : World} {H : List aa} {env : Env} {O : Pos → Option Nat} {a : Act}, Fr A n M L w H env O a → Ext A M0 w0 M w → L0 <+: L → uF ⟨P, lo⟩ ops il K f listed env H → wpAnyIn (wf ro) 0 P .any ops Q f listed a w
 | 0, _, _, _, _, _, _, _, _, hf, cu, hL, h => ⟨h.1, hF _ _ _ _ _ _ _ h.2 hf cu hL⟩
 | f + 1, listed, M, L, w, H, env, O, a, hf, cu, hL, h => by
   refine ⟨fun h0 => hF _ _ _ _ _ _ _ (h.1 h0) hf cu hL, fun i hi => ?_⟩
   have hq := h.2 i hi
   unfold wpOpIn
   cases ho : ops[i]? with
   | none =>
     obtain ⟨_, o, Qp, _⟩ := mem_ready.1 hi
     rw [ho] at Qp; cases Qp
   | some o =>
     obtain ⟨g, hg, fR, Az⟩ := (nj _ _ _ _ hc).2 i o (by simpa using ho)
     unfold qA at hq
     rw [Az] at hq
     have hs := xv (ro := ro) (ops := ops) hg fR hp hf hq Q
     have hrest : ∀ a' w', mK A n M L w (uF ⟨P, lo⟩ ops il K f (listed.setIfInBounds i true)) a' w' → wpAnyIn (wf ro) 0 P .any ops Q f (listed.setIfInBounds i true) a' w' := by
      rintro a' w' ⟨M', L', H', aC, O', k1, k2, k3, k4⟩
      exact sJ hp hc hF f _ k2 (cu.trans k3) (hL.trans k4) k1
     simp only
     split
     ·rename_i hw
      rw [if_pos hw] at hs
      exact Oper.wpIn_mono hrest hs
     ·rename_i hw
      rw [if_neg hw] at hs
      exact ⟨fun _ _ => trivial, hrest _ _ hs⟩
theorem GF (L0 : List Nat) (hp : ∀ l, lo = some l → ∀ id, l ≤ id → A.top id = none) : xw P ro lo A n L0 := by
 intro id ops il p live an M L w H env O a M0 w0 Q hm hB hc h hf cu hL
 simp only [ms] at h
 have hK : Inv (fun (aC : Env) (H' : List aa) => ∃ e, get e = get aC ∧ Q .normal (ey live e) H') := fun e1 e2 H he ⟨e, h1, h2⟩ => ⟨e, h1.trans he, h2⟩
 have c9 : il.length = ops.size := by simpa using (nj _ _ _ _ hc).1
 have hB := II c9 p _ _ _ _ (Gw _) (by simp) hB
 have iI : closed ops (Array.replicate ops.size false) := by
  intro k o _ hk
  simp only [Array.getD_eq_getD_getElem?, Array.getElem?_replicate] at hk
  split at hk <;> cases hk
 have hd : tD ⟨P, lo⟩ (inst il p) env H (fun (aC : Env) (H' : List aa) => ∃ e, get e = get aC ∧ Q .normal (ey live e) H') := by
  have mono : ∀ (t : DT) (env : Env) (H : List aa) (K1 K2 : Env → List aa → Prop), (∀ e H, K1 e H → K2 e H) → Inv K2 → tD ⟨P, lo⟩ t env H K1 → tD ⟨P, lo⟩ t env H K2 := by
   intro t
   induction t with
   | done => intro env H K1 K2 hk _ h; exact hk _ _ h
   | nil => intro _ _ _ _ _ _ _; trivial
   | take st o r ih =>
     intro env H K1 K2 hk hi h
     simp only [tD, sD] at h ⊢
     cases hg : o.g with
     | none =>
       simp only [hg] at h ⊢
       obtain ⟨x, hx, h⟩ := h
       exact ⟨x, hx, ih _ _ _ _ hk hi h⟩
     | some gw =>
       obtain ⟨g, want⟩ := gw
       simp only [hg, gX] at h ⊢
       split at h
       rotate_left
       ·exact ih _ _ _ _ hk hi h
       ·exact h.elim
       exact ⟨fun e => let ⟨x, hx, h⟩ := h.1 e; ⟨x, hx, ih _ _ _ _ hk hi h⟩, fun e => ih _ _ _ _ hk hi (h.2 e)⟩
   | br o t rest IJ HZ =>
     intro env H K1 K2 hk hi h
     have hinv : ∀ K : Env → List aa → Prop, Inv K → ∀ t, Inv fun env H => tD ⟨P, lo⟩ t env H K := by
      intro K hK t
      induction t with
      | done => exact hK
      | nil => intro _ _ _ _ _; trivial
      | take st o r ih =>
        intro e1 e2 H he h
        simp only [tD, sD] at h ⊢
        have hav : al e2 = al e1 := by
         funext i
         cases i with
         | c v => rfl
         | t s => show get e2 s = get e1 s; rw [he]
        have mV : ∀ x, get (put o.dst x e1) = get (put o.dst x e2) := fun x => by rw [jY, jY, he]
        cases hg : o.g with
        | none =>
          simp only [hg] at h ⊢
          obtain ⟨x, hx, h⟩ := h
          exact ⟨x, by rw [hav]; exact hx, ih _ _ _ (mV x) h⟩
        | some gw =>
          obtain ⟨g, want⟩ := gw
          simp only [hg, gX] at h ⊢
          rw [← he]
          split at h
          rotate_left
          ·exact ih _ _ _ (mV _) h
          ·exact h.elim
          exact ⟨fun e => let ⟨x, hx, h⟩ := h.1 e; ⟨x, by rw [hav]; exact hx, ih _ _ _ (mV x) h⟩, fun e => ih _ _ _ (mV _) (h.2 e)⟩
      | br o t rest IJ HZ =>
        intro e1 e2 H he h
        exact ⟨nU (fun s _ => by rw [he]) h.1 fun a b H' ⟨mods, _, g1, g2⟩ _ _ hk => IJ _ _ _ (by rw [g1, g2, cM he]) hk, HZ _ _ _ he h.2⟩
     exact ⟨pV h.1 fun e1 e2 H' he E9 => hinv K2 hi t _ _ _ he (IJ _ _ _ _ hk hi E9), HZ _ _ _ _ hk hi h.2⟩
  exact mono _ _ _ _ _ (fun e H hq => ⟨e, rfl, hq⟩) hK h
 have hA := (L4 (P := ⟨P, lo⟩) hK c9 p ops.size (Array.replicate ops.size false) (env := env) (H := H) iI).1 hB hd
 refine wpIn_region_any hm (sJ (M0 := M0) (w0 := w0) (L0 := L0) hp hc ?_ ops.size _ (M := M) (L := L) (H := H) (env := env) (O := O) ⟨hf.st.drew, hf.size, hf.defers.ext (Ext.drew (M := M))⟩ (cu.trans Ext.drew) hL hA)
 rintro M' L' w' H' aC O' a' ⟨e, he, hq⟩ h2 h3 h4
 obtain ⟨O'', h5⟩ := (h2.Dz he).weaken (xu live e)
 exact ⟨A, M', L', H', _, O'', .refl A, hq, h5, h3, h4⟩
theorem DG {L0 : List Nat} {an : AG} {lv : mj} {pl : mn} (c : Code) (ir : IR) (hc : comp P an lv pl n c = some ir) {M : Mem} {L : List Nat} {w : World} {H : List aa} {env : Env} {O : Pos → Option Nat} {a : Act} {Q : Exit → Env → List aa → Prop}
 (hA : fD lo L0.length A) (wu : Own ro w) (h : ms ⟨P, lo⟩ L0.length ir env H Q) (hf : Fr A n M L w H env O a) (hL : L0 <+: L) : c.wpIn (wf ro) 0 P (Dy A n M L0 w Q) a w :=
 sound (fun A hA => GF L0 hA.opens) c ir hc hA wu h hf hL
end
end Go.aK
end
section
namespace Go.aK
open Go
inductive RX where
 | t (s : Nat)
 | c (s : Nat) (sz : Option Nat)
 deriving Inhabited
def IK (P : Program) : ResultVar → Option RX
 | .tmp t => some (.t t)
 | .cell a t => (HY P t).map (.c a)
def gZ (P : Program) : List ResultVar → Option (List RX)
 | [] => some []
 | r :: rs => match IK P r, gZ P rs with
   | some x, some xs => some (x :: xs)
   | _, _ => none
def rp : List RX → Env → List aa → (List AV → Prop) → Prop
 | [], _, _, φ => φ []
 | .t s :: r, env, H, φ => rp r env H fun xs => φ (get env s :: xs)
 | .c s sz :: r, env, H, φ => aS sz (get env s) H fun x => rp r env H fun xs => φ (x :: xs)
def bV (n0 : Nat) (rs : List RX) (env : Env) (H : List aa) (R : AV → List aa → Prop) : Prop :=
 rp rs env H fun xs => ∃ m, n0 ≤ m ∧ match xs with
  | [x] => ∃ r, x.le r ∧ r.a7 m = true ∧ R r (H.take m)
  | xs => ∃ ys, xq (xs.map AV.ab) ys ∧ aj m ys = true ∧ R (.tuple ys) (H.take m)
def kQ (C : List aa → Nat → List aa → Prop) (n0 : Nat) (rs : List RX) (env : Env) (H : List aa) (R : AV → List aa → Prop) : Prop :=
 rp rs env H fun xs => ∃ m H', n0 ≤ m ∧ C H m H' ∧ match xs with
  | [x] => ∃ r, x.le r ∧ r.a7 m = true ∧ R r H'
  | xs => ∃ ys, xq (xs.map AV.ab) ys ∧ aj m ys = true ∧ R (.tuple ys) H'
theorem rq : ∀ {rs : List RX} {env : Env} {H : List aa} {φ ψ : List AV → Prop}, (∀ xs, φ xs → ψ xs) → rp rs env H φ → rp rs env H ψ
 | [], env, H, φ, ψ, hm, h => hm _ h
 | .t s :: r, env, H, φ, ψ, hm, h => rq (rs := r) (fun xs hx => hm _ hx) h
 | .c s sz :: r, env, H, φ, ψ, hm, h => jB (fun x hx => rq (rs := r) (fun xs hx => hm _ hx) hx) h
theorem Qq {n0 : Nat} {rs : List RX} {env : Env} {H : List aa} {R : AV → List aa → Prop} (h : bV n0 rs env H R) : kQ (fun H m H' => H' = H.take m) n0 rs env H R :=
 rq (fun xs ⟨m, h1, h2⟩ => ⟨m, H.take m, h1, rfl, h2⟩) h
def bW : Nat → List AV → Env
 | _, [] => []
 | k, x :: xs => (k, x) :: bW (k + 1) xs
theorem lK : ∀ (xs : List AV) (k t : Nat), get (bW k xs) t = if k ≤ t then xs.getD (t - k) .any else .any
 | [], k, t => by simp [bW, get]
 | x :: xs, k, t => by
   simp only [bW, get]
   split
   ·rename_i e; subst e; simp
   ·rename_i e
    rw [lK xs (k + 1) t]
    by_cases h : k + 1 ≤ t
    ·have : t - k = (t - (k + 1)) + 1 := by omega
     rw [if_pos h, if_pos (by omega), this]; simp
    ·rw [if_neg h, if_neg (by omega)]
section
variable {P : Program} {A : Perm} {n : Nat} {M : Mem} {L : List Nat} {w : World} {H : List aa} {env : Env} {O : Pos → Option Nat} {a : Act}
def zg (tmps : Array Value) : ResultVar → Sem Value := fun
 | .tmp t => pure (tmps.getD t undef)
 | .cell a t => do loadVar t (← asAddr (tmps.getD a undef))
theorem Bj {fn : Func} {tmps : Array Value} {vs : List Value} (h : (fn.results.toList.mapM (zg tmps)).run P w = .ok vs w) :
 (results fn tmps).run P w = .ok (if h : vs.toArray.size = 1 then vs.toArray[0] else .tuple vs.toArray) w := by
 have e : (results fn tmps) = (do
  let vs ← fn.results.mapM (zg tmps)
  pure (if h : vs.size = 1 then vs[0] else .tuple vs)) := rfl
 rw [e, Array.mapM_eq_mapM_toList]
 simp only [Sem.run_bind, Sem.run_map, h]
 rfl
theorem zh (hf : Fr A n M L w H env O a) : ∀ (rs : List ResultVar) (is : List RX), gZ P rs = some is → ∀ {φ : List AV → Prop}, rp is env H φ →
 ∃ vs xs, (rs.mapM (zg a.tmps)).run P w = .ok vs w ∧ φ xs ∧ aJ M L vs xs ∧ (∀ s, is = [.t s] → xs = [get env s] ∧ vs = [a.tmps.getD s undef]) ∧ (∀ s sz, is = [.c s sz] → ∀ x, xs = [x] → ∀ own ys, x = .ap own ys → own = 0)
 | [], is, hc, φ, h => by
   simp only [gZ] at hc; cases hc
   exact ⟨[], [], by simp, h, .nil, (by intro s e; cases e), (by intro s sz e; cases e)⟩
 | r :: rs, is, hc, φ, h => by
   unfold gZ at hc
   split at hc <;> cases hc
   rename_i x xs hx fx
   cases r with
   | tmp t =>
     simp only [IK] at hx; cases hx
     simp only [rp] at h
     obtain ⟨vs, ys, h1, h2, h3, _⟩ := zh hf rs xs fx h
     refine ⟨a.tmps.getD t undef :: vs, get env t :: ys, ?_, h2, .cons _ _ _ _ (hf.st.env t) h3, ?_, ?_⟩
     ·simp only [List.mapM_cons, Sem.run_bind, zg, Sem.run_pure, Result.andThen_ok, h1]
     ·intro s e
      cases e
      cases rs with
      | nil =>
        cases h3 with
        | nil => exact ⟨rfl, rfl⟩
        | cons v x vs xs hh tt =>
          simp at h1
      | cons r rs =>
        unfold gZ at fx
        split at fx <;> cases fx
     ·intro s sz e; cases e
   | cell p t =>
     simp only [IK, Option.map_eq_some_iff] at hx
     obtain ⟨sz, c9, rfl⟩ := hx
     simp only [rp] at h
     obtain ⟨r, z, k1, k2, k3, k4⟩ := qX (P := P) c9 hf.st h (hf.st.env p)
     obtain ⟨vs, ys, h1, h2, h3, _⟩ := zh hf rs xs fx k3
     refine ⟨r :: vs, z :: ys, ?_, h2, .cons _ _ _ _ k2 h3, ?_, ?_⟩
     ·have hl : (do loadVar t (← asAddr (a.tmps.getD p undef)) : Sem Value).run P w = .ok r w := by
       have fq := hf.st.env p
       revert k1 fq
       generalize a.tmps.getD p undef = u
       intro k1 fq
       unfold aS at h
       split at h
       ·rename_i id off e
        rw [e] at fq
        cases fq
        exact k1
       ·rename_i y e
        rw [e] at fq
        cases fq
        exact k1
       ·exact h.elim
      have YQ : (List.mapM (zg a.tmps) rs).run P w = .ok vs w := h1
      simp only [List.mapM_cons, Sem.run_bind, zg] at hl ⊢
      rw [hl]
      simp only [Result.andThen_ok, YQ]
      rfl
     ·intro s e; cases e
     ·intro s sz e x hx
      cases hx
      exact k4
theorem St.aY {ev : Nat → Value} {ea : Nat → AV} (h : St A M L w H ev ea O) {v : Value} {x : AV} (hr : aR M L v x) (ob : Option Nat) (hs : bb M w v x ob)
 (h1 : ∀ id j b, ob = some b → O (.c id j) ≠ some b) (h2 : ∀ b, ob = some b → b ∉ L ∧ b < w.heap.size ∧ A b) :
 ∃ O', St A M L w H (fg (fun _ => undef) 0 v) (fg (fun _ => .any) 0 x) O' := by
 have k1 := h.pP (fun _ => undef) (fun _ => .any) (fun _ => .any _) (fun _ _ _ e => by cases e)
 exact ⟨_, k1.put 0 hr ob hs (fun p b hob hp => by
  cases p with
  | t t => cases hp
  | c id j => exact absurd hp (h1 id j b hob)) h2⟩
theorem Fa {x : AV} {m : Nat} (hb : x.a7 m = true) (t : Nat) : (fg (fun _ => AV.any) 0 x t).a7 m = true := by
 simp only [fg]
 split
 ·exact hb
 ·rfl
theorem St.Qr {ev : Nat → Value} {ea : Nat → AV} (h : St A M L w H ev ea O) (A2 : Perm) (YR : A2.wr = A.wr) (n : Nat) {H' : List aa} (hlen : H'.length = min n H.length)
 (hc : ∀ (id : Nat) (o : aa), H'[id]? = some o → o = .dead ∨ (H[id]? = some o ∧ o.a7 (A2.jg H'.length id) = true)) (hb : ∀ t, (ea t).a7 n = true) : ∃ O', St A2 M (L.take n) w H' ev ea O' := by
 let O' : Pos → Option Nat := fun p => match p with | .t t => O (.t t) | .c id j => match H'[id]? with | some .dead => none | some _ => O (.c id j) | none => none
 have hO : ∀ p b, O' p = some b → O p = some b := by
  intro p b hp
  cases p with
  | t t => exact hp
  | c id j =>
    simp only [O'] at hp
    split at hp <;> first | exact hp | cases hp
 have jo : ∀ {α : Type} {l : List α} {i : Nat} {a : α}, (l.take n)[i]? = some a → i < n ∧ l[i]? = some a := by
  intro α l i a hi
  rw [List.getElem?_take] at hi
  split at hi
  ·exact ⟨by assumption, hi⟩
  ·cases hi
 have iK : ∀ b, b ∈ L.take n → b ∈ L := fun b hb => List.mem_of_mem_take hb
 refine ⟨O', { len := by simp [h.len, hlen], nodup := (List.take_sublist n L).nodup h.nodup, env := fun t => (h.env t).fV (hb t), mem := h.mem, obj := ?_, bB := ?_, lt := fun b hb => h.lt b (iK b hb), gN := h.gN, gK := ?_, bZ := fun p q b hp hq => h.bZ p q b (hO p b hp) (hO q b hq), cj := fun p b hp hm => h.cj p b (hO p b hp) (iK b hm), eV := fun p b hp => h.eV p b (hO p b hp), La := fun b hb => by rw [YR]; exact h.La b (iK b hb), Oa := fun p b hp => by rw [YR]; exact h.Oa p b (hO p b hp), fresh := fun b hb => by rw [YR]; exact h.fresh b hb }⟩
 ·intro id o b ho dW
  obtain ⟨hn, dW⟩ := jo dW
  rcases hc id o ho with rfl | ⟨h1, h2⟩
  ·trivial
  ·refine (h.obj id o b h1 dW).fV (aa.cH ?_ o h2)
   have := A2.tZ H'.length id
   omega
 ·intro id o ho
  rcases hc id o ho with rfl | ⟨h1, h2⟩
  ·rfl
  ·exact h2
 ·intro id j
  have dead : ∀ x : Option aa, H'[id]? = x → (x = none ∨ x = some .dead) → bb M w (bK (L.take n) w id j) (bo H' id j) (O' (.c id j)) := by
   intro x hx OQ
   have e2 : bo H' id j = .any := by
    unfold bo
    rw [hx]
    rcases OQ with rfl | rfl <;> rfl
   have e3 : O' (.c id j) = none := by
    simp only [O', hx]
    rcases OQ with rfl | rfl <;> rfl
   rw [e2, e3]
   rfl
  cases hx : H'[id]? with
  | none => exact dead none hx (.inl rfl)
  | some o =>
    by_cases ed : o = .dead
    ·subst ed; exact dead _ hx (.inr rfl)
    ·rcases hc id o hx with h' | ⟨h1, h2⟩
     ·exact absurd h' ed
     have hl := aN hx
     have e1 : bK (L.take n) w id j = bK L w id j := by
      unfold bK
      rw [List.getElem?_take, if_pos (by omega)]
     have e2 : bo H' id j = bo H id j := by
      unfold bo
      rw [hx, h1]
     have e3 : O' (.c id j) = O (.c id j) := by
      simp only [O', hx]
     rw [e1, e2, e3]
     exact h.gK id j
theorem Fb : ∀ {vs : List Value} {xs ys : List AV}, aJ M L vs xs → xq (xs.map AV.ab) ys → aJ M L vs ys
 | _, _, [], .nil, h => .nil
 | _, _, y :: ys, .nil, h => by simp [xq] at h
 | _, _, [], .cons _ _ _ _ _ _, h => by simp [xq] at h
 | _, _, y :: ys, .cons _ _ _ _ h1 h2, h => by
   simp only [List.map_cons, xq] at h
   exact .cons _ _ _ _ (h1.ab.le h.1) (Fb h2 h.2)
def Marks (A : Perm) (w w2 : World) : Prop := w2.heap.size = w.heap.size ∧ w2.os = w.os ∧ w2.tape = w.tape ∧ w2.output = w.output ∧
 ∀ b, w2.heap[b]? = w.heap[b]? ∨ (A.base ≤ b ∧ ¬ A b ∧ (∃ x, w.heap[b]? = some (.deferred x)) ∧ ∃ x, w2.heap[b]? = some (.deferred x))
theorem Marks.refl (A : Perm) (w : World) : Marks A w w := ⟨rfl, rfl, rfl, rfl, fun b => .inl rfl⟩
theorem Marks.trans {A : Perm} {w w1 w2 : World} (h : Marks A w w1) (k : Marks A w1 w2) : Marks A w w2 := by
 refine ⟨k.1.trans h.1, k.2.1.trans h.2.1, k.2.2.1.trans h.2.2.1, k.2.2.2.1.trans h.2.2.2.1, fun b => ?_⟩
 rcases h.2.2.2.2 b with h1 | ⟨h1, h2, h3, x, h4⟩ <;> rcases k.2.2.2.2 b with k1 | ⟨k1, k2, ⟨y, k3⟩, k4⟩
 ·exact .inl (k1.trans h1)
 ·exact .inr ⟨k1, k2, ⟨y, by rw [← h1]; exact k3⟩, k4⟩
 ·exact .inr ⟨h1, h2, h3, x, by rw [k1]; exact h4⟩
 ·exact .inr ⟨h1, h2, h3, k4⟩
theorem pX {A : Perm} {F : Fence} {m : Nat} {fn : Func} {tmps : Array Value} {R : Ending → World → Prop} : ∀ (ds : List Deferred) {w : World}, OK A w ds → (∀ w2, Marks A w w2 → LeavesIn F m P fn tmps R [] .returning w2) → LeavesInM F m P fn tmps R ds .returning w
 | [], w, _, h => h w (.refl A w)
 | d :: ds, w, hd, h => by
   obtain ⟨D, rfl, h2, h3, h4⟩ := hd.2.2 _ List.mem_cons_self
   have hm : Marks A w (w.putObj D (.deferred none)) := ⟨World.putObj_size, rfl, rfl, rfl, fun b => by
    by_cases e : b = D
    ·subst e
     exact .inr ⟨h4, h3, ⟨_, h2⟩, _, World.putObj_heap_same (Array.getElem?_eq_some_iff.1 h2).1⟩
    ·exact .inl (World.putObj_heap_other e)⟩
   refine ⟨by simp, .inl ⟨D, _, rfl, run_takeDeferred h2, pX ds ⟨by rw [World.putObj_size]; exact hd.1, (List.nodup_cons.1 hd.2.1).2, fun d' XT => ?_⟩ fun w2 hm2 => h w2 (hm.trans hm2)⟩⟩
   obtain ⟨D', e', k2, k3⟩ := hd.2.2 d' (List.mem_cons_of_mem _ XT)
   refine ⟨D', e', ?_, k3⟩
   rw [World.putObj_heap_other]
   ·exact k2
   ·rintro rfl
    exact (List.nodup_cons.1 hd.2.1).1 (e' ▸ XT)
theorem St.marks {ev : Nat → Value} {ea : Nat → AV} (h : St A M L w H ev ea O) {w2 : World} (hm : Marks A w w2) : St A M L w2 H ev ea O := by
 obtain ⟨h1, _, _, _, h5⟩ := hm
 have same : ∀ b, A b → w2.heap[b]? = w.heap[b]? := fun b hb => by
  rcases h5 b with h | ⟨_, h, _⟩
  ·exact h
  ·exact absurd hb h
 exact { len := h.len, nodup := h.nodup, env := h.env, bB := h.bB, bZ := h.bZ, cj := h.cj, La := h.La, Oa := h.Oa
         mem := fun b o v hv => by
          have hc := h.mem b o v hv
          rcases h5 b with e | ⟨_, _, ⟨x, e⟩, _⟩
          ·simp only [World.cell?] at hc ⊢; rw [e]; exact hc
          ·simp [World.cell?, e] at hc
         obj := fun id o b ho hb => (h.obj id o b ho hb).mono (Mem.bN M) (List.prefix_refl L) (same b (h.La b (List.mem_of_getElem? hb))) (fun _ => rfl)
         lt := fun b hb => by rw [h1]; exact h.lt b hb
         gN := fun t => (h.gN t).mono fun b hb => ⟨same b (h.Oa _ b hb), fun _ => rfl⟩
         gK := fun id j => by
          have e : bK L w2 id j = bK L w id j := by
           unfold bK
           split
           ·rename_i b hb
            simp only [World.cell?]
            rw [same b (h.La b (List.mem_of_getElem? hb))]
           ·rfl
          rw [e]
          exact (h.gK id j).mono fun b hb => ⟨same b (h.Oa _ b hb), fun _ => rfl⟩
         eV := fun p b hp => by rw [h1]; exact h.eV p b hp
         fresh := fun b hb => h.fresh b (by rw [← h1]; exact hb) }
theorem Ext.marks {A A' : Perm} {M M' : Mem} {w w' w2 : World} (h : Ext A M w M' w') (hm : Marks A' w' w2) (hb : w.heap.size ≤ A'.base) : Ext A M w M' w2 := by
 obtain ⟨h1, h2, h3, h4, h5⟩ := hm
 refine ⟨h.kG, by rw [h1]; exact h.size, h2.trans h.os, h3.trans h.tape, h4.trans h.output, fun b aW hA => ?_, fun b r hr => ?_⟩
 ·obtain ⟨k1, k2⟩ := h.kh b aW hA
  refine ⟨?_, k2⟩
  rcases h5 b with e | ⟨e, _⟩
  ·exact e.trans k1
  ·omega
 ·obtain ⟨r', k1, k2⟩ := h.loops b r hr
  rcases h5 b with e | ⟨_, _, ⟨x, e⟩, _⟩
  ·exact ⟨r', e.trans k1, k2⟩
  ·rw [k1] at e; cases e
theorem uH {lo : Option Nat} {b : Bool} (A1 : Perm → Perm) (C : List aa → Nat → List aa → Prop) {f : FuncId} {fn : Func} {c : Code} {an : AG} {lv : mj} {pl : mn} {ir : IR} {rs : List RX} {args : List AV} {R : AV → List aa → Prop}
 (hf : P.funcs[f]? = some fn) (hcall : ∀ (as : Array Value) (w : World), (callFunc f as).run P w = .ok (.enter f as) w) (hb : fn.body = some c) (hc : comp P an lv pl fn.ntmps c = some ir) (wK : gZ P fn.results.toList = some rs)
 (h1 : ∀ A : Perm, A.entry b H.length → fD lo H.length (A1 A)) (h2 : ∀ A : Perm, (A1 A).wr = A.wr) (h3 : ∀ (A : Perm) {M : Mem} {L : List Nat} {w : World} {ev : Nat → Value} {ea : Nat → AV} {O : Pos → Option Nat}, A.entry b H.length → St A M L w H ev ea O → St (A1 A) M L w H ev ea O)
 (h4 : ∀ (A : Perm) {M : Mem} {L : List Nat} {w : World} {H' : List aa} {ev : Nat → Value} {ea : Nat → AV} {O : Pos → Option Nat} {m : Nat} {H'' : List aa}, A.entry b H.length → H.length ≤ m → H.length ≤ H'.length → C H' m H'' → St (A1 A) M L w H' ev ea O → (∀ t, (ea t).a7 m = true) → ∃ O', St A M (L.take m) w H'' ev ea O')
 (hn : args.length ≤ fn.ntmps) (Rt : Env → List aa → Prop) (hRt : ∀ env H', Rt env H' → kQ C H.length rs env H' R) (h : ms ⟨P, lo⟩ H.length ir (bW 0 args) H fun e env H' => (e = .normal ∨ e = .ret) ∧ Rt env H') : ku b P f args H R := by
 refine fun A M L w vs O hA hs Ug => .inl ⟨hcall _ _, callsIn_wide.1 (callsIn_of_wp_marks (F := Fence.wide) (n := 0) hf hb trivial ?_ rfl)⟩
 obtain ⟨A2, DH⟩ : ∃ A2 : Perm, A2 = { A1 A with base := w.heap.size } := ⟨_, rfl⟩
 have a2w : A2.wr = A.wr := by rw [DH]; exact h2 A
 have st12 : ∀ {M : Mem} {L : List Nat} {w : World} {H : List aa} {ev : Nat → Value} {ea : Nat → AV} {O : Pos → Option Nat}, St (A1 A) M L w H ev ea O → St A2 M L w H ev ea O := by
  intro M L w H ev ea O h; subst DH
  exact { len := h.len, nodup := h.nodup, env := h.env, mem := h.mem, obj := h.obj, bB := h.bB, lt := h.lt, gN := h.gN, gK := h.gK, bZ := h.bZ, cj := h.cj, eV := h.eV, La := h.La, Oa := h.Oa, fresh := h.fresh }
 have st21 : ∀ {M : Mem} {L : List Nat} {w : World} {H : List aa} {ev : Nat → Value} {ea : Nat → AV} {O : Pos → Option Nat}, St A2 M L w H ev ea O → St (A1 A) M L w H ev ea O := by
  intro M L w H ev ea O h; subst DH
  exact { len := h.len, nodup := h.nodup, env := h.env, mem := h.mem, obj := h.obj, bB := h.bB, lt := h.lt, gN := h.gN, gK := h.gK, bZ := h.bZ, cj := h.cj, eV := h.eV, La := h.La, Oa := h.Oa, fresh := h.fresh }
 have bQ := st12 (h3 A hA Ug)
 have hfits : fD lo H.length A2 := by rw [DH]; exact h1 A hA
 have Ln : L.length = H.length := Ug.len
 have C3 : Fr A2 fn.ntmps M L w H (bW 0 args) O { tmps := vs ++ Array.replicate (fn.ntmps - vs.size) undef, defers := [] } := by
  refine ⟨bQ.congr ?_ ?_, by simp; omega, ⟨by rw [DH]; exact Nat.le_refl _, List.nodup_nil, fun d h => by cases h⟩⟩
  ·intro t
   simp only [Array.getD_eq_getD_getElem?]
   by_cases ht : t < vs.size
   ·rw [Array.getElem?_append_left ht]
   ·rw [Array.getElem?_append_right (by omega), Array.getElem?_eq_none (xs := vs) (by omega), Array.getElem?_replicate]
    split <;> rfl
  ·intro t
   rw [lK]; simp
 rw [← bQ.len] at h hfits
 refine Go.wpIn_mono (DG (ro := none) (L0 := L) c ir hc hfits (fun l e => by cases e) h C3 (List.prefix_refl L)) ?_
 rintro e a w1 ⟨A', M', L', H', env, O', hle, ⟨he, GG⟩, L5, hext1, hL⟩
 have base : A'.base = w.heap.size := by rw [hle.2.2, DH]
 have done : (∀ w', Marks A' w1 w' → LeavesIn Fence.wide 0 P fn a.tmps (fun e w' => ∃ v r H' M' L' O', e = .returned v ∧ R r H' ∧ St A M' L' w' H' (fg (fun _ => undef) 0 v) (fg (fun _ => .any) 0 r) O' ∧ Ext A M w M' w' ∧ L <+: L') [] .returning w') →
  bodyPostM Fence.wide 0 P fn (fun e w' => ∃ v r H' M' L' O', e = .returned v ∧ R r H' ∧ St A M' L' w' H' (fg (fun _ => undef) 0 v) (fg (fun _ => .any) 0 r) O' ∧ Ext A M w M' w' ∧ L <+: L') e a w1 := by
  intro hd
  rcases he with rfl | rfl <;> exact pX _ L5.defers hd
 refine done fun w' hm => ?_
 have zi : Fr A2 fn.ntmps M' L' w' H' env O' { a with defers := [] } :=
  ⟨(L5.st.marks hm).le hle, L5.size, ⟨by rw [hm.1, ← hle.2.2]; exact L5.defers.1, List.nodup_nil, fun d h => by cases h⟩⟩
 have cu : Ext A M w M' w' := by
  have := hext1.marks hm (Nat.le_of_eq base.symm)
  exact ⟨this.kG, this.size, this.os, this.tape, this.output, fun b hb hA => this.kh b hb (by rw [a2w]; exact hA), this.loops⟩
 have hlen2 : H.length ≤ H'.length := by have := hL.length_le; rw [Ln, zi.st.len] at this; exact this
 have goal : ∃ v, (results fn a.tmps).run P w' = .ok v w' ∧ ∃ v' r H'' M'' L'' O'', Ending.returned v = .returned v' ∧ R r H'' ∧ St A M'' L'' w' H'' (fg (fun _ => undef) 0 v') (fg (fun _ => .any) 0 r) O'' ∧ Ext A M w M'' w' ∧ L <+: L'' := by
  replace GG := hRt _ _ GG
  unfold kQ at GG
  obtain ⟨us, xs, k1, ⟨m, H2, hm, hC, k2⟩, k3, k4, k5⟩ := zh (P := P) zi _ _ wK GG
  have ln : L <+: L'.take m := by
   obtain ⟨r, rfl⟩ := hL
   exact ⟨r.take (m - L.length), by rw [List.take_append, List.take_of_length_le (show L.length ≤ m by omega)]⟩
  have bG := Bj k1
  split at k2
  ·rename_i x
   obtain ⟨r, hle, hb, hR⟩ := k2
   cases k3 with
   | cons v _ _ _ hv ht =>
   cases ht
   refine ⟨v, by simpa using bG, v, r, H2, M', L'.take m, ?_⟩
   have tb : ∃ ob, bb M' w' v x ob ∧ (∀ id j b, ob = some b → O' (.c id j) ≠ some b) ∧ (∀ b, ob = some b → b ∉ L' ∧ b < w'.heap.size ∧ A2 b) := by
    match rs, wK, k4, k5 with
    | [], wK, _, _ =>
      unfold gZ at wK
      split at wK
      ·rename_i e
       rw [e] at k1
       simp at k1
      ·split at wK <;> cases wK
    | [.t s], _, k4, _ =>
      obtain ⟨e1, e2⟩ := k4 s rfl
      cases e1; cases e2
      refine ⟨O' (.t s), zi.st.gN s, fun id j b hb hc => ?_, fun b hb => ⟨zi.st.cj _ b hb, zi.st.eV _ b hb, zi.st.Oa _ b hb⟩⟩
      exact absurd (zi.st.bZ _ _ b hb hc) (by intro e; cases e)
    | [.c s sz], _, _, k5 =>
      exact ⟨none, bb.free (k5 s sz rfl x rfl), (fun _ _ _ e => by cases e), (fun _ e => by cases e)⟩
    | r1 :: r2 :: rs, wK, _, _ =>
      unfold gZ at wK
      split at wK
      ·cases wK
      ·split at wK <;> cases wK
       rename_i h1 h2
       unfold gZ at h2
       split at h2
       ·cases h2
       ·rename_i e
        rw [e] at k1
        simp only [List.mapM_cons, Sem.run_bind] at k1
        revert k1
        generalize H6 : (zg a.tmps _).run P w' = g1
        cases g1 <;> simp
        generalize hg2 : (zg a.tmps _).run P _ = g2
        cases g2 <;> simp
        generalize hg3 : (List.mapM (zg a.tmps) _).run P _ = g3
        cases g3 <;> simp
   obtain ⟨ob, o1, o2, o3⟩ := tb
   obtain ⟨ob', p1, p2⟩ := o1.le hv hle
   obtain ⟨O'', lB⟩ := zi.st.aY (hv.le hle) ob' p1 (fun id j b hb => by
    rcases p2 with rfl | rfl
    ·cases hb
    ·exact o2 id j b hb) (fun b hb => by
    rcases p2 with rfl | rfl
    ·cases hb
    ·exact o3 b hb)
   obtain ⟨O3, IM⟩ := h4 A hA (by omega) hlen2 hC (st21 lB) (Fa hb)
   exact ⟨O3, rfl, hR, IM, cu, ln⟩
  ·rename_i ep
   obtain ⟨ys, hle, hb, hR⟩ := k2
   have hlen : us.toArray.size ≠ 1 := by
    have := k3.length
    intro e
    simp at e
    rw [e] at this
    match xs, this with
    | [x], _ => exact ep x rfl
   rw [dif_neg hlen] at bG
   refine ⟨.tuple us.toArray, bG, .tuple us.toArray, .tuple ys, H2, M', L'.take m, ?_⟩
   obtain ⟨O'', lB⟩ := zi.st.aY (.tuple _ _ (Fb k3 hle)) none (bb.free (by intro _ _ e; cases e)) (fun _ _ _ e => by cases e) (fun _ e => by cases e)
   obtain ⟨O3, IM⟩ := h4 A hA (by omega) hlen2 hC (st21 lB) (Fa (x := .tuple ys) hb)
   exact ⟨O3, rfl, hR, IM, cu, ln⟩
 exact goal
theorem o8 {A : Perm} {k : Nat} (h : A.entry false k) : fD none k A := ⟨h.1, fun id bm => by rw [h.2 id bm]; rfl⟩
theorem GH {f : FuncId} {fn : Func} {c : Code} {an : AG} {lv : mj} {pl : mn} {ir : IR} {rs : List RX} {args : List AV} {R : AV → List aa → Prop}
 (hf : P.funcs[f]? = some fn) (hcall : ∀ (as : Array Value) (w : World), (callFunc f as).run P w = .ok (.enter f as) w) (hb : fn.body = some c) (hc : comp P an lv pl fn.ntmps c = some ir) (wK : gZ P fn.results.toList = some rs)
 (hn : args.length ≤ fn.ntmps) (h : ms P H.length ir (bW 0 args) H fun e env H' => (e = .normal ∨ e = .ret) ∧ bV H.length rs env H' R) : aq P f args H R := by
 refine uH (lo := none) (b := false) (fun A => A) (fun H m H' => H' = H.take m) hf hcall hb hc wK (fun A => o8) (fun A => rfl) (fun A _ _ _ _ _ _ _ h => h) ?_ hn (fun env H' => bV H.length rs env H' R) (fun env H' => Qq) h
 intro A M L w H' ev ea O m H'' hA hm hl e bQ LJ
 subst e
 exact bQ.cut m (fun id o => (o8 hA).closed hm bQ id o) LJ
def nk (k : Nat) (A : Perm) : Perm where
 wr := A.wr
 top := fun id => if id < k then A.top id else none
 ok := fun id n h => by
  split at h
  ·exact A.ok id n h
  ·cases h
theorem Bk {A : Perm} {k : Nat} {b : Bool} (h : A.entry b k) : fD (some k) k (nk k A) :=
 ⟨fun id bm => by obtain ⟨m, h1, h2⟩ := h.1 id bm; exact ⟨m, h1, by simp only [nk, if_pos bm]; exact h2⟩, rfl, fun id bm => by simp only [nk]; rw [if_neg (by omega)]⟩
def mv (n0 : Nat) (H : List aa) (m : Nat) (H' : List aa) : Prop :=
 H'.length = min m H.length ∧ ∀ (id : Nat) (o : aa), H'[id]? = some o → o = .dead ∨ (H[id]? = some o ∧ (n0 ≤ id → o.a7 (id + 1) = true))
theorem DI {f : FuncId} {fn : Func} {c : Code} {an : AG} {lv : mj} {pl : mn} {ir : IR} {rs : List RX} {args : List AV} {R : AV → List aa → Prop}
 (hf : P.funcs[f]? = some fn) (hcall : ∀ (as : Array Value) (w : World), (callFunc f as).run P w = .ok (.enter f as) w) (hb : fn.body = some c) (hc : comp P an lv pl fn.ntmps c = some ir) (wK : gZ P fn.results.toList = some rs)
 (hn : args.length ≤ fn.ntmps) (h : ms ⟨P, some H.length⟩ H.length ir (bW 0 args) H fun e env H' => (e = .normal ∨ e = .ret) ∧ kQ (mv H.length) H.length rs env H' R) : aq P f args H R := by
 refine uH (lo := some H.length) (b := false) (nk H.length) (mv H.length) hf hcall hb hc wK (fun A hA => Bk hA) (fun A => rfl) (fun A M L w ev ea O hA bQ => ?_) ?_ hn (fun env H' => kQ (mv H.length) H.length rs env H' R) (fun env H' h => h) h
 ·exact { len := bQ.len, nodup := bQ.nodup, env := bQ.env, mem := bQ.mem, obj := bQ.obj, lt := bQ.lt, gN := bQ.gN, gK := bQ.gK, bZ := bQ.bZ, cj := bQ.cj, eV := bQ.eV, La := bQ.La, Oa := bQ.Oa, fresh := bQ.fresh
          bB := fun id o ho => by
           have := bQ.bB id o ho
           have e : (nk H.length A).jg H.length id = A.jg H.length id := by unfold Perm.jg; simp only [nk, if_pos (aN ho)]
           rw [e]; exact this }
 ·intro A M L w H' ev ea O m H'' hA hm hl hC bQ LJ
  obtain ⟨hlen, hC⟩ := hC
  refine bQ.Qr A rfl m hlen (fun id o ho => ?_) LJ
  rcases hC id o ho with h' | ⟨h1, h2⟩
  ·exact .inl h'
  ·refine .inr ⟨h1, ?_⟩
   by_cases bm : id < H.length
   ·obtain ⟨k, hk, ek⟩ := hA.1 id bm
    have := bQ.bB id o h1
    have e1 : (nk H.length A).jg H'.length id = min k H'.length := by unfold Perm.jg; simp only [nk, if_pos bm, ek]
    have e2 : A.jg H''.length id = min k H''.length := by unfold Perm.jg; simp only [ek]
    rw [e1] at this
    rw [e2]
    exact aa.cH (by omega) o this
   ·have e2 : A.jg H''.length id = min (id + 1) H''.length := by unfold Perm.jg; rw [hA.2 id (by omega)]; rfl
    have := aN ho
    rw [e2]
    exact aa.cH (by omega) o (h2 (by omega))
end
end Go.aK
end
