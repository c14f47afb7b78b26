/- Part 2 of 18 of the proof. -/
import Derived.Test.YtljchnfgjdjobaaGreatQaa
import Derived.RangeFuncNested
set_option linter.unusedVariables false
set_option linter.unusedSimpArgs false
set_option linter.defProp false
set_option linter.unusedSectionVars false
section
namespace Go.aK
open Go
def Perm.entry (A : Perm) (loose : Bool) (n : Nat) : Prop := (∀ id, id < n → ∃ m, m ≤ n ∧ A.top id = some m) ∧ ∀ id, n ≤ id → A.top id = if loose = true then none else some (id + 1)
def j5 (loose : Bool) (P : Program) (f : FuncId) (args : List AV) (H : List aa) (R : AV → List aa → Prop) : Prop :=
 ∀ A M L w (vs : Array Value) O, A.entry loose H.length → vs.size = args.length → St A M L w H (fun t => vs.getD t undef) (fun t => args.getD t .any) O →
  ((callFunc f vs).run P w = .ok (.enter f vs) w ∧ Calls P f vs w fun e w' => ∃ v r H' M' L' O', e = .returned v ∧ R r H' ∧ St A M' L' w' H' (fa (fun _ => undef) 0 v) (fa (fun _ => .any) 0 r) O' ∧ Ext A M w M' w' ∧ L <+: L') ∨
  (∃ v w' r H' M' L' O', (callFunc f vs).run P w = .ok (.value v) w' ∧ R r H' ∧ St A M' L' w' H' (fa (fun _ => undef) 0 v) (fa (fun _ => .any) 0 r) O' ∧ Ext A M w M' w' ∧ L <+: L')
def aq (P : Program) (f : FuncId) (args : List AV) (H : List aa) (R : AV → List aa → Prop) : Prop := j5 false P f args H R
def tq (P : Program) (f : FuncId) (args : List AV) (H : List aa) (R : AV → List aa → Prop) : Prop := j5 true P f args H R
theorem j5.mono {b : Bool} {P : Program} {f : FuncId} {args : List AV} {H : List aa} {R R' : AV → List aa → Prop} (h : j5 b P f args H R) (hr : ∀ r H', R r H' → R' r H') : j5 b P f args H R' := by
 intro A M L w vs O hA hs bP
 rcases h A M L w vs O hA hs bP with ⟨h1, h2⟩ | ⟨v, w', r, H', M', L', O', h1, h2, h3⟩
 ·exact .inl ⟨h1, h2.mono fun e w' ⟨v, r, H', M', L', O', h1, h2, h3⟩ => ⟨v, r, H', M', L', O', h1, hr _ _ h2, h3⟩⟩
 ·exact .inr ⟨v, w', r, H', M', L', O', h1, hr _ _ h2, h3⟩
theorem aq.mono {P : Program} {f : FuncId} {args : List AV} {H : List aa} {R R' : AV → List aa → Prop} (h : aq P f args H R) (hr : ∀ r H', R r H' → R' r H') : aq P f args H R' := j5.mono h hr
theorem tq.mono {P : Program} {f : FuncId} {args : List AV} {H : List aa} {R R' : AV → List aa → Prop} (h : tq P f args H R) (hr : ∀ r H', R r H' → R' r H') : tq P f args H R' := j5.mono h hr
theorem aq.body {P : Program} {f : FuncId} {args : List AV} {H : List aa} {R : AV → List aa → Prop} (h : aq P f args H R) (he : ∀ (as : Array Value) (w : World), (callFunc f as).run P w = .ok (.enter f as) w)
 {A : Perm} {M : Mem} {L : List Nat} {w : World} {vs : Array Value} {O : Pos → Option Nat} (hA : A.entry false H.length) (hs : vs.size = args.length) (bP : St A M L w H (fun t => vs.getD t undef) (fun t => args.getD t .any) O) :
 Calls P f vs w fun e w' => ∃ v r H' M' L' O', e = .returned v ∧ R r H' ∧ St A M' L' w' H' (fa (fun _ => undef) 0 v) (fa (fun _ => .any) 0 r) O' ∧ Ext A M w M' w' ∧ L <+: L' := by
 rcases h A M L w vs O hA hs bP with ⟨h1, h2⟩ | ⟨v, w', r, H', M', L', O', h1, h2, h3⟩
 ·exact h2
 ·rw [he] at h1; cases h1
structure Px where
 prog : Program
 lo : Option Nat
instance : Coe Program Px := ⟨fun P => ⟨P, none⟩⟩
def dU (P : Px) (f : FuncId) (args : List AV) (H : List aa) (R : AV → List aa → Prop) : Prop :=
 match P.lo with
 | none => aq P.prog f args H R
 | some l => aq P.prog f args H R ∨ (l ≤ H.length ∧ tq P.prog f args H R)
theorem dU.of {P : Px} {f : FuncId} {args : List AV} {H : List aa} {R : AV → List aa → Prop} (h : aq P.prog f args H R) : dU P f args H R := by
 unfold dU; split
 ·exact h
 ·exact .inl h
theorem dU.mono {P : Px} {f : FuncId} {args : List AV} {H : List aa} {R R' : AV → List aa → Prop} (h : dU P f args H R) (hr : ∀ r H', R r H' → R' r H') : dU P f args H R' := by
 unfold dU at *; split at h
 ·exact h.mono hr
 ·rcases h with h | ⟨h1, h2⟩
  ·exact .inl (h.mono hr)
  ·exact .inr ⟨h1, h2.mono hr⟩
def eY (loose : Bool) (P : Program) (id : Nat) (args : List AV) (H : List aa) (R : AV → List aa → Prop) : Prop :=
 ∀ A M L w (vs : Array Value) O b, A.entry loose H.length → vs.size = args.length → L[id]? = some b → St A M L w H (fun t => vs.getD t undef) (fun t => args.getD t .any) O →
  ∃ fn tmps as bd, (Instr.yield b vs).run P w = .ok (.round b fn tmps as bd) w ∧ RoundIn Fence.wide 0 P b fn tmps as bd w fun e w' =>
   ∃ v r H' M' L' O', e = .returned v ∧ R r H' ∧ St A M' L' w' H' (fa (fun _ => undef) 0 v) (fa (fun _ => .any) 0 r) O' ∧ Ext A M w M' w' ∧ L <+: L'
theorem eY.mono {b : Bool} {P : Program} {id : Nat} {args : List AV} {H : List aa} {R R' : AV → List aa → Prop} (h : eY b P id args H R) (hr : ∀ r H', R r H' → R' r H') : eY b P id args H R' := by
 intro A M L w vs O c hA hs hc bP
 obtain ⟨fn, tmps, as, bd, h1, h2⟩ := h A M L w vs O c hA hs hc bP
 exact ⟨fn, tmps, as, bd, h1, h2.mono fun e w' ⟨v, r, H', M', L', O', h1, h2, h3⟩ => ⟨v, r, H', M', L', O', h1, hr _ _ h2, h3⟩⟩
def jn (P : Program) (id : Nat) (args : List AV) (H : List aa) (R : AV → List aa → Prop) : Prop := eY false P id args H R
def Lt (P : Program) (id : Nat) (args : List AV) (H : List aa) (R : AV → List aa → Prop) : Prop := eY true P id args H R
def ln (P : Px) (id : Nat) (args : List AV) (H : List aa) (R : AV → List aa → Prop) : Prop :=
 match P.lo with
 | none => jn P.prog id args H R
 | some l => jn P.prog id args H R ∨ (l ≤ H.length ∧ Lt P.prog id args H R)
theorem ln.mono {P : Px} {id : Nat} {args : List AV} {H : List aa} {R R' : AV → List aa → Prop} (h : ln P id args H R) (hr : ∀ r H', R r H' → R' r H') : ln P id args H R' := by
 unfold ln at *; split at h
 ·exact eY.mono h hr
 ·rcases h with h | ⟨h1, h2⟩
  ·exact .inl (eY.mono h hr)
  ·exact .inr ⟨h1, eY.mono h2 hr⟩
def xh : List AV → List AV → Prop
 | [], [] => True
 | x :: xs, y :: ys => x.le y ∧ xh xs ys
 | _, _ => False
def aE (env : Env) (pass : Option Nat) : Nat → List IX → List AV
 | _, [] => []
 | j, .t s :: xs => (if pass = some j then get env s else (get env s).ab) :: aE env pass (j + 1) xs
 | j, .c v :: xs => v.ab :: aE env pass (j + 1) xs
def bc (args : List IX) (pass : Option Nat) : Option Nat :=
 match pass with
 | some j => match args[j]? with
   | some (.t s) => some s
   | _ => none
 | none => none
def cC (env : Env) (s : Option Nat) : Env := match s with | some d => (d, (get env d).ab) :: env | none => env
def oA (P : Px) (f : AV) (args : List IX) (pass : Option Nat) (env : Env) (H : List aa) (K : AV → Env → List aa → Prop) : Prop :=
 match f with
 | .fn (.func g) first cap => ∃ bO, xh (first.map AV.ab ++ aE env pass 0 args ++ cap.map AV.ab) bO ∧ dU P g bO H (fun r H' => K r (cC env (bc args pass)) H')
 | .mF id => ∃ bO, xh (aE env pass 0 args) bO ∧ ln P id bO H (fun r H' => K r (cC env (bc args pass)) H')
 | _ => False
def aL (kd : Nat) (x : AV) : Prop :=
 match kd, x with
 | 0, .str _ => True
 | 1, .ah => True
 | 1, .ap _ _ => True
 | 1, .bg _ _ _ _ => True
 | 1, .ol => True
 | 2, .iA => True
 | 2, .map _ => True
 | _, _ => False
def gg (env : Env) (x : Option IX) : Option AV := x.map (al env)
def bp (P : Px) (o : bV) (dst : Option Nat) (env : Env) (H : List aa) (K : Env → List aa → Prop) : Prop :=
 match o with
 | .set x take => match dst with | some d => K (sU env d x take) H | none => K env H
 | .pick c a b => eG (al env c) fun q => (q = true → K (put dst (al env a).ab env) H) ∧ (q = false → K (put dst (al env b).ab env) H)
 | .bin op x y => cT op (al env x) (al env y) fun z => K (put dst z env) H
 | .shift op x y => dI op (al env x) (al env y) fun z => K (put dst z env) H
 | .gM neq x y => cn neq (al env x) (al env y) fun z => K (put dst z env) H
 | .iQ kd neq x => dc kd neq (al env x) fun z => K (put dst z env) H
 | .un op x => yx op (al env x) fun z => K (put dst z env) H
 | .box x => (al env x).val = true ∧ aj (H.length + 1) ((al env x).cells.map AV.ab) = true ∧ K (put dst (.ptr H.length 0) env) (H ++ [.cells ((al env x).cells.map AV.ab)])
 | .k9 x => (al env x).val = true ∧ K (put dst (.ai (al env x)) env) H
 | .qQ m x => (al env x).val = true ∧ (al env x).cells.length = m ∧ (al env x).cells.all AV.one = true ∧ K (put dst (.ai (al env x)) env) H
 | .alloc z => aj (H.length + 1) (z.cells.map AV.ab) = true ∧ K (put dst (.ptr H.length 0) env) (H ++ [.cells (z.cells.map AV.ab)])
 | .build z ps => cB z.cells (ps.map fun q => (q.1, q.2.1, al env q.2.2)) fun v => K (put dst v env) H
 | .buildSlice own esz z len ps => bi (List.replicate len (aS z)) esz (ps.map fun q => (q.1, al env q.2)) fun xs => K (put dst (.ap own xs) env) H
 | .load sz a => aR sz (al env a) H fun z => K (put dst z env) H
 | .rY sz esz a => aR sz (al env a) H fun z => fc esz z H fun y H' => K (put dst y env) H'
 | .dZ a => match dst, al env a with
   | some d, .ptr id off => match H[id]? with
     | some (.cells es) => off < es.length ∧ K ((d, es.getD off .any) :: env) (H.set id (.cells (es.set off (es.getD off .any).ab)))
     | _ => False
   | _, _ => False
 | .store m a x => gO m (al env a) (al env x) H fun H' => K env H'
 | .mH m a x => match P.lo with | some l => gb l m (al env a) (al env x) H fun H' => K env H' | none => False
 | .eT a s => dJ (al env a) (get env s) H fun H' => K ((s, (get env s).ab) :: env) H'
 | .nilCheck x => bR (al env x) fun z => K (put dst z env) H
 | .fieldAddr off sz x => ak off sz (al env x) fun z => K (put dst z env) H
 | .field off sz x => eH off sz (al env x) fun z => K (put dst z env) H
 | .indexAddr esz x i => (∀ own xs, al env x = .ap own xs → ∀ z ∈ xs, z.cells.length = esz) ∧ ay esz (al env x) (al env i) fun z => K (put dst z env) H
 | .cZ x i => bH (al env x) (al env i) fun z => K (put dst z env) H
 | .dG n x i => bQ n (al env x) (al env i) fun z => K (put dst z env) H
 | .oN esz x lo hi mx => (∀ own xs, al env x = .ap own xs → ∀ z ∈ xs, z.cells.length = esz) ∧ fm esz (al env x) (gg env lo) (gg env hi) (gg env mx) fun z => z = .ap esz [] ∧ K (put dst .ol env) H
 | .slice esz x lo hi mx => bA esz (al env x) (gg env lo) (gg env hi) (gg env mx) fun z => K (put dst z env) H
 | .copy esz d s => jl esz (al env d) (al env s) H fun z H' => K (put dst z env) H'
 | .dH x lo hi => bZ (al env x) (gg env lo) (gg env hi) fun z => K (put dst z env) H
 | .len kd x => aL kd (al env x) ∧ eU (al env x) H fun z => K (put dst z env) H
 | .append esz bytes s x => bE esz bytes (al env s) (al env x) fun zs => K (put dst (.ap esz zs) (cC env s.slot)) H
 | .rZ esz bytes z n => fL esz bytes z (al env n) H fun v H' => K (put dst v env) H'
 | .mI esz bytes n => iF esz bytes (al env n) fun v => K (put dst v env) H
 | .mJ => K (put dst (.map H.length) env) (H ++ [.map []])
 | .lookup kd z m k ok => ca kd z (al env m) (al env k) ok H fun v => K (put dst v env) H
 | .jW kd m k x => eX kd (al env m) (al env k) (al env x) H fun H' => K env H'
 | .fn f first cap => K (put dst (.fn f (first.map fun x => (al env x).ab) (cap.map fun x => (al env x).ab)) env) H
 | .extract x i => bC (al env x) i fun z => K (put dst z env) H
 | .call f args pass => oA P (al env f) args pass env H fun r aC H' => K (put dst r aC) H'
 | .eB k x => cp k (al env x) fun z => K (put dst z env) H
 | .fZ x => fw (al env x) fun z => K (put dst z env) H
 | .bytesOf x => eK 1 (al env x) fun z => K (put dst z env) H
 | .strOf x => jk (al env x) fun z => K (put dst z env) H
 | .mx big a b => we big (al env a) (al env b) fun z => K (put dst z env) H
 | .yv esz x => fc esz (al env x) H fun z H' => K (put dst z env) H'
 | .Ax esz z len ps => bi (List.replicate len (aS z)) esz (ps.map fun q => (q.1, al env q.2)) fun xs => sl xs H fun v H' => K (put dst v env) H'
 | .iS esz bytes z s x => cF esz bytes z (al env s) (al env x) H fun v H' => K (put dst v env) H'
 | .mK esz z x => gW esz z (al env x) H fun H' => K (put dst (.tuple []) env) H'
 | .never => False
def cP (P : Program) (e : TypeId) : Option (Nat × AV) :=
 match dz P e, ft P e with
 | some esz, some z => if 0 < esz ∧ z.cells.length = esz ∧ z.val = true then some (esz, z) else none
 | _, _ => none
def yM (P : Program) (e : TypeId) : Option Nat := (P.info? e).map (·.bytes)
def C8 (z : AV) : Bool := z.cells.all fun y => match y with | .ap own _ => own == 0 | _ => true
def jN : Option Operand → Option (Option IX)
 | none => some none
 | some x => (aP x).map some
def Ig (x y : Operand) : Bool := match x, y with | .tmp a, .tmp b => a == b | .const (.int .i64 a), .const (.int .i64 b) => a == b | _, _ => false
def cc (P : Program) (o : Oper) (fl : Nat) : Option bV :=
 match o.op with
 | .move x | .assign x => (aP x).map fun i => .set i (fl == 1)
 | .pick c a b => match aP c, aP a, aP b with
   | some c, some a, some b => some (.pick c a b)
   | _, _, _ => none
 | .binOp op t x y _ => match aP x, aP y with
   | some i, some j => match op with
     | .shl | .shr => some (.shift op i j)
     | .eql | .neq => match P.underlying t with
       | some .bool => some (.gM (op matches .neq) i j)
       | some (.int _) | some .string => some (.bin op i j)
       | some (.slice _) => match y with | .const (.slice none 0 0) => some (.iQ 0 (op matches .neq) i) | _ => none
       | some (.pointer _) => match y with | .const (.pointer none) => some (.iQ 1 (op matches .neq) i) | _ => none
       | some (.map _ _) => match y with | .const (.map none) => some (.iQ 2 (op matches .neq) i) | _ => none
       | some (.func _ _ _) => match y with | .const .nilFunc => some (.iQ 3 (op matches .neq) i) | _ => none
       | _ => none
     | _ => some (.bin op i j)
   | _, _ => none
 | .unOp op _ x => (aP x).map fun i => .un op i
 | .box _ x => (aP x).map fun i => if fl = 1 then .k9 i else .box i
 | .alloc e => match ft P e with
   | some z => if z.val = true then some (.alloc z) else none
   | none => none
 | .build t ps => match CX P t with
   | some (z, places) => match eW places ps.toList with
     | some qs => if z.val = true then some (.build z qs) else none
     | none => none
   | none => none
 | .buildSlice t len ps => match P.underlying t with
   | some (.slice e) => match cP P e, jh ps.toList with
     | some (esz, z), some qs => if len * esz ≤ 16777216 then some (if fl = 2 then .Ax esz z len qs else .buildSlice (if fl = 1 then esz else 0) esz z len qs) else none
     | _, _ => none
   | _ => none
 | .load t a => match HA P t, aP a with
   | some sz, some i => if fl = 1 then (if sz = none then some (.dZ i) else none) else if 3000 < fl then some (.rY sz (fl - 3000) i) else some (.load sz i)
   | _, _ => none
 | .store t a x => match dz P t, aP a, aP x with
   | some m, some i, some j => if fl = 1 then (match j with | .t s => if m = 1 then some (.eT i s) else none | _ => none) else if fl = 2 then some (.mH m i j) else some (.store m i j)
   | _, _, _ => none
 | .nilCheck x => (aP x).map .nilCheck
 | .fieldAddr s x f => match qS P s f, aP x with
   | some (off, sz), some i => some (.fieldAddr off sz i)
   | _, _ => none
 | .field s x f => match qS P s f, aP x with
   | some (off, sz), some i => some (.field off sz i)
   | _, _ => none
 | .indexAddr t x i => match P.underlying t, aP x, aP i with
   | some (.slice e), some j, some k => (dz P e).map fun esz => .indexAddr esz j k
   | _, _, _ => none
 | .index t x i => match P.underlying t, aP x, aP i with
   | some .string, some j, some k => some (.cZ j k)
   | some (.array n e), some j, some k => if HA P e = some none then some (.dG n j k) else none
   | _, _, _ => none
 | .slice t x lo hi mx => match P.underlying t, aP x, jN lo, jN hi, jN mx with
   | some (.slice e), some i, some l, some h, some m => match dz P e with
     | some esz => if 0 < esz then some (if fl = 4 then .oN esz i l h m else .slice esz i l h m) else none
     | none => none
   | some .string, some i, some l, some h, some none => some (.dH i l h)
   | _, _, _, _, _ => none
 | .makeSlice t l c => match P.underlying t, aP c with
   | some (.slice e), some k => match cP P e, yM P e with
     | some (esz, z), some bytes => if 0 < bytes ∧ C8 z = true then (match l with
        | .const (.int .i64 0) => some (.mI esz bytes k)
        | _ => if Ig l c = true then some (.rZ esz bytes z k) else none) else none
     | _, _ => none
   | _, _ => none
 | .makeMap _ none => some .mJ
 | .lookup t m k ok => match P.underlying t, aP m, aP k with
   | some (.map kt et), some i, some j => match nH P kt, ft P et with
     | some kd, some z => some (.lookup kd z i j ok)
     | _, _ => none
   | _, _, _ => none
 | .mapUpdate t m k x => match P.underlying t, aP m, aP k, aP x with
   | some (.map kt _), some i, some j, some y => (nH P kt).map fun kd => .jW kd i j y
   | _, _, _, _ => none
 | .makeFunc f first cap => match fh first.toList, fh cap.toList with
   | some i, some j => some (.fn f i j)
   | _, _ => none
 | .extract x i => (aP x).map fun j => .extract j i
 | .convert src dst x => match P.underlying src, P.underlying dst, aP x with
   | some (.int _), some (.int k), some i => some (.eB k i)
   | some .string, some .string, some i => some (.fZ i)
   | some .string, some (.slice e), some i => match P.underlying e with
     | some (.int .u8) => some (.bytesOf i)
     | _ => none
   | some (.slice e), some .string, some i => match P.underlying e with
     | some (.int .u8) => some (.strOf i)
     | _ => none
   | _, _, _ => none
 | .call c => match c.callee with
   | .value f => match aP f, fh c.args.toList with
     | some i, some js => some (.call i js (if fl = 0 then none else some (fl - 1)))
     | _, _ => none
   | .builtin .len => match c.args.toList, c.argTypes.toList with
     | [x], [t] => match P.underlying t, aP x with
       | some .string, some i => some (.len 0 i)
       | some (.slice _), some i => some (.len 1 i)
       | some (.map _ _), some i => some (.len 2 i)
       | _, _ => none
     | _, _ => none
   | .builtin .append => match c.args.toList, c.argTypes.toList with
     | [s, x], [t, t'] => if t = t' then (match P.underlying t, aP s, aP x with
        | some (.slice e), some i, some j => match cP P e, yM P e with
          | some (esz, z), some bytes => if 0 < bytes then (if fl = 2 then (if C8 z = true then some (.iS esz bytes z i j) else none) else some (.append esz bytes i j)) else none
          | _, _ => none
        | _, _, _ => none) else none
     | _, _ => none
   | .builtin .max => match c.args.toList with
     | [x, y] => match aP x, aP y with
       | some i, some j => some (.mx true i j)
       | _, _ => none
     | _ => none
   | .builtin .min => match c.args.toList with
     | [x, y] => match aP x, aP y with
       | some i, some j => some (.mx false i j)
       | _, _ => none
     | _ => none
   | _ => none
 | _ => none
def pI (P : Program) (o : Oper) : bV :=
 match o.op with
 | .call c => match c.callee with
   | .builtin .copy => match c.args.toList, c.argTypes.toList with
     | [s, x], [t, _] => match P.underlying t, aP s, aP x with
        | some (.slice e), some i, some j => match dz P e with
          | some esz => .copy esz i j
          | none => .never
        | _, _, _ => .never
     | _, _ => .never
   | .builtin .clear => match c.args.toList, c.argTypes.toList with
     | [s], [t] => match P.underlying t, aP s with
        | some (.slice e), some i => match cP P e with
          | some (esz, z) => .mK esz z i
          | none => .never
        | _, _ => .never
     | _, _ => .never
   | _ => .never
 | _ => .never
def mQ (P : Program) (o : Oper) : bV :=
 match o.op with
 | .move x | .assign x => match aP x, P.underlying o.type with
   | some i, some (.slice e) => match dz P e with
     | some esz => .yv esz i
     | none => .never
   | _, _ => .never
 | _ => .never
def kz (esz : Nat) (o : Oper) : bV :=
 match o.op with
 | .move x | .assign x => match aP x with
   | some i => .yv esz i
   | none => .never
 | _ => .never
def Lu (o : Oper) : Bool := match o.op with | .load _ _ => false | _ => true
def AR (P : Program) (o : Oper) (fl : Nat) : bV := if fl = 3000 then mQ P o else if 3000 < fl ∧ Lu o = true then kz (fl - 3000) o else (cc P o fl).getD (pI P o)
end Go.aK
end
section
namespace Go.aK
open Go
section
variable {ro : Option Nat} {P : Program} {lo : Option Nat} {A : Perm} {n : Nat} {M : Mem} {L : List Nat} {w : World} {H : List aa} {env : Env} {O : Pos → Option Nat} {a : Act} {Q : Exit → Act → World → Prop} {K : Env → List aa → Prop}
theorem bK {o : Oper} (hf : Fr A n M L w H env O a) (hd : ∀ d, o.dst = some d → d < n)
 (h : ∃ r z, (execOp a.eval o).run P w = .ok (.value r) w ∧ aQ M L r z ∧ K (put o.dst z env) H ∧ ∀ own xs, z = .ap own xs → own = 0) : o.wpIn (wf ro) 0 P a w (mD A n M L w K) Q := by
 obtain ⟨r, z, h1, h2, h3, h4⟩ := h
 exact wp_pure hf hd h1 h2 h4 h3
theorem aU {s : Sem Value} {r : Value} {w' : World} (h : s.run P w = .ok r w') : (do pure (Next.value (← s)) : Sem Next).run P w = .ok (.value r) w' := by
 simp only [Sem.run_bind, h, Result.andThen_ok, Sem.run_pure]
theorem pJ {s : Sem Unit} {w' : World} (h : s.run P w = .ok () w') : (do s; pure Next.skip : Sem Next).run P w = .ok .skip w' := by
 simp only [Sem.run_bind, h, Result.andThen_ok, Sem.run_pure]
theorem nK {o : Oper} (hf : Fr A n M L w H env O a) (hd : ∀ d, o.dst = some d → d < n) {r : Value} {z : AV} {w' : World} {M' : Mem} {L' : List Nat} {H' : List aa} (bG : (execOp a.eval o).run P w = .ok (.value r) w')
 (hr : aQ M' L' r z) (hz : ∀ own xs, z = .ap own xs → own = 0) (bP : St A M' L' w' H' (fun t => a.tmps.getD t undef) (get env) O) (cq : Ext A M w M' w') (hL : L <+: L') (hK : K (put o.dst z env) H') : o.wpIn (wf ro) 0 P a w (mD A n M L w K) Q := by
 obtain ⟨O', oR⟩ := (hf.mono bP cq).om hd hr hz
 exact c9 bG ⟨M', L', H', _, O', hK, oR, cq, hL⟩
theorem uh {o : Oper} {aC : Env} {O' : Pos → Option Nat} (hf : Fr A n M L w H env O a) (hd : ∀ d, o.dst = some d → d < n) {r : Value} {z : AV} {w' : World} {M' : Mem} {ob : Option Nat} (bG : (execOp a.eval o).run P w = .ok (.value r) w')
 (hr : aQ M' L r z) (KM : bb M' w' r z ob) (bP : St A M' L w' H (fun t => a.tmps.getD t undef) (get aC) O') (cq : Ext A M w M' w') (h1 : ∀ q b, ob = some b → O' q ≠ some b) (h2 : ∀ b, ob = some b → b ∉ L ∧ b < w'.heap.size ∧ A b) (hK : K (put o.dst z aC) H) : o.wpIn (wf ro) 0 P a w (mD A n M L w K) Q := by
 have oR : Fr A n M' L w' H aC O' a := ⟨bP, hf.size, hf.defers.ext cq⟩
 refine c9 bG ?_
 cases fM : o.dst with
 | none => rw [fM] at hK; exact ⟨M', L, H, _, O', hK, oR, cq, List.prefix_refl L⟩
 | some d =>
   rw [fM] at hK
   exact ⟨M', L, H, _, _, hK, oR.CR (hd d fM) hr ob KM (fun q b hb hq => absurd hq (h1 q b hb)) h2, cq, List.prefix_refl L⟩
theorem xi {o : Oper} {x : Operand} (ho : o.op = .move x ∨ o.op = .assign x) {i : IX} (hc : aP x = some i) {take : Bool} (hf : Fr A n M L w H env O a) (hd : ∀ d, o.dst = some d → d < n)
 (h : bp ⟨P, lo⟩ (.set i take) o.dst env H K) : o.wpIn (wf ro) 0 P a w (mD A n M L w K) Q := by
 have bG : (execOp a.eval o).run P w = .ok (.value (a.eval x)) w := by
  rcases ho with ho | ho <;> simp [execOp, ho]
 have hr := hf.eval hc
 simp only [bp] at h
 cases fM : o.dst with
 | none =>
   rw [fM] at h
   refine c9 bG ⟨M, L, H, env, O, h, ?_, Ext.refl A M w, List.prefix_refl L⟩
   rw [fM]; exact hf
 | some d =>
   rw [fM] at h
   have TB := hd d fM
   have h : K (sU env d i take) H := h
   unfold sU at h
   split at h
   ·rename_i s _
    -- the list moves
    cases x with
    | tmp t =>
      have hts : t = s := by simpa [aP] using hc
      subst hts
      have mO := hf.st.om t (v := a.tmps.getD t undef) (x := (get env t).ab) (hf.st.env t).ab (AV.bI _)
      have Tn : fa (fun t => a.tmps.getD t undef) t (a.tmps.getD t undef) = fun t => a.tmps.getD t undef := by funext t'; simp only [fa]; split; rename_i e0; rw [e0]; rfl
      rw [Tn] at mO
      have ED : Fr A n M L w H ((t, (get env t).ab) :: env) (dS O (.t t) none) a := ⟨mO, hf.size, hf.defers⟩
      have sm := ED.CR TB (v := a.tmps.getD t undef) (x := get env t) (hf.st.env t) (O (.t t)) (hf.st.gF t) (fun p b hb hp => by
       simp only [dS] at hp
       split at hp
       ·cases hp
       ·rename_i n'; exact absurd (hf.st.bX _ _ b hp hb) n') (fun b hb => ⟨hf.st.cb _ b hb, hf.st.eR _ b hb, hf.st.Oa _ b hb⟩)
      rw [← fM] at sm
      exact c9 bG ⟨M, L, H, _, _, h, sm, Ext.refl A M w, List.prefix_refl L⟩
    | const v => simp only [aP] at hc; obtain ⟨y, _, hy⟩ := Option.map_eq_some_iff.1 hc; cases hy
    | func f => simp [aP] at hc
    | global g => simp [aP] at hc
   ·have sm := hf.CR TB hr.ab none (bb.free (AV.bI _)) (fun p b e => by cases e) (fun b e => by cases e)
    rw [← fM] at sm
    exact c9 bG ⟨M, L, H, _, _, h, sm, Ext.refl A M w, List.prefix_refl L⟩
theorem ui {o : Oper} {t : TypeId} {x : Operand} (ho : o.op = .load t x) (ht : HA P t = some none) {i : IX} (hc : aP x = some i) (hf : Fr A n M L w H env O a) (hd : ∀ d, o.dst = some d → d < n)
 (h : bp ⟨P, lo⟩ (.dZ i) o.dst env H K) : o.wpIn (wf ro) 0 P a w (mD A n M L w K) Q := by
 have hr := hf.eval hc
 simp only [bp] at h
 split at h <;> try exact h.elim
 rename_i d id off fM hx
 split at h <;> try exact h.elim
 rename_i es bm
 obtain ⟨oo, hK⟩ := h
 rw [hx] at hr
 generalize hu : a.eval x = u at hr
 cases hr with
 | ptr b _ _ hl =>
 obtain ⟨cs, e, h1, h2, h3⟩ := eV hf.st bm hl
 have hlen := h2.length
 obtain ⟨r1, r2⟩ := ee (w := w) (m := 0) ht
 have yA : off < cs.toList.length := by omega
 have hcell := h3 off cs.toList[off] (by simp)
 have fj := h2.getD off
 have e0 : cs.toList.getD off undef = cs.toList[off] := by rw [List.getD_eq_getElem?_getD, List.getElem?_eq_getElem yA]; rfl
 rw [e0] at fj
 have bG : (execOp a.eval o).run P w = .ok (.value cs.toList[off]) w := by
  simp only [execOp, ho, hu]
  exact aU (by simp only [Instr.loadAt, Instr.sureAddr, loadVar, Sem.run_bind, Sem.run_pure, Result.andThen_ok, r1, Bool.false_eq_true, if_false, run_load, hcell])
 have bP := hf.st.FM bm hl oo
 have ED : Fr A n M L w (H.set id (.cells (es.set off (es.getD off .any).ab))) env (dS O (.c id off) none) a := ⟨bP, hf.size, hf.defers⟩
 have KM : bb M w cs.toList[off] (es.getD off .any) (O (.c id off)) := by
  have h0 := hf.st.gC id off
  have e3 : bJ L w id off = cs.toList[off] := by unfold bJ; simp only [hl, hcell]; rfl
  have e4 : bo H id off = es.getD off .any := by unfold bo; simp [bm]
  rwa [e3, e4] at h0
 have sm := ED.CR (hd d fM) fj (O (.c id off)) KM (fun p b hb hp => by
  simp only [dS] at hp
  split at hp
  ·cases hp
  ·rename_i n'; exact absurd (hf.st.bX _ _ b hp hb) n') (fun b hb => ⟨hf.st.cb _ b hb, hf.st.eR _ b hb, hf.st.Oa _ b hb⟩)
 rw [← fM] at sm
 exact c9 bG ⟨M, L, _, _, _, hK, sm, Ext.refl A M w, List.prefix_refl L⟩
theorem wy {o : Oper} {t : TypeId} {x y : Operand} (ho : o.op = .store t x y) (ht : dz P t = some 1) {i : IX} {s : Nat} (hc : aP x = some i) (hy : aP y = some (.t s)) (hf : Fr A n M L w H env O a)
 (fM : o.dst = none) (h : bp ⟨P, lo⟩ (.eT i s) o.dst env H K) : o.wpIn (wf ro) 0 P a w (mD A n M L w K) Q := by
 have hr := hf.eval hc
 simp only [bp] at h
 have py : y = .tmp s := by
  cases y with
  | tmp t => simp [aP] at hy; rw [hy]
  | const v => simp only [aP] at hy; obtain ⟨z, _, hz⟩ := Option.map_eq_some_iff.1 hy; cases hz
  | func f => simp [aP] at hy
  | global g => simp [aP] at hy
 subst py
 obtain ⟨w', H', O', h1, h2, h3, h4⟩ := yB (P := P) hf.st ht h hr s rfl rfl
 have bG : (execOp a.eval o).run P w = .ok .skip w' := by
  simp only [execOp, ho]
  exact pJ h1
 have sm : Fr A n M L w' H' ((s, (get env s).ab) :: env) O' (a.put o.dst undef) := by
  rw [fM]; exact ⟨h3, hf.size, hf.defers.ext h4⟩
 exact lf bG ⟨M, L, H', _, O', h2, sm, h4, List.prefix_refl L⟩
theorem yN {o : Oper} {t e : TypeId} {s x : Operand} (ho : o.op = .call { callee := .builtin .append, args := #[s, x], argTypes := #[t, t] }) (ht : P.underlying t = some (.slice e)) {esz bytes : Nat} {z : AV} (hz : cP P e = some (esz, z)) (hb : yM P e = some bytes) (ub : 0 < bytes)
 {i j : IX} (hi : aP s = some i) (hj : aP x = some j) (hf : Fr A n M L w H env O a) (hd : ∀ d, o.dst = some d → d < n)
 (h : bp ⟨P, lo⟩ (.append esz bytes i j) o.dst env H K) : o.wpIn (wf ro) 0 P a w (mD A n M L w K) Q := by
 simp only [bp] at h
 have wz := hf.eval hi
 have X3 := hf.eval hj
 unfold cP at hz
 split at hz <;> try cases hz
 rename_i esz' z' Oe oq
 split at hz <;> cases hz
 rename_i hcond
 obtain ⟨h0, iE, sf⟩ := hcond
 obtain ⟨inf, iC, cW⟩ := Option.map_eq_some_iff.1 Oe
 obtain ⟨inf', sn, xa⟩ := Option.map_eq_some_iff.1 hb
 rw [iC] at sn; cases sn
 unfold ft at oq
 simp only [iC] at oq
 split at oq <;> try cases oq
 rename_i zv tZ
 have tg : zv.cells.size = esz := by have := ((cw (M := M) (L := L) oq).fJ sf).length; rw [iE] at this; simpa using this
 have Ll : match i.slot with | some d => (fun t => a.tmps.getD t undef) d = a.eval s ∧ get env d = al env i | none => al env i = .ah := by
  cases s with
  | tmp t => simp [aP] at hi; subst hi; exact ⟨rfl, rfl⟩
  | const v =>
    simp only [aP] at hi
    obtain ⟨y, hy, rfl⟩ := Option.map_eq_some_iff.1 hi
    simp only [IX.slot, al]
    have h2 := h
    simp only [al, bE] at h2
    split at h2 <;> try exact h2.elim
    rename_i fp _
    unfold me at fp
    split at fp
    ·rfl
    ·-- a constant is never an owned list
     exfalso
     unfold ofValue at hy
     split at hy
     ·obtain ⟨_, _, hq⟩ := Option.map_eq_some_iff.1 hy; cases hq
     ·unfold Tk at hy; split at hy <;> cases hy
    ·cases fp
  | func f =>
    simp [aP] at hi; subst hi
    simp only [al, bE, me] at h
  | global g => simp [aP] at hi
 obtain ⟨r, w', M', O', ob, zs, g1, g2, g3, g4, g5, g6, g7, g8⟩ := AH (P := P) (ty := o.type) hf.st ht iC tZ cW xa tg h0 ub h i.slot wz Ll X3
 have bG : (execOp a.eval o).run P w = .ok (.value r) w' := by
  simp only [execOp, ho, resolve, invoke, builtin, Sem.run_bind, Sem.run_pure, Result.andThen_ok, List.map_toArray, List.map_cons, List.map_nil, g1]
 have CQ : jZ (get env) i.slot = get (cC env i.slot) := by
  cases i.slot with
  | none => rfl
  | some d => rfl
 rw [CQ] at g5
 exact uh hf hd bG g3 g4 g5 g6 g7 g8 g2
theorem wA {o : Oper} {t e : TypeId} {s x : Operand} (ho : o.op = .call { callee := .builtin .append, args := #[s, x], argTypes := #[t, t] }) (ht : P.underlying t = some (.slice e)) {esz bytes : Nat} {z : AV} (hz : cP P e = some (esz, z)) (hb : yM P e = some bytes) (ub : 0 < bytes) (Ih : C8 z = true)
 {i j : IX} (hi : aP s = some i) (hj : aP x = some j) (hf : Fr A n M L w H env O a) (hd : ∀ d, o.dst = some d → d < n)
 (h : bp ⟨P, lo⟩ (.iS esz bytes z i j) o.dst env H K) : o.wpIn (wf ro) 0 P a w (mD A n M L w K) Q := by
 simp only [bp] at h
 have wz := hf.eval hi
 have X3 := hf.eval hj
 unfold cP at hz
 split at hz <;> try cases hz
 rename_i esz' z' Oe oq
 split at hz <;> cases hz
 rename_i hcond
 obtain ⟨h0, iE, sf⟩ := hcond
 obtain ⟨inf, iC, cW⟩ := Option.map_eq_some_iff.1 Oe
 obtain ⟨inf', sn, xa⟩ := Option.map_eq_some_iff.1 hb
 rw [iC] at sn; cases sn
 unfold ft at oq
 simp only [iC] at oq
 split at oq <;> try cases oq
 rename_i zv tZ
 have H8 : ∀ y ∈ z.cells, ∀ own xs, y = .ap own xs → own = 0 := by
  intro y hy own xs e
  have := List.all_eq_true.1 Ih y hy
  subst e
  simpa using this
 obtain ⟨r, y, L', w', H', O', g1, g2, g3, g4, g5, g6, g7⟩ := yL (P := P) (ty := o.type) hf.st ht iC tZ cW xa h0 ub oq sf iE H8 h wz X3
 have bG : (execOp a.eval o).run P w = .ok (.value r) w' := by
  simp only [execOp, ho, resolve, invoke, builtin, Sem.run_bind, Sem.run_pure, Result.andThen_ok, List.map_toArray, List.map_cons, List.map_nil, g1]
 have ED : Fr A n M L' w' H' env O' a := ⟨g5, hf.size, hf.defers.ext g6⟩
 obtain ⟨O'', oR⟩ := ED.om hd g2 g3
 exact c9 bG ⟨M, L', H', _, O'', g4, oR, g6, g7⟩
theorem EE : ∀ {xs ys : List AV}, xh xs ys → xs.length = ys.length ∧ ∀ t, (xs.getD t .any).le (ys.getD t .any)
 | [], [], _ => ⟨rfl, fun t => .inl rfl⟩
 | [], _ :: _, h => h.elim
 | _ :: _, [], h => h.elim
 | x :: xs, y :: ys, h => by
   obtain ⟨h1, h2⟩ := h
   obtain ⟨i1, i2⟩ := EE h2
   refine ⟨by simp [i1], fun t => ?_⟩
   cases t with
   | zero => simpa using h1
   | succ t => simpa using i2 t
theorem dt (env : Env) (pass : Option Nat) : ∀ (j : Nat) (xs : List IX), (aE env pass j xs).length = xs.length
 | _, [] => rfl
 | j, .t s :: xs => by simp [aE, dt env pass (j + 1) xs]
 | j, .c v :: xs => by simp [aE, dt env pass (j + 1) xs]
theorem iU (hf : Fr A n M L w H env O a) (pass : Option Nat) : ∀ {xs : List Operand} {is : List IX} (j : Nat), fh xs = some is → aJ M L (xs.map a.eval) (aE env pass j is)
 | [], is, j, hc => by simp [fh] at hc; subst hc; exact .nil
 | x :: xs, is, j, hc => by
   unfold fh at hc
   split at hc
   ·rename_i i is' h1 h2
    cases hc
    have hr := hf.eval h1
    cases i with
    | t s =>
      refine .cons _ _ _ _ ?_ (iU hf pass (j + 1) h2)
      split
      ·exact hr
      ·exact hr.ab
    | c v => exact .cons _ _ _ _ hr.ab (iU hf pass (j + 1) h2)
   ·cases hc
def dk (A : Perm) (loose : Bool) (H : List aa) (L : List Nat) (O : Pos → Option Nat) (w : World) : Perm where
 wr := fun b => b ∈ L ∨ (∃ p, O p = some b) ∨ w.heap.size ≤ b
 top := fun id => if id < H.length then some (A.iY H.length id) else if loose = true then none else some (id + 1)
 ok := by
  intro id n h
  split at h
  ·rename_i h1
   cases h
   have := A.kZ h1
   omega
  ·split at h
   ·cases h
   ·cases h; omega
theorem kc (A : Perm) (loose : Bool) (H : List aa) (L : List Nat) (O : Pos → Option Nat) (w : World) : (dk A loose H L O w).entry loose H.length :=
 ⟨fun id h => ⟨A.iY H.length id, A.tS _ _, by simp only [dk, if_pos h]⟩, fun id h => by simp only [dk]; rw [if_neg (by omega)]⟩
theorem so (A : Perm) (loose : Bool) (H : List aa) (L : List Nat) (O : Pos → Option Nat) (w : World) {id : Nat} (h : id < H.length) (len : Nat) : (dk A loose H L O w).iY len id = min (A.iY H.length id) len := by
 unfold Perm.iY
 simp only [dk, if_pos h]
 rfl
theorem St.narrow {ev : Nat → Value} {ea : Nat → AV} (loose : Bool) (h : St A M L w H ev ea O) : St (dk A loose H L O w) M L w H ev ea O :=
 { len := h.len, nodup := h.nodup, env := h.env, mem := h.mem, obj := h.obj, lt := h.lt, gF := h.gF, gC := h.gC, bX := h.bX, cb := h.cb, eR := h.eR,
   bB := fun id o ho => by
    rw [so A loose H L O w (aM ho), Nat.min_eq_left (A.tS _ _)]
    exact h.bB id o ho
   La := fun b hb => .inl hb, Oa := fun p b hp => .inr (.inl ⟨p, hp⟩), fresh := fun b hb => .inr (.inr hb) }
theorem St.pK {ev : Nat → Value} {ea : Nat → AV} (h : St A M L w H ev ea O) (ev' : Nat → Value) (ea' : Nat → AV) (hr : ∀ t, aQ M L (ev' t) (ea' t)) (hx : ∀ t own xs, ea' t = .ap own xs → own = 0) :
 St A M L w H ev' ea' (fun p => match p with | .t _ => none | .c id j => O (.c id j)) := by
 have hO : ∀ (p : Pos) (b : Nat), (match p with | .t _ => none | .c id j => O (.c id j)) = some b → O p = some b := by
  intro p b hp
  cases p with
  | t t => cases hp
  | c id j => exact hp
 exact { len := h.len, nodup := h.nodup, env := hr, mem := h.mem, obj := h.obj, bB := h.bB, lt := h.lt, gF := fun t => bb.free (hx t), gC := h.gC, bX := fun p q b hp hq => h.bX p q b (hO p b hp) (hO q b hq),
         cb := fun p b hp => h.cb p b (hO p b hp), eR := fun p b hp => h.eR p b (hO p b hp), La := h.La, Oa := fun p b hp => h.Oa p b (hO p b hp), fresh := h.fresh }
theorem St.FV {ev : Nat → Value} {ea : Nat → AV} (h : St A M L w H ev ea O) {Oc : Pos → Option Nat} (pt : Option Nat) (loose : Bool) (ua : loose = true → ∀ id, H.length ≤ id → A.top id = none) (Xn : ∀ b, (∃ p, Oc p = some b) → (∃ id j, O (.c id j) = some b) ∨ ∃ s, pt = some s ∧ O (.t s) = some b)
 {M' : Mem} {L' : List Nat} {w' : World} {H' : List aa} {v : Value} {r : AV} {O' : Pos → Option Nat}
 (h' : St (dk A loose H L Oc w) M' L' w' H' (fa (fun _ => undef) 0 v) (fa (fun _ => .any) 0 r) O') (cq : Ext (dk A loose H L Oc w) M w M' w') (hL : L <+: L') :
 ∃ O'', St A M' L' w' H' ev (jZ ea pt) O'' ∧ Ext A M w M' w' ∧ aQ M' L' v r ∧ bb M' w' v r (O' (.t 0)) ∧ (∀ q b, O' (.t 0) = some b → O'' q ≠ some b) ∧ (∀ b, O' (.t 0) = some b → b ∉ L' ∧ b < w'.heap.size ∧ A b) := by
 have hlen : H.length ≤ H'.length := by
  have := hL.length_le
  rw [h.len, h'.len] at this
  exact this
 have Xo : ∀ b, dk A loose H L Oc w b → A b := by
  rintro b (hb | hb | hb)
  ·exact h.La b hb
  ·rcases Xn b hb with ⟨id, j, hq⟩ | ⟨s, _, hq⟩
   ·exact h.Oa _ b hq
   ·exact h.Oa _ b hq
  ·exact h.fresh b hb
 let O'' : Pos → Option Nat := fun p => match p with
  | .t i => if pt = some i then none else O (.t i)
  | .c id j => O' (.c id j)
 -- what the caller keeps is not the callee's to write
 have jV : ∀ i b, pt ≠ some i → O (.t i) = some b → ¬ dk A loose H L Oc w b := by
  rintro i b hi hb (hc | hc | hc)
  ·exact h.cb _ b hb hc
  ·rcases Xn b hc with ⟨id, j, hq⟩ | ⟨s, hs, hq⟩
   ·have := h.bX _ _ b hb hq; cases this
   ·have := h.bX _ _ b hb hq; cases this; exact hi hs
  ·have := h.eR _ b hb; omega
 have FW : ∀ i b, O'' (.t i) = some b → pt ≠ some i ∧ O (.t i) = some b := by
  intro i b hb
  simp only [O''] at hb
  split at hb
  ·cases hb
  ·rename_i hi; exact ⟨hi, hb⟩
 have PI : ∀ i b p, O'' (.t i) = some b → O' p ≠ some b := by
  intro i b p hb hp
  obtain ⟨h1, h2⟩ := FW i b hb
  exact jV i b h1 h2 (h'.Oa p b hp)
 refine ⟨O'', { len := h'.len, nodup := h'.nodup, env := ?_, mem := h'.mem, obj := h'.obj, bB := ?_, lt := h'.lt, gF := ?_, gC := h'.gC, bX := ?_, cb := ?_, eR := ?_, La := fun b hb => Xo b (h'.La b hb), Oa := ?_, fresh := fun b hb => h.fresh b (Nat.le_trans cq.size hb) }, ?_, ?_, ?_, ?_, ?_⟩
 ·intro t
  have := (h.env t).mono cq.kv hL
  cases pt with
  | none => exact this
  | some d =>
    simp only [jZ, fa]
    split
    ·rename_i e0; subst e0; exact this.ab
    ·exact this
 ·intro id o ho
  have h1 := h'.bB id o ho
  have hl := aM ho
  by_cases e : id < H.length
  ·rw [so A loose H L Oc w e] at h1
   exact aa.cD (Nat.le_trans (Nat.min_le_left _ _) (A.Av hlen id)) o h1
  ·by_cases hx : loose = true
   ·have e1 : A.iY H'.length id = H'.length := by unfold Perm.iY; rw [ua hx id (by omega)]
    rw [e1]
    exact aa.cD (Perm.tS _ _ _) o h1
   ·have e1 : (dk A loose H L Oc w).iY H'.length id = min (id + 1) H'.length := by
     unfold Perm.iY
     simp only [dk, if_neg e, if_neg hx]
    rw [e1] at h1
    exact aa.cD (Nat.le_trans (Nat.min_le_left _ _) (A.kZ hl)) o h1
 ·intro t
  have h1 := h.gF t
  cases pt with
  | none =>
    exact h1.mono fun b hb => cq.jV b (h.eR _ b hb) (jV t b (by simp) hb)
  | some d =>
    simp only [jZ, fa, O'']
    by_cases e0 : t = d
    ·subst e0
     simp only [if_true]
     exact bb.free (AV.bI _)
    ·have : ¬ (some d = some t) := fun e => e0 (by cases e; rfl)
     simp only [e0, this, if_false]
     exact h1.mono fun b hb => cq.jV b (h.eR _ b hb) (jV t b this hb)
 ·intro p q b hp hq
  cases p with
  | t i =>
    cases q with
    | t j => exact h.bX _ _ b (FW i b hp).2 (FW j b hq).2
    | c id j => exact absurd hq (PI i b _ hp)
  | c id j =>
    cases q with
    | t i => exact absurd hp (PI i b _ hq)
    | c id' j' => exact h'.bX _ _ b hp hq
 ·intro p b hp hm
  cases p with
  | t i => exact jV i b (FW i b hp).1 (FW i b hp).2 (h'.La b hm)
  | c id j => exact h'.cb _ b hp hm
 ·intro p b hp
  cases p with
  | t i => exact Nat.lt_of_lt_of_le (h.eR _ b (FW i b hp).2) cq.size
  | c id j => exact h'.eR _ b hp
 ·intro p b hp
  cases p with
  | t i => exact h.Oa _ b (FW i b hp).2
  | c id j => exact Xo b (h'.Oa _ b hp)
 ·exact ⟨cq.kv, cq.size, cq.os, cq.tape, cq.output, fun b hb hA => cq.jV b hb (fun hc => hA (Xo b hc)), cq.loops⟩
 ·simpa [fa] using h'.env 0
 ·simpa [fa] using h'.gF 0
 ·intro q b hb hq
  cases q with
  | t i => exact PI i b _ hq hb
  | c id j => have := h'.bX _ _ b hb hq; cases this
 ·intro b hb
  exact ⟨h'.cb _ b hb, h'.eR _ b hb, Xo b (h'.Oa _ b hb)⟩
theorem fx (env : Env) : ∀ (xs : List IX) (j t : Nat), (aE env none j xs).getD t .any = (match xs[t]? with | some x => (al env x).ab | none => .any)
 | [], j, t => by simp [aE]
 | .t s :: xs, j, 0 => by simp [aE, al]
 | .c v :: xs, j, 0 => by simp [aE, al]
 | .t s :: xs, j, t + 1 => by
   simp only [aE, List.getD_cons_succ, List.getElem?_cons_succ]
   exact fx env xs (j + 1) t
 | .c v :: xs, j, t + 1 => by
   simp only [aE, List.getD_cons_succ, List.getElem?_cons_succ]
   exact fx env xs (j + 1) t
theorem fy (env : Env) (k : Nat) : ∀ (xs : List IX) (j t : Nat), (aE env (some k) j xs).getD t .any = (match xs[t]? with | some (.t s) => if k = j + t then get env s else (get env s).ab | some (.c v) => v.ab | none => .any)
 | [], j, t => by simp [aE]
 | .t s :: xs, j, 0 => by simp [aE]
 | .c v :: xs, j, 0 => by simp [aE]
 | .t s :: xs, j, t + 1 => by
   simp only [aE, List.getD_cons_succ, List.getElem?_cons_succ]
   rw [fy env k xs (j + 1) t, show j + 1 + t = j + (t + 1) by omega]
 | .c v :: xs, j, t + 1 => by
   simp only [aE, List.getD_cons_succ, List.getElem?_cons_succ]
   rw [fy env k xs (j + 1) t, show j + 1 + t = j + (t + 1) by omega]
theorem pL (vs : List Value) (t : Nat) : vs.toArray.getD t undef = vs.getD t undef := by
 simp [List.getD_eq_getElem?_getD]
theorem kA (xs ys zs : List AV) (t : Nat) : (xs ++ ys ++ zs).getD t .any = if t < xs.length then xs.getD t .any else if t < xs.length + ys.length then ys.getD (t - xs.length) .any else zs.getD (t - xs.length - ys.length) .any := by
 simp only [List.getD_eq_getElem?_getD, List.getElem?_append, List.length_append]
 by_cases h1 : t < xs.length
 ·rw [if_pos (by omega), if_pos h1, if_pos h1]
 ·by_cases h2 : t < xs.length + ys.length
  ·rw [if_pos h2, if_neg h1, if_neg h1, if_pos h2]
  ·rw [if_neg h2, if_neg h1, if_neg h2, Nat.sub_sub]
theorem qX {o : Oper} {xs : List Operand} {js : List IX} (SZ : fh xs = some js) {pass : Option Nat} {fs cs : List Value} {first cap : List AV} (yO : aJ M L fs first) (qV : aJ M L cs cap) {bO : List AV}
 (hle : xh (first.map AV.ab ++ aE env pass 0 js ++ cap.map AV.ab) bO) (hf : Fr A n M L w H env O a) (hd : ∀ d, o.dst = some d → d < n) {loose : Bool} (ua : loose = true → ∀ id, H.length ≤ id → A.top id = none) :
 ∃ Oc, (fs ++ xs.map a.eval ++ cs).length = bO.length ∧ St (dk A loose H L Oc w) M L w H (fun t => (fs ++ xs.map a.eval ++ cs).toArray.getD t undef) (fun t => bO.getD t .any) Oc ∧
  ∀ (v : Value) (r : AV) (H' : List aa) (M' : Mem) (L' : List Nat) (O' : Pos → Option Nat) (w' : World), K (put o.dst r (cC env (bc js pass))) H' → St (dk A loose H L Oc w) M' L' w' H' (fa (fun _ => undef) 0 v) (fa (fun _ => .any) 0 r) O' → Ext (dk A loose H L Oc w) M w M' w' → L <+: L' →
   mD A n M L w K (a.put o.dst v) w' := by
 have hrb := iU hf pass 0 SZ
 have X4 := iU hf none 0 SZ
 obtain ⟨hlen, X5⟩ := EE hle
 obtain ⟨vs, wj⟩ : ∃ vs : List Value, vs = fs ++ xs.map a.eval ++ cs := ⟨_, rfl⟩
 have hrv : aJ M L vs (first.map AV.ab ++ aE env pass 0 js ++ cap.map AV.ab) := by rw [wj]; exact (yO.cS.append hrb).append qV.cS
 have X6 : aJ M L vs (first.map AV.ab ++ aE env none 0 js ++ cap.map AV.ab) := by rw [wj]; exact (yO.cS.append X4).append qV.cS
 have pF : vs.length = bO.length := by rw [hrv.length]; exact hlen
 -- the callee's state
 have X7 : ∃ Oc, St A M L w H (fun t => vs.toArray.getD t undef) (fun t => bO.getD t .any) Oc ∧ (∀ b, (∃ p, Oc p = some b) → (∃ id j, O (.c id j) = some b) ∨ ∃ s, bc js pass = some s ∧ O (.t s) = some b) := by
  have hfree : ∀ t own zs, (first.map AV.ab ++ aE env none 0 js ++ cap.map AV.ab).getD t .any = .ap own zs → own = 0 := by
   intro t own zs he
   have hm : ∀ (l : List AV) q, (l.map AV.ab).getD q .any = .ap own zs → own = 0 := by
    intro l q hq
    rw [List.getD_eq_getElem?_getD, List.getElem?_map] at hq
    cases hx : l[q]? with
    | none => simp [hx] at hq
    | some y => simp [hx] at hq; exact AV.bI y own zs hq
   rw [kA] at he
   split at he
   ·exact hm _ _ he
   ·split at he
    ·rw [fx] at he
     split at he
     ·exact AV.bI _ own zs he
     ·cases he
    ·exact hm _ _ he
  have h0 := hf.st.pK (fun t => vs.toArray.getD t undef) (fun t => (first.map AV.ab ++ aE env none 0 js ++ cap.map AV.ab).getD t .any) (fun t => by rw [pL]; exact X6.getD t) hfree
  -- then the one that is handed over
  have h1 : ∃ O1, St A M L w H (fun t => vs.toArray.getD t undef) (fun t => (first.map AV.ab ++ aE env pass 0 js ++ cap.map AV.ab).getD t .any) O1 ∧ (∀ b, (∃ p, O1 p = some b) → (∃ id j, O (.c id j) = some b) ∨ ∃ s, bc js pass = some s ∧ O (.t s) = some b) := by
   cases pB : bc js pass with
   | none =>
     refine ⟨_, h0.congr (fun _ => rfl) (fun t => ?_), ?_⟩
     ·rw [kA, kA, dt, dt]
      split
      ·rfl
      ·split
       ·cases pass with
        | none => rfl
        | some k =>
          rw [fx, fy]
          unfold bc at pB
          simp only at pB
          cases hx : js[t - (first.map AV.ab).length]? with
          | none => rfl
          | some x =>
            cases x with
            | c v => rfl
            | t s =>
              simp only
              rw [if_neg]
              ·rfl
              ·intro e
               rw [Nat.zero_add] at e
               rw [e, hx] at pB
               simp at pB
       ·rfl
     ·rintro b ⟨p, hp⟩
      cases p with
      | t t => cases hp
      | c id j => exact .inl ⟨id, j, hp⟩
   | some s =>
     -- where it stands
     obtain ⟨k, rfl, Of⟩ : ∃ k, pass = some k ∧ js[k]? = some (.t s) := by
      unfold bc at pB
      split at pB
      ·rename_i k
       split at pB
       ·rename_i s' TC; cases pB; exact ⟨k, rfl, TC⟩
       ·cases pB
      ·cases pB
     have EF : k < js.length := aM Of
     have hargs : ∀ (xs : List Operand) (is : List IX), fh xs = some is → ∀ (q s : Nat), is[q]? = some (IX.t s) → xs[q]? = some (Operand.tmp s) := by
      intro xs
      induction xs with
      | nil => intro is hc q s hq; simp [fh] at hc; subst hc; simp at hq
      | cons x xs ih =>
        intro is hc q s hq
        unfold fh at hc
        split at hc
        ·rename_i i is' e1 e2
         cases hc
         cases q with
         | zero =>
           simp at hq; subst hq
           cases x with
           | tmp t => simp [aP] at e1; simp [e1]
           | const v => simp only [aP] at e1; obtain ⟨_, _, hz⟩ := Option.map_eq_some_iff.1 e1; cases hz
           | func f => simp [aP] at e1
           | global g => simp [aP] at e1
         | succ q => simpa using ih is' e2 q s (by simpa using hq)
        ·cases hc
     have cH := hargs _ _ SZ k s Of
     have mq : vs[first.length + k]? = some (a.tmps.getD s undef) := by
      have Lr : fs.length = first.length := yO.length
      rw [wj]
      rw [List.append_assoc, List.getElem?_append_right (by omega), Lr, show first.length + k - first.length = k by omega, List.getElem?_append_left (by simpa using aM cH), List.getElem?_map, cH]
      rfl
     have mO := h0.put (first.length + k) (v := a.tmps.getD s undef) (x := get env s) (hf.st.env s) (O (.t s)) (hf.st.gF s) (fun p b hb hp => by
      cases p with
      | t t => cases hp
      | c id j => have := hf.st.bX _ _ b hb hp; cases this) (fun b hb => ⟨hf.st.cb _ b hb, hf.st.eR _ b hb, hf.st.Oa _ b hb⟩)
     refine ⟨_, mO.congr (fun t => ?_) (fun t => ?_), ?_⟩
     ·simp only [fa]
      split
      ·rename_i e; subst e
       rw [pL, List.getD_eq_getElem?_getD, mq]; rfl
      ·rfl
     ·simp only [fa]
      rw [kA, kA, dt, dt]
      simp only [List.length_map]
      by_cases e : t = first.length + k
      ·subst e
       rw [if_pos rfl, if_neg (by omega), if_pos (by omega), show first.length + k - first.length = k by omega, fy, Of]
       simp
      ·rw [if_neg e]
       split
       ·rfl
       ·split
        ·rw [fx, fy]
         cases hx : js[t - first.length]? with
         | none => rfl
         | some x =>
           cases x with
           | c v => rfl
           | t s =>
             simp only
             rw [if_neg (by omega)]
             rfl
        ·rfl
     ·rintro b ⟨p, hp⟩
      simp only [dS] at hp
      split at hp
      ·exact .inr ⟨s, rfl, hp⟩
      ·cases p with
       | t t => cases hp
       | c id j => exact .inl ⟨id, j, hp⟩
  obtain ⟨O1, g1, g2⟩ := h1
  obtain ⟨O2, g3, g4⟩ := g1.Ey (ea' := fun t => bO.getD t .any) X5
  exact ⟨O2, g3, fun b ⟨p, hp⟩ => g2 b ⟨p, g4 p b hp⟩⟩
 obtain ⟨Oc, bP, Xn⟩ := X7
 refine ⟨Oc, by rw [← wj]; exact pF, by rw [← wj]; exact bP.narrow loose, ?_⟩
 intro v r H' M' L' O' w' hK lj cq hL
 obtain ⟨O'', k1, k2, k3, k4, k5, k6⟩ := hf.st.FV (bc js pass) loose ua Xn lj cq hL
 have CQ : jZ (get env) (bc js pass) = get (cC env (bc js pass)) := by
  cases bc js pass <;> rfl
 rw [CQ] at k1
 have oR : Fr A n M' L' w' H' (cC env (bc js pass)) O'' a := ⟨k1, hf.size, hf.defers.ext k2⟩
 show mD A n M L w K (a.put o.dst v) w'
 cases fM : o.dst with
 | none => rw [fM] at hK; exact ⟨M', L', H', _, O'', hK, oR, k2, hL⟩
 | some d =>
   rw [fM] at hK
   exact ⟨M', L', H', _, _, hK, oR.CR (hd d fM) k3 (O' (.t 0)) k4 (fun q b hb hq => absurd hq (k5 q b hb)) k6, k2, hL⟩
theorem C9 {o : Oper} {c : Call} (ho : o.op = .call c) {f : Operand} (ms : c.callee = .value f) {i : IX} {js : List IX} (EG : aP f = some i) (SZ : fh c.args.toList = some js) {pass : Option Nat}
 (hp : ∀ l, lo = some l → ∀ id, l ≤ id → A.top id = none) (hf : Fr A n M L w H env O a) (hd : ∀ d, o.dst = some d → d < n) (h : bp ⟨P, lo⟩ (.call i js pass) o.dst env H K) : o.wpIn (wf ro) 0 P a w (mD A n M L w K) Q := by
 simp only [bp] at h
 have KP := hf.eval EG
 unfold oA at h
 split at h <;> try exact h.elim
 ·rename_i g first cap TD
  obtain ⟨bO, hle, hcall⟩ := h
  rw [TD] at KP
  generalize hu : a.eval f = u at KP
  cases KP with
  | fn _ fs cs _ _ yO qV =>
  obtain ⟨loose, ua, hcall⟩ : ∃ loose : Bool, (loose = true → ∀ id, H.length ≤ id → A.top id = none) ∧ j5 loose P g bO H fun r H' => K (put o.dst r (cC env (bc js pass))) H' := by
   unfold dU at hcall
   split at hcall
   ·exact ⟨false, by simp, hcall⟩
   ·rename_i l hl
    rcases hcall with hcall | ⟨h1, hcall⟩
    ·exact ⟨false, by simp, hcall⟩
    ·exact ⟨true, fun _ id bm => hp l hl id (by omega), hcall⟩
  obtain ⟨Oc, pF, bP, fin⟩ := qX (K := K) (o := o) SZ yO qV hle hf hd ua
  obtain ⟨vs, wj⟩ : ∃ vs : List Value, vs = fs ++ c.args.toList.map a.eval ++ cs := ⟨_, rfl⟩
  rw [← wj] at pF bP
  have bG : (execOp a.eval o).run P w = (callFunc g vs.toArray).run P w := by
   simp only [execOp, ho, resolve, ms, Deferred.ofValue, hu, invoke, Sem.run_bind, Sem.run_pure, Result.andThen_ok]
   have e1 : (fs.toArray ++ c.args.map a.eval ++ cs.toArray) = vs.toArray := by
    apply Array.ext'; simp [wj]
   rw [e1]
  rcases hcall (dk A loose H L Oc w) M L w vs.toArray Oc (kc A loose H L Oc w) (by simpa using pF) bP with ⟨h1, hc⟩ | ⟨v, w', r, H', M', L', O', h1, hK, lj, cq, hL⟩
  ·refine kw (bG.trans h1) (by intro d e; cases e) ⟨(fun h => by cases h), ?_⟩
   have oq : CallsIn (wf ro) (0 - 1) P g vs.toArray w _ := callsIn_wide.2 hc
   refine CallsIn.mono oq fun e w' he => ?_
   obtain ⟨v, r, H', M', L', O', rfl, hK, lj, cq, hL⟩ := he
   exact fin v r H' M' L' O' w' hK lj cq hL
  ·exact c9 (bG.trans h1) (fin v r H' M' L' O' w' hK lj cq hL)
 ·rename_i id TD
  obtain ⟨bO, hle, hcall⟩ := h
  rw [TD] at KP
  generalize hu : a.eval f = u at KP
  cases KP with
  | mF b _ hl =>
  obtain ⟨loose, ua, hcall⟩ : ∃ loose : Bool, (loose = true → ∀ id, H.length ≤ id → A.top id = none) ∧ eY loose P id bO H fun r H' => K (put o.dst r (cC env (bc js pass))) H' := by
   unfold ln at hcall
   split at hcall
   ·exact ⟨false, by simp, hcall⟩
   ·rename_i l hl
    rcases hcall with hcall | ⟨h1, hcall⟩
    ·exact ⟨false, by simp, hcall⟩
    ·exact ⟨true, fun _ id bm => hp l hl id (by omega), hcall⟩
  obtain ⟨Oc, pF, bP, fin⟩ := qX (K := K) (o := o) (fs := []) (cs := []) (first := []) (cap := []) SZ .nil .nil (by simpa using hle) hf hd ua
  simp only [List.nil_append, List.append_nil] at pF bP
  obtain ⟨fn, tmps, as, bd, h1, h2⟩ := hcall (dk A loose H L Oc w) M L w (c.args.toList.map a.eval).toArray Oc b (kc A loose H L Oc w) (by simpa using pF) hl bP
  have bG : (execOp a.eval o).run P w = .ok (.round b fn tmps as bd) w := by
   simp only [execOp, ho, resolve, ms, Deferred.ofValue, hu, invoke, Sem.run_bind, Sem.run_pure, Result.andThen_ok]
   have e1 : (#[] ++ c.args.map a.eval : Array Value) = (c.args.toList.map a.eval).toArray := by
    apply Array.ext'; simp
   rw [e1]
   exact h1
  refine kw bG (by intro d e; cases e) ⟨(fun h => by cases h), ?_⟩
  have oq : RoundIn (wf ro) (0 - 1) P b fn tmps as bd w _ := h2
  refine RoundIn.mono oq fun e w' he => ?_
  obtain ⟨v, r, H', M', L', O', rfl, hK, lj, cq, hL⟩ := he
  exact fin v r H' M' L' O' w' hK lj cq hL
end
end Go.aK
end
section
namespace Go.aK
open Go
section
variable {ro : Option Nat} {P : Program} {lo : Option Nat} {A : Perm} {n : Nat} {M : Mem} {L : List Nat} {w : World} {H : List aa} {env : Env} {O : Pos → Option Nat} {a : Act} {Q : Exit → Act → World → Prop} {K : Env → List aa → Prop}
theorem nL {x : AV} {φ : Bool → Prop} (h : eG x φ) : ∃ b, x = .bool b ∧ φ b := by
 unfold eG at h
 split at h
 ·exact ⟨_, rfl, h⟩
 ·exact h.elim
def gH (kd : Nat) : Value := match kd with | 0 => .slice none 0 0 | 1 => .pointer none | 2 => .map none | _ => .nilFunc
def pM (kd : Nat) (D : TypeDesc) : Bool := match kd, D with | 0, .slice _ => true | 1, .pointer _ => true | 2, .map _ _ => true | 3, .func _ _ _ => true | _, _ => false
theorem s7 {d kd : Nat} {t : TypeId} {D : TypeDesc} (ht : P.underlying t = some D) (hD : pM kd D = true) {u : Value} {x : AV} {b : Bool} (hx : isNil kd x = some b) (hu : aQ M L u x) : (Op.equalIn (d + 1) t u (gH kd)).run P w = .ok b w := by
 unfold isNil at hx
 split at hx <;> cases hx <;> cases D <;> simp [pM] at hD <;> cases hu <;> simp [Op.equalIn, run_underlying ht, gH]
theorem uj {kd : Nat} {neq : Bool} {t : TypeId} {D : TypeDesc} (ht : P.underlying t = some D) (hD : pM kd D = true) {u : Value} {x : AV} {φ : AV → Prop} (h : dc kd neq x φ) (hu : aQ M L u x) (X Y : Operand) :
 ∃ r z, (do eqGuard (if neq then .neq else .eql) t X Y u (gH kd); binOp (if neq then .neq else .eql) t u (gH kd) : Sem Value).run P w = .ok r w ∧ aQ M L r z ∧ φ z ∧ ∀ own xs, z = .ap own xs → own = 0 := by
 unfold dc at h
 split at h
 rotate_left
 ·split at h <;> try exact h.elim
  cases hu with
  | ap b off c own e cs xs he hx hn hle hc hr hm => simp at hn
  | fX ad c own hc =>
    have hDs : ∃ e, D = .slice e := by
     cases D <;> simp [pM] at hD
     exact ⟨_, rfl⟩
    obtain ⟨e, rfl⟩ := hDs
    have X8 : ∀ d, (Op.equalIn (d + 1) t (.slice ad 0 c) (gH 0)).run P w = .ok (ad.isNone) w := by
     intro d
     cases ad <;> simp [Op.equalIn, run_underlying ht, gH]
    have he : (Op.equal t (.slice ad 0 c) (gH 0)).run P w = .ok (ad.isNone) w := X8 9999
    have hg : ∀ op, (eqGuard op t X Y (.slice ad 0 c) (gH 0)).run P w = .ok () w := by
     intro op
     unfold eqGuard; cases op <;> rfl
    have h1 : binOp .eql t (.slice ad 0 c) (gH 0) = (Op.equal t (.slice ad 0 c) (gH 0) >>= fun q => (pure (.bool q) : Sem Value)) := rfl
    have h2 : binOp .neq t (.slice ad 0 c) (gH 0) = (Op.equal t (.slice ad 0 c) (gH 0) >>= fun q => (pure (.bool (!q)) : Sem Value)) := rfl
    have hφ : ∀ b, φ (.bool b) := fun b => by cases b; exact h.2; exact h.1
    cases neq
    ·refine ⟨.bool ad.isNone, .bool ad.isNone, ?_, .bool _, hφ _, by intro _ _ e; cases e⟩
     simp only [Bool.false_eq_true, if_false, Sem.run_bind, hg, Result.andThen_ok, h1, he, Sem.run_pure]
    ·refine ⟨.bool (!ad.isNone), .bool (!ad.isNone), ?_, .bool _, hφ _, by intro _ _ e; cases e⟩
     simp only [if_true, Sem.run_bind, hg, Result.andThen_ok, h2, he, Sem.run_pure]
 rename_i b hb
 have he : (Op.equal t u (gH kd)).run P w = .ok b w := s7 (d := 9999) ht hD hb hu
 have hg : ∀ op, (eqGuard op t X Y u (gH kd)).run P w = .ok () w := by
  intro op
  unfold isNil at hb
  split at hb <;> cases hb <;> cases hu <;> (unfold eqGuard; cases op <;> rfl)
 have h1 : binOp .eql t u (gH kd) = (Op.equal t u (gH kd) >>= fun q => (pure (.bool q) : Sem Value)) := by
  unfold isNil at hb
  split at hb <;> cases hb <;> cases hu <;> rfl
 have h2 : binOp .neq t u (gH kd) = (Op.equal t u (gH kd) >>= fun q => (pure (.bool (!q)) : Sem Value)) := by
  unfold isNil at hb
  split at hb <;> cases hb <;> cases hu <;> rfl
 cases neq
 ·refine ⟨.bool b, .bool b, ?_, .bool _, h, by intro _ _ e; cases e⟩
  simp only [Bool.false_eq_true, if_false, Sem.run_bind, hg, Result.andThen_ok, h1, he, Sem.run_pure]
 ·refine ⟨.bool (!b), .bool (!b), ?_, .bool _, h, by intro _ _ e; cases e⟩
  simp only [if_true, Sem.run_bind, hg, Result.andThen_ok, h2, he, Sem.run_pure]
theorem uk (hf : Fr A n M L w H env O a) {xs : List Operand} {is : List IX} (hc : fh xs = some is) : aJ M L (xs.map a.eval) (is.map fun x => (al env x).ab) := by
 have := (hf.N9 hc).cS
 rwa [List.map_map] at this
theorem b7 (hf : Fr A n M L w H env O a) {x : Option Operand} {i : Option IX} (hc : jN x = some i) : iG M L (gg env i) (x.map a.eval) := by
 cases x with
 | none => simp [jN] at hc; subst hc; trivial
 | some x =>
   simp only [jN] at hc
   obtain ⟨j, hj, rfl⟩ := Option.map_eq_some_iff.1 hc
   exact hf.eval hj
theorem EH {e : TypeId} {esz : Nat} {z : AV} (h : cP P e = some (esz, z)) : dz P e = some esz ∧ ft P e = some z ∧ 0 < esz ∧ z.cells.length = esz ∧ z.val = true := by
 unfold cP at h
 split at h <;> try cases h
 rename_i h1 h2
 split at h <;> cases h
 rename_i hc
 exact ⟨h1, h2, hc⟩
theorem FX {x : AV} (h : aL 0 x) : iD .string x = true := by
 cases x <;> first | rfl | exact (show False from h).elim
theorem AS {x : AV} (h : aL 1 x) (e : TypeId) : iD (.slice e) x = true := by
 cases x <;> first | rfl | exact (show False from h).elim
theorem FY {x : AV} (h : aL 2 x) (k e : TypeId) : iD (.map k e) x = true := by
 cases x <;> first | rfl | exact (show False from h).elim
theorem Ii (o : Oper) {fl : Nat} {i : bV} (hc : cc P o fl = some i) (hp : ∀ l, lo = some l → ∀ id, l ≤ id → A.top id = none) (hf : Fr A n M L w H env O a) (hd : ∀ d, o.dst = some d → d < n) (hnone : (match o.op with | .store .. | .mapUpdate .. => o.dst = none | _ => True))
 (h : bp ⟨P, lo⟩ i o.dst env H K) : o.wpIn (wf ro) 0 P a w (mD A n M L w K) Q := by
 cases cH : o.op with
 | move x =>
   simp only [cc, cH] at hc
   obtain ⟨j, hj, rfl⟩ := Option.map_eq_some_iff.1 hc
   exact xi (.inl cH) hj hf hd h
 | assign x =>
   simp only [cc, cH] at hc
   obtain ⟨j, hj, rfl⟩ := Option.map_eq_some_iff.1 hc
   exact xi (.inr cH) hj hf hd h
 | pick c x y =>
   simp only [cc, cH] at hc
   split at hc <;> cases hc
   rename_i c' x' y' h1 h2 h3
   simp only [bp] at h
   obtain ⟨b, hb, h⟩ := nL h
   have hr := hf.eval h1
   rw [hb] at hr
   generalize hu : a.eval c = u at hr
   cases hr
   cases b
   ·exact wp_pure hf hd (by simp [execOp, cH, hu, asBool]) (hf.eval h3).ab (AV.bI _) (h.2 rfl)
   ·exact wp_pure hf hd (by simp [execOp, cH, hu, asBool]) (hf.eval h2).ab (AV.bI _) (h.1 rfl)
 | alloc e =>
   simp only [cc, cH] at hc
   split at hc <;> try cases hc
   rename_i z hz
   split at hc <;> cases hc
   rename_i hv
   simp only [bp] at h
   obtain ⟨r, L', w', h1, h2, h3, h4, h5⟩ := CW (P := P) hf.st hz hv h.1
   exact nK hf hd (by simp only [execOp, cH]; exact aU h1) h2 (by intro _ _ e; cases e) h3 h4 h5 h.2
 | box e x =>
   simp only [cc, cH] at hc
   obtain ⟨j, hj, hc⟩ := Option.map_eq_some_iff.1 hc
   split at hc <;> subst hc <;> simp only [bp] at h
   ·obtain ⟨r, M', w', h1, h2, h3, h4⟩ := FL (P := P) hf.st e (hf.eval hj) h.1
    exact nK hf hd (by simp only [execOp, cH]; exact aU h1) h2 (by intro _ _ e; cases e) h3 h4 (List.prefix_refl L) h.2
   ·obtain ⟨r, L', w', h1, h2, h3, h4, h5⟩ := AA (P := P) hf.st e (hf.eval hj) h.1 h.2.1
    exact nK hf hd (by simp only [execOp, cH]; exact aU h1) h2 (by intro _ _ e; cases e) h3 h4 h5 h.2.2
 | build t ps =>
   simp only [cc, cH] at hc
   split at hc <;> try cases hc
   rename_i z places ht
   split at hc <;> try cases hc
   rename_i qs hq
   split at hc <;> cases hc
   rename_i hv
   simp only [bp] at h
   obtain ⟨r, x, h1, h2, h3, h4⟩ := CY (P := P) hf ht hq h hv
   exact wp_pure hf hd (by simp only [execOp, cH]; exact aU h1) h2 h4 h3
 | buildSlice t len ps =>
   simp only [cc, cH] at hc
   split at hc <;> try cases hc
   rename_i e ht
   split at hc <;> try cases hc
   rename_i esz z qs hz hq
   split at hc <;> cases hc
   rename_i hlen
   obtain ⟨p1, p2, p3, p4, p5⟩ := EH hz
   obtain ⟨q1, q2⟩ := l9 hf _ _ hq
   by_cases TE : fl = 2
   ·rw [if_pos TE] at h
    simp only [bp] at h
    obtain ⟨r, x, L', w', H', h1, h2, h3, h4, h5, h6, h7⟩ := FU (P := P) hf.st ht p1 p3 p2 p4 p5 hlen (vs := ps.map fun (i, x) => (i, a.eval x)) (by
     intro j p hp
     obtain ⟨v, v1, v2⟩ := q1 j p hp
     exact ⟨v, by simpa using v1, v2⟩) (by simp [q2]) h
    exact nK hf hd (by simp only [execOp, cH]; exact aU h1) h2 h3 h5 h6 h7 h4
   rw [if_neg TE] at h
   simp only [bp] at h
   obtain ⟨m, xs, M', w', ad, h1, h2, h3, h4, h5, h6⟩ := sV (P := P) hf.st ht p1 p3 p2 p4 p5 (if fl = 1 then esz else 0) hlen (vs := ps.map fun (i, x) => (i, a.eval x)) (by
    intro j p hp
    obtain ⟨v, v1, v2⟩ := q1 j p hp
    exact ⟨v, by simpa using v1, v2⟩) (by simp [q2]) h
   obtain ⟨O', oR⟩ := (hf.mono h5 h6).EA (dst := o.dst) hd h2 (fun eo y hy => by
    split at eo
    ·rename_i Lr; rw [if_pos Lr]; exact h3 y hy
    ·exact absurd rfl eo)
   exact c9 (by simp only [execOp, cH]; exact aU h1) ⟨M', L, H, _, O', h4, oR, h6, List.prefix_refl L⟩
 | load t x =>
   simp only [cc, cH] at hc
   split at hc <;> try cases hc
   rename_i sz j ht hj
   split at hc
   ·split at hc <;> cases hc
    rename_i hs
    subst hs
    exact ui cH ht hj hf hd h
   split at hc
   ·cases hc
    simp only [bp] at h
    obtain ⟨r, z, h1, h2, h3, h4⟩ := qR (P := P) ht hf.st h (hf.eval hj)
    obtain ⟨y, M', H', O', g1, g2, g3, g4, g5⟩ := qW hf.st h3 h2
    obtain ⟨O'', oR⟩ := (hf.mono g3 g4).om (dst := o.dst) hd g1 g5
    exact c9 (by simp only [execOp, cH]; exact aU h1) ⟨M', L, H', _, O'', g2, oR, g4, List.prefix_refl L⟩
   ·cases hc
    simp only [bp] at h
    obtain ⟨r, z, h1, h2, h3, h4⟩ := qR (P := P) ht hf.st h (hf.eval hj)
    exact bK hf hd ⟨r, z, by simp only [execOp, cH]; exact aU h1, h2, h3, h4⟩
 | store t x y =>
   simp only [cH] at hnone
   simp only [cc, cH] at hc
   split at hc <;> try cases hc
   rename_i m j k ht hj hk
   split at hc
   ·split at hc <;> try cases hc
    rename_i s
    split at hc <;> cases hc
    rename_i hm
    subst hm
    exact wy cH ht hj hk hf hnone h
   split at hc
   ·cases hc
    simp only [bp] at h
    obtain ⟨l, rfl⟩ : ∃ l, lo = some l := by cases lo with | none => exact h.elim | some l => exact ⟨l, rfl⟩
    obtain ⟨w', H', O', h1, h2, h3, h4⟩ := AF (P := P) hf.st (hp l rfl) ht h (hf.eval hj) (hf.eval hk)
    refine lf (by simp only [execOp, cH]; exact pJ h1) ⟨M, L, H', env, O', h2, ?_, h4, List.prefix_refl L⟩
    rw [hnone]; exact ⟨h3, hf.size, hf.defers.ext h4⟩
   ·cases hc
    simp only [bp] at h
    obtain ⟨w', H', O', h1, h2, h3, h4⟩ := CZ (P := P) hf.st ht h (hf.eval hj) (hf.eval hk)
    refine lf (by simp only [execOp, cH]; exact pJ h1) ⟨M, L, H', env, O', h2, ?_, h4, List.prefix_refl L⟩
    rw [hnone]; exact ⟨h3, hf.size, hf.defers.ext h4⟩
 | nilCheck x =>
   simp only [cc, cH] at hc
   obtain ⟨j, hj, rfl⟩ := Option.map_eq_some_iff.1 hc
   simp only [bp] at h
   exact bK hf hd (wi cH h (hf.eval hj))
 | binOp op t x y yt =>
   simp only [cc, cH] at hc
   split at hc <;> try cases hc
   rename_i j k hj hk
   have hx := hf.eval hj
   have hy := hf.eval hk
   have plain : ∀ {op}, cT op (al env j) (al env k) (fun z => K (put o.dst z env) H) → o.op = .binOp op t x y yt → o.wpIn (wf ro) 0 P a w (mD A n M L w K) Q := by
    intro op h cH
    obtain ⟨r, z, h1, h2, h3, h4⟩ := HS (P := P) (w := w) (t := t) h hx hy x y
    exact bK hf hd ⟨r, z, by simp only [execOp, cH]; exact aU h1, h2, h3, h4⟩
   split at hc
   ·cases hc
    simp only [bp] at h
    obtain ⟨r, z, h1, h2, h3, h4⟩ := tV (P := P) (w := w) (t := t) h hx hy x y
    exact bK hf hd ⟨r, z, by simp only [execOp, cH]; exact aU h1, h2, h3, h4⟩
   ·cases hc
    simp only [bp] at h
    obtain ⟨r, z, h1, h2, h3, h4⟩ := tV (P := P) (w := w) (t := t) h hx hy x y
    exact bK hf hd ⟨r, z, by simp only [execOp, cH]; exact aU h1, h2, h3, h4⟩
   ·split at hc <;> try cases hc
    ·rename_i ht
     simp only [bp] at h
     obtain ⟨r, z, h1, h2, h3, h4⟩ := sc (P := P) (w := w) (neq := false) ht h hx hy x y
     exact bK hf hd ⟨r, z, by simp only [execOp, cH]; exact aU h1, h2, h3, h4⟩
    ·exact plain (op := .eql) h cH
    ·exact plain (op := .eql) h cH
    all_goals
     rename_i ht
     split at hc <;> cases hc
     simp only [bp] at h
     obtain ⟨r, z, h1, h2, h3, h4⟩ := uj (P := P) (w := w) (neq := false) ht rfl h hx x (.const .nilFunc)
     exact bK hf hd ⟨r, z, by simp only [execOp, cH]; exact aU h1, h2, h3, h4⟩
   ·split at hc <;> try cases hc
    ·rename_i ht
     simp only [bp] at h
     obtain ⟨r, z, h1, h2, h3, h4⟩ := sc (P := P) (w := w) (neq := true) ht h hx hy x y
     exact bK hf hd ⟨r, z, by simp only [execOp, cH]; exact aU h1, h2, h3, h4⟩
    ·exact plain (op := .neq) h cH
    ·exact plain (op := .neq) h cH
    all_goals
     rename_i ht
     split at hc <;> cases hc
     simp only [bp] at h
     obtain ⟨r, z, h1, h2, h3, h4⟩ := uj (P := P) (w := w) (neq := true) ht rfl h hx x (.const .nilFunc)
     exact bK hf hd ⟨r, z, by simp only [execOp, cH]; exact aU h1, h2, h3, h4⟩
   ·cases hc; exact plain h cH
 | unOp op t x =>
   simp only [cc, cH] at hc
   obtain ⟨j, hj, rfl⟩ := Option.map_eq_some_iff.1 hc
   simp only [bp] at h
   obtain ⟨r, z, h1, h2, h3, h4⟩ := Lg (P := P) (w := w) h (hf.eval hj)
   exact bK hf hd ⟨r, z, by simp only [execOp, cH]; exact aU h1, h2, h3, h4⟩
 | convert src dst x =>
   simp only [cc, cH] at hc
   split at hc <;> try cases hc
   ·rename_i k1 k2 j hs PJ hj
    simp only [bp] at h
    obtain ⟨r, z, h1, h2, h3, h4⟩ := yz (P := P) (w := w) hs PJ h (hf.eval hj)
    exact bK hf hd ⟨r, z, by simp only [execOp, cH]; exact aU h1, h2, h3, h4⟩
   ·rename_i j hs PJ hj
    simp only [bp] at h
    obtain ⟨r, z, h1, h2, h3, h4⟩ := yE (P := P) (w := w) hs PJ h (hf.eval hj)
    exact bK hf hd ⟨r, z, by simp only [execOp, cH]; exact aU h1, h2, h3, h4⟩
   ·rename_i e j hs PJ hj
    split at hc <;> cases hc
    rename_i he
    simp only [bp] at h
    obtain ⟨r, z, w', M', ob, h1, h2, h3, h4, h5, h6, h7, h8⟩ := yF (P := P) hf.st hs PJ he h (hf.eval hj)
    exact uh hf hd (by simp only [execOp, cH]; exact aU h1) h2 h4 h5 h6 h7 h8 h3
   ·rename_i e j hs PJ hj
    split at hc <;> cases hc
    rename_i he
    simp only [bp] at h
    obtain ⟨r, z, h1, h2, h3, h4⟩ := C3 (P := P) hf.st hs he PJ h (hf.eval hj)
    exact bK hf hd ⟨r, z, by simp only [execOp, cH]; exact aU h1, h2, h3, h4⟩
 | makeFunc f first cap =>
   simp only [cc, cH] at hc
   split at hc <;> cases hc
   rename_i i j hi hj
   simp only [bp] at h
   refine bK hf hd ⟨.func f (first.map a.eval) (cap.map a.eval), _, ?_, ?_, h, by intro _ _ e; cases e⟩
   ·simp only [execOp, cH]; rfl
   ·have := aQ.fn (M := M) (L := L) f (first.toList.map a.eval) (cap.toList.map a.eval) _ _ (uk hf hi) (uk hf hj)
    rw [show (first.toList.map a.eval).toArray = first.map a.eval by apply Array.ext'; simp, show (cap.toList.map a.eval).toArray = cap.map a.eval by apply Array.ext'; simp] at this
    exact this
 | makeMap t r =>
   cases r with
   | some r => simp [cc, cH] at hc
   | none =>
     simp only [cc, cH] at hc
     cases hc
     simp only [bp] at h
     obtain ⟨r, L', w', h1, h2, h3, h4, h5⟩ := C6 (P := P) hf.st t
     exact nK hf hd (by simp only [execOp, cH]; exact aU h1) h2 (by intro _ _ e; cases e) h3 h4 h5 h
 | makeSlice t l c =>
   simp only [cc, cH] at hc
   split at hc <;> try cases hc
   rename_i e k ht hk
   split at hc <;> try cases hc
   rename_i esz z bytes hz hb
   split at hc <;> try cases hc
   rename_i hcond
   obtain ⟨ub, Ih⟩ := hcond
   obtain ⟨p1, p2, p3, p4, p5⟩ := EH hz
   obtain ⟨inf, iC, cW⟩ := Option.map_eq_some_iff.1 p1
   obtain ⟨inf', sn, xa⟩ := Option.map_eq_some_iff.1 hb
   rw [iC] at sn; cases sn
   unfold ft at p2
   simp only [iC] at p2
   split at p2 <;> try cases p2
   rename_i zv sf
   split at hc
   ·cases hc
    simp only [bp] at h
    have tg : zv.cells.size = esz := by have := ((cw (M := M) (L := L) p2).fJ p5).length; rw [p4] at this; simpa using this
    obtain ⟨r, w', M', b, h1, h2, h3, h4, h5, h6, h7, h8, h9, X9⟩ := C2 (P := P) hf.st ht iC sf cW xa p3 ub tg h (hf.eval hk)
    exact uh hf hd (by simp only [execOp, cH]; exact aU h1) h2 h4 h5 h6 (fun q b' dR => by cases dR; exact h7 q) (fun b' dR => by cases dR; exact ⟨h8, h9, X9⟩) h3
   ·split at hc <;> cases hc
    rename_i hsame
    simp only [bp] at h
    have yA : a.eval l = a.eval c := by
     unfold Ig at hsame
     split at hsame
     ·simp at hsame; subst hsame; rfl
     ·simp at hsame; subst hsame; rfl
     ·cases hsame
    have H8 : ∀ y ∈ z.cells, ∀ own xs, y = .ap own xs → own = 0 := by
     intro y hy own xs e
     have := List.all_eq_true.1 Ih y hy
     subst e
     simpa using this
    obtain ⟨r, x, L', w', H', h1, h2, h3, h4, h5, h6, h7⟩ := C1 (P := P) hf.st ht iC sf cW xa p3 ub p2 p5 p4 H8 h (hf.eval hk)
    exact nK hf hd (by simp only [execOp, cH, yA]; exact aU h1) h2 h3 h5 h6 h7 h4
 | slice t x lo hi mx =>
   simp only [cc, cH] at hc
   split at hc <;> try cases hc
   ·rename_i e i l h' m ht mr hl hh hm
    split at hc <;> try cases hc
    rename_i esz he
    split at hc <;> cases hc
    rename_i h0
    by_cases Lr : fl = 4
    ·rw [if_pos Lr] at h
     simp only [bp] at h
     obtain ⟨ad, k, c, own, ys, h1, h2, ⟨h3, S0⟩, h4⟩ := uc (P := P) hf.st ht he h0 h.2 (hf.eval mr) h.1 (b7 hf hl) (b7 hf hh) (b7 hf hm)
     cases h3
     obtain ⟨rfl, _⟩ := h4 (by omega)
     have hk : k = 0 := by
      cases h2 with
      | fX => rfl
      | ap b off c own e cs xs he hx hn => simp at hn
     subst hk
     exact bK hf hd ⟨_, _, by simp only [execOp, cH]; exact aU h1, .ol ad, S0, by intro _ _ e; cases e⟩
    rw [if_neg Lr] at h
    simp only [bp] at h
    unfold bA at h
    split at h
    ·rename_i e0 a0 b0 c0 d0 H7
     rw [← H7] at h
     split at h
     ·rename_i AI
      have SW : mx = none := by
       cases mx with
       | none => rfl
       | some q => simp only [jN] at hm; obtain ⟨_, _, rfl⟩ := Option.map_eq_some_iff.1 hm; cases AI
      subst SW
      obtain ⟨r, z, h1, h2, h3, h4⟩ := AN (P := P) ht he h (hf.eval mr) (b7 hf hl) (b7 hf hh)
      exact bK hf hd ⟨r, z, by simp only [execOp, cH]; exact aU h1, h2, h3, h4⟩
     ·rename_i m0 AI
      have hm3 := b7 (a := a) hf hm
      rw [AI] at hm3
      obtain ⟨r, z, h1, h2, h3, h4⟩ := AO (P := P) ht he h (hf.eval mr) (b7 hf hl) (b7 hf hh) hm3
      exact bK hf hd ⟨r, z, by simp only [execOp, cH]; exact aU h1, h2, h3, h4⟩
    obtain ⟨ad, k, c, own, ys, h1, h2, h3, h4⟩ := uc (P := P) hf.st ht he h0 h.2 (hf.eval mr) h.1 (b7 hf hl) (b7 hf hh) (b7 hf hm)
    by_cases sY : own = 0
    ·subst sY
     exact bK hf hd ⟨_, _, by simp only [execOp, cH]; exact aU h1, h2, h3, by intro _ _ e; cases e; rfl⟩
    ·obtain ⟨rfl, h5⟩ := h4 sY
     obtain ⟨O', oR⟩ := hf.EA (dst := o.dst) hd h2 (fun _ => h5)
     exact c9 (by simp only [execOp, cH]; exact aU h1) ⟨M, L, H, _, O', h3, oR, Ext.refl A M w, List.prefix_refl L⟩
   ·rename_i i l h' ht mr hl hh hm
    simp only [bp] at h
    have SW : mx = none := by
     cases mx with
     | none => rfl
     | some q => simp only [jN] at hm; obtain ⟨_, _, hz⟩ := Option.map_eq_some_iff.1 hm; cases hz
    subst SW
    obtain ⟨r, z, h1, h2, h3, h4⟩ := wu (P := P) (w := w) ht h (hf.eval mr) (b7 hf hl) (b7 hf hh)
    exact bK hf hd ⟨r, z, by simp only [execOp, cH]; exact aU h1, h2, h3, h4⟩
 | fieldAddr s x f =>
   simp only [cc, cH] at hc
   split at hc <;> cases hc
   rename_i off sz j ht hj
   simp only [bp] at h
   obtain ⟨r, z, h1, h2, h3, h4⟩ := tW (P := P) (w := w) ht h (hf.eval hj)
   exact bK hf hd ⟨r, z, by simp only [execOp, cH]; exact aU h1, h2, h3, h4⟩
 | field s x f =>
   simp only [cc, cH] at hc
   split at hc <;> cases hc
   rename_i off sz j ht hj
   simp only [bp] at h
   obtain ⟨r, z, h1, h2, h3, h4⟩ := CU (P := P) (w := w) ht h (hf.eval hj)
   exact bK hf hd ⟨r, z, by simp only [execOp, cH]; exact aU h1, h2, h3, h4⟩
 | indexAddr t x i =>
   simp only [cc, cH] at hc
   split at hc <;> try cases hc
   rename_i e j k ht hj hk
   obtain ⟨esz, he, rfl⟩ := Option.map_eq_some_iff.1 hc
   simp only [bp] at h
   obtain ⟨r, z, h1, h2, h3, h4⟩ := tX (P := P) (w := w) ht he h.2 h.1 (hf.eval hj) (hf.eval hk)
   exact bK hf hd ⟨r, z, by simp only [execOp, cH]; exact aU h1, h2, h3, h4⟩
 | index t x i =>
   simp only [cc, cH] at hc
   split at hc <;> try cases hc
   ·rename_i j k ht hj hk
    simp only [bp] at h
    obtain ⟨r, z, h1, h2, h3, h4⟩ := wh (P := P) (w := w) ht h (hf.eval hj) (hf.eval hk)
    exact bK hf hd ⟨r, z, by simp only [execOp, cH]; exact aU h1, h2, h3, h4⟩
   ·rename_i m e j k ht hj hk
    split at hc <;> cases hc
    rename_i he
    simp only [bp] at h
    obtain ⟨r, z, h1, h2, h3, h4⟩ := wg (P := P) (w := w) ht he h (hf.eval hj) (hf.eval hk)
    exact bK hf hd ⟨r, z, by simp only [execOp, cH]; exact aU h1, h2, h3, h4⟩
 | lookup t m k ok =>
   simp only [cc, cH] at hc
   split at hc <;> try cases hc
   rename_i kt et i j ht hi hj
   split at hc <;> cases hc
   rename_i kd z hk hz
   simp only [bp] at h
   obtain ⟨r, z, h1, h2, h3, h4⟩ := AL (P := P) hf.st ht hk hz h (hf.eval hi) (hf.eval hj)
   exact bK hf hd ⟨r, z, by simp only [execOp, cH]; exact aU h1, h2, h3, h4⟩
 | mapUpdate t m k x =>
   simp only [cH] at hnone
   simp only [cc, cH] at hc
   split at hc <;> try cases hc
   rename_i kt et i j y ht hi hj hy
   obtain ⟨kd, hk, rfl⟩ := Option.map_eq_some_iff.1 hc
   simp only [bp] at h
   obtain ⟨w', H', h1, h2, h3, h4⟩ := AM (P := P) hf.st ht hk h (hf.eval hi) (hf.eval hj) (hf.eval hy)
   refine lf (by simp only [execOp, cH]; exact pJ h1) ⟨M, L, H', env, O, h2, ?_, h4, List.prefix_refl L⟩
   rw [hnone]; exact ⟨h3, hf.size, hf.defers.ext h4⟩
 | extract x i =>
   simp only [cc, cH] at hc
   obtain ⟨j, hj, rfl⟩ := Option.map_eq_some_iff.1 hc
   simp only [bp] at h
   obtain ⟨r, z, h1, h2, h3, h4⟩ := yy (P := P) (w := w) h (hf.eval hj)
   exact bK hf hd ⟨r, z, by simp only [execOp, cH]; exact aU h1, h2, h3, h4⟩
 | call c =>
   simp only [cc, cH] at hc
   split at hc
   ·rename_i f ms
    split at hc <;> cases hc
    rename_i i js hi hj
    exact C9 cH ms hi hj hp hf hd h
   ·rename_i ms
    split at hc <;> try cases hc
    rename_i x t hargs yP
    have hcall : c = { callee := .builtin .len, args := #[x], argTypes := #[t] } := by
     obtain ⟨c1, c2, c3⟩ := c
     simp only at ms hargs yP
     subst ms
     rw [show c2 = #[x] from Array.ext' hargs, show c3 = #[t] from Array.ext' yP]
    subst hcall
    have fin : ∀ {d : TypeDesc} {kd : Nat} {j : IX}, P.underlying t = some d → aP x = some j → iD d (al env j) = true → (eU (al env j) H fun z => K (put o.dst z env) H) → o.wpIn (wf ro) 0 P a w (mD A n M L w K) Q := by
     intro d kd j ht hj hk h
     obtain ⟨r, z, h1, h2, h3, h4⟩ := HW (P := P) ht hf.st hk h (hf.eval hj) o.type
     refine bK hf hd ⟨r, z, ?_, h2, h3, h4⟩
     simp only [execOp, cH, resolve, invoke, builtin, Sem.run_bind, Sem.run_pure, Result.andThen_ok, List.map_toArray, List.map_cons, List.map_nil, h1]
    split at hc <;> cases hc
    ·rename_i j ht hj; exact fin (kd := 0) ht hj (FX h.1) h.2
    ·rename_i e j ht hj; exact fin (kd := 0) ht hj (AS h.1 e) h.2
    ·rename_i k e j ht hj; exact fin (kd := 0) ht hj (FY h.1 k e) h.2
   ·rename_i ms
    split at hc <;> try cases hc
    rename_i s x t t' hargs yP
    split at hc <;> try cases hc
    rename_i htt
    subst htt
    split at hc <;> try cases hc
    rename_i e i j ht hi hj
    split at hc <;> try cases hc
    rename_i esz z bytes hz hb
    split at hc <;> try cases hc
    rename_i ub
    have hcall : c = { callee := .builtin .append, args := #[s, x], argTypes := #[t, t] } := by
     obtain ⟨c1, c2, c3⟩ := c
     simp only at ms hargs yP
     subst ms
     rw [show c2 = #[s, x] from Array.ext' hargs, show c3 = #[t, t] from Array.ext' yP]
    subst hcall
    split at hc
    ·split at hc <;> cases hc
     rename_i Ih
     exact wA cH ht hz hb ub Ih hi hj hf hd h
    cases hc
    exact yN cH ht hz hb ub hi hj hf hd h
   ·rename_i ms
    split at hc <;> try cases hc
    rename_i x y hargs
    split at hc <;> cases hc
    rename_i i j hi hj
    simp only [bp] at h
    obtain ⟨r, z, h1, h2, h3, h4⟩ := EB (P := P) (w := w) (big := true) h (hf.eval hi) (hf.eval hj) c.argTypes o.type
    refine bK hf hd ⟨r, z, ?_, h2, h3, h4⟩
    have hargs' : c.args = #[x, y] := Array.ext' hargs
    simp only [if_true] at h1
    simp only [execOp, cH, resolve, ms, invoke, builtin, Sem.run_bind, Sem.run_pure, Result.andThen_ok, hargs', List.map_toArray, List.map_cons, List.map_nil, h1]
   ·rename_i ms
    split at hc <;> try cases hc
    rename_i x y hargs
    split at hc <;> cases hc
    rename_i i j hi hj
    simp only [bp] at h
    obtain ⟨r, z, h1, h2, h3, h4⟩ := EB (P := P) (w := w) (big := false) h (hf.eval hi) (hf.eval hj) c.argTypes o.type
    refine bK hf hd ⟨r, z, ?_, h2, h3, h4⟩
    have hargs' : c.args = #[x, y] := Array.ext' hargs
    simp only [Bool.false_eq_true, if_false] at h1
    simp only [execOp, cH, resolve, ms, invoke, builtin, Sem.run_bind, Sem.run_pure, Result.andThen_ok, hargs', List.map_toArray, List.map_cons, List.map_nil, h1]
   ·cases hc
 | _ => simp [cc, cH] at hc
theorem Da (o : Oper) (hf : Fr A n M L w H env O a) (hd : ∀ d, o.dst = some d → d < n) (h : bp ⟨P, lo⟩ (pI P o) o.dst env H K) : o.wpIn (wf ro) 0 P a w (mD A n M L w K) Q := by
 cases cH : o.op with
 | call c =>
   simp only [pI, cH] at h
   split at h <;> try exact h.elim
   rotate_left
   ·rename_i ms
    split at h <;> try exact h.elim
    rename_i s t hargs yP
    split at h <;> try exact h.elim
    rename_i e i ht hi
    split at h <;> try exact h.elim
    rename_i esz z hz
    simp only [bp] at h
    unfold cP at hz
    split at hz <;> try cases hz
    rename_i esz' z' Oe oq
    split at hz <;> cases hz
    rename_i hcond
    obtain ⟨h0, iE, sf⟩ := hcond
    obtain ⟨inf, iC, cW⟩ := Option.map_eq_some_iff.1 Oe
    unfold ft at oq
    simp only [iC] at oq
    split at oq <;> try cases oq
    rename_i zv tZ
    obtain ⟨w', H', O', h1, h2, h3, h4⟩ := AQ (P := P) hf.st ht iC tZ h0 oq sf iE h (hf.eval hi) o.type
    obtain ⟨O'', oR⟩ := (hf.mono h3 h4).om (dst := o.dst) hd (.tuple [] [] .nil) (by intro _ _ e; cases e)
    have hargs' : c.args = #[s] := Array.ext' hargs
    have Ij : c.argTypes = #[t] := Array.ext' yP
    refine c9 (v := .tuple #[]) ?_ ⟨M, L, H', _, O'', h2, oR, h4, List.prefix_refl L⟩
    simp only [execOp, cH, resolve, ms, invoke, builtin, Sem.run_bind, Sem.run_pure, Result.andThen_ok, hargs', Ij, List.map_toArray, List.map_cons, List.map_nil, h1]
   rename_i ms
   split at h <;> try exact h.elim
   rename_i s x t t' hargs yP
   split at h <;> try exact h.elim
   rename_i e i j ht hi hj
   split at h <;> try exact h.elim
   rename_i esz he
   simp only [bp] at h
   obtain ⟨r, z, w', H', O', h1, h2, h3, h4, h5, h6⟩ := FR (P := P) hf.st ht he h (hf.eval hi) (hf.eval hj) t' o.type
   obtain ⟨O'', oR⟩ := (hf.mono h4 h5).om (dst := o.dst) hd h2 h6
   have hargs' : c.args = #[s, x] := Array.ext' hargs
   have Ij : c.argTypes = #[t, t'] := Array.ext' yP
   refine c9 (v := r) ?_ ⟨M, L, H', _, O'', h3, oR, h5, List.prefix_refl L⟩
   simp only [execOp, cH, resolve, ms, invoke, builtin, Sem.run_bind, Sem.run_pure, Result.andThen_ok, hargs', Ij, List.map_toArray, List.map_cons, List.map_nil, h1]
 | _ => simp only [pI, cH] at h; exact h.elim
theorem Db (o : Oper) (hf : Fr A n M L w H env O a) (hd : ∀ d, o.dst = some d → d < n) (h : bp ⟨P, lo⟩ (mQ P o) o.dst env H K) : o.wpIn (wf ro) 0 P a w (mD A n M L w K) Q := by
 have key : ∀ {x : Operand}, (o.op = .move x ∨ o.op = .assign x) → ∀ {i : IX} {esz : Nat}, aP x = some i → (fc esz (al env i) H fun z H' => K (put o.dst z env) H') → o.wpIn (wf ro) 0 P a w (mD A n M L w K) Q := by
  intro x ho i esz hi h
  obtain ⟨z, M', H', O', h1, h2, h3, h4, h5⟩ := qW hf.st h (hf.eval hi)
  have bG : (execOp a.eval o).run P w = .ok (.value (a.eval x)) w := by
   rcases ho with ho | ho <;> simp [execOp, ho]
  obtain ⟨O'', oR⟩ := (hf.mono h3 h4).om (dst := o.dst) hd h1 h5
  exact c9 bG ⟨M', L, H', _, O'', h2, oR, h4, List.prefix_refl L⟩
 cases cH : o.op with
 | move x =>
   simp only [mQ, cH] at h
   split at h <;> try exact h.elim
   rename_i hi ht
   split at h <;> try exact h.elim
   exact key (.inl cH) hi h
 | assign x =>
   simp only [mQ, cH] at h
   split at h <;> try exact h.elim
   rename_i hi ht
   split at h <;> try exact h.elim
   exact key (.inr cH) hi h
 | _ => simp only [mQ, cH] at h; exact h.elim
theorem AT (o : Oper) (esz : Nat) (hf : Fr A n M L w H env O a) (hd : ∀ d, o.dst = some d → d < n) (h : bp ⟨P, lo⟩ (kz esz o) o.dst env H K) : o.wpIn (wf ro) 0 P a w (mD A n M L w K) Q := by
 have key : ∀ {x : Operand}, (o.op = .move x ∨ o.op = .assign x) → ∀ {i : IX}, aP x = some i → (fc esz (al env i) H fun z H' => K (put o.dst z env) H') → o.wpIn (wf ro) 0 P a w (mD A n M L w K) Q := by
  intro x ho i hi h
  obtain ⟨z, M', H', O', h1, h2, h3, h4, h5⟩ := qW hf.st h (hf.eval hi)
  have bG : (execOp a.eval o).run P w = .ok (.value (a.eval x)) w := by
   rcases ho with ho | ho <;> simp [execOp, ho]
  obtain ⟨O'', oR⟩ := (hf.mono h3 h4).om (dst := o.dst) hd h1 h5
  exact c9 bG ⟨M', L, H', _, O'', h2, oR, h4, List.prefix_refl L⟩
 cases cH : o.op with
 | move x =>
   simp only [kz, cH] at h
   split at h <;> try exact h.elim
   rename_i hi
   exact key (.inl cH) hi h
 | assign x =>
   simp only [kz, cH] at h
   split at h <;> try exact h.elim
   rename_i hi
   exact key (.inr cH) hi h
 | _ => simp only [kz, cH] at h; exact h.elim
theorem sq (o : Oper) {fl : Nat} (hp : ∀ l, lo = some l → ∀ id, l ≤ id → A.top id = none) (hf : Fr A n M L w H env O a) (hd : ∀ d, o.dst = some d → d < n) (hnone : (match o.op with | .store .. | .mapUpdate .. => o.dst = none | _ => True))
 (h : bp ⟨P, lo⟩ (AR P o fl) o.dst env H K) : o.wpIn (wf ro) 0 P a w (mD A n M L w K) Q := by
 unfold AR at h
 split at h
 ·exact Db o hf hd h
 split at h
 ·exact AT o _ hf hd h
 cases hc : cc P o fl with
 | none => rw [hc] at h; exact Da o hf hd h
 | some i => rw [hc] at h; exact Ii o hc hp hf hd hnone h
end
end Go.aK
end
section
namespace Go.aK
open Go
section
variable {M : Mem} {L : List Nat}
theorem pN {n : Nat} : ∀ {xs : List AV}, (∀ x ∈ xs, x.cells.length ≠ 0) → aj n (flat xs) = true → aj n xs = true
 | [], _, _ => rfl
 | x :: xs, hx, h => by
   rw [a9] at h ⊢
   intro y hy
   rcases List.mem_cons.1 hy with rfl | hy
   ·cases y with
    | agg ys =>
      simp only [AV.aY]
      rw [a9]
      intro z hz
      exact h z (by simp [flat, AV.cells, hz])
    | _ => exact h _ (by simp [flat, AV.cells])
   ·have := pN (xs := xs) (n := n) (fun x v9 => hx x (List.mem_cons_of_mem _ v9)) (by
     rw [a9]
     intro z hz
     exact h z (by simp only [flat, List.flatMap_cons, List.mem_append] at hz ⊢; exact .inr hz))
    rw [a9] at this
    exact this y hy
theorem FZ {n : Nat} {x : AV} (h : aj n x.cells = true) : x.aY n = true := by
 cases x <;> simp_all [AV.cells, AV.aY, aj]
theorem aQ.Lv {v : Value} {x : AV} (h : aQ M L v x) : x.aY L.length = true := by
 induction h using aQ.rec (motive_2 := fun vs xs _ => aj L.length xs = true) with
 | ap b off c own e cs xs he hx hn hle hc hr hm ih => exact pN (fun x v9 => by rw [hx x v9]; omega) ih
 | bg b off len cap id hl hc => simp only [AV.aY, decide_eq_true_eq]; exact aM hl
 | agg cs xs hr ih => exact ih
 | tuple cs xs hr ih => exact ih
 | ptr b off id hl => simp only [AV.aY, decide_eq_true_eq]; exact aM hl
 | ai b off cs x hr hm ih => simp only [AV.aY]; exact FZ ih
 | map b id hl => simp only [AV.aY, decide_eq_true_eq]; exact aM hl
 | mF b id hl => simp only [AV.aY, decide_eq_true_eq]; exact aM hl
 | fn f fs cs xs ys h1 h2 i1 i2 => simp only [AV.aY, Bool.and_eq_true]; exact ⟨i1, i2⟩
 | iface t v x h ih => exact ih
 | cons v x vs xs h t i1 i2 => simp only [aj, Bool.and_eq_true]; exact ⟨i1, i2⟩
 | nil => rfl
 | _ => rfl
theorem aJ.Lv : ∀ {vs : List Value} {xs : List AV}, aJ M L vs xs → aj L.length xs = true
 | _, _, .nil => rfl
 | _, _, .cons _ _ _ _ h t => by simp only [aj, Bool.and_eq_true]; exact ⟨h.Lv, t.Lv⟩
end
section
variable {A : Perm} {M : Mem} {L : List Nat} {w : World} {H : List aa} {ev : Nat → Value} {ea : Nat → AV} {O : Pos → Option Nat}
theorem St.nM (h : St A M L w H ev ea O) {id b : Nat} {st st' : SU} {lc : hJ} {es : List AV} {r' : Loop} (bm : H[id]? = some (.loop st lc es)) (hL : L[id]? = some b)
 (hr : ∀ r, w.heap[b]? = some (.loop r) → r'.params = r.params ∧ r'.assign = r.assign ∧ r'.body = r.body ∧ r'.tmps = r.tmps ∧ r'.defers = r.defers ∧ st'.ok r') :
 St A M L (w.putObj b (.loop r')) (H.set id (.loop st' lc es)) ev ea O ∧ Ext A M w M (w.putObj b (.loop r')) := by
 have w6 : b ∈ L := List.mem_of_getElem? hL
 have Pv := h.lt b w6
 obtain ⟨r0, hc, p1, p2, p3, p4, p5⟩ := h.obj id _ b bm hL
 obtain ⟨q1, q2, q3, q4, q5, q6⟩ := hr r0 hc
 have fI : ∀ k, k ≠ b → (w.putObj b (.loop r')).heap[k]? = w.heap[k]? := fun k hk => World.putObj_heap_other hk
 have mn : (w.putObj b (.loop r')).heap[b]? = some (.loop r') := World.putObj_heap_same Pv
 have SV : ∀ o, M b o = none := by
  intro o
  cases hm : M b o with
  | none => rfl
  | some v =>
    have := h.mem b o v hm
    simp [World.cell?, hc] at this
 have pD : id < H.length := aM bm
 refine ⟨{ len := by simp [h.len], nodup := h.nodup, env := h.env, mem := ?_, obj := ?_, bB := ?_, lt := ?_, gF := ?_, gC := ?_, bX := h.bX, cb := h.cb, eR := ?_, La := h.La, Oa := h.Oa, fresh := ?_ }, ?_⟩
 ·intro k o v hv
  have hk : k ≠ b := by rintro rfl; rw [SV o] at hv; cases hv
  have := h.mem k o v hv
  simp only [World.cell?] at this ⊢
  rw [fI k hk]; exact this
 ·intro id' o k ho hk
  by_cases e0 : id' = id
  ·subst e0
   rw [hL] at hk; cases hk
   rw [List.getElem?_set_self pD] at ho
   cases ho
   exact ⟨r', mn, q1.trans p1, q2.trans p2, q3.trans p3, by rw [q4]; exact p4, q6⟩
  ·rw [List.getElem?_set_ne (fun h' => e0 h'.symm)] at ho
   have CJ : k ≠ b := by
    rintro rfl
    exact e0 ((List.getElem?_inj (aM hk) h.nodup).1 (hk.trans hL.symm))
   exact (h.obj id' o k ho hk).mono (Mem.bM M) (List.prefix_refl _) (fI k CJ) (fun _ => rfl)
 ·intro id' o ho
  rw [List.length_set]
  by_cases e0 : id' = id
  ·subst e0
   rw [List.getElem?_set_self pD] at ho
   cases ho
   exact h.bB id' (.loop st lc es) bm
  ·rw [List.getElem?_set_ne (fun h' => e0 h'.symm)] at ho
   exact h.bB id' o ho
 ·intro k hk; simpa using h.lt k hk
 ·intro t
  exact (h.gF t).mono fun k hk => ⟨fI k (fun e3 => h.cb _ k hk (e3 ▸ w6)), fun _ => rfl⟩
 ·intro id' j
  by_cases e0 : id' = id
  ·subst e0
   have hn : O (.c id' j) = none := by
    have := h.gC id' j
    simp only [bo, bm] at this
    exact this
   have e2 : bo (H.set id' (.loop st' lc es)) id' j = .any := by
    unfold bo
    rw [List.getElem?_set_self pD]
   rw [e2, hn]; rfl
  ·have e1 : bJ L (w.putObj b (.loop r')) id' j = bJ L w id' j := by
    unfold bJ
    split
    ·rename_i k hk
     have CJ : k ≠ b := by
      rintro rfl
      exact e0 ((List.getElem?_inj (aM hk) h.nodup).1 (hk.trans hL.symm))
     simp only [World.cell?]
     rw [fI k CJ]
    ·rfl
   have e2 : bo (H.set id (.loop st' lc es)) id' j = bo H id' j := by
    unfold bo
    rw [List.getElem?_set_ne (fun h' => e0 h'.symm)]
   rw [e1, e2]
   exact (h.gC id' j).mono fun k hk => ⟨fI k (fun e3 => h.cb _ k hk (e3 ▸ w6)), fun _ => rfl⟩
 ·intro p k hp; simpa using h.eR p k hp
 ·intro k hk; simp at hk; exact h.fresh k hk
 ·exact ⟨Mem.bM M, by simp, rfl, rfl, rfl, fun k hk hA => ⟨fI k (fun e0 => hA (e0 ▸ h.La b w6)), fun _ => rfl⟩, fun k r hk => by
   by_cases e0 : k = b
   ·subst e0
    rw [hc] at hk; cases hk
    exact ⟨r', mn, q5⟩
   ·exact ⟨r, (fI k e0).trans hk, rfl⟩⟩
def Perm.TF (A : Perm) (D : Nat) : Perm := ⟨fun b => A b ∧ b ≠ D, A.top, A.ok, A.base⟩
def Perm.Le (A' A : Perm) : Prop := A'.top = A.top ∧ (∀ b, A' b → A b) ∧ A'.base = A.base
theorem Perm.Le.refl (A : Perm) : A.Le A := ⟨rfl, fun _ h => h, rfl⟩
theorem Perm.Le.trans {A B C : Perm} (h : A.Le B) (k : B.Le C) : A.Le C := ⟨h.1.trans k.1, fun b hb => k.2.1 b (h.2.1 b hb), h.2.2.trans k.2.2⟩
theorem Perm.yQ (A : Perm) (D : Nat) : (A.TF D).Le A := ⟨rfl, fun _ h => h.1, rfl⟩
theorem Perm.Le.iY {A' A : Perm} (h : A'.Le A) (len id : Nat) : A'.iY len id = A.iY len id := by unfold Perm.iY; rw [h.1]
theorem Ext.le {A' : Perm} {M' : Mem} {w' : World} (h : Ext A' M w M' w') (hl : A'.Le A) : Ext A M w M' w' :=
 ⟨h.kv, h.size, h.os, h.tape, h.output, fun b hb hA => h.jV b hb fun h' => hA (hl.2.1 b h'), h.loops⟩
theorem St.le {A' : Perm} (h : St A' M L w H ev ea O) (hl : A'.Le A) : St A M L w H ev ea O :=
 { h with bB := fun id o ho => by rw [← hl.iY]; exact h.bB id o ho, La := fun b hb => hl.2.1 b (h.La b hb), Oa := fun p b hp => hl.2.1 b (h.Oa p b hp), fresh := fun b hb => hl.2.1 b (h.fresh b hb) }
theorem St.TF (h : St A M L w H ev ea O) {D : Nat} (h1 : D ∉ L) (h2 : ∀ p, O p ≠ some D) (h3 : D < w.heap.size) : St (A.TF D) M L w H ev ea O :=
 { h with
   bB := fun id o ho => by rw [(A.yQ D).iY]; exact h.bB id o ho
   La := fun b hb => ⟨h.La b hb, fun e => h1 (e ▸ hb)⟩
   Oa := fun p b hp => ⟨h.Oa p b hp, fun e => h2 p (e ▸ hp)⟩
   fresh := fun b hb => ⟨h.fresh b hb, fun e => by omega⟩ }
theorem N8.le {A' : Perm} {ds : List Deferred} (h : N8 A w ds) (hl : A'.Le A) : N8 A' w ds := ⟨by rw [hl.2.2]; exact h.1, h.2.1, fun d hd => by
 obtain ⟨D, h1, h2, h3, h4⟩ := h.2.2 d hd
 exact ⟨D, h1, h2, fun h' => h3 (hl.2.1 D h'), by rw [hl.2.2]; exact h4⟩⟩
end
end Go.aK
end
section
namespace Go.aK
open Go
structure bt where
 g : Option (Nat × Bool)
 dst : Option Nat
 op : bV
 deriving Inhabited
inductive DT where
 | done
 | take (st : Bool) (o : bt) (r : DT)
 | br (o : bt) (t rest : DT)
 | nil
 deriving Inhabited
def inst (il : List bt) : wc → DT
 | .done => .done
 | .take i st r => .take st (il.getD i default) (inst il r)
 | .br i t rest => .br (il.getD i default) (inst il t) (inst il rest)
 | .nil => .nil
inductive IR where
 | skip
 | region (ops : List bt) (live : Option (List Nat))
 | draw (t : DT) (live : Option (List Nat))
 | seq (a b : IR)
 | cond (x : IX) (a b : IR)
 | block (id : Nat) (a : IR)
 | loop (a : IR)
 | exit (id : Nat)
 | ret
 | never
 | iH (f : IX) (lc : hJ)
 deriving Inhabited
def eh (live : Option (List Nat)) (env : Env) : Env :=
 match live with
 | none => env
 | some l => l.map fun t => (t, get env t)
def gP (env : Env) (g : Nat) (want : Bool) (yes no : Env → Prop) : Prop :=
 match get env g with
 | .bool b => (b = want → yes ((g, .bool want) :: env)) ∧ (b = (!want) → no ((g, .bool (!want)) :: env))
 | .tuple [] => no env
 | _ => False
def qY (P : Px) (o : bt) (env : Env) (H : List aa) (K : Env → List aa → Prop) : Prop :=
 match o.g with
 | none => bp P o.op o.dst env H K
 | some (g, want) => gP env g want (fun env => bp P o.op o.dst env H K) (fun env => K (put o.dst (.tuple []) env) H)
def iV (P : Px) : List bt → Env → List aa → (Env → List aa → Prop) → Prop
 | [], env, H, K => K env H
 | o :: r, env, H, K => qY P o env H fun env H => iV P r env H K
def cR (P : Px) (o : bV) (ρ : IX → AV) (H : List aa) (x : AV) : Prop :=
 match o with
 | .set i false => (ρ i).ab = x
 | .pick c a b => eG (ρ c) fun q => (q = true → (ρ a).ab = x) ∧ (q = false → (ρ b).ab = x)
 | .bin op i j => cT op (ρ i) (ρ j) fun z => z = x
 | .shift op i j => dI op (ρ i) (ρ j) fun z => z = x
 | .gM neq i j => cn neq (ρ i) (ρ j) fun z => z = x
 | .iQ kd neq i => dc kd neq (ρ i) fun z => z = x
 | .un op i => yx op (ρ i) fun z => z = x
 | .k9 i => (ρ i).val = true ∧ .ai (ρ i) = x
 | .build z ps => cB z.cells (ps.map fun q => (q.1, q.2.1, ρ q.2.2)) fun v => v = x
 | .buildSlice own esz z len ps => bi (List.replicate len (aS z)) esz (ps.map fun q => (q.1, ρ q.2)) fun xs => .ap own xs = x
 | .load sz i => aR sz (ρ i) H fun z => z = x
 | .nilCheck i => bR (ρ i) fun z => z = x
 | .fieldAddr off sz i => ak off sz (ρ i) fun z => z = x
 | .field off sz i => eH off sz (ρ i) fun z => z = x
 | .indexAddr esz i j => (∀ own xs, ρ i = .ap own xs → ∀ z ∈ xs, z.cells.length = esz) ∧ ay esz (ρ i) (ρ j) fun z => z = x
 | .cZ i j => bH (ρ i) (ρ j) fun z => z = x
 | .dG n i j => bQ n (ρ i) (ρ j) fun z => z = x
 | .slice esz i lo hi mx => bA esz (ρ i) (lo.map ρ) (hi.map ρ) (mx.map ρ) fun z => z = x
 | .dH i lo hi => bZ (ρ i) (lo.map ρ) (hi.map ρ) fun z => z = x
 | .len kd i => aL kd (ρ i) ∧ eU (ρ i) H fun z => z = x
 | .lookup kd z m k ok => ca kd z (ρ m) (ρ k) ok H fun v => v = x
 | .fn f first cap => .fn f (first.map fun x => (ρ x).ab) (cap.map fun x => (ρ x).ab) = x
 | .extract i k => bC (ρ i) k fun z => z = x
 | .call f args none => match ρ f with
   | .fn (.func g) first cap => ∃ bO, xh (first.map AV.ab ++ (args.map fun x => (ρ x).ab) ++ cap.map AV.ab) bO ∧ aq P.prog g bO H (fun r H' => r = x ∧ H' = H)
   | _ => False
 | .eB k i => cp k (ρ i) fun z => z = x
 | .fZ i => fw (ρ i) fun z => z = x
 | .bytesOf i => eK 1 (ρ i) fun z => z = x
 | .mI esz bytes i => iF esz bytes (ρ i) fun z => z = x
 | .strOf i => jk (ρ i) fun z => z = x
 | .mx big i j => we big (ρ i) (ρ j) fun z => z = x
 | _ => False
def dv (P : Px) (st : Bool) (o : bV) (ρ : IX → AV) (H : List aa) (x : AV) : Prop :=
 match st with
 | true => cR P o ρ H x
 | false => ∀ H', cR P o ρ H' x
def sr (P : Px) (st : Bool) (o : bt) (env : Env) (H : List aa) (K : Env → Prop) : Prop :=
 match o.g with
 | none => ∃ x, dv P st o.op (al env) H x ∧ K (put o.dst x env)
 | some (g, want) => gP env g want (fun _ => ∃ x, dv P st o.op (al env) H x ∧ K (put o.dst x env)) (fun _ => K (put o.dst (.tuple []) env))
def tu (P : Px) : DT → Env → List aa → (Env → List aa → Prop) → Prop
 | .done, env, H, K => K env H
 | .take st o r, env, H, K => sr P st o env H fun env => tu P r env H K
 | .br o t rest, env, H, K => qY P o env H (fun env H => tu P t env H K) ∧ tu P rest env H K
 | .nil, _, _, _ => True
def sle (n0 : Nat) (env : Env) (H : List aa) (aC : Env) (H' : List aa) : Prop :=
 (∀ t, (get env t).le (get aC t)) ∧ (H' = H ∨ ∃ m, n0 ≤ m ∧ H' = H.take m ∧ ∀ t, (get aC t).aY m = true)
def F0 (n0 : Nat) (env : Env) (H : List aa) (aC : Env) (H' : List aa) : Prop :=
 (∀ t, (get env t).le (get aC t)) ∧ (H' = H ∨ ∃ m, n0 ≤ m ∧ H' = H.take m ∧ (∀ id o, n0 ≤ id → id < m → H[id]? = some o → o.aY m = true) ∧ ∀ t, (get aC t).aY m = true)
def F3 (lo : Option Nat) (n0 : Nat) (env : Env) (H : List aa) (aC : Env) (H' : List aa) : Prop :=
 match lo with
 | none => sle n0 env H aC H'
 | some _ => F0 n0 env H aC H'
def ke (n : Nat) (env : Env) : List AV := (List.range n).map fun t => (get env t).ab
def behind (id : Nat) (H' : List aa) (K : Option Code → List aa → Prop) : Prop :=
 match H'[id]? with
 | some (.loop .ready lc es) => K none (H'.set id (.loop .eu lc es))
 | some (.loop (.jump c) lc es) => K (some c) (H'.set id (.loop .eu lc es))
 | _ => False
def oS (j : Option Code) (Q : Exit → Env → List aa → Prop) (env : Env) (H : List aa) : Prop :=
 match j with
 | none => Q .normal env H
 | some .ret => Q .ret env H
 | some (.exit id) => Q (.exit id) env H
 | _ => False
def mf (P : Px) (n0 : Nat) : IR → Env → List aa → (Exit → Env → List aa → Prop) → Prop
 | .skip, env, H, Q => Q .normal env H
 | .region ops live, env, H, Q => iV P ops env H fun aC H' => Q .normal (eh live aC) H'
 | .draw t live, env, H, Q => tu P t env H fun aC H' => Q .normal (eh live aC) H'
 | .seq a b, env, H, Q => mf P n0 a env H fun e aC H' => match e with
   | .normal => mf P n0 b aC H' Q
   | e => Q e aC H'
 | .cond x a b, env, H, Q => eG (al env x) fun q => (q = true → mf P n0 a env H Q) ∧ (q = false → mf P n0 b env H Q)
 | .block id a, env, H, Q => mf P n0 a env H fun e aC H' => match e with
   | .exit id' => if id' = id then Q .normal aC H' else Q (.exit id') aC H'
   | e => Q e aC H'
 | .loop a, env, H, Q => ∃ (ι : Type) (I : ι → Prop) (se : ι → Env) (sh : ι → List aa) (μ : ι → Nat), (∃ i, I i ∧ F3 P.lo n0 env H (se i) (sh i)) ∧
    ∀ i, I i → mf P n0 a (se i) (sh i) fun e aC H' => match e with
     | .normal => ∃ j, I j ∧ μ j < μ i ∧ F3 P.lo n0 aC H' (se j) (sh j)
     | e => Q e aC H'
 | .exit id, env, H, Q => Q (.exit id) env H
 | .ret, env, H, Q => Q .ret env H
 | .never, env, H, Q => False
 | .iH f lc, env, H, Q => match al env f with
   | .fn (.func g) first cap => (∀ (as : Array Value) (w : World), (callFunc g as).run P.prog w = .ok (.enter g as) w) ∧
     ∃ bO, xh (first.map AV.ab ++ [.mF H.length] ++ cap.map AV.ab) bO ∧ dU P g bO (H ++ [.loop .ready lc (ke lc.n env)]) fun _ H' => behind H.length H' fun j H'' => oS j Q env H''
   | _ => False
def Au.at_ (an : Au) (r i : Nat) : Nat := match an.find? fun x => x.1 == r && x.2.1 == i with | some x => x.2.2 | none => 0
def l7.at_ (lv : l7) (r : Nat) : Option (List Nat) := (lv.find? fun x => x.1 == r).map (·.2)
def EI (n : Nat) (o : Oper) : Bool := (match o.dst with | some d => d < n | none => true) && (match o.op with | .store .. | .mapUpdate .. => o.dst.isNone | _ => true)
def EJ (ops : Array Oper) (o : Oper) : Option (Option (Nat × Bool)) :=
 match o.guard with
 | none => some none
 | some (j, want) => match (ops[j]?).bind (·.dst) with
   | some g => some (some (g, want))
   | none => none
def EK (i : IX) (d : Nat) : Bool := match i with | .t s => decide (s ≠ d) | _ => true
def PK (P : Program) (ops : Array Oper) (n : Nat) (fl : Nat) (o o' : Oper) : Option bt :=
 match fl, o.op, o.dst, o.guard, o'.op, o'.dst, o'.guard with
 | 2, .alloc e, some d, none, .store t (.tmp d') x, none, none =>
   if d = d' ∧ d < n ∧ t = e then (match aP x, dz P t, ft P e with
    | some i, some m, some z => if EK i d = true ∧ z.cells.length = m ∧ z.val = true ∧ m ≠ 0 then some ⟨none, some d, .qQ m i⟩ else none
    | _, _, _ => none) else none
 | _, _, _, _, _, _, _ => none
def eC (P : Program) (ops : Array Oper) (an : Au) (n rid : Nat) (fu : Bool) : Nat → Nat → List Oper → Option (List bt)
 | _, _, [] => some []
 | 0, _, _ => none
 | fuel + 1, k, o :: r =>
   if an.at_ rid k = 1000 ∧ fu = true then
    match r with
    | o' :: r' => match PK P ops n 2 o o', eC P ops an n rid fu fuel (k + 2) r' with
      | some x, some xs => some (x :: xs)
      | _, _ => none
    | [] => none
   else
    match EJ ops o, eC P ops an n rid fu fuel (k + 1) r with
    | some g, some xs => if EI n o = true then some (⟨g, o.dst, AR P o (an.at_ rid k)⟩ :: xs) else none
    | _, _ => none
def bV.all : bV → List IX
 | .set i _ => [i]
 | .pick c a b => [c, a, b]
 | .bin _ i j | .shift _ i j | .gM _ i j | .indexAddr _ i j | .cZ i j | .dG _ i j | .lookup _ _ i j _ | .mx _ i j | .store _ i j | .mH _ i j | .append _ _ i j | .iS _ _ _ i j | .copy _ i j => [i, j]
 | .mK _ _ i | .yv _ i | .iQ _ _ i | .un _ i | .box i | .k9 i | .qQ _ i | .load _ i | .rY _ _ i | .dZ i | .nilCheck i | .fieldAddr _ _ i | .field _ _ i | .len _ i | .rZ _ _ _ i | .mI _ _ i | .extract i _ | .eB _ i | .fZ i | .bytesOf i | .strOf i => [i]
 | .eT i s => [i, .t s]
 | .jW _ i j k => [i, j, k]
 | .build _ ps => ps.map fun q => q.2.2
 | .buildSlice _ _ _ _ ps | .Ax _ _ _ ps => ps.map fun q => q.2
 | .slice _ i lo hi m | .oN _ i lo hi m => i :: (lo.toList ++ hi.toList ++ m.toList)
 | .dH i lo hi => i :: (lo.toList ++ hi.toList)
 | .fn _ first cap => first ++ cap
 | .call f args _ => f :: args
 | .alloc _ | .mJ | .never => []
def IX.Og : List IX → List Nat := fun l => l.filterMap fun i => match i with | .t s => some s | .c _ => none
def bV.kill : bV → List Nat
 | .set (.t s) true => [s]
 | .eT _ s => [s]
 | .append _ _ (.t s) _ => [s]
 | .call _ args pass => (match pass with | some j => (match args[j]? with | some (.t s) => [s] | _ => []) | none => [])
 | _ => []
def bV.PL : bV → Bool
 | .box _ | .alloc _ | .dZ _ | .store .. | .mH .. | .rY .. | .eT .. | .rZ .. | .mJ | .jW .. | .call .. | .copy .. | .yv .. | .Ax .. | .iS .. | .mK .. | .never => true
 | _ => false
def bt.lk (o : bt) : List Nat := IX.Og o.op.all ++ (match o.g with | some (g, _) => [g] | none => [])
def bV.S1 (o : bV) (pure : Bool) : Bool :=
 match o with
 | .set _ take => !take
 | .call _ _ none => pure
 | .never | .call .. | .append .. => false
 | .qQ .. => false
 | o => !o.PL
def bV.xj : bV → Bool
 | .box _ | .alloc _ | .mJ => true
 | _ => false
def bV.stays : bV → Bool
 | .call .. => false
 | _ => true
def qZ (st : Bool) (oi oj : bt) : Bool :=
 (match oi.dst with | some d => !oj.lk.contains d && oj.dst != some d && !oj.op.kill.contains d | none => true) &&
 (match oj.dst with | some d => !oi.lk.contains d | none => true) &&
 oj.op.kill.all (fun s => !oi.lk.contains s) && (!st || !oj.op.PL || (oj.op.xj && oi.op.stays))
def dg (ops : Array Oper) : Nat → Nat → Nat → Bool
 | 0, _, _ => false
 | f + 1, j, i => match ops[j]? with
   | some o => o.after.any fun e => Region.binds .any e && (e.on == i || dg ops f e.on i)
   | none => false
def mR (ops : Array Oper) (il : List bt) (listed : Array Bool) (i : Nat) (st : Bool) : Bool :=
 (List.range ops.size).all fun j => j == i || listed.getD j true || dg ops ops.size j i || qZ st (il.getD i default) (il.getD j default)
def s8 (ops : Array Oper) (il : List bt) : Nat → Array Bool → Option (List Nat) → wc → Bool
 | _, listed, none, .done => (Region.ready .any ops listed).isEmpty
 | f + 1, listed, none, .take i st r => (Region.ready .any ops listed).contains i && (il.getD i default).op.S1 true && mR ops il listed i st && s8 ops il f (listed.setIfInBounds i true) none r
 | f + 1, listed, none, .br i t rest => (match Region.ready .any ops listed with | k :: ks => k == i && s8 ops il f (listed.setIfInBounds i true) none t && s8 ops il (f + 1) listed (some ks) rest | [] => false)
 | f + 1, listed, some (k :: ks), .br i t rest => k == i && s8 ops il f (listed.setIfInBounds i true) none t && s8 ops il (f + 1) listed (some ks) rest
 | _, _, some [], .nil => true
 | _, _, _, _ => false
def jo : List Edge → Nat
 | [] => 0
 | e :: r => if Region.binds .any e = true then (1 <<< e.on) ||| jo r else jo r
def gh (rs : List Nat) : List Edge → Nat
 | [] => 0
 | e :: r => if Region.binds .any e = true ∧ e.on < rs.length then ((1 <<< e.on) ||| rs.getD e.on 0) ||| gh rs r else gh rs r
def eL : List Oper → List Nat → List Nat
 | [], acc => acc
 | o :: r, acc => eL r (acc ++ [gh acc o.after.toList])
def lq (m : Nat) : Nat → List Nat → List Nat
 | _, [] => []
 | i, a :: r => if m.testBit i = false ∧ a &&& m = a then i :: lq m (i + 1) r else lq m (i + 1) r
def AU (m i : Nat) (st : Bool) (oi : bt) : Nat → List Nat → List bt → Bool
 | j, r :: rs, o :: os => (j == i || m.testBit j || r.testBit i || qZ st oi o) && AU m i st oi (j + 1) rs os
 | _, _, [] => true
 | _, [], _ :: _ => false
def kB (am rm : List Nat) (il : List bt) : Nat → Nat → Option (List Nat) → wc → Bool
 | _, m, none, .done => (lq m 0 am).isEmpty
 | f + 1, m, none, .take i st r => (lq m 0 am).contains i && (il.getD i default).op.S1 true && AU m i st (il.getD i default) 0 rm il && kB am rm il f (m ||| (1 <<< i)) none r
 | f + 1, m, none, .br i t rest => (match lq m 0 am with | k :: ks => k == i && kB am rm il f (m ||| (1 <<< i)) none t && kB am rm il (f + 1) m (some ks) rest | [] => false)
 | f + 1, m, some (k :: ks), .br i t rest => k == i && kB am rm il f (m ||| (1 <<< i)) none t && kB am rm il (f + 1) m (some ks) rest
 | _, _, some [], .nil => true
 | _, _, _, _ => false
def l8.at_ (pl : l8) (r : Nat) : wc := match pl.find? fun x => x.1 == r with | some x => x.2 | none => .done
def comp (P : Program) (an : Au) (lv : l7) (pl : l8) (n : Nat) : Code → Option IR
 | .skip => some .skip
 | .region id ops false => (eC P ops an n id true (ops.size + 1) 0 ops.toList).map fun l => .region l (lv.at_ id)
 | .region id ops true => match eC P ops an n id false (ops.size + 1) 0 ops.toList with
   | some il => if P.follows .mixedOrders = true ∧ kB (ops.toList.map fun o => jo o.after.toList) (eL ops.toList []) il ops.size 0 none (pl.at_ id) = true then some (.draw (inst il (pl.at_ id)) (lv.at_ id)) else none
   | none => none
 | .seq a b => match comp P an lv pl n a, comp P an lv pl n b with
   | some x, some y => some (.seq x y)
   | _, _ => none
 | .cond c a b => match aP c, comp P an lv pl n a, comp P an lv pl n b with
   | some i, some x, some y => some (.cond i x y)
   | _, _, _ => none
 | .block id a => (comp P an lv pl n a).map (.block id)
 | .loop a => (comp P an lv pl n a).map .loop
 | .exit id => some (.exit id)
 | .ret => some .ret
 | .rangeFunc f ps as bd => (aP f).map fun i => .iH i ⟨n, ps.toList, as, bd, an, lv, pl⟩
 | _ => some .never
theorem iI (n k : Nat) : (1 <<< n).testBit k = decide (n = k) := by
 rw [Nat.shiftLeft_eq, Nat.one_mul, Nat.testBit_two_pow]
theorem Dc (m : Nat) : ∀ (es : List Edge), (jo es &&& m = jo es) ↔ ∀ e ∈ es, Region.binds .any e = true → m.testBit e.on = true := by
 have key : ∀ a : Nat, (a &&& m = a) ↔ ∀ i, a.testBit i = true → m.testBit i = true := by
  intro a
  constructor
  ·intro h i hi
   rw [← h] at hi
   simp only [Nat.testBit_and, Bool.and_eq_true] at hi
   exact hi.2
  ·intro h
   apply Nat.eq_of_testBit_eq
   intro i
   rw [Nat.testBit_and]
   cases ha : a.testBit i with
   | false => simp
   | true => simp [h i ha]
 intro es
 rw [key]
 induction es with
 | nil => simp [jo]
 | cons e r ih =>
   simp only [jo]
   split
   ·rename_i hb
    constructor
    ·intro h e' Dd dR
     rcases List.mem_cons.1 Dd with rfl | Dd
     ·exact h _ (by simp [])
     ·exact ih.1 (fun i hi => h i (by simp [hi])) e' Dd dR
    ·intro h i hi
     simp only [Nat.testBit_or, Bool.or_eq_true, iI, decide_eq_true_eq] at hi
     rcases hi with rfl | hi
     ·exact h e (by simp) hb
     ·exact ih.2 (fun e' Dd dR => h e' (List.mem_cons_of_mem _ Dd) dR) i hi
   ·rename_i hb
    constructor
    ·intro h e' Dd dR
     rcases List.mem_cons.1 Dd with rfl | Dd
     ·exact absurd dR hb
     ·exact ih.1 h e' Dd dR
    ·intro h
     exact ih.2 (fun e' Dd dR => h e' (List.mem_cons_of_mem _ Dd) dR)
theorem lr {rs : List Nat} {i : Nat} : ∀ {es : List Edge}, (gh rs es).testBit i = true → ∃ e ∈ es, Region.binds .any e = true ∧ e.on < rs.length ∧ (e.on = i ∨ (rs.getD e.on 0).testBit i = true)
 | [], h => by simp [gh] at h
 | e :: r, h => by
   simp only [gh] at h
   split at h
   ·rename_i hb
    simp only [Nat.testBit_or, Bool.or_eq_true, iI, decide_eq_true_eq] at h
    rcases h with h | h
    ·exact ⟨e, by simp, hb.1, hb.2, h⟩
    ·obtain ⟨e', Dd, h'⟩ := lr h
     exact ⟨e', List.mem_cons_of_mem _ Dd, h'⟩
   ·obtain ⟨e', Dd, h'⟩ := lr h
    exact ⟨e', List.mem_cons_of_mem _ Dd, h'⟩
theorem ul : ∀ (l : List Oper) (acc : List Nat), ∃ r, eL l acc = acc ++ r ∧ r.length = l.length
 | [], acc => ⟨[], by simp [eL], rfl⟩
 | o :: l, acc => by
   obtain ⟨r, h1, h2⟩ := ul l (acc ++ [gh acc o.after.toList])
   exact ⟨gh acc o.after.toList :: r, by simp [eL, h1], by simp [h2]⟩
theorem um : ∀ (l : List Oper) (acc : List Nat) (j : Nat) (o : Oper), l[j]? = some o → (eL l acc)[acc.length + j]? = some (gh ((eL l acc).take (acc.length + j)) o.after.toList)
 | [], acc, j, o, h => by simp at h
 | x :: l, acc, 0, o, h => by
   simp at h
   subst h
   simp only [eL]
   obtain ⟨r, h1, h2⟩ := ul l (acc ++ [gh acc x.after.toList])
   rw [h1]
   simp
 | x :: l, acc, j + 1, o, h => by
   have ih := um l (acc ++ [gh acc x.after.toList]) j o (by simpa using h)
   simp only [eL]
   simp only [List.length_append, List.length_cons, List.length_nil] at ih
   rw [show acc.length + (j + 1) = acc.length + (0 + 1) + j by omega]
   exact ih
theorem De {ops : Array Oper} {i : Nat} : ∀ (j f : Nat), j < f → j < ops.size → ((eL ops.toList []).getD j 0).testBit i = true → dg ops f j i = true := by
 intro j
 induction j using Nat.strongRecOn with
 | _ j ih =>
   intro f hf hj h
   have PM : ops[j]? = some ops[j] := by simp [hj]
   have hg := um ops.toList [] j ops[j] (by simp [hj])
   simp only [List.length_nil, Nat.zero_add] at hg
   rw [List.getD_eq_getElem?_getD, hg, Option.getD_some] at h
   obtain ⟨e, he, hb, a8, Tp⟩ := lr h
   have mv : e.on < j := by simp at a8; omega
   cases f with
   | zero => omega
   | succ f =>
     simp only [dg, PM]
     rw [Array.any_eq_true']
     refine ⟨e, by simpa using he, ?_⟩
     simp only [Bool.and_eq_true, Bool.or_eq_true, beq_iff_eq]
     refine ⟨hb, ?_⟩
     rcases Tp with h1 | h1
     ·exact .inl h1
     ·refine .inr (ih e.on mv f (by omega) (by omega) ?_)
      have : ((eL ops.toList []).take j).getD e.on 0 = (eL ops.toList []).getD e.on 0 := by
       simp [List.getD_eq_getElem?_getD, mv]
      rw [this] at h1
      exact h1
def bitsOf (n : Nat) (listed : Array Bool) (m : Nat) : Prop := listed.size = n ∧ ∀ k, m.testBit k = listed.getD k false
theorem uo {n : Nat} {listed : Array Bool} {m i : Nat} (h : bitsOf n listed m) (hi : i < n) : bitsOf n (listed.setIfInBounds i true) (m ||| (1 <<< i)) := by
 obtain ⟨h1, h2⟩ := h
 refine ⟨by simp [h1], fun k => ?_⟩
 rw [Nat.testBit_or, h2 k, iI]
 simp only [Array.getD_eq_getD_getElem?, Array.getElem?_setIfInBounds]
 by_cases hk : i = k
 ·subst hk
  simp [h1, hi]
 ·simp [hk]
theorem uq {ops : Array Oper} {listed : Array Bool} {m : Nat} (hb : bitsOf ops.size listed m) : ∀ (l : List Oper) (i : Nat), (∀ j, l[j]? = ops[i + j]?) →
 lq m i (l.map fun o => jo o.after.toList) = (List.range' i l.length).filter fun i => !listed.getD i true && ((ops[i]?).map (·.after.all fun e => !Region.binds .any e || listed.getD e.on false)).getD false
 | [], i, _ => by simp [lq]
 | o :: l, i, h => by
   have h0 : ops[i]? = some o := by simpa using (h 0).symm
   have hi : i < ops.size := (Array.getElem?_eq_some_iff.1 h0).1
   have ih := uq hb l (i + 1) (fun j => by have := h (j + 1); simpa [Nat.add_assoc, Nat.add_comm 1 j] using this)
   simp only [List.map_cons, lq, List.length_cons, List.range'_succ, List.filter_cons]
   have e1 : (m.testBit i = false) ↔ (listed.getD i true = false) := by
    rw [hb.2 i]
    have : i < listed.size := by rw [hb.1]; exact hi
    simp [Array.getD, this]
   have e2 : (jo o.after.toList &&& m = jo o.after.toList) ↔ (o.after.all fun e => !Region.binds .any e || listed.getD e.on false) = true := by
    rw [Dc, Array.all_eq_true']
    simp only [Array.mem_toList_iff, Bool.or_eq_true, Bool.not_eq_true', hb.2]
    constructor
    ·intro h e he
     cases Ya : Region.binds .any e with
     | false => exact .inl rfl
     | true => exact .inr (h e he Ya)
    ·intro h e he Ya
     rcases h e he with h | h
     ·rw [Ya] at h; cases h
     ·exact h
   by_cases hc : m.testBit i = false ∧ jo o.after.toList &&& m = jo o.after.toList
   ·rw [if_pos hc, if_pos (by rw [h0]; simp only [Option.map_some, Option.getD_some, e1.1 hc.1, e2.1 hc.2, Bool.not_false, Bool.and_self]), ih]
   ·rw [if_neg hc, if_neg (by
     rw [h0]
     simp only [Option.map_some, Option.getD_some, Bool.and_eq_true, Bool.not_eq_true']
     intro h'
     exact hc ⟨e1.2 h'.1, e2.2 h'.2⟩), ih]
theorem ra {ops : Array Oper} {listed : Array Bool} {m : Nat} (hb : bitsOf ops.size listed m) : lq m 0 (ops.toList.map fun o => jo o.after.toList) = Region.ready .any ops listed := by
 rw [uq hb ops.toList 0 (by simp)]
 unfold Region.ready
 simp [List.range_eq_range']
theorem ur {ops : Array Oper} {il : List bt} {listed : Array Bool} {m i : Nat} {st : Bool} {oi : bt} (hb : bitsOf ops.size listed m) : ∀ (rs : List Nat) (os : List bt) (j : Nat), (∀ k, os[k]? = il[j + k]?) → (∀ k, rs[k]? = (eL ops.toList [])[j + k]?) → AU m i st oi j rs os = true →
 ∀ k, j ≤ k → k < ops.size → k < il.length → (k == i || listed.getD k true || dg ops ops.size k i || qZ st oi (il.getD k default)) = true
 | rs, [], j, h1, _, _, k, Of, _, hk => by
   have := h1 (k - j)
   rw [show j + (k - j) = k by omega] at this
   simp at this
   omega
 | [], o :: os, j, h1, h2, h, _, _, _, _ => by simp [AU] at h
 | r :: rs, o :: os, j, h1, h2, h, k, Of, C5, EF => by
   simp only [AU, Bool.and_eq_true] at h
   by_cases hk : k = j
   ·subst hk
    have ho : il.getD k default = o := by
     have := h1 0
     simp at this
     rw [List.getD_eq_getElem?_getD, ← this]; rfl
    have hr : (eL ops.toList []).getD k 0 = r := by
     have := h2 0
     simp at this
     rw [List.getD_eq_getElem?_getD, ← this]; rfl
    have h := h.1
    simp only [Bool.or_eq_true] at h ⊢
    rcases h with ((h | h) | h) | h
    ·exact .inl (.inl (.inl h))
    ·refine .inl (.inl (.inr ?_))
     rw [hb.2 k] at h
     have : k < listed.size := by rw [hb.1]; exact C5
     simpa [Array.getD, this] using h
    ·exact .inl (.inr (De k _ C5 C5 (by rw [hr]; exact h)))
    ·rw [ho]; exact .inr h
   ·exact ur hb rs os (j + 1) (fun q => by have := h1 (q + 1); simpa [Nat.add_assoc, Nat.add_comm 1 q] using this) (fun q => by have := h2 (q + 1); simpa [Nat.add_assoc, Nat.add_comm 1 q] using this) h.2 k (by omega) C5 EF
theorem pO {ops : Array Oper} {listed : Array Bool} {i : Nat} (h : i ∈ Region.ready .any ops listed) : i < ops.size := by
 unfold Region.ready at h
 simp at h
 exact h.1
theorem Ik {ops : Array Oper} {il : List bt} (cW : il.length = ops.size) : ∀ (p : wc) (f m : Nat) (listed : Array Bool) (rem : Option (List Nat)), bitsOf ops.size listed m → (∀ ks, rem = some ks → ∀ k ∈ ks, k < ops.size) →
 kB (ops.toList.map fun o => jo o.after.toList) (eL ops.toList []) il f m rem p = true → s8 ops il f listed rem p = true := by
 intro p
 induction p with
 | done =>
   intro f m listed rem hb _ h
   cases rem with
   | none => cases f <;> (simp only [kB, ra hb] at h; simpa [s8] using h)
   | some ks => cases ks <;> cases f <;> simp [kB] at h
 | nil =>
   intro f m listed rem hb _ h
   cases rem with
   | none => cases f <;> simp [kB] at h
   | some ks => cases ks <;> cases f <;> simp [kB] at h <;> simp [s8]
 | take i st r ih =>
   intro f m listed rem hb _ h
   cases rem with
   | some ks => cases ks <;> cases f <;> simp [kB] at h
   | none =>
     cases f with
     | zero => simp [kB] at h
     | succ f =>
       simp only [kB, ra hb, Bool.and_eq_true] at h
       obtain ⟨⟨⟨h1, h2⟩, h3⟩, h4⟩ := h
       have hi : i < ops.size := pO (by simpa using h1)
       simp only [s8, Bool.and_eq_true]
       refine ⟨⟨⟨h1, h2⟩, ?_⟩, ih _ _ _ _ (uo hb hi) (by simp) h4⟩
       unfold mR
       refine List.all_eq_true.2 fun k hk => ?_
       have Pt : k < ops.size := List.mem_range.1 hk
       exact ur hb (eL ops.toList []) il 0 (fun k => by rw [Nat.zero_add]) (fun k => by rw [Nat.zero_add]) h3 k (Nat.zero_le _) Pt (by omega)
 | br i t rest Il HB =>
   intro f m listed rem hb Yb h
   cases f with
   | zero => cases rem with
     | none => simp [kB] at h
     | some ks => cases ks <;> simp [kB] at h
   | succ f =>
     cases rem with
     | none =>
       simp only [kB, ra hb] at h
       simp only [s8]
       split at h
       ·rename_i k ks hr
        simp only [Bool.and_eq_true, beq_iff_eq] at h
        obtain ⟨⟨rfl, h1⟩, h2⟩ := h
        have hk : ∀ q ∈ k :: ks, q < ops.size := fun q hq => pO (by rw [hr]; exact hq)
        simp only [Bool.and_eq_true, beq_iff_eq, true_and]
        exact ⟨Il _ _ _ _ (uo hb (hk k (by simp))) (by simp) h1, HB _ _ _ _ hb (fun ks' e q hq => by cases e; exact hk q (by simp [hq])) h2⟩
       ·cases h
     | some ks =>
       cases ks with
       | nil => simp [kB] at h
       | cons k ks =>
         simp only [kB, Bool.and_eq_true, beq_iff_eq] at h
         obtain ⟨⟨rfl, h1⟩, h2⟩ := h
         have hk := Yb _ rfl
         simp only [s8, Bool.and_eq_true, beq_iff_eq, true_and]
         exact ⟨Il _ _ _ _ (uo hb (hk k (by simp))) (by simp) h1, HB _ _ _ _ hb (fun ks' e q hq => by cases e; exact hk q (by simp [hq])) h2⟩
theorem F4 (n : Nat) : bitsOf n (Array.replicate n false) 0 := ⟨by simp, fun k => by
 simp only [Nat.zero_testBit, Array.getD_eq_getD_getElem?, Array.getElem?_replicate]
 split <;> rfl⟩
section
variable {ro : Option Nat} {P : Program} {lo : Option Nat} {A : Perm} {n : Nat} {M : Mem} {L : List Nat} {w : World} {H : List aa} {env : Env} {O : Pos → Option Nat} {a : Act} {ev : Nat → Value} {ea : Nat → AV}
def Df (A : Perm) (n : Nat) (M0 : Mem) (L0 : List Nat) (w0 : World) (Q : Exit → Env → List aa → Prop) (e : Exit) (a : Act) (w : World) : Prop :=
 ∃ A' M L H env O, A'.Le A ∧ Q e env H ∧ Fr A' n M L w H env O a ∧ Ext A M0 w0 M w ∧ L0 <+: L
theorem Fr.Dg (h : Fr A n M L w H env O a) {aC : Env} (he : get aC = get env) : Fr A n M L w H aC O a := ⟨by rw [he]; exact h.st, h.size, h.defers⟩
theorem Fr.weaken (h : Fr A n M L w H env O a) {aC : Env} (hl : ∀ t, (get env t).le (get aC t)) : ∃ O', Fr A n M L w H aC O' a := by
 obtain ⟨O', h'⟩ := h.st.weaken hl
 exact ⟨O', h', h.size, h.defers⟩
theorem le_refl (x : AV) : x.le x := .inl rfl
theorem PN (x : AV) : x.le .any := .inr (.inl rfl)
theorem xk (live : Option (List Nat)) (env : Env) (t : Nat) : (get env t).le (get (eh live env) t) := by
 cases live with
 | none => exact le_refl _
 | some l =>
   simp only [eh]
   induction l with
   | nil => exact PN _
   | cons s l ih =>
     simp only [List.map_cons, get]
     split
     ·rename_i e; subst e; exact le_refl _
     ·exact ih
theorem get_mem {env : Env} {t : Nat} {x : AV} (h : get env t = x) : x = .any ∨ (t, x) ∈ env := by
 induction env with
 | nil => left; exact h.symm
 | cons p r ih =>
   obtain ⟨k, v⟩ := p
   simp only [get] at h
   split at h
   ·rename_i e; subst e; subst h; right; simp
   ·rcases ih h with h' | h'
    ·exact .inl h'
    ·exact .inr (List.mem_cons_of_mem _ h')
theorem aA (n0 : Nat) (env : Env) (H : List aa) : sle n0 env H env H := ⟨fun t => le_refl _, .inl rfl⟩
def fz (lo : Option Nat) (n0 : Nat) (A : Perm) : Prop := (∀ id, id < n0 → ∃ m, m ≤ n0 ∧ A.top id = some m) ∧ match lo with
 | none => ∀ id, n0 ≤ id → A.top id = some (id + 1)
 | some l => l = n0 ∧ ∀ id, n0 ≤ id → A.top id = none
theorem fz.opens {n0 : Nat} (h : fz lo n0 A) : ∀ l, lo = some l → ∀ id, l ≤ id → A.top id = none := by
 rintro l rfl id bm
 obtain ⟨_, rfl, h⟩ := h
 exact h id bm
theorem fz.low {n0 m : Nat} (h : fz lo n0 A) (hm : n0 ≤ m) (hs : St A M L w H ev ea O) : ∀ id o, id < n0 → H[id]? = some o → o.aY m = true := by
 intro id o bm ho
 obtain ⟨k, hk, e⟩ := h.1 id bm
 have := hs.bB id o ho
 refine aa.cD ?_ o this
 unfold Perm.iY
 rw [e]
 exact Nat.le_trans (Nat.min_le_left _ _) (by omega)
theorem fz.closed {n0 m : Nat} (h : fz none n0 A) (hm : n0 ≤ m) (hs : St A M L w H ev ea O) : ∀ id o, id < m → H[id]? = some o → o.aY m = true := by
 intro id o bm ho
 by_cases e : id < n0
 ·exact h.low hm hs id o e ho
 ·have e1 := h.2 id (by omega)
  have := hs.bB id o ho
  refine aa.cD ?_ o this
  unfold Perm.iY
  rw [e1]
  exact Nat.le_trans (Nat.min_le_left _ _) (by omega)
theorem Fr.sle (h : Fr A n M L w H env O a) {aC : Env} {H' : List aa} {L0 : List Nat} (hA : fz lo L0.length A) (hL : L0 <+: L) (hl : F3 lo L0.length env H aC H') : ∃ L' O', Fr A n M L' w H' aC O' a ∧ L0 <+: L' := by
 have wB : F0 L0.length env H aC H' := by
  unfold F3 at hl
  split at hl
  ·obtain ⟨h1, h2⟩ := hl
   refine ⟨h1, ?_⟩
   rcases h2 with rfl | ⟨m, hm, rfl, hb⟩
   ·exact .inl rfl
   ·exact .inr ⟨m, hm, rfl, fun id o _ bm ho => hA.closed hm h.st id o bm ho, hb⟩
  ·exact hl
 obtain ⟨h1, h2⟩ := wB
 obtain ⟨O', hf⟩ := h.weaken h1
 rcases h2 with rfl | ⟨m, hm, rfl, hc, hb⟩
 ·exact ⟨L, O', hf, hL⟩
 ·obtain ⟨O'', bP⟩ := hf.st.cut m (fun id o bm ho => by
   by_cases e : id < L0.length
   ·exact hA.low hm hf.st id o e ho
   ·exact hc id o (by omega) bm ho) hb
  refine ⟨L.take m, O'', ⟨bP, hf.size, hf.defers⟩, ?_⟩
  obtain ⟨r, rfl⟩ := hL
  exact ⟨r.take (m - L0.length), by rw [List.take_append, List.take_of_length_le hm]⟩
theorem yR {ops : Array Oper} {j g : Nat} (hg : (ops[j]?).bind (·.dst) = some g) (hf : Fr A n M L w H env O a) {b : Bool} (hb : get env g = .bool b) : yielded ops a.tmps j = some b := by
 have hr := hf.st.env g
 rw [hb] at hr
 generalize hv : a.tmps.getD g undef = v at hr
 cases hr
 have : a.tmps[g]? = some (.bool b) := by
  rw [Array.getD_eq_getD_getElem?] at hv
  cases h : a.tmps[g]? with
  | none => rw [h] at hv; cases hv
  | some v => rw [h] at hv; simp at hv; rw [hv]
 simp [yielded, hg, this]
theorem wC {ops : Array Oper} {j g : Nat} (hg : (ops[j]?).bind (·.dst) = some g) (hf : Fr A n M L w H env O a) (hb : get env g = .tuple []) : yielded ops a.tmps j = none := by
 have hr := hf.st.env g
 rw [hb] at hr
 generalize hv : a.tmps.getD g undef = v at hr
 cases hr with
 | tuple cs _ h =>
 rw [Array.getD_eq_getD_getElem?] at hv
 simp only [yielded, hg, Option.bind_some]
 cases h : a.tmps[g]? with
 | none => rfl
 | some v => rw [h] at hv; simp at hv; rw [hv]
theorem xl {ops : Array Oper} {o : Oper} {fl : Nat} {g : Option (Nat × Bool)} (hg : EJ ops o = some g) (fM : EI n o = true) (hp : ∀ l, lo = some l → ∀ id, l ≤ id → A.top id = none) (hf : Fr A n M L w H env O a) {K : Env → List aa → Prop} (h : qY ⟨P, lo⟩ ⟨g, o.dst, AR P o fl⟩ env H K) (Q : Exit → Act → World → Prop) :
 if Region.wanted o (yielded ops a.tmps) then o.wpIn (wf ro) 0 P a w (mD A n M L w K) Q else mD A n M L w K (a.put o.dst undef) w := by
 simp only [EI, Bool.and_eq_true] at fM
 have hd : ∀ d, o.dst = some d → d < n := by
  intro d hd
  have := fM.1
  rw [hd] at this
  simpa using this
 have hn : (match o.op with | .store .. | .mapUpdate .. => o.dst = none | _ => True) := by
  have := fM.2
  split at this <;> first | trivial | skip
  ·simpa using this
  ·simpa using this
 unfold EJ at hg
 split at hg
 ·rename_i KQ
  cases hg
  rw [if_pos (by simp [Region.wanted, KQ])]
  exact sq o hp hf hd hn h
 ·rename_i j want KQ
  split at hg <;> cases hg
  rename_i g hgj
  simp only [qY, gP] at h
  split at h
  rotate_left
  ·rename_i hb
   have hy := wC hgj hf hb
   rw [if_neg (by simp [Region.wanted, KQ, hy])]
   obtain ⟨O', oR⟩ := hf.om (dst := o.dst) (v := undef) (x := .tuple []) hd (.tuple [] [] .nil) (by intro _ _ e; cases e)
   exact ⟨M, L, H, _, O', h, oR, Ext.refl A M w, List.prefix_refl L⟩
  ·exact h.elim
  rename_i b hb
  have hy := yR hgj hf hb
  have TG : get ((g, AV.bool b) :: env) = get env := by
   rw [HR]; funext t; simp only [fa]; split
   ·rename_i e; rw [e, hb]
   ·rfl
  by_cases hw : b = want
  ·subst hw
   rw [if_pos (by simp [Region.wanted, KQ, hy])]
   exact sq o hp (hf.Dg TG) hd hn (h.1 rfl)
  ·have EL : b = !want := by cases b <;> cases want <;> simp_all
   subst EL
   rw [if_neg (by simp [Region.wanted, KQ, hy])]
   obtain ⟨O', oR⟩ := (hf.Dg TG).om (dst := o.dst) (v := undef) (x := .tuple []) hd (.tuple [] [] .nil) (by intro _ _ e; cases e)
   exact ⟨M, L, H, _, O', h.2 rfl, oR, Ext.refl A M w, List.prefix_refl L⟩
theorem mD.trans {K K' : Env → List aa → Prop} {M' : Mem} {L' : List Nat} {w' : World} {a' : Act} {w'' : World} (cq : Ext A M w M' w') (hL : L <+: L') (h : mD A n M' L' w' K a' w'') : mD A n M L w K a' w'' := by
 obtain ⟨M2, L2, H2, cG, O2, h1, h2, h3, h4⟩ := h
 exact ⟨M2, L2, H2, cG, O2, h1, h2, cq.trans h3, hL.trans h4⟩
theorem AW (w : World) (c c' : Array Value) (e : TypeId) : ({ w with heap := w.heap.push (.cells c e) } : World).setRow w.heap.size c' = { w with heap := w.heap.push (.cells c' e) } := by
 simp only [World.setRow]
 congr 1
 apply Array.ext
 ·simp
 ·intro i h1 h2
  rw [Array.getElem_modify]
  by_cases hi : w.heap.size = i
  ·subst hi; simp
  ·simp only [hi, if_false]
   have : i < w.heap.size := by simp at h2; omega
   rw [Array.getElem_push_lt this, Array.getElem_push_lt this]
theorem Dh {ops : Array Oper} {o o' : Oper} {x : bt} (hx : PK P ops n 2 o o' = some x) (hf : Fr A n M L w H env O a) {K : Env → List aa → Prop} (h : qY ⟨P, lo⟩ x env H K) (r : List Oper) (Q : Exit → Act → World → Prop)
 (hrest : ∀ a' w', mD A n M L w K a' w' → wpListIn (wf ro) 0 P ops Q r a' w') : wpListIn (wf ro) 0 P ops Q (o :: o' :: r) a w := by
 unfold PK at hx
 split at hx <;> try cases hx
 rename_i e d t d' y _ cH fM KQ Yc TH Yd
 split at hx <;> try cases hx
 rename_i hcond
 obtain ⟨rfl, TB, rfl⟩ := hcond
 split at hx <;> try cases hx
 rename_i i m z hi hm hz
 split at hx <;> cases hx
 rename_i hcond
 obtain ⟨eo, iE, sf, AI⟩ := hcond
 simp only [qY, bp] at h
 obtain ⟨jX, iz, jY, hK⟩ := h
 have hr := hf.eval hi
 have Lk := hr.fJ jX
 have pF := Lk.length
 -- the zero value
 obtain ⟨inf, iC, cW⟩ := Option.map_eq_some_iff.1 hm
 unfold ft at hz
 simp only [iC] at hz
 split at hz <;> try cases hz
 rename_i zv tZ
 have tg : zv.cells.size = m := by have := ((cw (M := M) (L := L) hz).fJ sf).length; rw [iE] at this; simpa using this
 have hrun1 : (execOp a.eval o).run P w = .ok (.value (.pointer (some ⟨w.heap.size, 0, none⟩))) { w with heap := w.heap.push (.cells zv.cells t) } := by
  simp only [execOp, cH]
  exact aU (by simp only [Instr.alloc, zeroValue, typeInfo, Sem.run_bind, run_program, Result.andThen_ok, iC, Sem.run_pure, tZ]; rfl)
 have hsize : d < a.tmps.size := by rw [hf.size]; exact TB
 have PE : (a.put (some d) (.pointer (some ⟨w.heap.size, 0, none⟩))).eval (.tmp d) = .pointer (some ⟨w.heap.size, 0, none⟩) := by
  show (a.put (some d) _).tmps.getD d undef = _
  rw [tU a d _ hsize d]; simp [fa]
 have Ye : (a.put (some d) (.pointer (some ⟨w.heap.size, 0, none⟩))).eval y = a.eval y := by
  cases y with
  | tmp s =>
    simp [aP] at hi; subst hi
    simp [EK] at eo
    show (a.put (some d) _).tmps.getD s undef = a.tmps.getD s undef
    rw [tU a d _ hsize s]; simp [fa, eo]
  | _ => rfl
 have bP := run_storeCells_at P w.heap.size 0 t (a.eval y).cells.toList 0 zv.cells { w with heap := w.heap.push (.cells zv.cells t) } (dy w _) (by simp at pF ⊢; omega) (Lk.fY jY)
 have hwhole : (zv.cells.toList.take (0 + 0) ++ (a.eval y).cells.toList ++ zv.cells.toList.drop (0 + 0 + (a.eval y).cells.toList.length)).toArray = (a.eval y).cells := by
  have : zv.cells.toList.drop (0 + 0 + (a.eval y).cells.toList.length) = [] := List.drop_eq_nil_of_le (by simp at pF ⊢; omega)
  rw [this]; simp
 rw [hwhole, AW] at bP
 have hrun2 : (execOp (a.put (some d) (.pointer (some ⟨w.heap.size, 0, none⟩))).eval o').run P { w with heap := w.heap.push (.cells zv.cells t) } = .ok .skip { w with heap := w.heap.push (.cells (a.eval y).cells t) } := by
  simp only [execOp, Yc, PE, Ye]
  refine pJ ?_
  have hs : (sizeOf t).run P { w with heap := w.heap.push (.cells zv.cells t) } = .ok m { w with heap := w.heap.push (.cells zv.cells t) } := by simp [sizeOf, typeInfo, iC, cW]
  simp only [Instr.storeAt, Instr.sureAddr, storeVar, Sem.run_bind, Sem.run_pure, Result.andThen_ok, hs, ne_eq]
  rw [if_neg (by simp at pF; omega)]
  exact bP
 obtain ⟨g1, g2, g3⟩ := hf.st.CP (a.eval y).cells t
 have fj : aQ (M.add w.heap.size (a.eval y).cells.toList) L (.pointer (some ⟨w.heap.size, 0, none⟩)) (.ai (al env i)) := .ai _ _ _ _ (Lk.mono g2.kv (List.prefix_refl _)) g3
 obtain ⟨O', oR⟩ := (hf.mono g1 g2).om (dst := some d) (fun d' e => by cases e; exact TB) fj (by intro _ _ e; cases e)
 have kC := hrest _ _ ⟨_, L, H, _, O', hK, oR, g2, List.prefix_refl L⟩
 unfold wpListIn
 rw [if_pos (by simp [Region.wanted, KQ])]
 refine kw hrun1 (by intro d e; cases e) ?_
 rw [Oper.uponIn_value, fM]
 unfold wpListIn
 rw [if_pos (by simp [Region.wanted, Yd])]
 refine kw hrun2 (by intro d e; cases e) ?_
 rw [Oper.uponIn_skip, TH]
 exact kC
theorem oU {ops : Array Oper} {an : Au} {rid : Nat} {fu : Bool} (hp : ∀ l, lo = some l → ∀ id, l ≤ id → A.top id = none) (Q : Exit → Act → World → Prop) : ∀ (fuel k : Nat) (l : List Oper) (il : List bt), eC P ops an n rid fu fuel k l = some il → ∀ {M : Mem} {L : List Nat} {w : World} {H : List aa} {env : Env} {O : Pos → Option Nat} {a : Act} (K : Env → List aa → Prop),
 Fr A n M L w H env O a → iV ⟨P, lo⟩ il env H K → (∀ a' w', mD A n M L w K a' w' → Q .normal a' w') → wpListIn (wf ro) 0 P ops Q l a w
 | _, _, [], il, hc, M, L, w, H, env, O, a, K, hf, h, hQ => by
   unfold eC at hc
   cases hc
   exact hQ a w ⟨M, L, H, env, O, h, hf, Ext.refl A M w, List.prefix_refl L⟩
 | 0, _, o :: r, il, hc, _, _, _, _, _, _, _, _, _, _, _ => by simp [eC] at hc
 | fuel + 1, k, o :: r, il, hc, M, L, w, H, env, O, a, K, hf, h, hQ => by
   unfold eC at hc
   split at hc
   ·-- a new variable with its first value
    split at hc <;> try cases hc
    rename_i o' r'
    split at hc <;> cases hc
    rename_i x xs hx fp
    simp only [iV] at h
    refine Dh hx hf h r' Q ?_
    rintro a' w' ⟨M', L', H', aC, O', k1, k2, k3, k4⟩
    exact oU hp Q fuel (k + 2) r' xs fp K k2 k1 (fun a2 w2 h2 => hQ a2 w2 (mD.trans (K' := K) k3 k4 h2))
   ·split at hc <;> try cases hc
    rename_i g xs hg fp
    split at hc <;> cases hc
    rename_i fM
    simp only [iV] at h
    have h1 := xl (ro := ro) (ops := ops) hg fM hp hf h Q
    have hrest : ∀ a' w', mD A n M L w (fun env H => iV ⟨P, lo⟩ xs env H K) a' w' → wpListIn (wf ro) 0 P ops Q r a' w' := by
     rintro a' w' ⟨M', L', H', aC, O', k1, k2, k3, k4⟩
     exact oU hp Q fuel (k + 1) r xs fp K k2 k1 (fun a2 w2 h2 => hQ a2 w2 (mD.trans (K' := K) k3 k4 h2))
    unfold wpListIn
    split
    ·rename_i hw
     rw [if_pos hw] at h1
     exact Oper.wpIn_mono hrest h1
    ·rename_i hw
     rw [if_neg hw] at h1
     exact ⟨fun _ _ => trivial, hrest _ _ h1⟩
theorem Df.trans {A' : Perm} {M0 M1 : Mem} {L0 : List Nat} {w0 w1 : World} {Q : Exit → Env → List aa → Prop} {e : Exit} {a : Act} {w : World} (hl : A'.Le A) (hx : Ext A M0 w0 M1 w1) (hp : Df A' n M1 L0 w1 Q e a w) : Df A n M0 L0 w0 Q e a w := by
 obtain ⟨A2, M, L, H, env, O, hA, h1, h2, h3, h4⟩ := hp
 exact ⟨A2, M, L, H, env, O, hA.trans hl, h1, h2, hx.trans (h3.le hl), h4⟩
theorem fz.le {n0 : Nat} {A' : Perm} (h : fz lo n0 A) (hl : A'.Le A) : fz lo n0 A' := by
 unfold fz at *
 rw [hl.1]
 exact h
def Own (ro : Option Nat) (w : World) : Prop := ∀ l, ro = some l → ∃ r, w.heap[l]? = some (.loop r)
theorem Own.ext {M' : Mem} {w' : World} (h : Own ro w) (hx : Ext A M w M' w') : Own ro w' := fun l hl => by
 obtain ⟨r, hr⟩ := h l hl
 obtain ⟨r', Yf, _⟩ := hx.loops l r hr
 exact ⟨r', Yf⟩
theorem F5 (p : Nat → Prop) (h : ∃ k, p k) : ∃ k, p k ∧ ∀ j, p j → k ≤ j := by
 obtain ⟨k, hk⟩ := h
 induction k using Nat.strongRecOn with
 | _ k ih =>
   by_cases hl : ∃ j, j < k ∧ p j
   ·obtain ⟨j, hj, hp⟩ := hl
    exact ih j hj hp
   ·exact ⟨k, hk, fun j hj => by
     rcases Nat.lt_or_ge j k with h' | h'
     ·exact absurd ⟨j, h', hj⟩ hl
     ·exact h'⟩
theorem yS {F : Fence} {k : Nat} {c : Code} {Q : Exit → Act → World → Prop} {w : World} {a : Act} {ι : Type} (I : ι → Act → World → Prop) (μ : ι → Nat)
 (round : ∀ i a w, I i a w → c.wpIn F k P (Exit.then (fun a' w' => ∃ j, I j a' w' ∧ μ j < μ i) Q) a w) (i0 : ι) (h0 : I i0 a w) : (Code.loop c).wpIn F k P Q a w := by
 let p : Act → World → Nat → Prop := fun a w k => ∃ i, I i a w ∧ μ i = k
 let ν : Act → World → Nat := fun a w => Classical.epsilon fun k => p a w k ∧ ∀ j, p a w j → k ≤ j
 have hν : ∀ a w, (∃ i, I i a w) → p a w (ν a w) ∧ ∀ j, p a w j → ν a w ≤ j := by
  rintro a w ⟨i, hi⟩
  exact Classical.epsilon_spec (F5 (p a w) ⟨μ i, i, hi, rfl⟩)
 refine wpIn_loop (fun a w => ∃ i, I i a w) ν ⟨i0, h0⟩ ?_
 intro a w hI
 obtain ⟨⟨i, hi, hμ⟩, _⟩ := hν a w hI
 refine Go.wpIn_mono (round i a w hi) ?_
 intro e a' w' h
 cases e with
 | normal =>
   obtain ⟨j, hj, a8⟩ := h
   refine ⟨⟨j, hj⟩, ?_⟩
   have := (hν a' w' ⟨j, hj⟩).2 (μ j) ⟨j, hj, rfl⟩
   omega
 | _ => exact h
def xm (P : Program) (ro lo : Option Nat) (A : Perm) (n : Nat) (L0 : List Nat) : Prop :=
 ∀ {id : Nat} {ops : Array Oper} {il : List bt} {p : wc} {live : Option (List Nat)} {an : Au} {M : Mem} {L : List Nat} {w : World} {H : List aa} {env : Env} {O : Pos → Option Nat} {a : Act} {M0 : Mem} {w0 : World} {Q : Exit → Env → List aa → Prop},
  P.follows .mixedOrders = true → kB (ops.toList.map fun o => jo o.after.toList) (eL ops.toList []) il ops.size 0 none p = true → eC P ops an n id false (ops.size + 1) 0 ops.toList = some il → mf ⟨P, lo⟩ L0.length (.draw (inst il p) live) env H Q → Fr A n M L w H env O a → Ext A M0 w0 M w → L0 <+: L → (Code.region id ops true).wpIn (wf ro) 0 P (Df A n M0 L0 w0 Q) a w
theorem AX {L0 : List Nat} (hA : fz lo L0.length A) {f : Operand} {ps : Array Tmp} {as bd : Code} {an : Au} {lv : l7} {pl : l8} {i : IX} (hi : aP f = some i) {Q : Exit → Env → List aa → Prop}
 (wa : Own ro w) (h : mf ⟨P, lo⟩ L0.length (.iH i ⟨n, ps.toList, as, bd, an, lv, pl⟩) env H Q) (hf : Fr A n M L w H env O a) (hL : L0 <+: L) : (Code.rangeFunc f ps as bd).wpIn (wf ro) 0 P (Df A n M L0 w Q) a w := by
 have KP := hf.eval hi
 simp only [mf] at h
 split at h <;> try exact h.elim
 rename_i g first cap TD
 obtain ⟨hcf, bO, hle, hcall⟩ := h
 rw [TD] at KP
 generalize hu : a.eval f = u at KP
 cases KP with
 | fn _ fs cs _ _ yO qV =>
 refine wpIn_rangeFunc fun fn _ => ?_
 -- the record
 have enter : ∃ (l : Nat) (mark : List Deferred) (w1 : World) (A1 : Perm), (Instr.enterLoop fn a.tmps ps as bd ro).run P w = .ok (l, mark) w1 ∧ A1.Le A ∧
  Fr A1 n M (L ++ [l]) w1 (H ++ [.loop .ready ⟨n, ps.toList, as, bd, an, lv, pl⟩ (ke n env)]) env O { a with defers := mark ++ a.defers } ∧ Ext A M w M w1 := by
  have yH : aJ M L a.tmps.toList (ke n env) := by
   refine aJ.yq (by simp [ke, hf.size]) fun j x hx => ?_
   simp only [ke, List.getElem?_map] at hx
   obtain ⟨t, ht, rfl⟩ := Option.map_eq_some_iff.1 hx
   obtain ⟨px, rfl⟩ := List.getElem?_eq_some_iff.1 ht
   simp only [List.length_range] at px
   simp only [List.getElem_range]
   have := (hf.st.env j).ab
   refine ⟨a.tmps.getD j undef, ?_, this⟩
   rw [Array.getD_eq_getD_getElem?, Array.getElem?_toList, Array.getElem?_eq_getElem (by rw [hf.size]; exact px)]
   rfl
  have nG : (aa.loop .ready ⟨n, ps.toList, as, bd, an, lv, pl⟩ (ke n env)).aY (H.length + 1) = true := by
   simp only [aa.aY]
   have := yH.Lv
   rw [hf.st.len] at this
   exact bF (by omega) _ this
  cases ro with
  | none =>
    have hg := hf.st.grow (w' := { w with heap := w.heap.push (.deferred (some [])) }) (Mem.bM M) (fun b o v hv => by
     have h1 := hf.st.mem b o v hv
     simp only [World.cell?] at h1 ⊢
     cases hb : w.heap[b]? with
     | none => rw [hb] at h1; simp at h1
     | some ob => rw [dT w _ (Array.getElem?_eq_some_iff.1 hb).1]; exact h1) (by simp) (fun b hb => dT w _ hb) (fun _ _ _ => rfl)
    have sv : Ext A M w M { w with heap := w.heap.push (.deferred (some [])) } := Ext.grow (Mem.bM M) (by simp) rfl rfl rfl (fun b hb => dT w _ hb) (fun _ _ _ => rfl)
    have hb := hg.TF (D := w.heap.size) (fun hm => by have := hf.st.lt _ hm; omega) (fun p hp => by have := hf.st.eR _ _ hp; omega) (by simp)
    obtain ⟨g1, g2⟩ := hb.qP (.loop { state := .ready, pending := none, fn, tmps := a.tmps, params := ps, assign := as, body := bd, defers := w.heap.size }) (.loop .ready ⟨n, ps.toList, as, bd, an, lv, pl⟩ (ke n env))
     (fun w' H6 _ => ⟨_, H6, (Array.toArray_toList).symm, rfl, rfl, yH.mono (Mem.bM M) ⟨_, rfl⟩, rfl, rfl⟩) nG (fun j => rfl)
    refine ⟨w.heap.size + 1, _, _, A.TF w.heap.size, run_enterLoop_outer _ _ _ _ _, A.yQ _, ⟨?_, hf.size, ?_⟩, ?_⟩
    ·have e1 : ({ w with heap := w.heap.push (.deferred (some [])) } : World).heap.size = w.heap.size + 1 := by simp
     rw [e1] at g1
     exact g1
    ·have old := ((hf.defers.ext sv).le (A.yQ w.heap.size)).ext g2
     refine ⟨old.1, ?_, fun d hd => ?_⟩
     ·show (_ :: a.defers).Nodup
      rw [List.nodup_cons]
      refine ⟨fun hm => ?_, old.2.1⟩
      obtain ⟨D, e, hD, _⟩ := hf.defers.2.2 _ hm
      cases e
      have := (Array.getElem?_eq_some_iff.1 hD).1
      omega
     rcases List.mem_append.1 hd with hd | hd
     ·rw [List.mem_singleton] at hd
      subst hd
      refine ⟨w.heap.size, rfl, ?_, (fun h => h.2 rfl), (show A.base ≤ w.heap.size from hf.defers.1)⟩
      show ((w.heap.push _).push _)[w.heap.size]? = _
      rw [Array.getElem?_push_lt (by simp)]
      simp
     ·exact old.2.2 d hd
    ·exact sv.trans (g2.le (A.yQ _))
  | some l0 =>
    obtain ⟨r0, Yg⟩ := wa l0 rfl
    obtain ⟨g1, g2⟩ := hf.st.qP (.loop { state := .ready, pending := none, fn, tmps := a.tmps, params := ps, assign := as, body := bd, defers := r0.defers }) (.loop .ready ⟨n, ps.toList, as, bd, an, lv, pl⟩ (ke n env))
     (fun w' H6 _ => ⟨_, H6, (Array.toArray_toList).symm, rfl, rfl, yH.mono (Mem.bM M) ⟨_, rfl⟩, rfl, rfl⟩) nG (fun j => rfl)
    exact ⟨w.heap.size, [], _, A, run_enterLoop_inner Yg _ _ _ _ _, Perm.Le.refl A, ⟨g1, hf.size, by simpa using hf.defers.ext g2⟩, g2⟩
 obtain ⟨l, mark, w1, A1, he, Di, ED, sv⟩ := enter
 have KR : L.length = H.length := hf.st.len
 have s9 : (L ++ [l])[H.length]? = some l := by rw [← KR]; simp
 have PO : fz lo L0.length A1 := hA.le Di
 obtain ⟨loose, ua, hcall⟩ : ∃ loose : Bool, (loose = true → ∀ id, (H ++ [aa.loop .ready ⟨n, ps.toList, as, bd, an, lv, pl⟩ (ke n env)]).length ≤ id → A1.top id = none) ∧
  j5 loose P g bO (H ++ [.loop .ready ⟨n, ps.toList, as, bd, an, lv, pl⟩ (ke n env)]) fun _ H' => behind H.length H' fun j H'' => oS j Q env H'' := by
  unfold dU at hcall
  split at hcall
  ·exact ⟨false, by simp, hcall⟩
  ·rename_i l' wB
   rcases hcall with hcall | ⟨h1, hcall⟩
   ·exact ⟨false, by simp, hcall⟩
   ·exact ⟨true, fun _ id bm => PO.opens l' wB id (by omega), hcall⟩
 have hry : aJ M (L ++ [l]) (fs ++ [.func (.yield l) #[] #[]]) (first ++ [.mF H.length]) :=
  (yO.mono (Mem.bM M) ⟨_, rfl⟩).append (.one (.mF l _ s9))
 obtain ⟨Oc, pF, bP, fin⟩ := qX (o := (⟨none, .move f, 0, "", #[], none⟩ : Oper)) (K := fun aC H' => aC = env ∧ behind H.length H' fun j H'' => oS j Q env H'') (xs := []) (js := []) rfl (pass := none) hry (qV.mono (Mem.bM M) ⟨[l], rfl⟩)
  (by simpa [aE, AV.ab] using hle) ED (fun d e => by cases e) ua
 obtain ⟨vs, wj⟩ : ∃ vs : List Value, vs = fs ++ [.func (.yield l) #[] #[]] ++ cs := ⟨_, rfl⟩
 simp only [List.map_nil, List.append_nil] at pF bP
 rw [← wj] at pF bP
 refine ⟨l, mark, w1, { target := .fn (.func g) cs.toArray, args := fs.toArray ++ #[.func (.yield l) #[] #[]] }, w1, g, vs.toArray, w1, he, ?_, fun _ _ => trivial, ?_, (fun h => by cases h), ?_⟩
 ·have ec : a.eval (.const (.func (.yield l) #[] #[])) = .func (.yield l) #[] #[] := rfl
  simp [resolve, hu, Deferred.ofValue, ec]
 ·have e1 : (fs.toArray ++ #[.func (.yield l) #[] #[]] ++ cs.toArray : Array Value) = vs.toArray := by
   apply Array.ext'; simp [wj]
  simp only [invoke]
  rw [e1]
  exact hcf _ _
 ·rcases hcall (dk A1 loose (H ++ [aa.loop .ready ⟨n, ps.toList, as, bd, an, lv, pl⟩ (ke n env)]) (L ++ [l]) Oc w1) M (L ++ [l]) w1 vs.toArray Oc (kc A1 loose _ _ Oc w1) (by simpa using pF) bP with ⟨_, hc⟩ | ⟨v, w', r, H', M', L', O', h1, _⟩
  ·have oq : CallsIn (wf ro) (0 - 1) P g vs.toArray w1 _ := callsIn_wide.2 hc
   refine CallsIn.mono oq fun e w' he => ?_
   obtain ⟨v, r, H', M', L', O', rfl, hK, lj, cq, TI⟩ := he
   obtain ⟨M2, L2, H2, cG, O2, ⟨rfl, hb⟩, sm, Oh, PR⟩ := fin v r H' M' L' O' w' ⟨rfl, hK⟩ lj cq TI
   have nJ : L2[H.length]? = some l := fG PR s9
   have k7 : L0 <+: L2 := hL.trans ((List.prefix_append L [l]).trans PR)
   unfold behind at hb
   split at hb
   ·rename_i lc es Dj
    obtain ⟨r, q1, q2, q3, q4, q5, q6⟩ := sm.st.obj _ _ l Dj nJ
    obtain ⟨k1, k2⟩ := sm.st.nM (st' := .eu) (r' := { r with state := .exhausted }) Dj nJ (fun r2 qV => by rw [q1] at qV; cases qV; exact ⟨rfl, rfl, rfl, rfl, rfl, trivial⟩)
    exact ⟨none, _, (run_endLoop q1 (by rw [q6.1]; simp)).trans (congrArg (fun p => Result.ok p _) q6.2), A1, M2, L2, _, cG, O2, Di, hb, ⟨k1, sm.size, sm.defers.ext k2⟩, sv.trans ((Oh.trans k2).le Di), k7⟩
   ·rename_i c lc es Dj
    obtain ⟨r, q1, q2, q3, q4, q5, q6⟩ := sm.st.obj _ _ l Dj nJ
    obtain ⟨k1, k2⟩ := sm.st.nM (st' := .eu) (r' := { r with state := .exhausted }) Dj nJ (fun r2 qV => by rw [q1] at qV; cases qV; exact ⟨rfl, rfl, rfl, rfl, rfl, trivial⟩)
    refine ⟨some c, _, (run_endLoop q1 (by rw [q6.1]; simp)).trans (congrArg (fun p => Result.ok p _) q6.2), ?_⟩
    unfold oS at hb
    split at hb
    ·rename_i e; cases e
    ·rename_i e; cases e
     exact wpIn_ret ⟨A1, M2, L2, _, cG, O2, Di, hb, ⟨k1, sm.size, sm.defers.ext k2⟩, sv.trans ((Oh.trans k2).le Di), k7⟩
    ·rename_i e; cases e
     exact wpIn_exit ⟨A1, M2, L2, _, cG, O2, Di, hb, ⟨k1, sm.size, sm.defers.ext k2⟩, sv.trans ((Oh.trans k2).le Di), k7⟩
    ·exact hb.elim
   ·exact hb.elim
  ·rw [hcf] at h1; cases h1
theorem sound {L0 : List Nat} (hdraw : ∀ A, fz lo L0.length A → xm P ro lo A n L0) {an : Au} {lv : l7} {pl : l8} : ∀ (c : Code) (ir : IR), comp P an lv pl n c = some ir → ∀ {A : Perm} {M : Mem} {L : List Nat} {w : World} {H : List aa} {env : Env} {O : Pos → Option Nat} {a : Act} {Q : Exit → Env → List aa → Prop},
 fz lo L0.length A → Own ro w → mf ⟨P, lo⟩ L0.length ir env H Q → Fr A n M L w H env O a → L0 <+: L → c.wpIn (wf ro) 0 P (Df A n M L0 w Q) a w := by
 intro c
 induction c with
 | skip =>
   intro ir hc A M L w H env O a Q hA wa h hf hL
   simp only [comp] at hc; cases hc
   exact wpIn_skip ⟨A, M, L, H, env, O, .refl A, h, hf, Ext.refl A M w, hL⟩
 | exit id =>
   intro ir hc A M L w H env O a Q hA wa h hf hL
   simp only [comp] at hc; cases hc
   exact wpIn_exit ⟨A, M, L, H, env, O, .refl A, h, hf, Ext.refl A M w, hL⟩
 | ret =>
   intro ir hc A M L w H env O a Q hA wa h hf hL
   simp only [comp] at hc; cases hc
   exact wpIn_ret ⟨A, M, L, H, env, O, .refl A, h, hf, Ext.refl A M w, hL⟩
 | region id ops draw =>
   intro ir hc A M L w H env O a Q hA wa h hf hL
   cases draw with
   | true =>
     simp only [comp] at hc
     split at hc <;> try cases hc
     rename_i il Ao
     split at hc <;> cases hc
     rename_i hm
     exact hdraw A hA hm.1 hm.2 Ao h hf (Ext.refl A M w) hL
   | false =>
     simp only [comp] at hc
     obtain ⟨il, Ao, rfl⟩ := Option.map_eq_some_iff.1 hc
     simp only [mf] at h
     refine wpIn_region_list (oU hA.opens _ _ _ _ _ Ao _ hf h ?_)
     rintro a' w' ⟨M', L', H', aC, O', h1, h2, h3, h4⟩
     obtain ⟨O'', h5⟩ := h2.weaken (xk (lv.at_ id) aC)
     exact ⟨A, M', L', H', _, O'', .refl A, h1, h5, h3, hL.trans h4⟩
 | seq x y ihx ihy =>
   intro ir hc A M L w H env O a Q hA wa h hf hL
   simp only [comp] at hc
   split at hc <;> cases hc
   rename_i x' y' hx hy
   simp only [mf] at h
   refine wpIn_seq (Go.wpIn_mono (ihx _ hx hA wa h hf hL) ?_)
   rintro e a' w' ⟨A', M', L', H', aC, O', hl, h1, h2, h3, h4⟩
   cases e with
   | normal => exact Go.wpIn_mono (ihy _ hy (hA.le hl) (wa.ext h3) h1 h2 h4) fun e a w hp => hp.trans hl h3
   | _ => exact ⟨A', M', L', H', aC, O', hl, h1, h2, h3, h4⟩
 | cond x c d ihc Yh =>
   intro ir hc A M L w H env O a Q hA wa h hf hL
   simp only [comp] at hc
   split at hc <;> cases hc
   rename_i i c' d' hi F6 Xp
   simp only [mf] at h
   obtain ⟨q, hq, h⟩ := nL h
   have hr := hf.eval hi
   rw [hq] at hr
   generalize hu : a.eval x = u at hr
   cases hr
   refine wpIn_cond_split hu (fun e => ihc _ F6 hA wa (h.1 e) hf hL) (fun e => Yh _ Xp hA wa (h.2 e) hf hL)
 | block id c ih =>
   intro ir hc A M L w H env O a Q hA wa h hf hL
   simp only [comp] at hc
   obtain ⟨c', F6, rfl⟩ := Option.map_eq_some_iff.1 hc
   simp only [mf] at h
   refine wpIn_block (Go.wpIn_mono (ih _ F6 hA wa h hf hL) ?_)
   rintro e a' w' ⟨A', M', L', H', aC, O', hl, h1, h2, h3, h4⟩
   cases e with
   | exit id' =>
     simp only [Exit.inBlock]
     simp only at h1
     split at h1
     ·rename_i e; rw [if_pos e]; exact ⟨A', M', L', H', aC, O', hl, h1, h2, h3, h4⟩
     ·rename_i e; rw [if_neg e]; exact ⟨A', M', L', H', aC, O', hl, h1, h2, h3, h4⟩
   | _ => exact ⟨A', M', L', H', aC, O', hl, h1, h2, h3, h4⟩
 | loop c ih =>
   intro ir hc A M L w H env O a Q hA wa h hf hL
   simp only [comp] at hc
   obtain ⟨c', F6, rfl⟩ := Option.map_eq_some_iff.1 hc
   simp only [mf] at h
   obtain ⟨ι, I, se, sh, μ, ⟨i0, tn, Yi⟩, hround⟩ := h
   obtain ⟨L', O', oR, TI⟩ := hf.sle hA hL Yi
   refine yS (fun i a' w' => I i ∧ ∃ A' M' L' O', A'.Le A ∧ Fr A' n M' L' w' (sh i) (se i) O' a' ∧ Ext A M w M' w' ∧ L0 <+: L') μ ?_ i0 ⟨tn, A, M, L', O', .refl A, oR, Ext.refl A M w, TI⟩
   rintro i a1 w1 ⟨hi, A1, M1, L1, O1, s9, ED, sv, Xq⟩
   refine Go.wpIn_mono (ih _ F6 (hA.le s9) (wa.ext sv) (hround i hi) ED Xq) ?_
   rintro e a' w' ⟨A', M', L', H', aC, O', hl, h1, h2, h3, h4⟩
   cases e with
   | normal =>
     obtain ⟨j, hj, a8, hs⟩ := h1
     obtain ⟨L2, O2, sm, PR⟩ := h2.sle ((hA.le s9).le hl) h4 hs
     exact ⟨j, ⟨hj, A', M', L2, O2, hl.trans s9, sm, sv.trans (h3.le s9), PR⟩, a8⟩
   | _ => exact ⟨A', M', L', H', aC, O', hl.trans s9, h1, h2, sv.trans (h3.le s9), h4⟩
 | rangeFunc f ps as bd =>
   intro ir hc A M L w H env O a Q hA wa h hf hL
   simp only [comp] at hc
   obtain ⟨i, hi, rfl⟩ := Option.map_eq_some_iff.1 hc
   exact AX hA hi wa h hf hL
 | _ =>
   intro ir hc A M L w H env O a Q hA wa h
   simp only [comp] at hc
   cases hc
   exact h.elim
end
end Go.aK
end
section
namespace Go.aK
open Go
section
variable {φ ψ : AV → Prop} (hm : ∀ z, φ z → ψ z)
include hm
theorem rb {op : BinOp} {x y : AV} (h : cT op x y φ) : cT op x y ψ := by
 unfold cT at *
 split at h <;> (try exact h.elim)
 ·obtain ⟨h0, h⟩ := h
  refine ⟨h0, ?_⟩
  split at h <;> first | exact hm _ h | exact ⟨h.1, hm _ h.2⟩ | exact h.elim
 ·split at h <;> first | exact hm _ h | exact ⟨h.1, hm _ h.2⟩ | exact h.elim
theorem mS {op : BinOp} {x y : AV} (h : dI op x y φ) : dI op x y ψ := by
 unfold dI at *
 split at h <;> (try exact h.elim)
 obtain ⟨h0, h⟩ := h
 refine ⟨h0, ?_⟩
 split at h <;> first | exact hm _ h | exact h.elim
theorem lz {neq : Bool} {x y : AV} (h : cn neq x y φ) : cn neq x y ψ := by
 unfold cn at *
 split at h <;> first | exact hm _ h | exact h.elim
theorem sw {kd : Nat} {neq : Bool} {x : AV} (h : dc kd neq x φ) : dc kd neq x ψ := by
 unfold dc at *
 split at h
 ·exact hm _ h
 ·split at h
  ·exact ⟨hm _ h.1, hm _ h.2⟩
  ·exact h.elim
theorem uv {op : UnOp} {x : AV} (h : yx op x φ) : yx op x ψ := by
 unfold yx at *
 split at h <;> first | exact hm _ h | exact h.elim
theorem jq {sz : Option Nat} {x : AV} {H : List aa} (h : aR sz x H φ) : aR sz x H ψ := by
 unfold aR at *
 split at h <;> (try exact h.elim) <;> (split at h <;> (try exact h.elim)) <;> first | exact ⟨h.1, hm _ h.2⟩ | (split at h <;> exact ⟨h.1, hm _ h.2⟩)
theorem mT {off : Nat} {sz : Option Nat} {x : AV} (h : eH off sz x φ) : eH off sz x ψ := by
 unfold eH apart at *
 split at h <;> (try exact h.elim)
 split at h <;> first | exact ⟨h.1, hm _ h.2⟩ | exact ⟨h.1, h.2.1, hm _ h.2.2⟩
theorem iJ {off : Nat} {sz : Option Nat} {x : AV} (h : ak off sz x φ) : ak off sz x ψ := by
 unfold ak apart at *
 split at h <;> (try exact h.elim)
 ·exact hm _ h
 ·split at h <;> first | exact ⟨h.1, hm _ h.2⟩ | exact ⟨h.1, h.2.1, hm _ h.2.2⟩
theorem iK {esz : Nat} {x i : AV} (h : ay esz x i φ) : ay esz x i ψ := by
 unfold ay at *
 split at h <;> first | exact ⟨h.1, h.2.1, hm _ h.2.2⟩ | exact h.elim
theorem jr {x i : AV} (h : bH x i φ) : bH x i ψ := by
 unfold bH at *
 split at h <;> first | exact ⟨h.1, h.2.1, hm _ h.2.2⟩ | exact h.elim
theorem jt {n : Nat} {x i : AV} (h : bQ n x i φ) : bQ n x i ψ := by
 unfold bQ at *
 split at h <;> first | exact ⟨h.1, h.2.1, h.2.2.1, hm _ h.2.2.2⟩ | exact h.elim
theorem rc {x : AV} {H : List aa} (h : eU x H φ) : eU x H ψ := by
 unfold eU at *
 split at h <;> (try exact h.elim) <;> (try exact hm _ h)
 ·exact fun hl => hm _ (h hl)
 ·split at h <;> first | exact hm _ h | exact h.elim
theorem kg {x : AV} {i : Nat} (h : bC x i φ) : bC x i ψ := by
 unfold bC at *
 split at h <;> first | exact ⟨h.1, hm _ h.2⟩ | exact h.elim
theorem ju {x : AV} (h : bR x φ) : bR x ψ := by
 unfold bR at *
 split at h <;> first | exact hm _ h | exact h.elim
theorem kh {k : IntKind} {x : AV} (h : cp k x φ) : cp k x ψ := by
 unfold cp at *
 split at h <;> first | exact hm _ h | exact h.elim
theorem uw {big : Bool} {x y : AV} (h : we big x y φ) : we big x y ψ := by
 unfold we at *
 split at h <;> first | exact hm _ h | exact h.elim
theorem oB {x : AV} (h : fw x φ) : fw x ψ := by
 unfold fw at *
 split at h <;> first | exact hm _ h | exact h.elim
theorem oC {own : Nat} {x : AV} (h : eK own x φ) : eK own x ψ := by
 unfold eK at *
 split at h <;> first | exact ⟨h.1, hm _ h.2⟩ | exact h.elim
theorem sx {x : AV} (h : jk x φ) : jk x ψ := by
 unfold jk at *
 split at h <;> first | exact hm _ h | exact ⟨_, h.choose_spec.1, hm _ h.choose_spec.2⟩ | (obtain ⟨l, h1, h2⟩ := h; exact ⟨l, h1, hm _ h2⟩) | exact ⟨h.1, hm _ h.2⟩ | exact h.elim
theorem sy {esz bytes : Nat} {n : AV} (h : iF esz bytes n φ) : iF esz bytes n ψ := by
 unfold iF at *
 split at h <;> first | exact ⟨h.1, h.2.1, hm _ h.2.2⟩ | exact h.elim
theorem lA {kd : Nat} {z m k : AV} {ok : Bool} {H : List aa} (h : ca kd z m k ok H φ) : ca kd z m k ok H ψ := by
 unfold ca at *
 split at h <;> (try exact h.elim) <;> first | exact hm _ h | exact ⟨h.1, hm _ h.2⟩ | (split at h <;> (try exact h.elim) <;> first | exact hm _ h | exact ⟨h.1, hm _ h.2⟩ | (split at h <;> (try exact h.elim) <;> first | exact hm _ h | exact ⟨h.1, hm _ h.2⟩))
end
theorem ep {x : Option AV} {d : Nat} {φ ψ : Nat → Prop} (hm : ∀ k, φ k → ψ k) (h : dK x d φ) : dK x d ψ := by
 unfold dK at *
 split at h <;> first | exact hm _ h | exact ⟨h.1, hm _ h.2⟩ | exact h.elim
theorem sA {esz : Nat} {x : AV} {lo hi mx : Option AV} {φ ψ : AV → Prop} (hm : ∀ z, φ z → ψ z) (h : fm esz x lo hi mx φ) : fm esz x lo hi mx ψ := by
 unfold fm at *
 split at h <;> (try exact h.elim)
 refine ep (fun k h => ep (fun l h => ⟨h.1, h.2.1, ?_⟩) h) h
 obtain ⟨_, _, h⟩ := h
 split at h
 ·exact hm _ h
 ·exact ⟨h.1, ep (fun m h => ⟨h.1, h.2.1, hm _ h.2.2⟩) h.2⟩
theorem lB {esz : Nat} {x : AV} {lo hi mx : Option AV} {φ ψ : AV → Prop} (hm : ∀ z, φ z → ψ z) (h : bA esz x lo hi mx φ) : bA esz x lo hi mx ψ := by
 unfold bA gf nI at *
 split at h
 ·split at h
  ·exact ep (fun k h => ep (fun l h => ⟨h.1, h.2.1, hm _ h.2.2⟩) h) h
  ·exact ⟨h.1, ep (fun m h => ep (fun k h => ep (fun l h => ⟨h.1, h.2.1, h.2.2.1, hm _ h.2.2.2⟩) h) h) h.2⟩
 ·exact ⟨h.1, sA hm h.2⟩
theorem jv {x : AV} {lo hi : Option AV} {φ ψ : AV → Prop} (hm : ∀ z, φ z → ψ z) (h : bZ x lo hi φ) : bZ x lo hi ψ := by
 unfold bZ at *
 split at h <;> (try exact h.elim)
 exact ep (fun k h => ep (fun l h => ⟨h.1, h.2.1, hm _ h.2.2⟩) h) h
theorem lC {φ ψ : List AV → Prop} (hm : ∀ z, φ z → ψ z) : ∀ {ps : List (Nat × Nat × AV)} {zs : List AV}, gG zs ps φ → gG zs ps ψ
 | [], zs, h => hm _ h
 | (off, sz, x) :: r, zs, h => ⟨h.1, h.2.1, h.2.2.1, lC hm h.2.2.2⟩
theorem gk {esz : Nat} {φ ψ : List AV → Prop} (hm : ∀ z, φ z → ψ z) : ∀ {ps : List (Nat × AV)} {zs : List AV}, bi zs esz ps φ → bi zs esz ps ψ
 | [], zs, h => hm _ h
 | (i, x) :: r, zs, h => ⟨h.1, h.2.1, h.2.2.1, gk hm h.2.2.2⟩
def PT (τ : Nat → AV) (dst : Option Nat) (x : AV) : Nat → AV := match dst with | some d => fa τ d x | none => τ
theorem jO (env : Env) (dst : Option Nat) (x : AV) : get (put dst x env) = PT (get env) dst x := by cases dst <;> rfl
theorem mU {lo : Option IX} {env : Env} {ρ : IX → AV} (h : ∀ i ∈ lo.toList, al env i = ρ i) : lo.map ρ = gg env lo := by
 cases lo with
 | none => rfl
 | some i => simp [gg, h i (by simp)]
theorem mV {is : List IX} {env : Env} {ρ : IX → AV} (h : ∀ i ∈ is, al env i = ρ i) (g : AV → AV) : (is.map fun x => g (al env x)) = is.map fun x => g (ρ x) := by
 apply List.map_congr_left
 intro i hi
 rw [h i hi]
theorem mW (env : Env) : ∀ (is : List IX) (j : Nat), aE env none j is = is.map fun x => (al env x).ab
 | [], _ => rfl
 | .t s :: r, j => by simp [aE, mW env r, al]
 | .c v :: r, j => by simp [aE, mW env r, al]
theorem AY {P : Px} {o : bV} {dst : Option Nat} {ρ : IX → AV} {env : Env} {H : List aa} {x : AV} (h : cR P o ρ H x) (hρ : ∀ i ∈ o.all, al env i = ρ i) :
 bp P o dst env H fun e h => h = H ∧ get e = get (put dst x env) := by
 have key : ∀ z, z = x → (H = H ∧ get (put dst z env) = get (put dst x env)) := fun z e => ⟨rfl, e ▸ rfl⟩
 cases o with
 | set i take =>
   cases take with
   | true => exact h.elim
   | false =>
     simp only [cR, bV.all, List.mem_singleton, forall_eq] at h hρ
     rw [← hρ] at h
     unfold bp
     cases dst with
     | none => exact ⟨rfl, rfl⟩
     | some d =>
       subst h
       refine ⟨rfl, ?_⟩
       cases i <;> rfl
 | pick c a b =>
   simp only [cR, bV.all, List.mem_cons, List.not_mem_nil, or_false, forall_eq_or_imp, forall_eq] at h hρ
   obtain ⟨h1, h2, h3⟩ := hρ
   rw [← h1, ← h2, ← h3] at h
   obtain ⟨q, hq, h⟩ := nL h
   show eG (al env c) _
   rw [hq]
   exact ⟨fun e => key _ (h.1 e), fun e => key _ (h.2 e)⟩
 | bin op i j =>
   simp only [cR, bV.all, List.mem_cons, List.not_mem_nil, or_false, forall_eq_or_imp, forall_eq] at h hρ
   obtain ⟨h1, h2⟩ := hρ
   rw [← h1, ← h2] at h
   exact rb key h
 | shift op i j =>
   simp only [cR, bV.all, List.mem_cons, List.not_mem_nil, or_false, forall_eq_or_imp, forall_eq] at h hρ
   obtain ⟨h1, h2⟩ := hρ
   rw [← h1, ← h2] at h
   exact mS key h
 | gM neq i j =>
   simp only [cR, bV.all, List.mem_cons, List.not_mem_nil, or_false, forall_eq_or_imp, forall_eq] at h hρ
   obtain ⟨h1, h2⟩ := hρ
   rw [← h1, ← h2] at h
   exact lz key h
 | mx big i j =>
   simp only [cR, bV.all, List.mem_cons, List.not_mem_nil, or_false, forall_eq_or_imp, forall_eq] at h hρ
   obtain ⟨h1, h2⟩ := hρ
   rw [← h1, ← h2] at h
   exact uw key h
 | indexAddr esz i j =>
   simp only [cR, bV.all, List.mem_cons, List.not_mem_nil, or_false, forall_eq_or_imp, forall_eq] at h hρ
   obtain ⟨h1, h2⟩ := hρ
   rw [← h1, ← h2] at h
   exact ⟨h.1, iK key h.2⟩
 | cZ i j =>
   simp only [cR, bV.all, List.mem_cons, List.not_mem_nil, or_false, forall_eq_or_imp, forall_eq] at h hρ
   obtain ⟨h1, h2⟩ := hρ
   rw [← h1, ← h2] at h
   exact jr key h
 | dG n i j =>
   simp only [cR, bV.all, List.mem_cons, List.not_mem_nil, or_false, forall_eq_or_imp, forall_eq] at h hρ
   obtain ⟨h1, h2⟩ := hρ
   rw [← h1, ← h2] at h
   exact jt key h
 | lookup kd z i j ok =>
   simp only [cR, bV.all, List.mem_cons, List.not_mem_nil, or_false, forall_eq_or_imp, forall_eq] at h hρ
   obtain ⟨h1, h2⟩ := hρ
   rw [← h1, ← h2] at h
   exact lA key h
 | iQ kd neq i =>
   simp only [cR, bV.all, List.mem_singleton, forall_eq] at h hρ
   rw [← hρ] at h
   exact sw key h
 | un op i =>
   simp only [cR, bV.all, List.mem_singleton, forall_eq] at h hρ
   rw [← hρ] at h
   exact uv key h
 | k9 i =>
   simp only [cR, bV.all, List.mem_singleton, forall_eq] at h hρ
   rw [← hρ] at h
   exact ⟨h.1, key _ h.2⟩
 | load sz i =>
   simp only [cR, bV.all, List.mem_singleton, forall_eq] at h hρ
   rw [← hρ] at h
   exact jq key h
 | nilCheck i =>
   simp only [cR, bV.all, List.mem_singleton, forall_eq] at h hρ
   rw [← hρ] at h
   exact ju key h
 | fieldAddr off sz i =>
   simp only [cR, bV.all, List.mem_singleton, forall_eq] at h hρ
   rw [← hρ] at h
   exact iJ key h
 | field off sz i =>
   simp only [cR, bV.all, List.mem_singleton, forall_eq] at h hρ
   rw [← hρ] at h
   exact mT key h
 | len kd i =>
   simp only [cR, bV.all, List.mem_singleton, forall_eq] at h hρ
   rw [← hρ] at h
   exact ⟨h.1, rc key h.2⟩
 | extract i k =>
   simp only [cR, bV.all, List.mem_singleton, forall_eq] at h hρ
   rw [← hρ] at h
   exact kg key h
 | eB k i =>
   simp only [cR, bV.all, List.mem_singleton, forall_eq] at h hρ
   rw [← hρ] at h
   exact kh key h
 | fZ i =>
   simp only [cR, bV.all, List.mem_singleton, forall_eq] at h hρ
   rw [← hρ] at h
   exact oB key h
 | bytesOf i =>
   simp only [cR, bV.all, List.mem_singleton, forall_eq] at h hρ
   rw [← hρ] at h
   exact oC key h
 | mI esz bytes i =>
   simp only [cR, bV.all, List.mem_singleton, forall_eq] at h hρ
   rw [← hρ] at h
   exact sy key h
 | strOf i =>
   simp only [cR, bV.all, List.mem_singleton, forall_eq] at h hρ
   rw [← hρ] at h
   exact sx key h
 | build z ps =>
   simp only [cR, bV.all] at h hρ
   have : (ps.map fun q => (q.1, q.2.1, al env q.2.2)) = ps.map fun q => (q.1, q.2.1, ρ q.2.2) :=
    List.map_congr_left fun q hq => by rw [hρ _ (List.mem_map.2 ⟨q, hq, rfl⟩)]
   show cB z.cells (ps.map fun q => (q.1, q.2.1, al env q.2.2)) (fun v => H = H ∧ get (put dst v env) = get (put dst x env))
   rw [this]
   exact lC (fun v h => key _ h) h
 | buildSlice own esz z len ps =>
   simp only [cR, bV.all] at h hρ
   have : (ps.map fun q => (q.1, al env q.2)) = ps.map fun q => (q.1, ρ q.2) :=
    List.map_congr_left fun q hq => by rw [hρ _ (List.mem_map.2 ⟨q, hq, rfl⟩)]
   show bi _ _ (ps.map fun q => (q.1, al env q.2)) _
   rw [this]
   exact gk (fun v h => key (.ap own v) h) h
 | slice esz i lo hi mx =>
   simp only [cR, bV.all, List.mem_cons, List.mem_append, forall_eq_or_imp] at h hρ
   obtain ⟨h1, h2⟩ := hρ
   rw [← h1, mU (fun i hi => h2 i (.inl (.inl hi))), mU (fun i hi => h2 i (.inl (.inr hi))), mU (fun i hi => h2 i (.inr hi))] at h
   exact lB key h
 | dH i lo hi =>
   simp only [cR, bV.all, List.mem_cons, List.mem_append, forall_eq_or_imp] at h hρ
   obtain ⟨h1, h2⟩ := hρ
   rw [← h1, mU (fun i hi => h2 i (.inl hi)), mU (fun i hi => h2 i (.inr hi))] at h
   exact jv key h
 | fn f first cap =>
   simp only [cR, bV.all, List.mem_append] at h hρ
   refine key _ ?_
   rw [mV (fun i hi => hρ i (.inl hi)) AV.ab, mV (fun i hi => hρ i (.inr hi)) AV.ab]
   exact h
 | call f args pass =>
   cases pass with
   | some _ => exact h.elim
   | none =>
     simp only [cR, bV.all, List.mem_cons, forall_eq_or_imp] at h hρ
     obtain ⟨h1, h2⟩ := hρ
     rw [← h1] at h
     split at h <;> try exact h.elim
     rename_i g first cap hg
     show oA P (al env f) args none env H (fun r aC H' => H' = H ∧ get (put dst r aC) = get (put dst x env))
     rw [hg]
     obtain ⟨bO, hl, hcall⟩ := h
     refine ⟨bO, ?_, dU.of <| hcall.mono ?_⟩
     ·rw [mW, mV h2 AV.ab]; exact hl
     ·rintro r H' ⟨hr, rfl⟩
      exact key r hr
 | _ => exact h.elim
end Go.aK
end
section
namespace Go.aK
open Go
theorem AZ {m : Nat} {p x : AV} {H : List aa} {K K' : List aa → Prop} (hm : ∀ H', K H' → K' H') (h : gO m p x H K) : gO m p x H K' := by
 unfold gO at *
 split at h <;> (try exact h.elim)
 split at h <;> (try exact h.elim)
 exact ⟨h.1, h.2.1, h.2.2.1, h.2.2.2.1, h.2.2.2.2.1, hm _ h.2.2.2.2.2⟩
theorem wD {p x : AV} {H : List aa} {K K' : List aa → Prop} (hm : ∀ H', K H' → K' H') (h : dJ p x H K) : dJ p x H K' := by
 unfold dJ at *
 split at h <;> (try exact h.elim)
 split at h <;> (try exact h.elim)
 exact ⟨h.1, h.2.1, h.2.2.1, hm _ h.2.2.2⟩
theorem yT {esz bytes : Nat} {s x : AV} {φ ψ : List AV → Prop} (hm : ∀ z, φ z → ψ z) (h : bE esz bytes s x φ) : bE esz bytes s x ψ := by
 unfold bE at *
 split at h <;> (try exact h.elim)
 exact ⟨h.1, h.2.1, hm _ h.2.2⟩
theorem wE {esz bytes : Nat} {z s x : AV} {H : List aa} {K K' : AV → List aa → Prop} (hm : ∀ v H', K v H' → K' v H') (h : cF esz bytes z s x H K) : cF esz bytes z s x H K' := by
 unfold cF at *
 cases hr : dE x with
 | none =>
   rw [hr] at h
   simp only at h ⊢
   split at h <;> try exact h.elim
   rename_i id off len cap n ys wx
   cases hi : H[id]? with
   | none => rw [hi] at h; exact h.elim
   | some ob =>
     rw [hi] at h
     cases ob with
     | cells es =>
       obtain ⟨a, b, c, d, e, f⟩ := h
       exact ⟨a, b, c, d, e, hm _ _ f⟩
     | _ => exact h.elim
 | some ys =>
   rw [hr] at h
   obtain ⟨h1, h⟩ := h
   refine ⟨h1, ?_⟩
   cases s with
   | ah =>
     obtain ⟨a, b, c⟩ := h
     exact ⟨a, fun e => hm _ _ (b e), fun e cap h1 h2 => ⟨(c e cap h1 h2).1, hm _ _ (c e cap h1 h2).2⟩⟩
   | ol =>
     obtain ⟨a, b, c⟩ := h
     exact ⟨a, fun e => hm _ _ (b e), fun e cap h1 h2 => ⟨(c e cap h1 h2).1, hm _ _ (c e cap h1 h2).2⟩⟩
   | bg id off len cap =>
     simp only at h ⊢
     cases hi : H[id]? with
     | none => rw [hi] at h; exact h.elim
     | some ob =>
       rw [hi] at h
       cases ob with
       | cells es =>
         obtain ⟨a, b, c, d, f⟩ := h
         exact ⟨a, b, c, fun e => ⟨(d e).1, hm _ _ (d e).2⟩, fun e fU h1 h2 => ⟨(f e fU h1 h2).1, hm _ _ (f e fU h1 h2).2⟩⟩
       | _ => exact h.elim
   | _ => exact h.elim
theorem yU {esz : Nat} {z x : AV} {H : List aa} {K K' : List aa → Prop} (hm : ∀ H', K H' → K' H') (h : gW esz z x H K) : gW esz z x H K' := by
 unfold gW at *
 split at h <;> (try exact h.elim)
 split at h <;> (try exact h.elim)
 exact ⟨h.1, h.2.1, h.2.2.1, hm _ h.2.2.2⟩
theorem A0 {esz bytes : Nat} {z n : AV} {H : List aa} {K K' : AV → List aa → Prop} (hm : ∀ v H', K v H' → K' v H') (h : fL esz bytes z n H K) : fL esz bytes z n H K' := by
 unfold fL at *
 split at h <;> (try exact h.elim)
 exact ⟨h.1, h.2.1, h.2.2.1, hm _ _ h.2.2.2⟩
theorem yV {kd : Nat} {m k x : AV} {H : List aa} {K K' : List aa → Prop} (hm : ∀ H', K H' → K' H') (h : eX kd m k x H K) : eX kd m k x H K' := by
 unfold eX at *
 split at h <;> (try exact h.elim)
 split at h <;> (try exact h.elim)
 refine ⟨h.1, h.2.1, h.2.2.1, ?_⟩
 obtain ⟨_, _, _, h⟩ := h
 split at h
 ·exact hm _ h
 ·exact ⟨h.1, hm _ h.2⟩
 ·exact h.elim
theorem Dk {esz : Nat} {d s : AV} {H : List aa} {K K' : AV → List aa → Prop} (hm : ∀ v H', K v H' → K' v H') (h : jl esz d s H K) : jl esz d s H K' := by
 unfold jl at *
 split at h <;> (try exact h.elim)
 split at h <;> (try exact h.elim)
 exact ⟨h.1, h.2.1, h.2.2.1, hm _ _ h.2.2.2⟩
theorem jP {esz : Nat} {x : AV} {H : List aa} {K K' : AV → List aa → Prop} (hm : ∀ v H', K v H' → K' v H') (h : dB esz x H K) : dB esz x H K' := by
 unfold dB at *
 split at h
 ·split at h <;> (try exact h.elim)
  exact ⟨h.1, h.2.1, h.2.2.1, h.2.2.2.1, hm _ _ h.2.2.2.2⟩
 ·exact h.elim
 ·exact hm _ _ h
 ·exact hm _ _ h
theorem sB {esz : Nat} : ∀ {xs : List AV} {H : List aa} {K K' : List AV → List aa → Prop} (hm : ∀ v H', K v H' → K' v H') (h : jm esz xs H K), jm esz xs H K'
 | [], H, K, K', hm, h => hm _ _ h
 | x :: r, H, K, K', hm, h => jP (fun v H' hk => sB (fun vs H'' h2 => hm _ _ h2) hk) h
theorem F7 {e id c : Nat} {H : List aa} {K K' : List aa → Prop} (hm : ∀ H', K H' → K' H') (h : yK e id c H K) : yK e id c H K' := by
 unfold yK at *
 split at h <;> (try exact h.elim)
 split at h <;> (try exact h.elim)
 ·exact jP (fun v H' hk => ⟨hk.1, hk.2.1, hm _ hk.2.2⟩) h
 ·exact hm _ h
theorem ux {esz : Nat} {x : AV} {H : List aa} {K K' : AV → List aa → Prop} (hm : ∀ v H', K v H' → K' v H') (h : fc esz x H K) : fc esz x H K' := by
 unfold fc at *
 split at h
 ·exact sB (fun v H' hk => hm _ _ hk) h
 ·split at h
  ·rename_i hc; rw [if_pos hc]; exact F7 (hm _) h
  ·rename_i hc; rw [if_neg hc]; exact jP hm h
 ·exact jP hm h
theorem yW {l m : Nat} {p x : AV} {H : List aa} {K K' : List aa → Prop} (hm : ∀ H', K H' → K' H') (h : gb l m p x H K) : gb l m p x H K' := by
 unfold gb at *
 split at h <;> (try exact h.elim)
 split at h <;> (try exact h.elim)
 exact ⟨h.1, h.2.1, h.2.2.1, h.2.2.2.1, h.2.2.2.2.1, h.2.2.2.2.2.1, hm _ h.2.2.2.2.2.2⟩
theorem mX {env1 cG : Env} {pass : Option Nat} : ∀ {is : List IX} {j : Nat}, (∀ i ∈ is, al cG i = al env1 i) → aE cG pass j is = aE env1 pass j is
 | [], _, _ => rfl
 | .t s :: r, j, h => by
   have h1 : get cG s = get env1 s := h (.t s) (by simp)
   simp only [aE, h1, mX (fun i hi => h i (List.mem_cons_of_mem _ hi))]
 | .c v :: r, j, h => by
   simp only [aE, mX (fun i hi => h i (List.mem_cons_of_mem _ hi))]
theorem fQ {lo : Option IX} {env1 cG : Env} (h : ∀ i ∈ lo.toList, al cG i = al env1 i) : gg cG lo = gg env1 lo := by
 cases lo with
 | none => rfl
 | some i => simp [gg, h i (by simp)]
theorem nN {P : Px} {o : bV} {dst : Option Nat} {env1 cG : Env} {H : List aa} {K1 K2 : Env → List aa → Prop} (hl : ∀ i ∈ o.all, al cG i = al env1 i) (h : bp P o dst env1 H K1)
 (hK : ∀ (mods : List (Nat × AV)) H', (∀ p ∈ mods, dst = some p.1 ∨ p.1 ∈ o.kill) → (o.PL = false → H' = H) → (o.xj = true → ∃ e, H' = H ++ e) → K1 (mods ++ env1) H' → K2 (mods ++ cG) H') : bp P o dst cG H K2 := by
 have kput : ∀ z H', (o.PL = false → H' = H) → (o.xj = true → ∃ e, H' = H ++ e) → K1 (put dst z env1) H' → K2 (put dst z cG) H' := by
  intro z H' hc hg
  cases hd : dst with
  | none => exact hK [] H' (by simp) hc hg
  | some d => exact hK [(d, z)] H' (by simp [hd]) hc hg
 have kput0 : ∀ z, K1 (put dst z env1) H → K2 (put dst z cG) H := fun z => kput z H (fun _ => rfl) (fun _ => ⟨[], by simp⟩)
 have kenv : ∀ H', (o.PL = false → H' = H) → (o.xj = true → ∃ e, H' = H ++ e) → K1 env1 H' → K2 cG H' := fun H' hc hg => hK [] H' (by simp) hc hg
 cases o with
 | set i take =>
   simp only [bV.all, List.mem_singleton, forall_eq] at hl
   simp only [bp] at h ⊢
   cases dst with
   | none => exact kenv H (fun _ => rfl) (fun _ => ⟨[], by simp⟩) h
   | some d =>
     simp only at h ⊢
     cases i with
     | c v => cases take <;> exact kput0 _ h
     | t s =>
       have hs : get cG s = get env1 s := hl
       cases take with
       | false =>
         have e1 : sU env1 d (.t s) false = put (some d) (get env1 s).ab env1 := rfl
         have e2 : sU cG d (.t s) false = put (some d) (get env1 s).ab cG := by simp only [sU, put, al, hs]
         rw [e2]; rw [e1] at h
         exact kput0 _ h
       | true =>
         have e1 : sU env1 d (.t s) true = [(d, get env1 s), (s, (get env1 s).ab)] ++ env1 := rfl
         have e2 : sU cG d (.t s) true = [(d, get env1 s), (s, (get env1 s).ab)] ++ cG := by simp only [sU, hs]; rfl
         rw [e2]; rw [e1] at h
         exact hK _ H (by simp [bV.kill]) (fun _ => rfl) (fun _ => ⟨[], by simp⟩) h
 | pick c a b =>
   simp only [bV.all, List.mem_cons, List.not_mem_nil, or_false, forall_eq_or_imp, forall_eq] at hl
   obtain ⟨h1, h2, h3⟩ := hl
   simp only [bp] at h ⊢
   rw [h1, h2, h3]
   obtain ⟨q, hq, h⟩ := nL h
   rw [hq]
   exact ⟨fun e => kput0 _ (h.1 e), fun e => kput0 _ (h.2 e)⟩
 | bin op i j =>
   simp only [bV.all, List.mem_cons, List.not_mem_nil, or_false, forall_eq_or_imp, forall_eq] at hl
   simp only [bp] at h ⊢
   rw [hl.1, hl.2]
   exact rb kput0 h
 | shift op i j =>
   simp only [bV.all, List.mem_cons, List.not_mem_nil, or_false, forall_eq_or_imp, forall_eq] at hl
   simp only [bp] at h ⊢
   rw [hl.1, hl.2]
   exact mS kput0 h
 | gM neq i j =>
   simp only [bV.all, List.mem_cons, List.not_mem_nil, or_false, forall_eq_or_imp, forall_eq] at hl
   simp only [bp] at h ⊢
   rw [hl.1, hl.2]
   exact lz kput0 h
 | indexAddr esz i j =>
   simp only [bV.all, List.mem_cons, List.not_mem_nil, or_false, forall_eq_or_imp, forall_eq] at hl
   simp only [bp] at h ⊢
   rw [hl.1, hl.2]
   exact ⟨h.1, iK kput0 h.2⟩
 | cZ i j =>
   simp only [bV.all, List.mem_cons, List.not_mem_nil, or_false, forall_eq_or_imp, forall_eq] at hl
   simp only [bp] at h ⊢
   rw [hl.1, hl.2]
   exact jr kput0 h
 | dG n i j =>
   simp only [bV.all, List.mem_cons, List.not_mem_nil, or_false, forall_eq_or_imp, forall_eq] at hl
   simp only [bp] at h ⊢
   rw [hl.1, hl.2]
   exact jt kput0 h
 | lookup kd z i j ok =>
   simp only [bV.all, List.mem_cons, List.not_mem_nil, or_false, forall_eq_or_imp, forall_eq] at hl
   simp only [bp] at h ⊢
   rw [hl.1, hl.2]
   exact lA kput0 h
 | mx big i j =>
   simp only [bV.all, List.mem_cons, List.not_mem_nil, or_false, forall_eq_or_imp, forall_eq] at hl
   simp only [bp] at h ⊢
   rw [hl.1, hl.2]
   exact uw kput0 h
 | store m i j =>
   simp only [bV.all, List.mem_cons, List.not_mem_nil, or_false, forall_eq_or_imp, forall_eq] at hl
   simp only [bp] at h ⊢
   rw [hl.1, hl.2]
   exact AZ (fun H' hk => kenv H' (fun e => by cases e) (fun e => by cases e) hk) h
 | mH m i j =>
   simp only [bV.all, List.mem_cons, List.not_mem_nil, or_false, forall_eq_or_imp, forall_eq] at hl
   simp only [bp] at h ⊢
   rw [hl.1, hl.2]
   split at h <;> (try exact h.elim)
   exact yW (fun H' hk => kenv H' (fun e => by cases e) (fun e => by cases e) hk) h
 | append esz bytes i j =>
   simp only [bV.all, List.mem_cons, List.not_mem_nil, or_false, forall_eq_or_imp, forall_eq] at hl
   simp only [bp] at h ⊢
   rw [hl.1, hl.2]
   refine yT (fun zs hk => ?_) h
   cases i with
   | c v => exact kput0 _ hk
   | t s =>
     have hs : get cG s = get env1 s := hl.1
     have e : ∀ env : Env, get env s = get env1 s → put dst (.ap esz zs) (cC env (IX.t s).slot) = (put dst (.ap esz zs) [(s, (get env1 s).ab)]) ++ env := by
      intro env he
      cases dst <;> simp [put, cC, IX.slot, he]
     rw [e env1 rfl] at hk
     rw [e cG hs]
     refine hK _ H ?_ (fun _ => rfl) (fun _ => ⟨[], by simp⟩) hk
     intro p hp
     cases dst with
     | none => simp [put] at hp; subst hp; right; simp [bV.kill]
     | some d =>
       simp [put] at hp
       rcases hp with rfl | rfl
       ·left; rfl
       ·right; simp [bV.kill]
 | copy esz i j =>
   simp only [bV.all, List.mem_cons, List.not_mem_nil, or_false, forall_eq_or_imp, forall_eq] at hl
   simp only [bp] at h ⊢
   rw [hl.1, hl.2]
   exact Dk (fun v H' hk => kput v H' (fun e => by cases e) (fun e => by cases e) hk) h
 | jW kd i j k =>
   simp only [bV.all, List.mem_cons, List.not_mem_nil, or_false, forall_eq_or_imp, forall_eq] at hl
   simp only [bp] at h ⊢
   rw [hl.1, hl.2.1, hl.2.2]
   exact yV (fun H' hk => kenv H' (fun e => by cases e) (fun e => by cases e) hk) h
 | eT i s =>
   simp only [bV.all, List.mem_cons, List.not_mem_nil, or_false, forall_eq_or_imp, forall_eq] at hl
   simp only [bp] at h ⊢
   have hs : get cG s = get env1 s := hl.2
   rw [hl.1, hs]
   exact wD (fun H' hk => hK [(s, (get env1 s).ab)] H' (by simp [bV.kill]) (fun e => by cases e) (fun e => by cases e) hk) h
 | iQ kd neq i =>
   simp only [bV.all, List.mem_singleton, forall_eq] at hl
   simp only [bp] at h ⊢
   rw [hl]
   exact sw kput0 h
 | un op i =>
   simp only [bV.all, List.mem_singleton, forall_eq] at hl
   simp only [bp] at h ⊢
   rw [hl]
   exact uv kput0 h
 | box i =>
   simp only [bV.all, List.mem_singleton, forall_eq] at hl
   simp only [bp] at h ⊢
   rw [hl]
   exact ⟨h.1, h.2.1, kput _ _ (fun e => by cases e) (fun _ => ⟨_, rfl⟩) h.2.2⟩
 | k9 i =>
   simp only [bV.all, List.mem_singleton, forall_eq] at hl
   simp only [bp] at h ⊢
   rw [hl]
   exact ⟨h.1, kput0 _ h.2⟩
 | qQ m i =>
   simp only [bV.all, List.mem_singleton, forall_eq] at hl
   simp only [bp] at h ⊢
   rw [hl]
   exact ⟨h.1, h.2.1, h.2.2.1, kput0 _ h.2.2.2⟩
 | alloc z =>
   simp only [bp] at h ⊢
   exact ⟨h.1, kput _ _ (fun e => by cases e) (fun _ => ⟨_, rfl⟩) h.2⟩
 | mJ =>
   simp only [bp] at h ⊢
   exact kput _ _ (fun e => by cases e) (fun _ => ⟨_, rfl⟩) h
 | load sz i =>
   simp only [bV.all, List.mem_singleton, forall_eq] at hl
   simp only [bp] at h ⊢
   rw [hl]
   exact jq kput0 h
 | rY sz esz i =>
   simp only [bV.all, List.mem_singleton, forall_eq] at hl
   simp only [bp] at h ⊢
   rw [hl]
   exact jq (fun z hz => ux (fun v H' hk => kput v H' (fun e => by cases e) (fun e => by cases e) hk) hz) h
 | dZ i =>
   simp only [bV.all, List.mem_singleton, forall_eq] at hl
   simp only [bp] at h ⊢
   rw [hl]
   cases dst with
   | none => exact h.elim
   | some d =>
     cases hv : al env1 i with
     | ptr id off =>
       rw [hv] at h
       simp only at h ⊢
       cases bm : H[id]? with
       | none => rw [bm] at h; exact h.elim
       | some ob =>
         rw [bm] at h
         cases ob with
         | cells es => exact ⟨h.1, hK [(d, es.getD off .any)] _ (by simp) (fun e => by cases e) (fun e => by cases e) h.2⟩
         | _ => exact h.elim
     | _ => rw [hv] at h; exact h.elim
 | yv esz i =>
   simp only [bV.all, List.mem_singleton, forall_eq] at hl
   simp only [bp] at h ⊢
   rw [hl]
   exact ux (fun v H' hk => kput v H' (fun e => by cases e) (fun e => by cases e) hk) h
 | nilCheck i =>
   simp only [bV.all, List.mem_singleton, forall_eq] at hl
   simp only [bp] at h ⊢
   rw [hl]
   exact ju kput0 h
 | fieldAddr off sz i =>
   simp only [bV.all, List.mem_singleton, forall_eq] at hl
   simp only [bp] at h ⊢
   rw [hl]
   exact iJ kput0 h
 | field off sz i =>
   simp only [bV.all, List.mem_singleton, forall_eq] at hl
   simp only [bp] at h ⊢
   rw [hl]
   exact mT kput0 h
 | len kd i =>
   simp only [bV.all, List.mem_singleton, forall_eq] at hl
   simp only [bp] at h ⊢
   rw [hl]
   exact ⟨h.1, rc kput0 h.2⟩
 | rZ esz bytes z i =>
   simp only [bV.all, List.mem_singleton, forall_eq] at hl
   simp only [bp] at h ⊢
   rw [hl]
   exact A0 (fun v H' hk => kput v H' (fun e => by cases e) (fun e => by cases e) hk) h
 | mI esz bytes i =>
   simp only [bV.all, List.mem_singleton, forall_eq] at hl
   simp only [bp] at h ⊢
   rw [hl]
   exact sy kput0 h
 | extract i k =>
   simp only [bV.all, List.mem_singleton, forall_eq] at hl
   simp only [bp] at h ⊢
   rw [hl]
   exact kg kput0 h
 | eB k i =>
   simp only [bV.all, List.mem_singleton, forall_eq] at hl
   simp only [bp] at h ⊢
   rw [hl]
   exact kh kput0 h
 | fZ i =>
   simp only [bV.all, List.mem_singleton, forall_eq] at hl
   simp only [bp] at h ⊢
   rw [hl]
   exact oB kput0 h
 | bytesOf i =>
   simp only [bV.all, List.mem_singleton, forall_eq] at hl
   simp only [bp] at h ⊢
   rw [hl]
   exact oC kput0 h
 | strOf i =>
   simp only [bV.all, List.mem_singleton, forall_eq] at hl
   simp only [bp] at h ⊢
   rw [hl]
   exact sx kput0 h
 | build z ps =>
   simp only [bV.all] at hl
   simp only [bp] at h ⊢
   have : (ps.map fun q => (q.1, q.2.1, al cG q.2.2)) = ps.map fun q => (q.1, q.2.1, al env1 q.2.2) :=
    List.map_congr_left fun q hq => by rw [hl _ (List.mem_map.2 ⟨q, hq, rfl⟩)]
   rw [this]
   exact lC (fun v hk => kput0 _ hk) h
 | Ax esz z len ps =>
   simp only [bV.all] at hl
   simp only [bp] at h ⊢
   have : (ps.map fun q => (q.1, al cG q.2)) = ps.map fun q => (q.1, al env1 q.2) :=
    List.map_congr_left fun q hq => by rw [hl _ (List.mem_map.2 ⟨q, hq, rfl⟩)]
   rw [this]
   exact gk (fun v hk => ⟨hk.1, kput _ _ (fun e => by cases e) (fun e => by cases e) hk.2⟩) h
 | iS esz bytes z i j =>
   simp only [bV.all, List.mem_cons, List.not_mem_nil, or_false, forall_eq_or_imp, forall_eq] at hl
   simp only [bp] at h ⊢
   rw [hl.1, hl.2]
   exact wE (fun v H' hk => kput v H' (fun e => by cases e) (fun e => by cases e) hk) h
 | mK esz z i =>
   simp only [bV.all, List.mem_singleton, forall_eq] at hl
   simp only [bp] at h ⊢
   rw [hl]
   exact yU (fun H' hk => kput _ H' (fun e => by cases e) (fun e => by cases e) hk) h
 | buildSlice own esz z len ps =>
   simp only [bV.all] at hl
   simp only [bp] at h ⊢
   have : (ps.map fun q => (q.1, al cG q.2)) = ps.map fun q => (q.1, al env1 q.2) :=
    List.map_congr_left fun q hq => by rw [hl _ (List.mem_map.2 ⟨q, hq, rfl⟩)]
   rw [this]
   exact gk (fun v hk => kput0 _ hk) h
 | slice esz i lo hi m =>
   simp only [bV.all, List.mem_cons, List.mem_append, forall_eq_or_imp] at hl
   obtain ⟨h1, h2⟩ := hl
   simp only [bp] at h ⊢
   rw [h1, fQ (fun i hi => h2 i (.inl (.inl hi))), fQ (fun i hi => h2 i (.inl (.inr hi))), fQ (fun i hi => h2 i (.inr hi))]
   exact lB kput0 h
 | oN esz i lo hi m =>
   simp only [bV.all, List.mem_cons, List.mem_append, forall_eq_or_imp] at hl
   obtain ⟨h1, h2⟩ := hl
   simp only [bp] at h ⊢
   rw [h1, fQ (fun i hi => h2 i (.inl (.inl hi))), fQ (fun i hi => h2 i (.inl (.inr hi))), fQ (fun i hi => h2 i (.inr hi))]
   exact ⟨h.1, sA (fun z hz => ⟨hz.1, kput0 _ hz.2⟩) h.2⟩
 | dH i lo hi =>
   simp only [bV.all, List.mem_cons, List.mem_append, forall_eq_or_imp] at hl
   obtain ⟨h1, h2⟩ := hl
   simp only [bp] at h ⊢
   rw [h1, fQ (fun i hi => h2 i (.inl hi)), fQ (fun i hi => h2 i (.inr hi))]
   exact jv kput0 h
 | fn f first cap =>
   simp only [bV.all, List.mem_append] at hl
   simp only [bp] at h ⊢
   rw [mV (fun i hi => hl i (.inl hi)) AV.ab, mV (fun i hi => hl i (.inr hi)) AV.ab]
   exact kput0 _ h
 | call f args pass =>
   simp only [bV.all, List.mem_cons, forall_eq_or_imp] at hl
   obtain ⟨h1, h2⟩ := hl
   simp only [bp, oA] at h ⊢
   rw [h1]
   split at h <;> try exact h.elim
   all_goals
   obtain ⟨bO, hle, hcall⟩ := h
   refine ⟨bO, ?_, hcall.mono fun r H' hk => ?_⟩
   ·rw [mX h2]; exact hle
   ·cases hp : bc args pass with
    | none =>
      rw [hp] at hk
      exact kput r H' (fun e => by cases e) (fun e => by cases e) hk
    | some s =>
      rw [hp] at hk
      have iB : IX.t s ∈ args ∧ s ∈ (bV.call f args pass).kill := by
       unfold bc at hp
       simp only [bV.kill]
       split at hp
       ·rename_i j
        split at hp <;> cases hp
        rename_i hj
        try simp only [hj]
        exact ⟨List.mem_of_getElem? hj, by simp⟩
       ·cases hp
      have hs : get cG s = get env1 s := h2 _ iB.1
      have e : ∀ env : Env, get env s = get env1 s → put dst r (cC env (some s)) = (put dst r [(s, (get env1 s).ab)]) ++ env := by
       intro env he
       cases dst <;> simp [put, cC, he]
      rw [e env1 rfl] at hk
      rw [e cG hs]
      refine hK _ H' ?_ (fun e => by cases e) (fun e => by cases e) hk
      intro p S2
      cases dst with
      | none => simp [put] at S2; subst S2; exact .inr iB.2
      | some d =>
        simp [put] at S2
        rcases S2 with rfl | rfl
        ·left; rfl
        ·exact .inr iB.2
 | never => exact h.elim
end Go.aK
end
section
namespace Go.aK
open Go
theorem cI {env1 cG : Env} (h : get env1 = get cG) : ∀ mods : List (Nat × AV), get (mods ++ env1) = get (mods ++ cG)
 | [] => h
 | (k, v) :: r => by
   funext t
   simp only [List.cons_append, get]
   split
   ·rfl
   ·rw [cI h r]
theorem oD {env1 cG : Env} {t : Nat} (h : get env1 t = get cG t) : ∀ mods : List (Nat × AV), get (mods ++ env1) t = get (mods ++ cG) t
 | [] => h
 | (k, v) :: r => by
   simp only [List.cons_append, get]
   split
   ·rfl
   ·rw [oD h r]
theorem kj {env : Env} {t : Nat} : ∀ {mods : List (Nat × AV)}, (∀ p ∈ mods, p.1 ≠ t) → get (mods ++ env) t = get env t
 | [], _ => rfl
 | (k, v) :: r, h => by
   simp only [List.cons_append, get]
   rw [if_neg (fun e => h (k, v) (by simp) e.symm), kj (fun p hp => h p (by simp [hp]))]
theorem F8 {l : List IX} {s : Nat} (h : IX.t s ∈ l) : s ∈ IX.Og l := List.mem_filterMap.2 ⟨_, h, rfl⟩
theorem Dl {o : bt} {env1 cG : Env} (hl : ∀ s ∈ o.lk, get cG s = get env1 s) : ∀ i ∈ o.op.all, al cG i = al env1 i := by
 intro i hi
 cases i with
 | c v => rfl
 | t s => exact hl s (List.mem_append_left _ (F8 hi))
theorem get_guard {env : Env} {g : Nat} {b : Bool} (h : get env g = .bool b) : get ((g, AV.bool b) :: env) = get env := by
 funext t
 simp only [get]
 split
 ·rename_i e; rw [e, h]
 ·rfl
theorem nO {P : Px} {o : bt} {env1 cG : Env} {H : List aa} {K1 K2 : Env → List aa → Prop} (hl : ∀ s ∈ o.lk, get cG s = get env1 s) (h : qY P o env1 H K1)
 (hK : ∀ e1 e2 H', (∃ mods : List (Nat × AV), (∀ p ∈ mods, o.dst = some p.1 ∨ p.1 ∈ o.op.kill) ∧ get e1 = get (mods ++ env1) ∧ get e2 = get (mods ++ cG)) → (o.op.PL = false → H' = H) → (o.op.xj = true → ∃ e, H' = H ++ e) → K1 e1 H' → K2 e2 H') : qY P o cG H K2 := by
 unfold qY at *
 cases hg : o.g with
 | none =>
   simp only [hg] at h ⊢
   exact nN (Dl hl) h fun mods H' hm hc hg hk => hK _ _ H' ⟨mods, hm, rfl, rfl⟩ hc hg hk
 | some p =>
   obtain ⟨g, want⟩ := p
   simp only [hg] at h ⊢
   unfold gP at *
   have xn : get cG g = get env1 g := hl g (by simp [bt.lk, hg])
   rw [xn]
   split at h
   rotate_left
   ·rename_i hb
    refine hK _ _ H ⟨(match o.dst with | some d => [(d, .tuple [])] | none => []), ?_, ?_, ?_⟩ (fun _ => rfl) (fun _ => ⟨[], by simp⟩) h
    ·cases hd : o.dst <;> simp
    ·cases hd : o.dst <;> rfl
    ·cases hd : o.dst <;> rfl
   ·exact h.elim
   rename_i b hb
   have pA : get cG g = .bool b := by rw [xn, hb]
   refine ⟨fun e => ?_, fun e => ?_⟩
   ·subst e
    refine nN (env1 := (g, .bool b) :: env1) (Dl (o := o) fun s hs => ?_) (h.1 rfl) fun mods H' hm hc hg hk => hK _ _ H' ⟨mods, hm, cI (get_guard hb) mods, cI (get_guard pA) mods⟩ hc hg hk
    rw [get_guard hb, get_guard pA]
    exact hl s hs
   ·have h2 := h.2 e
    subst e
    refine hK _ _ H ⟨(match o.dst with | some d => [(d, .tuple [])] | none => []), ?_, ?_, ?_⟩ (fun _ => rfl) (fun _ => ⟨[], by simp⟩) h2
    ·cases hd : o.dst <;> simp
    ·cases hd : o.dst with
     | none => exact get_guard hb
     | some d => exact cI (get_guard hb) [(d, .tuple [])]
    ·cases hd : o.dst with
     | none => exact get_guard pA
     | some d => exact cI (get_guard pA) [(d, .tuple [])]
theorem pP {P : Px} {o : bt} {env : Env} {H : List aa} {K1 K2 : Env → List aa → Prop} (h : qY P o env H K1)
 (hK : ∀ e1 e2 H', get e1 = get e2 → K1 e1 H' → K2 e2 H') : qY P o env H K2 :=
 nO (fun _ _ => rfl) h fun e1 e2 H' ⟨mods, _, h1, h2⟩ _ _ hk => hK e1 e2 H' (h1.trans h2.symm) hk
section
variable {P : Px} {ops : Array Oper} {il : List bt} {K : Env → List aa → Prop}
def qA (P : Px) (il : List bt) (i : Nat) (env : Env) (H : List aa) (K : Env → List aa → Prop) : Prop :=
 match il[i]? with
 | none => K env H
 | some o => qY P o env H K
def uy (P : Px) (ops : Array Oper) (il : List bt) (K : Env → List aa → Prop) : Nat → Array Bool → Env → List aa → Prop
 | 0, listed, env, H => Region.ready .any ops listed = [] ∧ K env H
 | f + 1, listed, env, H => (Region.ready .any ops listed = [] → K env H) ∧ ∀ i ∈ Region.ready .any ops listed, qA P il i env H (uy P ops il K f (listed.setIfInBounds i true))
def Inv (K : Env → List aa → Prop) : Prop := ∀ e1 e2 H, get e1 = get e2 → K e1 H → K e2 H
theorem gQ (hK : Inv K) : ∀ (f : Nat) (listed : Array Bool) {e1 e2 : Env} {H : List aa}, get e1 = get e2 → uy P ops il K f listed e1 H → uy P ops il K f listed e2 H
 | 0, _, _, _, _, he, h => ⟨h.1, hK _ _ _ he h.2⟩
 | f + 1, listed, e1, e2, H, he, h => by
   refine ⟨fun h0 => hK _ _ _ he (h.1 h0), fun i hi => ?_⟩
   have hq := h.2 i hi
   unfold qA at *
   split
   ·rename_i hn; simp only [hn] at hq; exact gQ hK f _ he hq
   ·rename_i o ho
    simp only [ho] at hq
    exact nO (fun s _ => by rw [he]) hq fun a b H' ⟨mods, _, h1, h2⟩ _ _ hk => gQ hK f _ (by rw [h1, h2, cI he]) hk
def TJ (P : Px) (st : Bool) (o : bt) (env : Env) (H : List aa) (x : AV) : Prop :=
 ∃ ρ : IX → AV, (∀ i ∈ o.op.all, al env i = ρ i) ∧ match o.g with
  | none => dv P st o.op ρ H x
  | some (g, want) => (∃ b, get env g = .bool b ∧ (b = want → dv P st o.op ρ H x) ∧ (b ≠ want → x = .tuple [])) ∨ (get env g = .tuple [] ∧ x = .tuple [])
theorem EM {st : Bool} {o : bV} {ρ : IX → AV} {H : List aa} {x : AV} (h : dv P st o ρ H x) : cR P o ρ H x := by
 cases st
 ·exact h H
 ·exact h
theorem uz {H e : List aa} {id : Nat} {o : aa} (h : H[id]? = some o) : (H ++ e)[id]? = some o := by
 rw [List.getElem?_append_left (List.getElem?_eq_some_iff.1 h).1, h]
theorem Dm {sz : Option Nat} {x : AV} {H e : List aa} {φ : AV → Prop} (h : aR sz x H φ) : aR sz x (H ++ e) φ := by
 unfold aR at *
 split at h
 ·split at h
  ·rename_i bm; rw [uz bm]; exact h
  ·exact h.elim
 ·exact h
 ·exact h.elim
theorem F9 {x : AV} {H e : List aa} {φ : AV → Prop} (h : eU x H φ) : eU x (H ++ e) φ := by
 unfold eU at *
 split at h <;> (try exact h)
 split at h
 ·rename_i bm; rw [uz bm]; exact h
 ·exact h.elim
theorem yX {kd : Nat} {z m k : AV} {ok : Bool} {H e : List aa} {φ : AV → Prop} (h : ca kd z m k ok H φ) : ca kd z m k ok (H ++ e) φ := by
 unfold ca at *
 split at h <;> (try exact h)
 split at h
 ·rename_i bm; rw [uz bm]; exact h
 ·exact h.elim
theorem xo {o : bV} {ρ : IX → AV} {H e : List aa} {x : AV} (hs : o.stays = true) (h : cR P o ρ H x) : cR P o ρ (H ++ e) x := by
 cases o with
 | call f args pass => cases hs
 | load sz i =>
   unfold cR at h ⊢
   exact Dm h
 | len kd i =>
   unfold cR at h ⊢
   exact ⟨h.1, F9 h.2⟩
 | lookup kd z m k ok =>
   unfold cR at h ⊢
   exact yX h
 | set i t => cases t <;> exact h
 | _ => exact h
theorem A4 {st : Bool} {o : bV} {ρ : IX → AV} {H H' : List aa} {x : AV} (hH : st = true → H' = H ∨ (o.stays = true ∧ ∃ e, H' = H ++ e)) (h : dv P st o ρ H x) : dv P st o ρ H' x := by
 cases st
 ·exact h
 ·rcases hH rfl with e | ⟨h1, e, he⟩
  ·rw [e]; exact h
  ·rw [he]; exact xo h1 h
theorem Ga {st : Bool} {o : bt} {env1 cG : Env} {H1 H2 : List aa} {x : AV} (hl : ∀ s ∈ o.lk, get cG s = get env1 s) (hH : st = true → H2 = H1 ∨ (o.op.stays = true ∧ ∃ e, H2 = H1 ++ e)) (h : TJ P st o env1 H1 x) : TJ P st o cG H2 x := by
 obtain ⟨ρ, h1, h2⟩ := h
 refine ⟨ρ, fun i hi => (Dl hl i hi).trans (h1 i hi), ?_⟩
 cases hg : o.g with
 | none => simp only [hg] at h2 ⊢; exact A4 hH h2
 | some p =>
   obtain ⟨g, want⟩ := p
   simp only [hg] at h2 ⊢
   rcases h2 with ⟨b, k1, k2, k3⟩ | ⟨k1, k2⟩
   ·exact .inl ⟨b, (hl g (by simp [bt.lk, hg])).trans k1, fun e => A4 hH (k2 e), k3⟩
   ·exact .inr ⟨(hl g (by simp [bt.lk, hg])).trans k1, k2⟩
theorem EN {st : Bool} {o : bt} {env : Env} {H : List aa} {x : AV} (h : TJ P st o env H x) : qY P o env H fun e H' => H' = H ∧ get e = get (put o.dst x env) := by
 obtain ⟨ρ, h1, h2⟩ := h
 unfold qY
 cases hg : o.g with
 | none => simp only [hg] at h2 ⊢; exact AY (EM h2) h1
 | some p =>
   obtain ⟨g, want⟩ := p
   simp only [hg] at h2 ⊢
   rcases h2 with ⟨b, k1, k2, k3⟩ | ⟨k1, k2⟩
   rotate_left
   ·unfold gP
    rw [k1]
    subst k2
    exact ⟨by simp, rfl⟩
   unfold gP
   rw [k1]
   refine ⟨fun e => ?_, fun e => ?_⟩
   ·subst e
    have KQ := get_guard k1
    have := AY (dst := o.dst) (env := (g, .bool b) :: env) (EM (k2 rfl)) (fun i hi => by
     rw [← h1 i hi]
     cases i with
     | c v => rfl
     | t s => show get _ s = get _ s; rw [KQ])
    refine nN (fun _ _ => rfl) this ?_
    intro mods H' _ _ _ hk
    refine ⟨hk.1, hk.2.trans ?_⟩
    rw [jO, jO, KQ]
   ·have eo : b ≠ want := by intro e2; subst e2; cases b <;> cases e
    have hx := k3 eo
    subst hx
    subst e
    exact ⟨by simp, by rw [jO, jO, get_guard k1]⟩
def closed (ops : Array Oper) (listed : Array Bool) : Prop := ∀ k o, ops[k]? = some o → listed.getD k false = true → ∀ e ∈ o.after, Region.binds .any e = true → listed.getD e.on false = true
theorem kD {listed : Array Bool} (hc : closed ops listed) {i : Nat} : ∀ (f j : Nat) (oj : Oper), ops[j]? = some oj → (∀ e ∈ oj.after, Region.binds .any e = true → listed.getD e.on false = true) → dg ops f j i = true → listed.getD i false = true
 | 0, _, _, _, _, h => by simp [dg] at h
 | f + 1, j, oj, hj, jj, h => by
   simp only [dg, hj] at h
   obtain ⟨k, hk, he⟩ := Array.any_eq_true.1 h
   simp only [Bool.and_eq_true, Bool.or_eq_true, beq_iff_eq] at he
   have iB : oj.after[k] ∈ oj.after := Array.getElem_mem hk
   have hl := jj _ iB he.1
   rcases he.2 with e | e
   ·rw [← e]; exact hl
   ·have hso : ∃ o', ops[(oj.after[k]).on]? = some o' := by
     cases f with
     | zero => simp [dg] at e
     | succ f =>
       cases ho : ops[(oj.after[k]).on]? with
       | none => simp [dg, ho] at e
       | some o' => exact ⟨o', rfl⟩
    obtain ⟨o', PU⟩ := hso
    exact kD hc f _ o' PU (hc _ _ PU hl) e
theorem oV {listed : Array Bool} {i : Nat} (h : listed.getD i true = false) : listed.getD i false = false := by
 simp only [Array.getD_eq_getD_getElem?] at *
 cases hx : listed[i]? with
 | none => rfl
 | some b => rw [hx] at h; simpa using h
theorem oW {listed : Array Bool} (hc : closed ops listed) {j : Nat} (hj : j ∈ Region.ready .any ops listed) : closed ops (listed.setIfInBounds j true) := by
 obtain ⟨_, oj, PM, jj⟩ := mem_ready.1 hj
 intro k o ho hk e he hb
 refine getD_set_true ?_
 by_cases hkj : k = j
 ·subst hkj
  rw [PM] at ho
  cases ho
  exact jj e he hb
 ·rw [getD_set_ne false (Ne.symm hkj)] at hk
  exact hc k o ho hk e he hb
theorem A5 {listed : Array Bool} {i j : Nat} {st : Bool} (h : mR ops il listed i st = true) (hj : j < ops.size) (EO : j ≠ i) (Xr : listed.getD j true = false) (jH : dg ops ops.size j i = false) : qZ st (il.getD i default) (il.getD j default) = true := by
 unfold mR at h
 have := List.all_eq_true.1 h j (List.mem_range.2 hj)
 simp only [Bool.or_eq_true, beq_iff_eq, Xr, jH, Bool.false_eq_true, or_false] at this
 rcases this with e | e
 ·exact absurd e EO
 ·exact e
theorem A6 {listed : Array Bool} {i j : Nat} {st : Bool} (h : mR ops il listed i st = true) : mR ops il (listed.setIfInBounds j true) i st = true := by
 unfold mR at *
 refine List.all_eq_true.2 fun k hk => ?_
 have := List.all_eq_true.1 h k hk
 simp only [Bool.or_eq_true] at this ⊢
 rcases this with ((e | e) | e) | e
 ·exact .inl (.inl (.inl e))
 ·refine .inl (.inl (.inr ?_))
  by_cases Of : j = k
  ·subst Of
   simp only [Array.getD_eq_getD_getElem?, Array.getElem?_setIfInBounds]
   split
   ·split <;> simp
   ·rename_i eo; exact absurd trivial eo
  ·rw [getD_set_ne true Of]; exact e
 ·exact .inl (.inr e)
 ·exact .inr e
theorem A7 {st : Bool} {oi oj : bt} (h : qZ st oi oj = true) :
 (∀ d, oi.dst = some d → d ∉ oj.lk ∧ oj.dst ≠ some d ∧ d ∉ oj.op.kill) ∧ (∀ d, oj.dst = some d → d ∉ oi.lk) ∧ (∀ s ∈ oj.op.kill, s ∉ oi.lk) ∧ (st = true → oj.op.PL = false ∨ (oj.op.xj = true ∧ oi.op.stays = true)) := by
 unfold qZ at h
 simp only [Bool.and_eq_true, Bool.or_eq_true, Bool.not_eq_true'] at h
 obtain ⟨⟨⟨h1, h2⟩, h3⟩, h4⟩ := h
 refine ⟨fun d hd => ?_, fun d hd => ?_, fun s hs => ?_, fun e => ?_⟩
 ·rw [hd] at h1
  simpa [and_assoc] using h1
 ·rw [hd] at h2
  simpa using h2
 ·have := List.all_eq_true.1 h3 s hs
  simpa using this
 ·rcases h4 with (e2 | e2) | e2
  ·rw [e] at e2; cases e2
  ·exact .inl e2
  ·exact .inr e2
theorem pQ {l : List bt} {i : Nat} {o : bt} (h : l[i]? = some o) : l.getD i default = o := by
 rw [List.getD_eq_getElem?_getD, h]; rfl
theorem Gb (hK : Inv K) (cW : il.length = ops.size) {i : Nat} {oi : bt} {x : AV} {st : Bool} (hi : il[i]? = some oi) : ∀ (f : Nat) (listed : Array Bool) {env : Env} {H : List aa}, closed ops listed → mR ops il listed i st = true → i ∈ Region.ready .any ops listed →
 TJ P st oi env H x → uy P ops il K f (listed.setIfInBounds i true) (put oi.dst x env) H → uy P ops il K (f + 1) listed env H := by
 intro f
 induction f with
 | zero =>
   intro listed env H iz CK hr ht hD
   refine ⟨fun h => (by rw [h] at hr; cases hr), fun j hj => ?_⟩
   by_cases EO : j = i
   ·subst EO
    unfold qA
    simp only [hi]
    exact pP (EN ht) fun e1 e2 H' he ⟨h1, h2⟩ => by
     subst h1
     exact gQ hK 0 _ (h2.symm.trans he) hD
   ·have := ready_mono hj EO
    rw [hD.1] at this
    cases this
 | succ f ih =>
   intro listed env H iz CK hr ht hD
   refine ⟨fun h => (by rw [h] at hr; cases hr), fun j hj => ?_⟩
   by_cases EO : j = i
   ·subst EO
    unfold qA
    simp only [hi]
    exact pP (EN ht) fun e1 e2 H' he ⟨h1, h2⟩ => by
     subst h1
     exact gQ hK (f + 1) _ (h2.symm.trans he) hD
   ·have h1 := hD.2 j (ready_mono hj EO)
    obtain ⟨Yj, oj', TK, jj⟩ := mem_ready.1 hj
    have hjs : j < ops.size := (Array.getElem?_eq_some_iff.1 TK).1
    have jH : dg ops ops.size j i = false := by
     cases hma : dg ops ops.size j i with
     | false => rfl
     | true =>
       have := kD iz _ j oj' TK jj hma
       rw [oV (mem_ready.1 hr).1] at this
       cases this
    have TL := A5 CK hjs EO Yj jH
    rw [pQ hi] at TL
    unfold qA at *
    cases PM : il[j]? with
    | none =>
      rw [List.getElem?_eq_none_iff] at PM
      omega
    | some oj =>
      rw [pQ PM] at TL
      obtain ⟨a1, a2, a3, a4⟩ := A7 TL
      simp only [PM] at h1 ⊢
      refine nO (env1 := put oi.dst x env) (fun s hs => ?_) h1 fun e1 e2 H' ⟨mods, hm, g1, g2⟩ hch hgr hk => ?_
      ·rw [jO]
       cases hd : oi.dst with
       | none => rfl
       | some d =>
         simp only [PT, fa]
         rw [if_neg]
         intro e
         exact (a1 d hd).1 (e ▸ hs)
      ·have HC : ∀ s ∈ oi.lk, ∀ p ∈ mods, p.1 ≠ s := by
        intro s hs p hp e
        rcases hm p hp with h | h
        ·exact a2 _ h (e ▸ hs)
        ·exact a3 _ h (e ▸ hs)
       have Yk : ∀ d, oi.dst = some d → ∀ p ∈ mods, p.1 ≠ d := by
        intro d hd p hp e
        rcases hm p hp with h | h
        ·exact (a1 d hd).2.1 (e ▸ h)
        ·exact (a1 d hd).2.2 (e ▸ h)
       refine ih (listed.setIfInBounds j true) (oW iz hj) (A6 CK) (ready_mono hr (Ne.symm EO)) ?_ ?_
       ·refine Ga (fun s hs => ?_) (fun e => (a4 e).imp hch fun ⟨q1, q2⟩ => ⟨q2, hgr q1⟩) ht
        rw [g2]
        exact kj (HC s hs)
       ·rw [Array.setIfInBounds_comm _ _ EO]
        refine gQ hK f _ ?_ hk
        rw [g1, jO, g2]
        cases hd : oi.dst with
        | none => rfl
        | some d =>
          funext t
          simp only [PT, fa, put]
          by_cases Yl : t = d
          ·subst Yl
           rw [if_pos rfl, kj (Yk t hd)]
           simp [get]
          ·rw [if_neg Yl]
           refine oD ?_ mods
           simp [get, Yl]
theorem Lw (hK : Inv K) (cW : il.length = ops.size) : ∀ (p : wc) (f : Nat) (listed : Array Bool) {env : Env} {H : List aa}, closed ops listed →
 (s8 ops il f listed none p = true → tu P (inst il p) env H K → uy P ops il K f listed env H) ∧
 (∀ ks, (∀ i ∈ ks, i ∈ Region.ready .any ops listed) → s8 ops il (f + 1) listed (some ks) p = true → tu P (inst il p) env H K → ∀ i ∈ ks, qA P il i env H (uy P ops il K f (listed.setIfInBounds i true))) := by
 intro p
 induction p with
 | done =>
   intro f listed env H iz
   refine ⟨fun h hd => ?_, fun ks _ h _ i hi => ?_⟩
   ·have : Region.ready .any ops listed = [] := by
     cases f <;> simpa [s8, List.isEmpty_iff] using h
    simp only [inst, tu] at hd
    cases f with
    | zero => exact ⟨this, hd⟩
    | succ f => exact ⟨fun _ => hd, fun i hi => by rw [this] at hi; cases hi⟩
   ·cases ks with
    | nil => cases hi
    | cons k ks => simp [s8] at h
 | nil =>
   intro f listed env H iz
   refine ⟨fun h _ => by cases f <;> simp [s8] at h, fun ks _ h _ i hi => ?_⟩
   cases ks with
   | nil => cases hi
   | cons k ks => simp [s8] at h
 | take k st r ih =>
   intro f listed env H iz
   refine ⟨fun h hd => ?_, fun ks _ h _ i hi => ?_⟩
   ·cases f with
    | zero => simp [s8] at h
    | succ f =>
      simp only [s8, Bool.and_eq_true, List.contains_iff_mem] at h
      obtain ⟨⟨⟨hr, acZ⟩, CK⟩, hp⟩ := h
      obtain ⟨_, ok, jI, _⟩ := mem_ready.1 hr
      have C5 : k < il.length := by rw [cW]; exact (Array.getElem?_eq_some_iff.1 jI).1
      have Li : il[k]? = some (il.getD k default) := by rw [List.getD_eq_getElem?_getD, List.getElem?_eq_getElem C5]; rfl
      simp only [inst, tu, sr] at hd
      have fin : ∀ x, TJ P st (il.getD k default) env H x → tu P (inst il r) (put (il.getD k default).dst x env) H K → uy P ops il K (f + 1) listed env H := by
       intro x hx hrest
       exact Gb hK cW Li f listed iz CK hr hx ((ih f _ (oW iz hr)).1 hp hrest)
      cases hg : (il.getD k default).g with
      | none =>
        simp only [hg] at hd
        obtain ⟨x, hx, hrest⟩ := hd
        exact fin x ⟨al env, fun _ _ => rfl, by simp only [hg]; exact hx⟩ hrest
      | some gw =>
        obtain ⟨g, want⟩ := gw
        simp only [hg, gP] at hd
        split at hd
        rotate_left
        ·rename_i hb
         exact fin (.tuple []) ⟨al env, fun _ _ => rfl, by simp only [hg]; exact .inr ⟨hb, by trivial⟩⟩ hd
        ·exact hd.elim
        rename_i b hb
        by_cases EL : b = want
        ·obtain ⟨x, hx, hrest⟩ := hd.1 EL
         exact fin x ⟨al env, fun _ _ => rfl, by simp only [hg]; exact .inl ⟨b, hb, fun _ => hx, fun e => absurd EL e⟩⟩ hrest
        ·have hrest := hd.2 (by cases b <;> cases want <;> first | rfl | exact absurd rfl EL)
         exact fin (.tuple []) ⟨al env, fun _ _ => rfl, by simp only [hg]; exact .inl ⟨b, hb, fun e => absurd e EL, fun _ => by trivial⟩⟩ hrest
   ·cases ks with
    | nil => cases hi
    | cons k ks => simp [s8] at h
 | br k t rest Il HB =>
   intro f listed env H iz
   have key : ∀ (f : Nat) (ks : List Nat), (∀ i ∈ k :: ks, i ∈ Region.ready .any ops listed) → s8 ops il f (listed.setIfInBounds k true) none t = true → s8 ops il (f + 1) listed (some ks) rest = true → tu P (inst il (.br k t rest)) env H K →
    ∀ i ∈ k :: ks, qA P il i env H (uy P ops il K f (listed.setIfInBounds i true)) := by
    intro f ks C5 h1 h2 hd i hi
    simp only [inst, tu] at hd
    rcases List.mem_cons.1 hi with rfl | hi
    ·have hr := C5 i (by simp)
     obtain ⟨_, ok, jI, _⟩ := mem_ready.1 hr
     have a8 : i < il.length := by rw [cW]; exact (Array.getElem?_eq_some_iff.1 jI).1
     have Li : il[i]? = some (il.getD i default) := by rw [List.getD_eq_getElem?_getD, List.getElem?_eq_getElem a8]; rfl
     unfold qA
     rw [Li]
     exact pP hd.1 fun e1 e2 H' he hk => gQ hK f _ he ((Il f _ (oW iz hr)).1 h1 hk)
    ·exact (HB f listed iz).2 ks (fun j hj => C5 j (by simp [hj])) h2 hd.2 i hi
   refine ⟨fun h hd => ?_, fun ks C5 h hd i hi => ?_⟩
   ·cases f with
    | zero => simp [s8] at h
    | succ f =>
      simp only [s8] at h
      split at h
      ·rename_i k' ks Xs
       simp only [Bool.and_eq_true, beq_iff_eq] at h
       obtain ⟨⟨rfl, h1⟩, h2⟩ := h
       have := key f ks (fun i hi => by rw [Xs]; exact hi) h1 h2 hd
       exact ⟨(fun e => by rw [e] at Xs; cases Xs), fun i hi => this i (by rw [Xs] at hi; exact hi)⟩
      ·cases h
   ·cases ks with
    | nil => cases hi
    | cons k' ks =>
      simp only [s8, Bool.and_eq_true, beq_iff_eq] at h
      obtain ⟨⟨rfl, h1⟩, h2⟩ := h
      exact key f ks C5 h1 h2 hd i hi
end
end Go.aK
end
section
namespace Go.aK
open Go
section
variable {ro : Option Nat} {P : Program} {lo : Option Nat} {A : Perm} {n : Nat}
theorem mY {ops : Array Oper} {an : Au} {rid : Nat} : ∀ (fuel k : Nat) (l : List Oper) (il : List bt), eC P ops an n rid false fuel k l = some il →
 il.length = l.length ∧ ∀ (j : Nat) (o : Oper), l[j]? = some o → ∃ g, EJ ops o = some g ∧ EI n o = true ∧ il[j]? = some ⟨g, o.dst, AR P o (an.at_ rid (k + j))⟩
 | _, _, [], il, hc => by
   unfold eC at hc
   cases hc
   exact ⟨rfl, fun j o h => by simp at h⟩
 | 0, _, o :: r, il, hc => by simp [eC] at hc
 | fuel + 1, k, o :: r, il, hc => by
   unfold eC at hc
   simp only [Bool.false_eq_true, and_false, if_false] at hc
   split at hc <;> try cases hc
   rename_i g xs hg fp
   split at hc <;> cases hc
   rename_i fM
   obtain ⟨h1, h2⟩ := mY fuel (k + 1) r xs fp
   refine ⟨by simp [h1], fun j o' hj => ?_⟩
   cases j with
   | zero =>
     simp at hj
     subst hj
     exact ⟨g, hg, fM, by simp⟩
   | succ j =>
     simp at hj
     obtain ⟨g', e1, e2, e3⟩ := h2 j o' hj
     exact ⟨g', e1, e2, by simp [e3, Nat.add_assoc, Nat.add_comm 1 j]⟩
theorem sC {ops : Array Oper} {il : List bt} {an : Au} {rid : Nat} {L0 : List Nat} {M0 : Mem} {w0 : World} {K : Env → List aa → Prop} {Q : Exit → Act → World → Prop}
 (hp : ∀ l, lo = some l → ∀ id, l ≤ id → A.top id = none) (hc : eC P ops an n rid false (ops.size + 1) 0 ops.toList = some il)
 (hF : ∀ (M : Mem) (L : List Nat) (w : World) (H : List aa) (env : Env) (O : Pos → Option Nat) (a : Act), K env H → Fr A n M L w H env O a → Ext A M0 w0 M w → L0 <+: L → Q .normal a w) :
 ∀ (f : Nat) (listed : Array Bool) {M : Mem} {L : List Nat} {w : World} {H : List aa} {env : Env} {O : Pos → Option Nat} {a : Act}, Fr A n M L w H env O a → Ext A M0 w0 M w → L0 <+: L → uy ⟨P, lo⟩ ops il K f listed env H → wpAnyIn (wf ro) 0 P .any ops Q f listed a w
 | 0, _, _, _, _, _, _, _, _, hf, cq, hL, h => ⟨h.1, hF _ _ _ _ _ _ _ h.2 hf cq hL⟩
 | f + 1, listed, M, L, w, H, env, O, a, hf, cq, hL, h => by
   refine ⟨fun h0 => hF _ _ _ _ _ _ _ (h.1 h0) hf cq hL, fun i hi => ?_⟩
   have hq := h.2 i hi
   unfold wpOpIn
   cases ho : ops[i]? with
   | none =>
     obtain ⟨_, o, PU, _⟩ := mem_ready.1 hi
     rw [ho] at PU; cases PU
   | some o =>
     obtain ⟨g, hg, fM, Ao⟩ := (mY _ _ _ _ hc).2 i o (by simpa using ho)
     unfold qA at hq
     rw [Ao] at hq
     have hs := xl (ro := ro) (ops := ops) hg fM hp hf hq Q
     have hrest : ∀ a' w', mD A n M L w (uy ⟨P, lo⟩ ops il K f (listed.setIfInBounds i true)) a' w' → wpAnyIn (wf ro) 0 P .any ops Q f (listed.setIfInBounds i true) a' w' := by
      rintro a' w' ⟨M', L', H', aC, O', k1, k2, k3, k4⟩
      exact sC hp hc hF f _ k2 (cq.trans k3) (hL.trans k4) k1
     simp only
     split
     ·rename_i hw
      rw [if_pos hw] at hs
      exact Oper.wpIn_mono hrest hs
     ·rename_i hw
      rw [if_neg hw] at hs
      exact ⟨fun _ _ => trivial, hrest _ _ hs⟩
theorem Gc (L0 : List Nat) (hp : ∀ l, lo = some l → ∀ id, l ≤ id → A.top id = none) : xm P ro lo A n L0 := by
 intro id ops il p live an M L w H env O a M0 w0 Q hm hB hc h hf cq hL
 simp only [mf] at h
 have hK : Inv (fun (aC : Env) (H' : List aa) => ∃ e, get e = get aC ∧ Q .normal (eh live e) H') := fun e1 e2 H he ⟨e, h1, h2⟩ => ⟨e, h1.trans he, h2⟩
 have cW : il.length = ops.size := by simpa using (mY _ _ _ _ hc).1
 have hB := Ik cW p _ _ _ _ (F4 _) (by simp) hB
 have iz : closed ops (Array.replicate ops.size false) := by
  intro k o _ hk
  simp only [Array.getD_eq_getD_getElem?, Array.getElem?_replicate] at hk
  split at hk <;> cases hk
 have hd : tu ⟨P, lo⟩ (inst il p) env H (fun (aC : Env) (H' : List aa) => ∃ e, get e = get aC ∧ Q .normal (eh live e) H') := by
  have mono : ∀ (t : DT) (env : Env) (H : List aa) (K1 K2 : Env → List aa → Prop), (∀ e H, K1 e H → K2 e H) → Inv K2 → tu ⟨P, lo⟩ t env H K1 → tu ⟨P, lo⟩ t env H K2 := by
   intro t
   induction t with
   | done => intro env H K1 K2 hk _ h; exact hk _ _ h
   | nil => intro _ _ _ _ _ _ _; trivial
   | take st o r ih =>
     intro env H K1 K2 hk hi h
     simp only [tu, sr] at h ⊢
     cases hg : o.g with
     | none =>
       simp only [hg] at h ⊢
       obtain ⟨x, hx, h⟩ := h
       exact ⟨x, hx, ih _ _ _ _ hk hi h⟩
     | some gw =>
       obtain ⟨g, want⟩ := gw
       simp only [hg, gP] at h ⊢
       split at h
       rotate_left
       ·exact ih _ _ _ _ hk hi h
       ·exact h.elim
       exact ⟨fun e => let ⟨x, hx, h⟩ := h.1 e; ⟨x, hx, ih _ _ _ _ hk hi h⟩, fun e => ih _ _ _ _ hk hi (h.2 e)⟩
   | br o t rest Il HB =>
     intro env H K1 K2 hk hi h
     have hinv : ∀ K : Env → List aa → Prop, Inv K → ∀ t, Inv fun env H => tu ⟨P, lo⟩ t env H K := by
      intro K hK t
      induction t with
      | done => exact hK
      | nil => intro _ _ _ _ _; trivial
      | take st o r ih =>
        intro e1 e2 H he h
        simp only [tu, sr] at h ⊢
        have hav : al e2 = al e1 := by
         funext i
         cases i with
         | c v => rfl
         | t s => show get e2 s = get e1 s; rw [he]
        have mO : ∀ x, get (put o.dst x e1) = get (put o.dst x e2) := fun x => by rw [jO, jO, he]
        cases hg : o.g with
        | none =>
          simp only [hg] at h ⊢
          obtain ⟨x, hx, h⟩ := h
          exact ⟨x, by rw [hav]; exact hx, ih _ _ _ (mO x) h⟩
        | some gw =>
          obtain ⟨g, want⟩ := gw
          simp only [hg, gP] at h ⊢
          rw [← he]
          split at h
          rotate_left
          ·exact ih _ _ _ (mO _) h
          ·exact h.elim
          exact ⟨fun e => let ⟨x, hx, h⟩ := h.1 e; ⟨x, by rw [hav]; exact hx, ih _ _ _ (mO x) h⟩, fun e => ih _ _ _ (mO _) (h.2 e)⟩
      | br o t rest Il HB =>
        intro e1 e2 H he h
        exact ⟨nO (fun s _ => by rw [he]) h.1 fun a b H' ⟨mods, _, g1, g2⟩ _ _ hk => Il _ _ _ (by rw [g1, g2, cI he]) hk, HB _ _ _ he h.2⟩
     exact ⟨pP h.1 fun e1 e2 H' he HD => hinv K2 hi t _ _ _ he (Il _ _ _ _ hk hi HD), HB _ _ _ _ hk hi h.2⟩
  exact mono _ _ _ _ _ (fun e H hq => ⟨e, rfl, hq⟩) hK h
 have hA := (Lw (P := ⟨P, lo⟩) hK cW p ops.size (Array.replicate ops.size false) (env := env) (H := H) iz).1 hB hd
 refine wpIn_region_any hm (sC (M0 := M0) (w0 := w0) (L0 := L0) hp hc ?_ ops.size _ (M := M) (L := L) (H := H) (env := env) (O := O) ⟨hf.st.drew, hf.size, hf.defers.ext (Ext.drew (M := M))⟩ (cq.trans Ext.drew) hL hA)
 rintro M' L' w' H' aC O' a' ⟨e, he, hq⟩ h2 h3 h4
 obtain ⟨O'', h5⟩ := (h2.Dg he).weaken (xk live e)
 exact ⟨A, M', L', H', _, O'', .refl A, hq, h5, h3, h4⟩
theorem Dn {L0 : List Nat} {an : Au} {lv : l7} {pl : l8} (c : Code) (ir : IR) (hc : comp P an lv pl n c = some ir) {M : Mem} {L : List Nat} {w : World} {H : List aa} {env : Env} {O : Pos → Option Nat} {a : Act} {Q : Exit → Env → List aa → Prop}
 (hA : fz lo L0.length A) (wa : Own ro w) (h : mf ⟨P, lo⟩ L0.length ir env H Q) (hf : Fr A n M L w H env O a) (hL : L0 <+: L) : c.wpIn (wf ro) 0 P (Df A n M L0 w Q) a w :=
 sound (fun A hA => Gc L0 hA.opens) c ir hc hA wa h hf hL
end
end Go.aK
end
section
namespace Go.aK
open Go
inductive RX where
 | t (s : Nat)
 | c (s : Nat) (sz : Option Nat)
 deriving Inhabited
def Im (P : Program) : ResultVar → Option RX
 | .tmp t => some (.t t)
 | .cell a t => (HA P t).map (.c a)
def gR (P : Program) : List ResultVar → Option (List RX)
 | [] => some []
 | r :: rs => match Im P r, gR P rs with
   | some x, some xs => some (x :: xs)
   | _, _ => none
def rf : List RX → Env → List aa → (List AV → Prop) → Prop
 | [], _, _, φ => φ []
 | .t s :: r, env, H, φ => rf r env H fun xs => φ (get env s :: xs)
 | .c s sz :: r, env, H, φ => aR sz (get env s) H fun x => rf r env H fun xs => φ (x :: xs)
def bT (n0 : Nat) (rs : List RX) (env : Env) (H : List aa) (R : AV → List aa → Prop) : Prop :=
 rf rs env H fun xs => ∃ m, n0 ≤ m ∧ match xs with
  | [x] => ∃ r, x.le r ∧ r.aY m = true ∧ R r (H.take m)
  | xs => ∃ ys, xh (xs.map AV.ab) ys ∧ aj m ys = true ∧ R (.tuple ys) (H.take m)
def kE (C : List aa → Nat → List aa → Prop) (n0 : Nat) (rs : List RX) (env : Env) (H : List aa) (R : AV → List aa → Prop) : Prop :=
 rf rs env H fun xs => ∃ m H', n0 ≤ m ∧ C H m H' ∧ match xs with
  | [x] => ∃ r, x.le r ∧ r.aY m = true ∧ R r H'
  | xs => ∃ ys, xh (xs.map AV.ab) ys ∧ aj m ys = true ∧ R (.tuple ys) H'
theorem rh : ∀ {rs : List RX} {env : Env} {H : List aa} {φ ψ : List AV → Prop}, (∀ xs, φ xs → ψ xs) → rf rs env H φ → rf rs env H ψ
 | [], env, H, φ, ψ, hm, h => hm _ h
 | .t s :: r, env, H, φ, ψ, hm, h => rh (rs := r) (fun xs hx => hm _ hx) h
 | .c s sz :: r, env, H, φ, ψ, hm, h => jq (fun x hx => rh (rs := r) (fun xs hx => hm _ hx) hx) h
theorem PV {n0 : Nat} {rs : List RX} {env : Env} {H : List aa} {R : AV → List aa → Prop} (h : bT n0 rs env H R) : kE (fun H m H' => H' = H.take m) n0 rs env H R :=
 rh (fun xs ⟨m, h1, h2⟩ => ⟨m, H.take m, h1, rfl, h2⟩) h
def bU : Nat → List AV → Env
 | _, [] => []
 | k, x :: xs => (k, x) :: bU (k + 1) xs
theorem lD : ∀ (xs : List AV) (k t : Nat), get (bU k xs) t = if k ≤ t then xs.getD (t - k) .any else .any
 | [], k, t => by simp [bU, get]
 | x :: xs, k, t => by
   simp only [bU, get]
   split
   ·rename_i e; subst e; simp
   ·rename_i e
    rw [lD xs (k + 1) t]
    by_cases h : k + 1 ≤ t
    ·have : t - k = (t - (k + 1)) + 1 := by omega
     rw [if_pos h, if_pos (by omega), this]; simp
    ·rw [if_neg h, if_neg (by omega)]
section
variable {P : Program} {A : Perm} {n : Nat} {M : Mem} {L : List Nat} {w : World} {H : List aa} {env : Env} {O : Pos → Option Nat} {a : Act}
def yY (tmps : Array Value) : ResultVar → Sem Value := fun
 | .tmp t => pure (tmps.getD t undef)
 | .cell a t => do loadVar t (← asAddr (tmps.getD a undef))
theorem A8 {fn : Func} {tmps : Array Value} {vs : List Value} (h : (fn.results.toList.mapM (yY tmps)).run P w = .ok vs w) :
 (results fn tmps).run P w = .ok (if h : vs.toArray.size = 1 then vs.toArray[0] else .tuple vs.toArray) w := by
 have e : (results fn tmps) = (do
  let vs ← fn.results.mapM (yY tmps)
  pure (if h : vs.size = 1 then vs[0] else .tuple vs)) := rfl
 rw [e, Array.mapM_eq_mapM_toList]
 simp only [Sem.run_bind, Sem.run_map, h]
 rfl
theorem yZ (hf : Fr A n M L w H env O a) : ∀ (rs : List ResultVar) (is : List RX), gR P rs = some is → ∀ {φ : List AV → Prop}, rf is env H φ →
 ∃ vs xs, (rs.mapM (yY a.tmps)).run P w = .ok vs w ∧ φ xs ∧ aJ M L vs xs ∧ (∀ s, is = [.t s] → xs = [get env s] ∧ vs = [a.tmps.getD s undef]) ∧ (∀ s sz, is = [.c s sz] → ∀ x, xs = [x] → ∀ own ys, x = .ap own ys → own = 0)
 | [], is, hc, φ, h => by
   simp only [gR] at hc; cases hc
   exact ⟨[], [], by simp, h, .nil, (by intro s e; cases e), (by intro s sz e; cases e)⟩
 | r :: rs, is, hc, φ, h => by
   unfold gR at hc
   split at hc <;> cases hc
   rename_i x xs hx fp
   cases r with
   | tmp t =>
     simp only [Im] at hx; cases hx
     simp only [rf] at h
     obtain ⟨vs, ys, h1, h2, h3, _⟩ := yZ hf rs xs fp h
     refine ⟨a.tmps.getD t undef :: vs, get env t :: ys, ?_, h2, .cons _ _ _ _ (hf.st.env t) h3, ?_, ?_⟩
     ·simp only [List.mapM_cons, Sem.run_bind, yY, Sem.run_pure, Result.andThen_ok, h1]
     ·intro s e
      cases e
      cases rs with
      | nil =>
        cases h3 with
        | nil => exact ⟨rfl, rfl⟩
        | cons v x vs xs hh tt =>
          simp at h1
      | cons r rs =>
        unfold gR at fp
        split at fp <;> cases fp
     ·intro s sz e; cases e
   | cell p t =>
     simp only [Im, Option.map_eq_some_iff] at hx
     obtain ⟨sz, cW, rfl⟩ := hx
     simp only [rf] at h
     obtain ⟨r, z, k1, k2, k3, k4⟩ := qR (P := P) cW hf.st h (hf.st.env p)
     obtain ⟨vs, ys, h1, h2, h3, _⟩ := yZ hf rs xs fp k3
     refine ⟨r :: vs, z :: ys, ?_, h2, .cons _ _ _ _ k2 h3, ?_, ?_⟩
     ·have hl : (do loadVar t (← asAddr (a.tmps.getD p undef)) : Sem Value).run P w = .ok r w := by
       have fj := hf.st.env p
       revert k1 fj
       generalize a.tmps.getD p undef = u
       intro k1 fj
       unfold aR at h
       split at h
       ·rename_i id off e
        rw [e] at fj
        cases fj
        exact k1
       ·rename_i y e
        rw [e] at fj
        cases fj
        exact k1
       ·exact h.elim
      have Ym : (List.mapM (yY a.tmps) rs).run P w = .ok vs w := h1
      simp only [List.mapM_cons, Sem.run_bind, yY] at hl ⊢
      rw [hl]
      simp only [Result.andThen_ok, Ym]
      rfl
     ·intro s e; cases e
     ·intro s sz e x hx
      cases hx
      exact k4
theorem St.aZ {ev : Nat → Value} {ea : Nat → AV} (h : St A M L w H ev ea O) {v : Value} {x : AV} (hr : aQ M L v x) (ob : Option Nat) (hs : bb M w v x ob)
 (h1 : ∀ id j b, ob = some b → O (.c id j) ≠ some b) (h2 : ∀ b, ob = some b → b ∉ L ∧ b < w.heap.size ∧ A b) :
 ∃ O', St A M L w H (fa (fun _ => undef) 0 v) (fa (fun _ => .any) 0 x) O' := by
 have k1 := h.pK (fun _ => undef) (fun _ => .any) (fun _ => .any _) (fun _ _ _ e => by cases e)
 exact ⟨_, k1.put 0 hr ob hs (fun p b hob hp => by
  cases p with
  | t t => cases hp
  | c id j => exact absurd hp (h1 id j b hob)) h2⟩
theorem EP {x : AV} {m : Nat} (hb : x.aY m = true) (t : Nat) : (fa (fun _ => AV.any) 0 x t).aY m = true := by
 simp only [fa]
 split
 ·exact hb
 ·rfl
theorem St.PW {ev : Nat → Value} {ea : Nat → AV} (h : St A M L w H ev ea O) (A2 : Perm) (Yn : A2.wr = A.wr) (n : Nat) {H' : List aa} (hlen : H'.length = min n H.length)
 (hc : ∀ (id : Nat) (o : aa), H'[id]? = some o → o = .dead ∨ (H[id]? = some o ∧ o.aY (A2.iY H'.length id) = true)) (hb : ∀ t, (ea t).aY n = true) : ∃ O', St A2 M (L.take n) w H' ev ea O' := by
 let O' : Pos → Option Nat := fun p => match p with | .t t => O (.t t) | .c id j => match H'[id]? with | some .dead => none | some _ => O (.c id j) | none => none
 have hO : ∀ p b, O' p = some b → O p = some b := by
  intro p b hp
  cases p with
  | t t => exact hp
  | c id j =>
    simp only [O'] at hp
    split at hp <;> first | exact hp | cases hp
 have jf : ∀ {α : Type} {l : List α} {i : Nat} {a : α}, (l.take n)[i]? = some a → i < n ∧ l[i]? = some a := by
  intro α l i a hi
  rw [List.getElem?_take] at hi
  split at hi
  ·exact ⟨by assumption, hi⟩
  ·cases hi
 have iB : ∀ b, b ∈ L.take n → b ∈ L := fun b hb => List.mem_of_mem_take hb
 refine ⟨O', { len := by simp [h.len, hlen], nodup := (List.take_sublist n L).nodup h.nodup, env := fun t => (h.env t).fP (hb t), mem := h.mem, obj := ?_, bB := ?_, lt := fun b hb => h.lt b (iB b hb), gF := h.gF, gC := ?_, bX := fun p q b hp hq => h.bX p q b (hO p b hp) (hO q b hq), cb := fun p b hp hm => h.cb p b (hO p b hp) (iB b hm), eR := fun p b hp => h.eR p b (hO p b hp), La := fun b hb => by rw [Yn]; exact h.La b (iB b hb), Oa := fun p b hp => by rw [Yn]; exact h.Oa p b (hO p b hp), fresh := fun b hb => by rw [Yn]; exact h.fresh b hb }⟩
 ·intro id o b ho dR
  obtain ⟨hn, dR⟩ := jf dR
  rcases hc id o ho with rfl | ⟨h1, h2⟩
  ·trivial
  ·refine (h.obj id o b h1 dR).fP (aa.cD ?_ o h2)
   have := A2.tS H'.length id
   omega
 ·intro id o ho
  rcases hc id o ho with rfl | ⟨h1, h2⟩
  ·rfl
  ·exact h2
 ·intro id j
  have dead : ∀ x : Option aa, H'[id]? = x → (x = none ∨ x = some .dead) → bb M w (bJ (L.take n) w id j) (bo H' id j) (O' (.c id j)) := by
   intro x hx Oh
   have e2 : bo H' id j = .any := by
    unfold bo
    rw [hx]
    rcases Oh with rfl | rfl <;> rfl
   have e3 : O' (.c id j) = none := by
    simp only [O', hx]
    rcases Oh with rfl | rfl <;> rfl
   rw [e2, e3]
   rfl
  cases hx : H'[id]? with
  | none => exact dead none hx (.inl rfl)
  | some o =>
    by_cases ed : o = .dead
    ·subst ed; exact dead _ hx (.inr rfl)
    ·rcases hc id o hx with h' | ⟨h1, h2⟩
     ·exact absurd h' ed
     have hl := aM hx
     have e1 : bJ (L.take n) w id j = bJ L w id j := by
      unfold bJ
      rw [List.getElem?_take, if_pos (by omega)]
     have e2 : bo H' id j = bo H id j := by
      unfold bo
      rw [hx, h1]
     have e3 : O' (.c id j) = O (.c id j) := by
      simp only [O', hx]
     rw [e1, e2, e3]
     exact h.gC id j
theorem EQ : ∀ {vs : List Value} {xs ys : List AV}, aJ M L vs xs → xh (xs.map AV.ab) ys → aJ M L vs ys
 | _, _, [], .nil, h => .nil
 | _, _, y :: ys, .nil, h => by simp [xh] at h
 | _, _, [], .cons _ _ _ _ _ _, h => by simp [xh] at h
 | _, _, y :: ys, .cons _ _ _ _ h1 h2, h => by
   simp only [List.map_cons, xh] at h
   exact .cons _ _ _ _ (h1.ab.le h.1) (EQ h2 h.2)
def Marks (A : Perm) (w w2 : World) : Prop := w2.heap.size = w.heap.size ∧ w2.os = w.os ∧ w2.tape = w.tape ∧ w2.output = w.output ∧
 ∀ b, w2.heap[b]? = w.heap[b]? ∨ (A.base ≤ b ∧ ¬ A b ∧ (∃ x, w.heap[b]? = some (.deferred x)) ∧ ∃ x, w2.heap[b]? = some (.deferred x))
theorem Marks.refl (A : Perm) (w : World) : Marks A w w := ⟨rfl, rfl, rfl, rfl, fun b => .inl rfl⟩
theorem Marks.trans {A : Perm} {w w1 w2 : World} (h : Marks A w w1) (k : Marks A w1 w2) : Marks A w w2 := by
 refine ⟨k.1.trans h.1, k.2.1.trans h.2.1, k.2.2.1.trans h.2.2.1, k.2.2.2.1.trans h.2.2.2.1, fun b => ?_⟩
 rcases h.2.2.2.2 b with h1 | ⟨h1, h2, h3, x, h4⟩ <;> rcases k.2.2.2.2 b with k1 | ⟨k1, k2, ⟨y, k3⟩, k4⟩
 ·exact .inl (k1.trans h1)
 ·exact .inr ⟨k1, k2, ⟨y, by rw [← h1]; exact k3⟩, k4⟩
 ·exact .inr ⟨h1, h2, h3, x, by rw [k1]; exact h4⟩
 ·exact .inr ⟨h1, h2, h3, k4⟩
theorem pR {A : Perm} {F : Fence} {m : Nat} {fn : Func} {tmps : Array Value} {R : Ending → World → Prop} : ∀ (ds : List Deferred) {w : World}, N8 A w ds → (∀ w2, Marks A w w2 → LeavesIn F m P fn tmps R [] .returning w2) → LeavesInM F m P fn tmps R ds .returning w
 | [], w, _, h => h w (.refl A w)
 | d :: ds, w, hd, h => by
   obtain ⟨D, rfl, h2, h3, h4⟩ := hd.2.2 _ List.mem_cons_self
   have hm : Marks A w (w.putObj D (.deferred none)) := ⟨World.putObj_size, rfl, rfl, rfl, fun b => by
    by_cases e : b = D
    ·subst e
     exact .inr ⟨h4, h3, ⟨_, h2⟩, _, World.putObj_heap_same (Array.getElem?_eq_some_iff.1 h2).1⟩
    ·exact .inl (World.putObj_heap_other e)⟩
   refine ⟨by simp, .inl ⟨D, _, rfl, run_takeDeferred h2, pR ds ⟨by rw [World.putObj_size]; exact hd.1, (List.nodup_cons.1 hd.2.1).2, fun d' Xp => ?_⟩ fun w2 hm2 => h w2 (hm.trans hm2)⟩⟩
   obtain ⟨D', e', k2, k3⟩ := hd.2.2 d' (List.mem_cons_of_mem _ Xp)
   refine ⟨D', e', ?_, k3⟩
   rw [World.putObj_heap_other]
   ·exact k2
   ·rintro rfl
    exact (List.nodup_cons.1 hd.2.1).1 (e' ▸ Xp)
theorem St.marks {ev : Nat → Value} {ea : Nat → AV} (h : St A M L w H ev ea O) {w2 : World} (hm : Marks A w w2) : St A M L w2 H ev ea O := by
 obtain ⟨h1, _, _, _, h5⟩ := hm
 have same : ∀ b, A b → w2.heap[b]? = w.heap[b]? := fun b hb => by
  rcases h5 b with h | ⟨_, h, _⟩
  ·exact h
  ·exact absurd hb h
 exact { len := h.len, nodup := h.nodup, env := h.env, bB := h.bB, bX := h.bX, cb := h.cb, La := h.La, Oa := h.Oa
         mem := fun b o v hv => by
          have hc := h.mem b o v hv
          rcases h5 b with e | ⟨_, _, ⟨x, e⟩, _⟩
          ·simp only [World.cell?] at hc ⊢; rw [e]; exact hc
          ·simp [World.cell?, e] at hc
         obj := fun id o b ho hb => (h.obj id o b ho hb).mono (Mem.bM M) (List.prefix_refl L) (same b (h.La b (List.mem_of_getElem? hb))) (fun _ => rfl)
         lt := fun b hb => by rw [h1]; exact h.lt b hb
         gF := fun t => (h.gF t).mono fun b hb => ⟨same b (h.Oa _ b hb), fun _ => rfl⟩
         gC := fun id j => by
          have e : bJ L w2 id j = bJ L w id j := by
           unfold bJ
           split
           ·rename_i b hb
            simp only [World.cell?]
            rw [same b (h.La b (List.mem_of_getElem? hb))]
           ·rfl
          rw [e]
          exact (h.gC id j).mono fun b hb => ⟨same b (h.Oa _ b hb), fun _ => rfl⟩
         eR := fun p b hp => by rw [h1]; exact h.eR p b hp
         fresh := fun b hb => h.fresh b (by rw [← h1]; exact hb) }
theorem Ext.marks {A A' : Perm} {M M' : Mem} {w w' w2 : World} (h : Ext A M w M' w') (hm : Marks A' w' w2) (hb : w.heap.size ≤ A'.base) : Ext A M w M' w2 := by
 obtain ⟨h1, h2, h3, h4, h5⟩ := hm
 refine ⟨h.kv, by rw [h1]; exact h.size, h2.trans h.os, h3.trans h.tape, h4.trans h.output, fun b a8 hA => ?_, fun b r hr => ?_⟩
 ·obtain ⟨k1, k2⟩ := h.jV b a8 hA
  refine ⟨?_, k2⟩
  rcases h5 b with e | ⟨e, _⟩
  ·exact e.trans k1
  ·omega
 ·obtain ⟨r', k1, k2⟩ := h.loops b r hr
  rcases h5 b with e | ⟨_, _, ⟨x, e⟩, _⟩
  ·exact ⟨r', e.trans k1, k2⟩
  ·rw [k1] at e; cases e
theorem uA {lo : Option Nat} {b : Bool} (A1 : Perm → Perm) (C : List aa → Nat → List aa → Prop) {f : FuncId} {fn : Func} {c : Code} {an : Au} {lv : l7} {pl : l8} {ir : IR} {rs : List RX} {args : List AV} {R : AV → List aa → Prop}
 (hf : P.funcs[f]? = some fn) (hcall : ∀ (as : Array Value) (w : World), (callFunc f as).run P w = .ok (.enter f as) w) (hb : fn.body = some c) (hc : comp P an lv pl fn.ntmps c = some ir) (wz : gR P fn.results.toList = some rs)
 (h1 : ∀ A : Perm, A.entry b H.length → fz lo H.length (A1 A)) (h2 : ∀ A : Perm, (A1 A).wr = A.wr) (h3 : ∀ (A : Perm) {M : Mem} {L : List Nat} {w : World} {ev : Nat → Value} {ea : Nat → AV} {O : Pos → Option Nat}, A.entry b H.length → St A M L w H ev ea O → St (A1 A) M L w H ev ea O)
 (h4 : ∀ (A : Perm) {M : Mem} {L : List Nat} {w : World} {H' : List aa} {ev : Nat → Value} {ea : Nat → AV} {O : Pos → Option Nat} {m : Nat} {H'' : List aa}, A.entry b H.length → H.length ≤ m → H.length ≤ H'.length → C H' m H'' → St (A1 A) M L w H' ev ea O → (∀ t, (ea t).aY m = true) → ∃ O', St A M (L.take m) w H'' ev ea O')
 (hn : args.length ≤ fn.ntmps) (Rt : Env → List aa → Prop) (hRt : ∀ env H', Rt env H' → kE C H.length rs env H' R) (h : mf ⟨P, lo⟩ H.length ir (bU 0 args) H fun e env H' => (e = .normal ∨ e = .ret) ∧ Rt env H') : j5 b P f args H R := by
 refine fun A M L w vs O hA hs TM => .inl ⟨hcall _ _, callsIn_wide.1 (callsIn_of_wp_marks (F := Fence.wide) (n := 0) hf hb trivial ?_ rfl)⟩
 obtain ⟨A2, Dp⟩ : ∃ A2 : Perm, A2 = { A1 A with base := w.heap.size } := ⟨_, rfl⟩
 have a2w : A2.wr = A.wr := by rw [Dp]; exact h2 A
 have st12 : ∀ {M : Mem} {L : List Nat} {w : World} {H : List aa} {ev : Nat → Value} {ea : Nat → AV} {O : Pos → Option Nat}, St (A1 A) M L w H ev ea O → St A2 M L w H ev ea O := by
  intro M L w H ev ea O h; subst Dp
  exact { len := h.len, nodup := h.nodup, env := h.env, mem := h.mem, obj := h.obj, bB := h.bB, lt := h.lt, gF := h.gF, gC := h.gC, bX := h.bX, cb := h.cb, eR := h.eR, La := h.La, Oa := h.Oa, fresh := h.fresh }
 have st21 : ∀ {M : Mem} {L : List Nat} {w : World} {H : List aa} {ev : Nat → Value} {ea : Nat → AV} {O : Pos → Option Nat}, St A2 M L w H ev ea O → St (A1 A) M L w H ev ea O := by
  intro M L w H ev ea O h; subst Dp
  exact { len := h.len, nodup := h.nodup, env := h.env, mem := h.mem, obj := h.obj, bB := h.bB, lt := h.lt, gF := h.gF, gC := h.gC, bX := h.bX, cb := h.cb, eR := h.eR, La := h.La, Oa := h.Oa, fresh := h.fresh }
 have bP := st12 (h3 A hA TM)
 have hfits : fz lo H.length A2 := by rw [Dp]; exact h1 A hA
 have KR : L.length = H.length := TM.len
 have CK : Fr A2 fn.ntmps M L w H (bU 0 args) O { tmps := vs ++ Array.replicate (fn.ntmps - vs.size) undef, defers := [] } := by
  refine ⟨bP.congr ?_ ?_, by simp; omega, ⟨by rw [Dp]; exact Nat.le_refl _, List.nodup_nil, fun d h => by cases h⟩⟩
  ·intro t
   simp only [Array.getD_eq_getD_getElem?]
   by_cases ht : t < vs.size
   ·rw [Array.getElem?_append_left ht]
   ·rw [Array.getElem?_append_right (by omega), Array.getElem?_eq_none (xs := vs) (by omega), Array.getElem?_replicate]
    split <;> rfl
  ·intro t
   rw [lD]; simp
 rw [← bP.len] at h hfits
 refine Go.wpIn_mono (Dn (ro := none) (L0 := L) c ir hc hfits (fun l e => by cases e) h CK (List.prefix_refl L)) ?_
 rintro e a w1 ⟨A', M', L', H', env, O', hle, ⟨he, Ge⟩, Ly, hext1, hL⟩
 have base : A'.base = w.heap.size := by rw [hle.2.2, Dp]
 have done : (∀ w', Marks A' w1 w' → LeavesIn Fence.wide 0 P fn a.tmps (fun e w' => ∃ v r H' M' L' O', e = .returned v ∧ R r H' ∧ St A M' L' w' H' (fa (fun _ => undef) 0 v) (fa (fun _ => .any) 0 r) O' ∧ Ext A M w M' w' ∧ L <+: L') [] .returning w') →
  bodyPostM Fence.wide 0 P fn (fun e w' => ∃ v r H' M' L' O', e = .returned v ∧ R r H' ∧ St A M' L' w' H' (fa (fun _ => undef) 0 v) (fa (fun _ => .any) 0 r) O' ∧ Ext A M w M' w' ∧ L <+: L') e a w1 := by
  intro hd
  rcases he with rfl | rfl <;> exact pR _ Ly.defers hd
 refine done fun w' hm => ?_
 have y0 : Fr A2 fn.ntmps M' L' w' H' env O' { a with defers := [] } :=
  ⟨(Ly.st.marks hm).le hle, Ly.size, ⟨by rw [hm.1, ← hle.2.2]; exact Ly.defers.1, List.nodup_nil, fun d h => by cases h⟩⟩
 have cq : Ext A M w M' w' := by
  have := hext1.marks hm (Nat.le_of_eq base.symm)
  exact ⟨this.kv, this.size, this.os, this.tape, this.output, fun b hb hA => this.jV b hb (by rw [a2w]; exact hA), this.loops⟩
 have hlen2 : H.length ≤ H'.length := by have := hL.length_le; rw [KR, y0.st.len] at this; exact this
 have goal : ∃ v, (results fn a.tmps).run P w' = .ok v w' ∧ ∃ v' r H'' M'' L'' O'', Ending.returned v = .returned v' ∧ R r H'' ∧ St A M'' L'' w' H'' (fa (fun _ => undef) 0 v') (fa (fun _ => .any) 0 r) O'' ∧ Ext A M w M'' w' ∧ L <+: L'' := by
  replace Ge := hRt _ _ Ge
  unfold kE at Ge
  obtain ⟨us, xs, k1, ⟨m, H2, hm, hC, k2⟩, k3, k4, k5⟩ := yZ (P := P) y0 _ _ wz Ge
  have k7 : L <+: L'.take m := by
   obtain ⟨r, rfl⟩ := hL
   exact ⟨r.take (m - L.length), by rw [List.take_append, List.take_of_length_le (show L.length ≤ m by omega)]⟩
  have bG := A8 k1
  split at k2
  ·rename_i x
   obtain ⟨r, hle, hb, hR⟩ := k2
   cases k3 with
   | cons v _ _ _ hv ht =>
   cases ht
   refine ⟨v, by simpa using bG, v, r, H2, M', L'.take m, ?_⟩
   have sY : ∃ ob, bb M' w' v x ob ∧ (∀ id j b, ob = some b → O' (.c id j) ≠ some b) ∧ (∀ b, ob = some b → b ∉ L' ∧ b < w'.heap.size ∧ A2 b) := by
    match rs, wz, k4, k5 with
    | [], wz, _, _ =>
      unfold gR at wz
      split at wz
      ·rename_i e
       rw [e] at k1
       simp at k1
      ·split at wz <;> cases wz
    | [.t s], _, k4, _ =>
      obtain ⟨e1, e2⟩ := k4 s rfl
      cases e1; cases e2
      refine ⟨O' (.t s), y0.st.gF s, fun id j b hb hc => ?_, fun b hb => ⟨y0.st.cb _ b hb, y0.st.eR _ b hb, y0.st.Oa _ b hb⟩⟩
      exact absurd (y0.st.bX _ _ b hb hc) (by intro e; cases e)
    | [.c s sz], _, _, k5 =>
      exact ⟨none, bb.free (k5 s sz rfl x rfl), (fun _ _ _ e => by cases e), (fun _ e => by cases e)⟩
    | r1 :: r2 :: rs, wz, _, _ =>
      unfold gR at wz
      split at wz
      ·cases wz
      ·split at wz <;> cases wz
       rename_i h1 h2
       unfold gR at h2
       split at h2
       ·cases h2
       ·rename_i e
        rw [e] at k1
        simp only [List.mapM_cons, Sem.run_bind] at k1
        revert k1
        generalize HE : (yY a.tmps _).run P w' = g1
        cases g1 <;> simp
        generalize hg2 : (yY a.tmps _).run P _ = g2
        cases g2 <;> simp
        generalize hg3 : (List.mapM (yY a.tmps) _).run P _ = g3
        cases g3 <;> simp
   obtain ⟨ob, o1, o2, o3⟩ := sY
   obtain ⟨ob', p1, p2⟩ := o1.le hv hle
   obtain ⟨O'', lj⟩ := y0.st.aZ (hv.le hle) ob' p1 (fun id j b hb => by
    rcases p2 with rfl | rfl
    ·cases hb
    ·exact o2 id j b hb) (fun b hb => by
    rcases p2 with rfl | rfl
    ·cases hb
    ·exact o3 b hb)
   obtain ⟨O3, Io⟩ := h4 A hA (by omega) hlen2 hC (st21 lj) (EP hb)
   exact ⟨O3, rfl, hR, Io, cq, k7⟩
  ·rename_i eo
   obtain ⟨ys, hle, hb, hR⟩ := k2
   have hlen : us.toArray.size ≠ 1 := by
    have := k3.length
    intro e
    simp at e
    rw [e] at this
    match xs, this with
    | [x], _ => exact eo x rfl
   rw [dif_neg hlen] at bG
   refine ⟨.tuple us.toArray, bG, .tuple us.toArray, .tuple ys, H2, M', L'.take m, ?_⟩
   obtain ⟨O'', lj⟩ := y0.st.aZ (.tuple _ _ (EQ k3 hle)) none (bb.free (by intro _ _ e; cases e)) (fun _ _ _ e => by cases e) (fun _ e => by cases e)
   obtain ⟨O3, Io⟩ := h4 A hA (by omega) hlen2 hC (st21 lj) (EP (x := .tuple ys) hb)
   exact ⟨O3, rfl, hR, Io, cq, k7⟩
 exact goal
theorem oX {A : Perm} {k : Nat} (h : A.entry false k) : fz none k A := ⟨h.1, fun id bm => by rw [h.2 id bm]; rfl⟩
theorem Gf {f : FuncId} {fn : Func} {c : Code} {an : Au} {lv : l7} {pl : l8} {ir : IR} {rs : List RX} {args : List AV} {R : AV → List aa → Prop}
 (hf : P.funcs[f]? = some fn) (hcall : ∀ (as : Array Value) (w : World), (callFunc f as).run P w = .ok (.enter f as) w) (hb : fn.body = some c) (hc : comp P an lv pl fn.ntmps c = some ir) (wz : gR P fn.results.toList = some rs)
 (hn : args.length ≤ fn.ntmps) (h : mf P H.length ir (bU 0 args) H fun e env H' => (e = .normal ∨ e = .ret) ∧ bT H.length rs env H' R) : aq P f args H R := by
 refine uA (lo := none) (b := false) (fun A => A) (fun H m H' => H' = H.take m) hf hcall hb hc wz (fun A => oX) (fun A => rfl) (fun A _ _ _ _ _ _ _ h => h) ?_ hn (fun env H' => bT H.length rs env H' R) (fun env H' => PV) h
 intro A M L w H' ev ea O m H'' hA hm hl e bP Lf
 subst e
 exact bP.cut m (fun id o => (oX hA).closed hm bP id o) Lf
def mZ (k : Nat) (A : Perm) : Perm where
 wr := A.wr
 top := fun id => if id < k then A.top id else none
 ok := fun id n h => by
  split at h
  ·exact A.ok id n h
  ·cases h
theorem A9 {A : Perm} {k : Nat} {b : Bool} (h : A.entry b k) : fz (some k) k (mZ k A) :=
 ⟨fun id bm => by obtain ⟨m, h1, h2⟩ := h.1 id bm; exact ⟨m, h1, by simp only [mZ, if_pos bm]; exact h2⟩, rfl, fun id bm => by simp only [mZ]; rw [if_neg (by omega)]⟩
def mg (n0 : Nat) (H : List aa) (m : Nat) (H' : List aa) : Prop :=
 H'.length = min m H.length ∧ ∀ (id : Nat) (o : aa), H'[id]? = some o → o = .dead ∨ (H[id]? = some o ∧ (n0 ≤ id → o.aY (id + 1) = true))
theorem Dq {f : FuncId} {fn : Func} {c : Code} {an : Au} {lv : l7} {pl : l8} {ir : IR} {rs : List RX} {args : List AV} {R : AV → List aa → Prop}
 (hf : P.funcs[f]? = some fn) (hcall : ∀ (as : Array Value) (w : World), (callFunc f as).run P w = .ok (.enter f as) w) (hb : fn.body = some c) (hc : comp P an lv pl fn.ntmps c = some ir) (wz : gR P fn.results.toList = some rs)
 (hn : args.length ≤ fn.ntmps) (h : mf ⟨P, some H.length⟩ H.length ir (bU 0 args) H fun e env H' => (e = .normal ∨ e = .ret) ∧ kE (mg H.length) H.length rs env H' R) : aq P f args H R := by
 refine uA (lo := some H.length) (b := false) (mZ H.length) (mg H.length) hf hcall hb hc wz (fun A hA => A9 hA) (fun A => rfl) (fun A M L w ev ea O hA bP => ?_) ?_ hn (fun env H' => kE (mg H.length) H.length rs env H' R) (fun env H' h => h) h
 ·exact { len := bP.len, nodup := bP.nodup, env := bP.env, mem := bP.mem, obj := bP.obj, lt := bP.lt, gF := bP.gF, gC := bP.gC, bX := bP.bX, cb := bP.cb, eR := bP.eR, La := bP.La, Oa := bP.Oa, fresh := bP.fresh
          bB := fun id o ho => by
           have := bP.bB id o ho
           have e : (mZ H.length A).iY H.length id = A.iY H.length id := by unfold Perm.iY; simp only [mZ, if_pos (aM ho)]
           rw [e]; exact this }
 ·intro A M L w H' ev ea O m H'' hA hm hl hC bP Lf
  obtain ⟨hlen, hC⟩ := hC
  refine bP.PW A rfl m hlen (fun id o ho => ?_) Lf
  rcases hC id o ho with h' | ⟨h1, h2⟩
  ·exact .inl h'
  ·refine .inr ⟨h1, ?_⟩
   by_cases bm : id < H.length
   ·obtain ⟨k, hk, ek⟩ := hA.1 id bm
    have := bP.bB id o h1
    have e1 : (mZ H.length A).iY H'.length id = min k H'.length := by unfold Perm.iY; simp only [mZ, if_pos bm, ek]
    have e2 : A.iY H''.length id = min k H''.length := by unfold Perm.iY; simp only [ek]
    rw [e1] at this
    rw [e2]
    exact aa.cD (by omega) o this
   ·have e2 : A.iY H''.length id = min (id + 1) H''.length := by unfold Perm.iY; rw [hA.2 id (by omega)]; rfl
    have := aM ho
    rw [e2]
    exact aa.cD (by omega) o (h2 (by omega))
end
end Go.aK
end
